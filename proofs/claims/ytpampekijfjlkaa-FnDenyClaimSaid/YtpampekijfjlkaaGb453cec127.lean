/- Joined by a program of this session's: X113. -/
import Derived.Test.YtpampekijfjlkaaGaa62ad0194
import Derived.Test.YtpampekijfjlkaaG066d820f08

namespace Go.Proofs.Ytpampekijfjlkaa.X
open Go.RowKit Go.Proofs.YtpampekijfjlkaaW.PrintWords Go.Proofs.YtpampekijfjlkaaW.PrintLast Go.Proofs.YtpampekijfjlkaaW.PrintMore
open Go.Proofs.YtpampekijfjlkaaW.PrintWords renaming Aside0.mk → mA, pw_below_drewN → bN, below_drew1 → bD, below_alloc → bA, below_set → bS, blk_alloc → kA, blk_drewN → kN, blk_drew → kD, blk_cell → kC, blk_frozen → kF, below_size → bZ, below_step → bT, Kd.R_alloc → rA, Kd.R_drewN → rN, Kd.R_drew → rD, Kd.R_mono → rM, Kd.R_reads' → rR, Kd.R_far → rF, Kd.R_lt → rL, Kd.R_below → rB, Kd.C_alloc → cA, Kd.C_drewN → cN, Kd.C_drew → cD
open List renaming setIfInBounds_toArray → sA, set_cons_zero → sZ, set_cons_succ → sS, length_take → lT, length_drop → lD, map_toArray → mT, map_cons → mC, map_nil → mN
open Bool renaming true → I, false → O
attribute [local go_sem] max2_int min2_int max_two min_two max_three min_three max_four min_four   -- for this text's walks alone
set_option linter.unusedVariables false
set_option linter.unusedSimpArgs false
/-! ### spec_DenyClaim: function 75 -/
def spec_DenyClaim.j0:Nat→Bool→Int→List (S52)→Option (Int×(List (S52))×Bool)
 | 0,_,_,_=>none
 | k+1,x26,x116000,x116001=>if x26=true then (some (0,([]:List (S52)),false)) else (some (x116000,x116001,true))
def spec_DenyClaim.f (k:Nat) (a0:Int) (a1_0:Int) (l1_1:List (S52)):Option (Int×(List (S52))×Bool):=(some (([]:List (S52)):List (S52))).bind fun y103=>(if y103.length+l1_1.length<8796093022208 then ((some (y103++l1_1:List (S52))).bind fun y106=>((some (([(⟨2,0⟩:S52)]:List (S52)):List (S52))).bind fun y109=>(if y106.length+y109.length<8796093022208 then ((some (y106++y109:List (S52))).bind fun y112=>((spec_ClaimOk.f k a0 a1_0 l1_1).bind fun t116=>(if t116=true then ((spec_ClaimOk.f k a0 a1_0 y112).bind fun t117=>(spec_DenyClaim.j0 k (!t117) a1_0 y112)) else (spec_DenyClaim.j0 k true a1_0 y112)))) else (none)))) else (none))
theorem spec_DenyClaim.mono_l : ∀ k,(∀ y0 y1 y2,LeO (spec_DenyClaim.j0 k y0 y1 y2) (spec_DenyClaim.j0 (k+1) y0 y1 y2))
 | 0=>fun _ _ _ r h=>by simp [spec_DenyClaim.j0] at h
 | k+1=>by
  have ih0:=spec_DenyClaim.mono_l k
  ·intro y0 y1 y2
   unfold spec_DenyClaim.j0
   repeat' first
   | (with_reducible exact ih0 _ _ _)
   | (with_reducible exact spec_ClaimOk.mono _ _ _ _)
   | (with_reducible exact LeO.refl _)
   | (with_reducible exact LeO.none _)
   | (with_reducible refine LeO.ite ?_ ?_)
   | (with_reducible refine LeO.bind ?_ (fun _=>?_))
   | exact ih0 _ _ _
   | exact spec_ClaimOk.mono _ _ _ _
   | exact LeO.none _
   | refine LeO.ite ?_ ?_
   | refine LeO.bind ?_ (fun _=>?_)
theorem spec_DenyClaim.mono : ∀ a0 a1 a2 k,LeO (spec_DenyClaim.f k a0 a1 a2) (spec_DenyClaim.f (k+1) a0 a1 a2):=by
 intro a0 a1 a2 k
 have ih0:=spec_DenyClaim.mono_l k
 unfold spec_DenyClaim.f
 repeat' first
   | (with_reducible exact ih0 _ _ _)
   | (with_reducible exact spec_ClaimOk.mono _ _ _ _)
   | (with_reducible exact LeO.refl _)
   | (with_reducible exact LeO.none _)
   | (with_reducible refine LeO.ite ?_ ?_)
   | (with_reducible refine LeO.bind ?_ (fun _=>?_))
   | exact ih0 _ _ _
   | exact spec_ClaimOk.mono _ _ _ _
   | exact LeO.none _
   | refine LeO.ite ?_ ?_
   | refine LeO.bind ?_ (fun _=>?_)
def spec_DenyClaim.T1:Bool×List (List Nat×List Nat):=(true,[([],[]),([0],[0]),([],[]),([],[]),([3],[3]),([2,4],[2,4]),([],[]),([6],[6]),([5,7,5],[5,7]),([1,8],[1,8]),([],[]),([10,9,8,0,1,2,3,4,5,6,7,8,9,10],[9,10])])
def spec_DenyClaim.B1:List Nat:=[0,1,0,0,8,28,0,64,252,511,0,2047]
theorem spec_DenyClaim.tab1:rtab .any (opsOf Try.f75 1)=spec_DenyClaim.T1:=by kernel_rfl
theorem spec_DenyClaim.bits1:waitsOk spec_DenyClaim.T1.2 spec_DenyClaim.B1=true:=by kernel_rfl
set_option maxHeartbeats 8000000 in
set_option maxRecDepth 100000 in
theorem spec_DenyClaim.calls (k:Nat) (a0:Int) (a1_0:Int) (A1_1:Option Addr) (c1_1:Nat) (l1_1:List (S52)) (r1:Int) (r2:List (S52)) (r3:Bool) (w:World) (hr1_1:Kd.C k52 w A1_1 l1_1.length l1_1) (hc1_1:l1_1.length≤c1_1) (h:spec_DenyClaim.f k a0 a1_0 l1_1=some (r1,r2,r3)) :
  Calls Try.prog 75 #[.int .i64 a0,.agg #[.int .i64 a1_0,.slice A1_1 l1_1.length c1_1]] w fun e w'=>∃ v1_:Value,e = .returned (.tuple #[.agg #[.int .i64 r1,v1_],.bool r3])∧Kd.R k52 52 w' w.heap.size (fun _=>True) v1_ r2∧Below w.heap.size w w':=by
 have hu50:=Try.underlying50
 have hu52:=Try.underlying52
 have HR1_1:=mA hr1_1
 have HC1_1:=mA hc1_1
 clear hr1_1 hc1_1
 have HB:=mA (Below.refl w.heap.size w)
 have H:((some (([]:List (S52)):List (S52))).bind fun y103=>(if y103.length+l1_1.length<8796093022208 then ((some (y103++l1_1:List (S52))).bind fun y106=>((some (([(⟨2,0⟩:S52)]:List (S52)):List (S52))).bind fun y109=>(if y106.length+y109.length<8796093022208 then ((some (y106++y109:List (S52))).bind fun y112=>((spec_ClaimOk.f k a0 a1_0 l1_1).bind fun t116=>(if t116=true then ((spec_ClaimOk.f k a0 a1_0 y112).bind fun t117=>(spec_DenyClaim.j0 k (!t117) a1_0 y112)) else (spec_DenyClaim.j0 k true a1_0 y112)))) else (none)))) else (none)))=some (r1,r2,r3):=h
 clear h
 obtain ⟨y103,hy103⟩ : ∃ y_:List (S52),y_=(([]:List (S52))):=⟨_,rfl⟩
 replace H:(if y103.length+l1_1.length<8796093022208 then ((some (y103++l1_1:List (S52))).bind fun y106=>((some (([(⟨2,0⟩:S52)]:List (S52)):List (S52))).bind fun y109=>(if y106.length+y109.length<8796093022208 then ((some (y106++y109:List (S52))).bind fun y112=>((spec_ClaimOk.f k a0 a1_0 l1_1).bind fun t116=>(if t116=true then ((spec_ClaimOk.f k a0 a1_0 y112).bind fun t117=>(spec_DenyClaim.j0 k (!t117) a1_0 y112)) else (spec_DenyClaim.j0 k true a1_0 y112)))) else (none)))) else (none))=some (r1,r2,r3):=by first|(rw [hy103];with_reducible exact H)|(have H2_:=(Option.bind_some _ _).symm.trans H;rw [hy103];with_reducible exact H2_)|(have H2_:=(Option.bind_some _ _).symm.trans H;with_reducible exact H2_)|with_reducible exact H|(rw [hy103];exact H)|exact H
 have Ny103:=mA hy103
 clear hy103
 by_cases c3:y103.length+l1_1.length<8796093022208
 ·rw [if_pos c3] at H
  have LMc3:=mA c3
  clear c3
  obtain ⟨y106,hy106⟩ : ∃ y_:List (S52),y_=(y103++l1_1):=⟨_,rfl⟩
  replace H:((some (([(⟨2,0⟩:S52)]:List (S52)):List (S52))).bind fun y109=>(if y106.length+y109.length<8796093022208 then ((some (y106++y109:List (S52))).bind fun y112=>((spec_ClaimOk.f k a0 a1_0 l1_1).bind fun t116=>(if t116=true then ((spec_ClaimOk.f k a0 a1_0 y112).bind fun t117=>(spec_DenyClaim.j0 k (!t117) a1_0 y112)) else (spec_DenyClaim.j0 k true a1_0 y112)))) else (none)))=some (r1,r2,r3):=by first|(rw [hy106];with_reducible exact H)|(have H2_:=(Option.bind_some _ _).symm.trans H;rw [hy106];with_reducible exact H2_)|(have H2_:=(Option.bind_some _ _).symm.trans H;with_reducible exact H2_)|with_reducible exact H|(rw [hy106];exact H)|exact H
  have Ny106:=mA hy106
  clear hy106
  obtain ⟨y109,hy109⟩ : ∃ y_:List (S52),y_=(([(⟨2,0⟩:S52)]:List (S52))):=⟨_,rfl⟩
  replace H:(if y106.length+y109.length<8796093022208 then ((some (y106++y109:List (S52))).bind fun y112=>((spec_ClaimOk.f k a0 a1_0 l1_1).bind fun t116=>(if t116=true then ((spec_ClaimOk.f k a0 a1_0 y112).bind fun t117=>(spec_DenyClaim.j0 k (!t117) a1_0 y112)) else (spec_DenyClaim.j0 k true a1_0 y112)))) else (none))=some (r1,r2,r3):=by first|(rw [hy109];with_reducible exact H)|(have H2_:=(Option.bind_some _ _).symm.trans H;rw [hy109];with_reducible exact H2_)|(have H2_:=(Option.bind_some _ _).symm.trans H;with_reducible exact H2_)|with_reducible exact H|(rw [hy109];exact H)|exact H
  have Ny109:=mA hy109
  clear hy109
  by_cases c4:y106.length+y109.length<8796093022208
  ·rw [if_pos c4] at H
   have LMc4:=mA c4
   clear c4
   obtain ⟨y112,hy112⟩ : ∃ y_:List (S52),y_=(y106++y109):=⟨_,rfl⟩
   replace H:((spec_ClaimOk.f k a0 a1_0 l1_1).bind fun t116=>(if t116=true then ((spec_ClaimOk.f k a0 a1_0 y112).bind fun t117=>(spec_DenyClaim.j0 k (!t117) a1_0 y112)) else (spec_DenyClaim.j0 k true a1_0 y112)))=some (r1,r2,r3):=by first|(rw [hy112];with_reducible exact H)|(have H2_:=(Option.bind_some _ _).symm.trans H;rw [hy112];with_reducible exact H2_)|(have H2_:=(Option.bind_some _ _).symm.trans H;with_reducible exact H2_)|with_reducible exact H|(rw [hy112];exact H)|exact H
   have Ny112:=mA hy112
   clear hy112
   have HC5:=mA H
   clear H
   go_enter Try.func75,Try.ntmps75
   try go_wp2_with (first|((with_reducible refine gate_dst (N:=3) rfl ?_);refine box_event ?hg (N:=3) ?hd (cs:=#[.int .i64 a1_0,.slice A1_1 l1_1.length c1_1]) (t:=50) ?hr ?_;(case hd=>rfl);(case hg=>rfl);(case hr=>first|(go_simp;done)|(go_simp;rfl));intro gb101 hg w6 hbox hb;have n0_:=mA (bT (by repeat (first|(with_reducible first|exact HB.out|apply bA|apply bN|apply bD)|exact HB.out)) hb);have n1_:=mA (hbox);have n2_:=mA ((by rw [hg];exact (bZ (by repeat (first|(with_reducible first|exact HB.out|apply bA|apply bN|apply bD)|exact HB.out))):w.heap.size≤gb101));have n3_:=mA ((by rw [hg];exact (bZ (by repeat (first|(with_reducible first|exact HB.out|apply bA|apply bN|apply bD)|exact HB.out))):w.heap.size≤gb101));clear HB;have HB:=n0_;have BK101:=n1_;have GW101:=n2_;have GE101:=n3_;clear n0_ n1_ n2_ n3_ hb hbox hg)|((with_reducible refine gate_dst (N:=4) rfl ?_);refine box_event ?hg (N:=4) ?hd (cs:=#[.int .i64 0,.slice none 0 0]) (t:=50) ?hr ?_;(case hd=>rfl);(case hg=>rfl);(case hr=>first|(go_simp;done)|(go_simp;rfl));intro gb102 hg w7 hbox hb;have n0_:=mA (blk_below (g:=gb101) (o:=.cells #[.int .i64 a1_0,.slice A1_1 l1_1.length c1_1] 50 (0,0)) (by (with_reducible repeat (first|refine kN ?_ _|refine kD ?_|refine kA ?_ _));exact BK101.out) hb);have n1_:=mA (bT (by repeat (first|(with_reducible first|exact HB.out|apply bA|apply bN|apply bD|refine bS ?_ GE101.out)|exact HB.out)) hb);have n2_:=mA (hbox);have n3_:=mA ((by rw [hg];exact (bZ (by repeat (first|(with_reducible first|exact HB.out|apply bA|apply bN|apply bD|refine bS ?_ GE101.out)|exact HB.out))):w.heap.size≤gb102));have n4_:=mA ((by rw [hg];exact (bZ (by repeat (first|(with_reducible first|exact HB.out|apply bA|apply bN|apply bD|refine bS ?_ GE101.out)|exact HB.out))):w.heap.size≤gb102));have n5_:=mA ((by rw [hg];exact Nat.ne_of_lt (blk_lt (g:=gb101) (o:=.cells #[.int .i64 a1_0,.slice A1_1 l1_1.length c1_1] 50 (0,0)) (by (with_reducible repeat (first|refine kN ?_ _|refine kD ?_|refine kA ?_ _));exact BK101.out)):gb101≠gb102));have n6_:=mA ((by rw [hg];exact Nat.ne_of_gt (blk_lt (g:=gb101) (o:=.cells #[.int .i64 a1_0,.slice A1_1 l1_1.length c1_1] 50 (0,0)) (by (with_reducible repeat (first|refine kN ?_ _|refine kD ?_|refine kA ?_ _));exact BK101.out)):gb102≠gb101));clear BK101 HB;have BK101:=n0_;have HB:=n1_;have BK102:=n2_;have GW102:=n3_;have GE102:=n4_;have NB101_102:=n5_;have NB102_101:=n6_;clear n0_ n1_ n2_ n3_ n4_ n5_ n6_ hb hbox hg))
   have n0_:=mA (kD BK101.out)
   have n1_:=mA (kD BK102.out)
   have n2_:=mA (bD HB.out)
   clear BK101
   clear BK102
   clear HB
   have BK101:=n0_
   have BK102:=n1_
   have HB:=n2_
   clear n0_ n1_ n2_
   refine start_ (n:=12) (S:=fun w'=>w'.cell? ⟨gb101,0,none⟩=some (.int .i64 a1_0)∧w'.cell? ⟨gb101,1,none⟩=some (.slice A1_1 l1_1.length c1_1)) (ds:=[]) #[O,O,O,O,O,O,O,O,O,O,O,O] (by kernel_rfl) rfl rfl ⟨(kC BK101.out 0).trans rfl,(kC BK101.out 1).trans rfl⟩ (fun hHeld=>?_);refine with_tabW spec_DenyClaim.tab1 spec_DenyClaim.bits1 (fun HT_ HW_=>?_)
   generalize w7.drew=w8 at BK101 BK102 HB hHeld ⊢
   refine pure_ (i:=0) (N:=some 7) (v:=?_) (a':=?_) #[I,O,O,O,O,O,O,O,O,O,O,O] rfl rfl (any_of HT_.out (by kernel_rfl)) (fun _ _ _ h=>h) (Or.inl ⟨by rfl,?_⟩) ?_ ?_
   rotate_left
   ·intro w'
    go_simp
    with_reducible rfl
   rotate_left
   ·simp only [Act.put,sA,sZ,sS,i64_w,i32_w]
    rfl
   refine pure_ (i:=3) (N:=some 10) (v:=?_) (a':=?_) #[I,O,O,I,O,O,O,O,O,O,O,O] rfl rfl (any_of HT_.out (by kernel_rfl)) (fun _ _ _ h=>h) (Or.inl ⟨by rfl,?_⟩) ?_ ?_
   rotate_left
   ·intro w'
    go_simp
    with_reducible rfl
   rotate_left
   ·simp only [Act.put,sA,sZ,sS,i64_w,i32_w]
    rfl
   refine pure_ (i:=6) (N:=some 13) (v:=?_) (a':=?_) #[I,O,O,I,O,O,I,O,O,O,O,O] rfl rfl (any_of HT_.out (by kernel_rfl)) (fun _ _ _ h=>h) (Or.inl ⟨by rfl,?_⟩) ?_ ?_
   rotate_left
   ·intro w'
    go_simp
    with_reducible rfl
   rotate_left
   ·simp only [Act.put,sA,sZ,sS,i64_w,i32_w]
    rfl
   refine take_ (i:=1) (N:=some 8) (v:=?_) (a':=?_) #[I,I,O,I,O,O,I,O,O,O,O,O] rfl rfl (take_ofW HT_.out HW_.out (by kernel_rfl)) (fun _ _ _ h=>h) (Or.inl ⟨by rfl,?_⟩) hHeld ?_ ?_
   rotate_left
   ·rintro w' ⟨s0,s1⟩
    go_simp
    with_reducible rfl
   rotate_left
   ·simp only [Act.put,sA,sZ,sS,i64_w,i32_w]
    rfl
   refine take_ (i:=4) (N:=some 11) (v:=?_) (a':=?_) #[I,I,O,I,I,O,I,O,O,O,O,O] rfl rfl (take_ofW HT_.out HW_.out (by kernel_rfl)) (fun _ _ _ h=>h) (Or.inl ⟨by rfl,?_⟩) hHeld ?_ ?_
   rotate_left
   ·rintro w' ⟨s0,s1⟩
    go_simp
    with_reducible rfl
   rotate_left
   ·simp only [Act.put,sA,sZ,sS,i64_w,i32_w]
    rfl
   refine join_ (σ:=Value×Value×Value×Value×Nat) 1 #[I,I,I,I,I,I,I,I,I,I,I,O] (fun s_=>[(9,s_.1),(12,s_.2.1),(14,s_.2.2.1),(15,s_.2.2.2.1),(6,.pointer (some ⟨s_.2.2.2.2,0,none⟩)),(16,.agg #[.int .i64 a1_0,s_.2.2.2.1])]) (fun s_ w'=>(w'.cell? ⟨gb101,0,none⟩=some (.int .i64 a1_0)∧w'.cell? ⟨gb101,1,none⟩=some (.slice A1_1 l1_1.length c1_1))∧(Kd.R k52 52 w' w.heap.size (fun k_=>some k_≠(s_.2.2.2.1:Value).ownBlock) s_.2.2.1 y109)∧(Kd.R k52 52 w' w.heap.size (fun k_=>some k_≠(s_.2.2.1:Value).ownBlock) s_.2.2.2.1 y112)∧(w'.heap[gb101]?=some (.cells #[.int .i64 a1_0,.slice A1_1 l1_1.length c1_1] 50 (0,0)))∧(w'.heap[gb102]?=some (.cells #[.int .i64 0,.slice none 0 0] 50 (0,0)))∧(w'.heap[s_.2.2.2.2]?=some (.cells #[.int .i64 0,.slice none 0 0] 50 (0,0)))∧(w.heap.size≤s_.2.2.2.2)∧(w.heap.size≤s_.2.2.2.2)∧(gb101≠s_.2.2.2.2)∧(s_.2.2.2.2≠gb101)∧(gb102≠s_.2.2.2.2)∧(s_.2.2.2.2≠gb102)∧(Below w.heap.size w w')) ?_ ?_
   rotate_left
   ·intro hJ2_5_7_8_10
    refine join_ (σ:=Value×Value×Value×Value) 2 #[I,I,I,I,I,I,I,I,I,I,O,O] (fun s_=>[(9,s_.1),(12,s_.2.1),(14,s_.2.2.1),(15,s_.2.2.2),(16,.agg #[.int .i64 a1_0,s_.2.2.2])]) (fun s_ w'=>(w'.cell? ⟨gb101,0,none⟩=some (.int .i64 a1_0)∧w'.cell? ⟨gb101,1,none⟩=some (.slice A1_1 l1_1.length c1_1))∧(Kd.R k52 52 w' w.heap.size (fun k_=>some k_≠(s_.2.2.2:Value).ownBlock) s_.2.2.1 y109)∧(Kd.R k52 52 w' w.heap.size (fun k_=>some k_≠(s_.2.2.1:Value).ownBlock) s_.2.2.2 y112)∧(w'.heap[gb101]?=some (.cells #[.int .i64 a1_0,.slice A1_1 l1_1.length c1_1] 50 (0,0)))∧(w'.heap[gb102]?=some (.cells #[.int .i64 0,.slice none 0 0] 50 (0,0)))∧(Below w.heap.size w w')) ?_ ?_
    rotate_left
    ·intro hJ2_5_7_8
     refine join_ (σ:=Value×Value×Value×Nat) 3 #[I,I,I,I,I,I,I,I,O,O,I,O] (fun s_=>[(9,s_.1),(12,s_.2.1),(14,s_.2.2.1),(6,.pointer (some ⟨s_.2.2.2,0,none⟩))]) (fun s_ w'=>(w'.cell? ⟨gb101,0,none⟩=some (.int .i64 a1_0)∧w'.cell? ⟨gb101,1,none⟩=some (.slice A1_1 l1_1.length c1_1))∧(Kd.R k52 52 w' w.heap.size (fun k_=>some k_≠(s_.2.2.1:Value).ownBlock) s_.2.1 y106)∧(Kd.R k52 52 w' w.heap.size (fun k_=>some k_≠(s_.2.1:Value).ownBlock) s_.2.2.1 y109)∧(w'.heap[gb101]?=some (.cells #[.int .i64 a1_0,.slice A1_1 l1_1.length c1_1] 50 (0,0)))∧(w'.heap[gb102]?=some (.cells #[.int .i64 0,.slice none 0 0] 50 (0,0)))∧(w'.heap[s_.2.2.2]?=some (.cells #[.int .i64 0,.slice none 0 0] 50 (0,0)))∧(w.heap.size≤s_.2.2.2)∧(w.heap.size≤s_.2.2.2)∧(gb101≠s_.2.2.2)∧(s_.2.2.2≠gb101)∧(gb102≠s_.2.2.2)∧(s_.2.2.2≠gb102)∧(Below w.heap.size w w')) ?_ ?_
     rotate_left
     ·intro hJ2_5_7_10
      refine join_ (σ:=Value×Value×Value) 4 #[I,I,I,I,I,I,I,I,O,O,O,O] (fun s_=>[(9,s_.1),(12,s_.2.1),(14,s_.2.2)]) (fun s_ w'=>(w'.cell? ⟨gb101,0,none⟩=some (.int .i64 a1_0)∧w'.cell? ⟨gb101,1,none⟩=some (.slice A1_1 l1_1.length c1_1))∧(Kd.R k52 52 w' w.heap.size (fun k_=>some k_≠(s_.2.2:Value).ownBlock) s_.2.1 y106)∧(Kd.R k52 52 w' w.heap.size (fun k_=>some k_≠(s_.2.1:Value).ownBlock) s_.2.2 y109)∧(w'.heap[gb101]?=some (.cells #[.int .i64 a1_0,.slice A1_1 l1_1.length c1_1] 50 (0,0)))∧(w'.heap[gb102]?=some (.cells #[.int .i64 0,.slice none 0 0] 50 (0,0)))∧(Below w.heap.size w w')) ?_ ?_
      rotate_left
      ·intro hJ2_5_7
       refine join_ (σ:=Value×Value×Nat) 4 #[I,I,I,I,I,I,I,O,O,O,I,O] (fun s_=>[(9,s_.1),(12,s_.2.1),(6,.pointer (some ⟨s_.2.2,0,none⟩))]) (fun s_ w'=>(w'.cell? ⟨gb101,0,none⟩=some (.int .i64 a1_0)∧w'.cell? ⟨gb101,1,none⟩=some (.slice A1_1 l1_1.length c1_1))∧(Kd.R k52 52 w' w.heap.size (fun _=>True) s_.2.1 y106)∧(w'.heap[gb101]?=some (.cells #[.int .i64 a1_0,.slice A1_1 l1_1.length c1_1] 50 (0,0)))∧(w'.heap[gb102]?=some (.cells #[.int .i64 0,.slice none 0 0] 50 (0,0)))∧(w'.heap[s_.2.2]?=some (.cells #[.int .i64 0,.slice none 0 0] 50 (0,0)))∧(w.heap.size≤s_.2.2)∧(w.heap.size≤s_.2.2)∧(gb101≠s_.2.2)∧(s_.2.2≠gb101)∧(gb102≠s_.2.2)∧(s_.2.2≠gb102)∧(Below w.heap.size w w')) ?_ ?_
       rotate_left
       ·intro hJ2_5_10
        refine join_ (σ:=Value×Value×Nat) 4 #[I,I,I,I,I,O,I,I,O,O,I,O] (fun s_=>[(9,s_.1),(14,s_.2.1),(6,.pointer (some ⟨s_.2.2,0,none⟩))]) (fun s_ w'=>(w'.cell? ⟨gb101,0,none⟩=some (.int .i64 a1_0)∧w'.cell? ⟨gb101,1,none⟩=some (.slice A1_1 l1_1.length c1_1))∧(Kd.R k52 52 w' w.heap.size (fun k_=>some k_≠(s_.2.1:Value).ownBlock) s_.1 y103)∧(Kd.R k52 52 w' w.heap.size (fun k_=>some k_≠(s_.1:Value).ownBlock) s_.2.1 y109)∧(w'.heap[gb101]?=some (.cells #[.int .i64 a1_0,.slice A1_1 l1_1.length c1_1] 50 (0,0)))∧(w'.heap[gb102]?=some (.cells #[.int .i64 0,.slice none 0 0] 50 (0,0)))∧(w'.heap[s_.2.2]?=some (.cells #[.int .i64 0,.slice none 0 0] 50 (0,0)))∧(w.heap.size≤s_.2.2)∧(w.heap.size≤s_.2.2)∧(gb101≠s_.2.2)∧(s_.2.2≠gb101)∧(gb102≠s_.2.2)∧(s_.2.2≠gb102)∧(Below w.heap.size w w')) ?_ ?_
        rotate_left
        ·intro hJ2_7_10
         refine join_ (σ:=Value×Value) 5 #[I,I,I,I,I,I,I,O,O,O,O,O] (fun s_=>[(9,s_.1),(12,s_.2)]) (fun s_ w'=>(w'.cell? ⟨gb101,0,none⟩=some (.int .i64 a1_0)∧w'.cell? ⟨gb101,1,none⟩=some (.slice A1_1 l1_1.length c1_1))∧(Kd.R k52 52 w' w.heap.size (fun _=>True) s_.2 y106)∧(w'.heap[gb101]?=some (.cells #[.int .i64 a1_0,.slice A1_1 l1_1.length c1_1] 50 (0,0)))∧(w'.heap[gb102]?=some (.cells #[.int .i64 0,.slice none 0 0] 50 (0,0)))∧(Below w.heap.size w w')) ?_ ?_
         rotate_left
         ·intro hJ2_5
          refine join_ (σ:=Value×Value) 5 #[I,I,I,I,I,O,I,I,O,O,O,O] (fun s_=>[(9,s_.1),(14,s_.2)]) (fun s_ w'=>(w'.cell? ⟨gb101,0,none⟩=some (.int .i64 a1_0)∧w'.cell? ⟨gb101,1,none⟩=some (.slice A1_1 l1_1.length c1_1))∧(Kd.R k52 52 w' w.heap.size (fun k_=>some k_≠(s_.2:Value).ownBlock) s_.1 y103)∧(Kd.R k52 52 w' w.heap.size (fun k_=>some k_≠(s_.1:Value).ownBlock) s_.2 y109)∧(w'.heap[gb101]?=some (.cells #[.int .i64 a1_0,.slice A1_1 l1_1.length c1_1] 50 (0,0)))∧(w'.heap[gb102]?=some (.cells #[.int .i64 0,.slice none 0 0] 50 (0,0)))∧(Below w.heap.size w w')) ?_ ?_
          rotate_left
          ·intro hJ2_7
           refine join_ (σ:=Value×Nat) 5 #[I,I,I,I,I,O,I,O,O,O,I,O] (fun s_=>[(9,s_.1),(6,.pointer (some ⟨s_.2,0,none⟩))]) (fun s_ w'=>(w'.cell? ⟨gb101,0,none⟩=some (.int .i64 a1_0)∧w'.cell? ⟨gb101,1,none⟩=some (.slice A1_1 l1_1.length c1_1))∧(Kd.R k52 52 w' w.heap.size (fun _=>True) s_.1 y103)∧(w'.heap[gb101]?=some (.cells #[.int .i64 a1_0,.slice A1_1 l1_1.length c1_1] 50 (0,0)))∧(w'.heap[gb102]?=some (.cells #[.int .i64 0,.slice none 0 0] 50 (0,0)))∧(w'.heap[s_.2]?=some (.cells #[.int .i64 0,.slice none 0 0] 50 (0,0)))∧(w.heap.size≤s_.2)∧(w.heap.size≤s_.2)∧(gb101≠s_.2)∧(s_.2≠gb101)∧(gb102≠s_.2)∧(s_.2≠gb102)∧(Below w.heap.size w w')) ?_ ?_
           rotate_left
           ·intro hJ2_10
            refine join_ (σ:=Value×Nat) 5 #[I,I,O,I,I,O,I,I,O,O,I,O] (fun s_=>[(14,s_.1),(6,.pointer (some ⟨s_.2,0,none⟩))]) (fun s_ w'=>(w'.cell? ⟨gb101,0,none⟩=some (.int .i64 a1_0)∧w'.cell? ⟨gb101,1,none⟩=some (.slice A1_1 l1_1.length c1_1))∧(Kd.R k52 52 w' w.heap.size (fun _=>True) s_.1 y109)∧(w'.heap[gb101]?=some (.cells #[.int .i64 a1_0,.slice A1_1 l1_1.length c1_1] 50 (0,0)))∧(w'.heap[gb102]?=some (.cells #[.int .i64 0,.slice none 0 0] 50 (0,0)))∧(w'.heap[s_.2]?=some (.cells #[.int .i64 0,.slice none 0 0] 50 (0,0)))∧(w.heap.size≤s_.2)∧(w.heap.size≤s_.2)∧(gb101≠s_.2)∧(s_.2≠gb101)∧(gb102≠s_.2)∧(s_.2≠gb102)∧(Below w.heap.size w w')) ?_ ?_
            rotate_left
            ·intro hJ7_10
             refine join_ (σ:=Value) 6 #[I,I,I,I,I,O,I,O,O,O,O,O] (fun s_=>[(9,s_)]) (fun s_ w'=>(w'.cell? ⟨gb101,0,none⟩=some (.int .i64 a1_0)∧w'.cell? ⟨gb101,1,none⟩=some (.slice A1_1 l1_1.length c1_1))∧(Kd.R k52 52 w' w.heap.size (fun _=>True) s_ y103)∧(w'.heap[gb101]?=some (.cells #[.int .i64 a1_0,.slice A1_1 l1_1.length c1_1] 50 (0,0)))∧(w'.heap[gb102]?=some (.cells #[.int .i64 0,.slice none 0 0] 50 (0,0)))∧(Below w.heap.size w w')) ?_ ?_
             rotate_left
             ·intro hJ2
              refine join_ (σ:=Value) 6 #[I,I,O,I,I,O,I,I,O,O,O,O] (fun s_=>[(14,s_)]) (fun s_ w'=>(w'.cell? ⟨gb101,0,none⟩=some (.int .i64 a1_0)∧w'.cell? ⟨gb101,1,none⟩=some (.slice A1_1 l1_1.length c1_1))∧(Kd.R k52 52 w' w.heap.size (fun _=>True) s_ y109)∧(w'.heap[gb101]?=some (.cells #[.int .i64 a1_0,.slice A1_1 l1_1.length c1_1] 50 (0,0)))∧(w'.heap[gb102]?=some (.cells #[.int .i64 0,.slice none 0 0] 50 (0,0)))∧(Below w.heap.size w w')) ?_ ?_
              rotate_left
              ·intro hJ7
               refine join_ (σ:=Nat) 6 #[I,I,O,I,I,O,I,O,O,O,I,O] (fun s_=>[(6,.pointer (some ⟨s_,0,none⟩))]) (fun s_ w'=>(w'.cell? ⟨gb101,0,none⟩=some (.int .i64 a1_0)∧w'.cell? ⟨gb101,1,none⟩=some (.slice A1_1 l1_1.length c1_1))∧(w'.heap[gb101]?=some (.cells #[.int .i64 a1_0,.slice A1_1 l1_1.length c1_1] 50 (0,0)))∧(w'.heap[gb102]?=some (.cells #[.int .i64 0,.slice none 0 0] 50 (0,0)))∧(w'.heap[s_]?=some (.cells #[.int .i64 0,.slice none 0 0] 50 (0,0)))∧(w.heap.size≤s_)∧(w.heap.size≤s_)∧(gb101≠s_)∧(s_≠gb101)∧(gb102≠s_)∧(s_≠gb102)∧(Below w.heap.size w w')) ?_ ?_
               rotate_left
               ·intro hJ10
                refine three_ (i:=2) (j:=7) (k:=10) (Ni:=some 9) (Nj:=some 14) (Nk:=some 6) #[I,I,I,I,I,O,I,O,O,O,O,O] #[I,I,O,I,I,O,I,I,O,O,O,O] #[I,I,O,I,I,O,I,O,O,O,I,O] rfl rfl rfl rfl rfl rfl (three_of HT_.out (by kernel_rfl)) (by decide) (by decide) (by decide) (fun K hK=>?_) (fun K hK=>?_) (fun K hK=>?_)
                ·skip
                 refine Kd.R_lit_step k52 _ 52 ?hg (N:=9) ?hd (xs:=([]:List (S52))) (inner:=[]) (ok:=fun _=>True) (okp:=fun _=>True) ?hr ?hp (fun _ hk=>hk) trivial (Below.refl _ _) (Nat.le_refl _) (by simp) ?_;(case hd=>rfl);(case hg=>rfl);(case hr=>first|(go_simp;done)|(go_simp;rfl));(case hp=>exact (Reps.none _ _))
                 intro v104 w9 ho10 hb hg_ hnew_
                 clear hg_ hnew_
                 (first|rw [←Ny103.out] at ho10|(simp only [Int.reduceToNat] at ho10;rw [←Ny103.out] at ho10))
                 have n0_:=mA (Kd.R_lower ho10 (bZ (by repeat (first|(with_reducible first|exact HB.out|apply bA|apply bN|apply bD|refine bS ?_ GE101.out|refine bS ?_ GE102.out)|exact HB.out))))
                 have n1_:=mA (blk_below (g:=gb101) (o:=.cells #[.int .i64 a1_0,.slice A1_1 l1_1.length c1_1] 50 (0,0)) (by (with_reducible repeat (first|refine kN ?_ _|refine kD ?_|refine kA ?_ _));exact BK101.out) hb)
                 have n2_:=mA (blk_below (g:=gb102) (o:=.cells #[.int .i64 0,.slice none 0 0] 50 (0,0)) (by (with_reducible repeat (first|refine kN ?_ _|refine kD ?_|refine kA ?_ _));exact BK102.out) hb)
                 have n3_:=mA (bT (by repeat (first|(with_reducible first|exact HB.out|apply bA|apply bN|apply bD|refine bS ?_ GE101.out|refine bS ?_ GE102.out)|exact HB.out)) hb)
                 clear BK101
                 clear BK102
                 clear HB
                 have HO105:=n0_
                 have BK101:=n1_
                 have BK102:=n2_
                 have HB:=n3_
                 clear n0_ n1_ n2_ n3_
                 clear hb ho10
                 refine hK.out _ _ ⟨(kC BK101.out 0).trans rfl,(kC BK101.out 1).trans rfl⟩ (fun hHeld=>?_)
                 clear hK K
                 refine norm_ (a':=?_) ?_ ?_
                 rotate_left
                 ·show Act.put _ (some 9) _=_
                  simp only [Act.put,sA,sZ,sS,i64_w,i32_w]
                  rfl
                 exact norm_ (by first|(simp only [putAll,Act.put,sA,sZ,sS];done)|(simp only [putAll,Act.put,sA,sZ,sS];rfl)) (hJ2 (v104) _ ⟨hHeld,(by (with_reducible repeat (first|apply rA|apply rN|apply rD));exact HO105.out),(by (with_reducible repeat (first|refine kN ?_ _|refine kD ?_|refine kA ?_ _));exact BK101.out),(by (with_reducible repeat (first|refine kN ?_ _|refine kD ?_|refine kA ?_ _));exact BK102.out),(by repeat (first|(with_reducible first|exact HB.out|apply bA|apply bN|apply bD|refine bS ?_ GE101.out|refine bS ?_ GE102.out)|exact HB.out))⟩)
                ·skip
                 refine Kd.R_lit_step k52 _ 52 ?hg (N:=14) ?hd (xs:=([(⟨2,0⟩:S52)]:List (S52))) (inner:=[.int .i64 2,.int .i64 0]) (ok:=fun _=>True) (okp:=fun _=>True) ?hr ?hp (fun _ hk=>hk) trivial (Below.refl _ _) (Nat.le_refl _) (by simp) ?_;(case hd=>rfl);(case hg=>rfl);(case hr=>first|(go_simp;done)|(go_simp;rfl));(case hp=>exact (Reps.c2 (show Kd.M k52 _ _ _ (⟨2,0⟩:S52) [.int .i64 2,.int .i64 0] from (k52_mkM _ _ _ (⟨2,0⟩:S52) )) (Reps.none _ _)))
                 intro v110 w9 ho10 hb hg_ hnew_
                 clear hg_ hnew_
                 (first|rw [←Ny109.out] at ho10|(simp only [Int.reduceToNat] at ho10;rw [←Ny109.out] at ho10))
                 have n0_:=mA (Kd.R_lower ho10 (bZ (by repeat (first|(with_reducible first|exact HB.out|apply bA|apply bN|apply bD|refine bS ?_ GE101.out|refine bS ?_ GE102.out)|exact HB.out))))
                 have n1_:=mA (blk_below (g:=gb101) (o:=.cells #[.int .i64 a1_0,.slice A1_1 l1_1.length c1_1] 50 (0,0)) (by (with_reducible repeat (first|refine kN ?_ _|refine kD ?_|refine kA ?_ _));exact BK101.out) hb)
                 have n2_:=mA (blk_below (g:=gb102) (o:=.cells #[.int .i64 0,.slice none 0 0] 50 (0,0)) (by (with_reducible repeat (first|refine kN ?_ _|refine kD ?_|refine kA ?_ _));exact BK102.out) hb)
                 have n3_:=mA (bT (by repeat (first|(with_reducible first|exact HB.out|apply bA|apply bN|apply bD|refine bS ?_ GE101.out|refine bS ?_ GE102.out)|exact HB.out)) hb)
                 clear BK101
                 clear BK102
                 clear HB
                 have HO111:=n0_
                 have BK101:=n1_
                 have BK102:=n2_
                 have HB:=n3_
                 clear n0_ n1_ n2_ n3_
                 clear hb ho10
                 refine hK.out _ _ ⟨(kC BK101.out 0).trans rfl,(kC BK101.out 1).trans rfl⟩ (fun hHeld=>?_)
                 clear hK K
                 refine norm_ (a':=?_) ?_ ?_
                 rotate_left
                 ·show Act.put _ (some 14) _=_
                  simp only [Act.put,sA,sZ,sS,i64_w,i32_w]
                  rfl
                 exact norm_ (by first|(simp only [putAll,Act.put,sA,sZ,sS];done)|(simp only [putAll,Act.put,sA,sZ,sS];rfl)) (hJ7 (v110) _ ⟨hHeld,(by (with_reducible repeat (first|apply rA|apply rN|apply rD));exact HO111.out),(by (with_reducible repeat (first|refine kN ?_ _|refine kD ?_|refine kA ?_ _));exact BK101.out),(by (with_reducible repeat (first|refine kN ?_ _|refine kD ?_|refine kA ?_ _));exact BK102.out),(by repeat (first|(with_reducible first|exact HB.out|apply bA|apply bN|apply bD|refine bS ?_ GE101.out|refine bS ?_ GE102.out)|exact HB.out))⟩)
                ·skip
                 refine box_step ?hg (N:=6) ?hd (cs:=#[.int .i64 0,.slice none 0 0]) (t:=50) ?hr ?_;(case hd=>rfl);(case hg=>rfl);(case hr=>first|(go_simp;done)|(go_simp;rfl))
                 intro gb115 hg w9 hbox hb
                 have n0_:=mA (blk_below (g:=gb101) (o:=.cells #[.int .i64 a1_0,.slice A1_1 l1_1.length c1_1] 50 (0,0)) (by (with_reducible repeat (first|refine kN ?_ _|refine kD ?_|refine kA ?_ _));exact BK101.out) hb)
                 have n1_:=mA (blk_below (g:=gb102) (o:=.cells #[.int .i64 0,.slice none 0 0] 50 (0,0)) (by (with_reducible repeat (first|refine kN ?_ _|refine kD ?_|refine kA ?_ _));exact BK102.out) hb)
                 have n2_:=mA (bT (by repeat (first|(with_reducible first|exact HB.out|apply bA|apply bN|apply bD|refine bS ?_ GE101.out|refine bS ?_ GE102.out)|exact HB.out)) hb)
                 have n3_:=mA (hbox)
                 have n4_:=mA ((by rw [hg];exact (bZ (by repeat (first|(with_reducible first|exact HB.out|apply bA|apply bN|apply bD|refine bS ?_ GE101.out|refine bS ?_ GE102.out)|exact HB.out))):w.heap.size≤gb115))
                 have n5_:=mA ((by rw [hg];exact (bZ (by repeat (first|(with_reducible first|exact HB.out|apply bA|apply bN|apply bD|refine bS ?_ GE101.out|refine bS ?_ GE102.out)|exact HB.out))):w.heap.size≤gb115))
                 have n6_:=mA ((by rw [hg];exact Nat.ne_of_lt (blk_lt (g:=gb101) (o:=.cells #[.int .i64 a1_0,.slice A1_1 l1_1.length c1_1] 50 (0,0)) (by (with_reducible repeat (first|refine kN ?_ _|refine kD ?_|refine kA ?_ _));exact BK101.out)):gb101≠gb115))
                 have n7_:=mA ((by rw [hg];exact Nat.ne_of_gt (blk_lt (g:=gb101) (o:=.cells #[.int .i64 a1_0,.slice A1_1 l1_1.length c1_1] 50 (0,0)) (by (with_reducible repeat (first|refine kN ?_ _|refine kD ?_|refine kA ?_ _));exact BK101.out)):gb115≠gb101))
                 have n8_:=mA ((by rw [hg];exact Nat.ne_of_lt (blk_lt (g:=gb102) (o:=.cells #[.int .i64 0,.slice none 0 0] 50 (0,0)) (by (with_reducible repeat (first|refine kN ?_ _|refine kD ?_|refine kA ?_ _));exact BK102.out)):gb102≠gb115))
                 have n9_:=mA ((by rw [hg];exact Nat.ne_of_gt (blk_lt (g:=gb102) (o:=.cells #[.int .i64 0,.slice none 0 0] 50 (0,0)) (by (with_reducible repeat (first|refine kN ?_ _|refine kD ?_|refine kA ?_ _));exact BK102.out)):gb115≠gb102))
                 clear BK101
                 clear BK102
                 clear HB
                 have BK101:=n0_
                 have BK102:=n1_
                 have HB:=n2_
                 have BK115:=n3_
                 have GW115:=n4_
                 have GE115:=n5_
                 have NB101_115:=n6_
                 have NB115_101:=n7_
                 have NB102_115:=n8_
                 have NB115_102:=n9_
                 clear n0_ n1_ n2_ n3_ n4_ n5_ n6_ n7_ n8_ n9_
                 clear hb hbox hg
                 refine hK.out _ _ ⟨(kC BK101.out 0).trans rfl,(kC BK101.out 1).trans rfl⟩ (fun hHeld=>?_)
                 clear hK K
                 refine norm_ (a':=?_) ?_ ?_
                 rotate_left
                 ·show Act.put _ (some 6) _=_
                  simp only [Act.put,sA,sZ,sS,i64_w,i32_w]
                  rfl
                 exact norm_ (by first|(simp only [putAll,Act.put,sA,sZ,sS];done)|(simp only [putAll,Act.put,sA,sZ,sS];rfl)) (hJ10 (gb115) _ ⟨hHeld,(by (with_reducible repeat (first|refine kN ?_ _|refine kD ?_|refine kA ?_ _));exact BK101.out),(by (with_reducible repeat (first|refine kN ?_ _|refine kD ?_|refine kA ?_ _));exact BK102.out),(by (with_reducible repeat (first|refine kN ?_ _|refine kD ?_|refine kA ?_ _));exact BK115.out),GW115.out,GE115.out,NB101_115.out,NB115_101.out,NB102_115.out,NB115_102.out,(by repeat (first|(with_reducible first|exact HB.out|apply bA|apply bN|apply bD|refine bS ?_ GE101.out|refine bS ?_ GE102.out|refine bS ?_ GE115.out)|exact HB.out))⟩)
               ·skip
                rintro gb115 w10 ⟨hS_,h0_,h1_,h2_,h3_,h4_,h5_,h6_,h7_,h8_,h9_⟩
                have n0_:Aside0 (w10.heap[gb101]?=some (.cells #[.int .i64 a1_0,.slice A1_1 l1_1.length c1_1] 50 (0,0))):=⟨h0_⟩
                have n1_:Aside0 (w10.heap[gb102]?=some (.cells #[.int .i64 0,.slice none 0 0] 50 (0,0))):=⟨h1_⟩
                have n2_:Aside0 (w10.heap[gb115]?=some (.cells #[.int .i64 0,.slice none 0 0] 50 (0,0))):=⟨h2_⟩
                have n3_:Aside0 (w.heap.size≤gb115):=⟨h3_⟩
                have n4_:Aside0 (w.heap.size≤gb115):=⟨h4_⟩
                have n5_:Aside0 (gb101≠gb115):=⟨h5_⟩
                have n6_:Aside0 (gb115≠gb101):=⟨h6_⟩
                have n7_:Aside0 (gb102≠gb115):=⟨h7_⟩
                have n8_:Aside0 (gb115≠gb102):=⟨h8_⟩
                have n9_:Aside0 (Below w.heap.size w w10):=⟨h9_⟩
                clear BK101
                clear BK102
                clear HB
                clear h0_ h1_ h2_ h3_ h4_ h5_ h6_ h7_ h8_ h9_
                have BK101:=n0_
                have BK102:=n1_
                have BK115:=n2_
                have GW115:=n3_
                have GE115:=n4_
                have NB101_115:=n5_
                have NB115_101:=n6_
                have NB102_115:=n7_
                have NB115_102:=n8_
                have HB:=n9_
                clear n0_ n1_ n2_ n3_ n4_ n5_ n6_ n7_ n8_ n9_
                have hHeld:w10.cell? ⟨gb101,0,none⟩=some (.int .i64 a1_0)∧w10.cell? ⟨gb101,1,none⟩=some (.slice A1_1 l1_1.length c1_1):=hS_
                refine norm_ (a':=?_) ?_ ?_
                rotate_left
                ·simp only [putAll,Act.put,sA,sZ,sS]
                 rfl
                refine two_ (i:=2) (j:=7) (Ni:=some 9) (Nj:=some 14) #[I,I,I,I,I,O,I,O,O,O,I,O] #[I,I,O,I,I,O,I,I,O,O,I,O] rfl rfl rfl rfl (two_of HT_.out (by kernel_rfl)) (by decide) (by decide) (fun K hK=>?_) (fun K hK=>?_)
                ·skip
                 refine Kd.R_lit_step k52 _ 52 ?hg (N:=9) ?hd (xs:=([]:List (S52))) (inner:=[]) (ok:=fun _=>True) (okp:=fun _=>True) ?hr ?hp (fun _ hk=>hk) trivial (Below.refl _ _) (Nat.le_refl _) (by simp) ?_;(case hd=>rfl);(case hg=>rfl);(case hr=>first|(go_simp;done)|(go_simp;rfl));(case hp=>exact (Reps.none _ _))
                 intro v104 w11 ho12 hb hg_ hnew_
                 clear hg_ hnew_
                 (first|rw [←Ny103.out] at ho12|(simp only [Int.reduceToNat] at ho12;rw [←Ny103.out] at ho12))
                 have n0_:=mA (Kd.R_lower ho12 (bZ (by repeat (first|(with_reducible first|exact HB.out|apply bA|apply bN|apply bD|refine bS ?_ GE101.out|refine bS ?_ GE102.out|refine bS ?_ GE115.out)|exact HB.out))))
                 have n1_:=mA (blk_below (g:=gb101) (o:=.cells #[.int .i64 a1_0,.slice A1_1 l1_1.length c1_1] 50 (0,0)) (by (with_reducible repeat (first|refine kN ?_ _|refine kD ?_|refine kA ?_ _));exact BK101.out) hb)
                 have n2_:=mA (blk_below (g:=gb102) (o:=.cells #[.int .i64 0,.slice none 0 0] 50 (0,0)) (by (with_reducible repeat (first|refine kN ?_ _|refine kD ?_|refine kA ?_ _));exact BK102.out) hb)
                 have n3_:=mA (blk_below (g:=gb115) (o:=.cells #[.int .i64 0,.slice none 0 0] 50 (0,0)) (by (with_reducible repeat (first|refine kN ?_ _|refine kD ?_|refine kA ?_ _));exact BK115.out) hb)
                 have n4_:=mA (bT (by repeat (first|(with_reducible first|exact HB.out|apply bA|apply bN|apply bD|refine bS ?_ GE101.out|refine bS ?_ GE102.out|refine bS ?_ GE115.out)|exact HB.out)) hb)
                 clear BK101
                 clear BK102
                 clear BK115
                 clear HB
                 have HO105:=n0_
                 have BK101:=n1_
                 have BK102:=n2_
                 have BK115:=n3_
                 have HB:=n4_
                 clear n0_ n1_ n2_ n3_ n4_
                 clear hb ho12
                 refine hK.out _ _ ⟨(kC BK101.out 0).trans rfl,(kC BK101.out 1).trans rfl⟩ (fun hHeld=>?_)
                 clear hK K
                 refine norm_ (a':=?_) ?_ ?_
                 rotate_left
                 ·show Act.put _ (some 9) _=_
                  simp only [Act.put,sA,sZ,sS,i64_w,i32_w]
                  rfl
                 exact norm_ (by first|(simp only [putAll,Act.put,sA,sZ,sS];done)|(simp only [putAll,Act.put,sA,sZ,sS];rfl)) (hJ2_10 (v104,gb115) _ ⟨hHeld,(by (with_reducible repeat (first|apply rA|apply rN|apply rD));exact HO105.out),(by (with_reducible repeat (first|refine kN ?_ _|refine kD ?_|refine kA ?_ _));exact BK101.out),(by (with_reducible repeat (first|refine kN ?_ _|refine kD ?_|refine kA ?_ _));exact BK102.out),(by (with_reducible repeat (first|refine kN ?_ _|refine kD ?_|refine kA ?_ _));exact BK115.out),GW115.out,GE115.out,NB101_115.out,NB115_101.out,NB102_115.out,NB115_102.out,(by repeat (first|(with_reducible first|exact HB.out|apply bA|apply bN|apply bD|refine bS ?_ GE101.out|refine bS ?_ GE102.out|refine bS ?_ GE115.out)|exact HB.out))⟩)
                ·skip
                 refine Kd.R_lit_step k52 _ 52 ?hg (N:=14) ?hd (xs:=([(⟨2,0⟩:S52)]:List (S52))) (inner:=[.int .i64 2,.int .i64 0]) (ok:=fun _=>True) (okp:=fun _=>True) ?hr ?hp (fun _ hk=>hk) trivial (Below.refl _ _) (Nat.le_refl _) (by simp) ?_;(case hd=>rfl);(case hg=>rfl);(case hr=>first|(go_simp;done)|(go_simp;rfl));(case hp=>exact (Reps.c2 (show Kd.M k52 _ _ _ (⟨2,0⟩:S52) [.int .i64 2,.int .i64 0] from (k52_mkM _ _ _ (⟨2,0⟩:S52) )) (Reps.none _ _)))
                 intro v110 w11 ho12 hb hg_ hnew_
                 clear hg_ hnew_
                 (first|rw [←Ny109.out] at ho12|(simp only [Int.reduceToNat] at ho12;rw [←Ny109.out] at ho12))
                 have n0_:=mA (Kd.R_lower ho12 (bZ (by repeat (first|(with_reducible first|exact HB.out|apply bA|apply bN|apply bD|refine bS ?_ GE101.out|refine bS ?_ GE102.out|refine bS ?_ GE115.out)|exact HB.out))))
                 have n1_:=mA (blk_below (g:=gb101) (o:=.cells #[.int .i64 a1_0,.slice A1_1 l1_1.length c1_1] 50 (0,0)) (by (with_reducible repeat (first|refine kN ?_ _|refine kD ?_|refine kA ?_ _));exact BK101.out) hb)
                 have n2_:=mA (blk_below (g:=gb102) (o:=.cells #[.int .i64 0,.slice none 0 0] 50 (0,0)) (by (with_reducible repeat (first|refine kN ?_ _|refine kD ?_|refine kA ?_ _));exact BK102.out) hb)
                 have n3_:=mA (blk_below (g:=gb115) (o:=.cells #[.int .i64 0,.slice none 0 0] 50 (0,0)) (by (with_reducible repeat (first|refine kN ?_ _|refine kD ?_|refine kA ?_ _));exact BK115.out) hb)
                 have n4_:=mA (bT (by repeat (first|(with_reducible first|exact HB.out|apply bA|apply bN|apply bD|refine bS ?_ GE101.out|refine bS ?_ GE102.out|refine bS ?_ GE115.out)|exact HB.out)) hb)
                 clear BK101
                 clear BK102
                 clear BK115
                 clear HB
                 have HO111:=n0_
                 have BK101:=n1_
                 have BK102:=n2_
                 have BK115:=n3_
                 have HB:=n4_
                 clear n0_ n1_ n2_ n3_ n4_
                 clear hb ho12
                 refine hK.out _ _ ⟨(kC BK101.out 0).trans rfl,(kC BK101.out 1).trans rfl⟩ (fun hHeld=>?_)
                 clear hK K
                 refine norm_ (a':=?_) ?_ ?_
                 rotate_left
                 ·show Act.put _ (some 14) _=_
                  simp only [Act.put,sA,sZ,sS,i64_w,i32_w]
                  rfl
                 exact norm_ (by first|(simp only [putAll,Act.put,sA,sZ,sS];done)|(simp only [putAll,Act.put,sA,sZ,sS];rfl)) (hJ7_10 (v110,gb115) _ ⟨hHeld,(by (with_reducible repeat (first|apply rA|apply rN|apply rD));exact HO111.out),(by (with_reducible repeat (first|refine kN ?_ _|refine kD ?_|refine kA ?_ _));exact BK101.out),(by (with_reducible repeat (first|refine kN ?_ _|refine kD ?_|refine kA ?_ _));exact BK102.out),(by (with_reducible repeat (first|refine kN ?_ _|refine kD ?_|refine kA ?_ _));exact BK115.out),GW115.out,GE115.out,NB101_115.out,NB115_101.out,NB102_115.out,NB115_102.out,(by repeat (first|(with_reducible first|exact HB.out|apply bA|apply bN|apply bD|refine bS ?_ GE101.out|refine bS ?_ GE102.out|refine bS ?_ GE115.out)|exact HB.out))⟩)
              ·skip
               rintro v110 w11 ⟨hS_,h0_,h1_,h2_,h3_⟩
               have n0_:Aside0 (Kd.R k52 52 w11 w.heap.size (fun _=>True) v110 y109):=⟨h0_⟩
               have n1_:Aside0 (w11.heap[gb101]?=some (.cells #[.int .i64 a1_0,.slice A1_1 l1_1.length c1_1] 50 (0,0))):=⟨h1_⟩
               have n2_:Aside0 (w11.heap[gb102]?=some (.cells #[.int .i64 0,.slice none 0 0] 50 (0,0))):=⟨h2_⟩
               have n3_:Aside0 (Below w.heap.size w w11):=⟨h3_⟩
               clear BK101
               clear BK102
               clear HB
               clear h0_ h1_ h2_ h3_
               have HO111:=n0_
               have BK101:=n1_
               have BK102:=n2_
               have HB:=n3_
               clear n0_ n1_ n2_ n3_
               have hHeld:w11.cell? ⟨gb101,0,none⟩=some (.int .i64 a1_0)∧w11.cell? ⟨gb101,1,none⟩=some (.slice A1_1 l1_1.length c1_1):=hS_
               refine norm_ (a':=?_) ?_ ?_
               rotate_left
               ·simp only [putAll,Act.put,sA,sZ,sS]
                rfl
               refine two_ (i:=2) (j:=10) (Ni:=some 9) (Nj:=some 6) #[I,I,I,I,I,O,I,I,O,O,O,O] #[I,I,O,I,I,O,I,I,O,O,I,O] rfl rfl rfl rfl (two_of HT_.out (by kernel_rfl)) (by decide) (by decide) (fun K hK=>?_) (fun K hK=>?_)
               ·skip
                refine Kd.R_lit_step k52 _ 52 ?hg (N:=9) ?hd (xs:=([]:List (S52))) (inner:=[]) (ok:=fun _=>True) (okp:=fun _=>True) ?hr ?hp (fun _ hk=>hk) trivial (Below.refl _ _) (Nat.le_refl _) (by simp) ?_;(case hd=>rfl);(case hg=>rfl);(case hr=>first|(go_simp;done)|(go_simp;rfl));(case hp=>exact (Reps.none _ _))
                intro v104 w12 ho13 hb hg_ hnew_
                clear hg_ hnew_
                (first|rw [←Ny103.out] at ho13|(simp only [Int.reduceToNat] at ho13;rw [←Ny103.out] at ho13))
                have n0_:=mA (Kd.R_elder' (by (with_reducible repeat (first|apply rA|apply rN|apply rD));exact HO111.out) (Kd.R_base ho13) hb)
                have n1_:=mA (Kd.R_lower (Kd.R_new' ho13 (rL (by (with_reducible repeat (first|apply rA|apply rN|apply rD));exact HO111.out))) (bZ (by repeat (first|(with_reducible first|exact HB.out|apply bA|apply bN|apply bD|refine bS ?_ GE101.out|refine bS ?_ GE102.out)|exact HB.out))))
                have n2_:=mA (blk_below (g:=gb101) (o:=.cells #[.int .i64 a1_0,.slice A1_1 l1_1.length c1_1] 50 (0,0)) (by (with_reducible repeat (first|refine kN ?_ _|refine kD ?_|refine kA ?_ _));exact BK101.out) hb)
                have n3_:=mA (blk_below (g:=gb102) (o:=.cells #[.int .i64 0,.slice none 0 0] 50 (0,0)) (by (with_reducible repeat (first|refine kN ?_ _|refine kD ?_|refine kA ?_ _));exact BK102.out) hb)
                have n4_:=mA (bT (by repeat (first|(with_reducible first|exact HB.out|apply bA|apply bN|apply bD|refine bS ?_ GE101.out|refine bS ?_ GE102.out)|exact HB.out)) hb)
                clear HO111
                clear BK101
                clear BK102
                clear HB
                have HO111:=n0_
                have HO105:=n1_
                have BK101:=n2_
                have BK102:=n3_
                have HB:=n4_
                clear n0_ n1_ n2_ n3_ n4_
                clear hb ho13
                refine hK.out _ _ ⟨(kC BK101.out 0).trans rfl,(kC BK101.out 1).trans rfl⟩ (fun hHeld=>?_)
                clear hK K
                refine norm_ (a':=?_) ?_ ?_
                rotate_left
                ·show Act.put _ (some 9) _=_
                 simp only [Act.put,sA,sZ,sS,i64_w,i32_w]
                 rfl
                exact norm_ (by first|(simp only [putAll,Act.put,sA,sZ,sS];done)|(simp only [putAll,Act.put,sA,sZ,sS];rfl)) (hJ2_7 (v104,v110) _ ⟨hHeld,(by (with_reducible repeat (first|apply rA|apply rN|apply rD));exact rM HO105.out (fun _ hk=>hk.2)),(by (with_reducible repeat (first|apply rA|apply rN|apply rD));exact rM HO111.out (fun _ hk=>hk.2)),(by (with_reducible repeat (first|refine kN ?_ _|refine kD ?_|refine kA ?_ _));exact BK101.out),(by (with_reducible repeat (first|refine kN ?_ _|refine kD ?_|refine kA ?_ _));exact BK102.out),(by repeat (first|(with_reducible first|exact HB.out|apply bA|apply bN|apply bD|refine bS ?_ GE101.out|refine bS ?_ GE102.out)|exact HB.out))⟩)
               ·skip
                refine box_step ?hg (N:=6) ?hd (cs:=#[.int .i64 0,.slice none 0 0]) (t:=50) ?hr ?_;(case hd=>rfl);(case hg=>rfl);(case hr=>first|(go_simp;done)|(go_simp;rfl))
                intro gb115 hg w12 hbox hb
                have n0_:=mA (rB (by (with_reducible repeat (first|apply rA|apply rN|apply rD));exact HO111.out) hb)
                have n1_:=mA (blk_below (g:=gb101) (o:=.cells #[.int .i64 a1_0,.slice A1_1 l1_1.length c1_1] 50 (0,0)) (by (with_reducible repeat (first|refine kN ?_ _|refine kD ?_|refine kA ?_ _));exact BK101.out) hb)
                have n2_:=mA (blk_below (g:=gb102) (o:=.cells #[.int .i64 0,.slice none 0 0] 50 (0,0)) (by (with_reducible repeat (first|refine kN ?_ _|refine kD ?_|refine kA ?_ _));exact BK102.out) hb)
                have n3_:=mA (bT (by repeat (first|(with_reducible first|exact HB.out|apply bA|apply bN|apply bD|refine bS ?_ GE101.out|refine bS ?_ GE102.out)|exact HB.out)) hb)
                have n4_:=mA (hbox)
                have n5_:=mA ((by rw [hg];exact (bZ (by repeat (first|(with_reducible first|exact HB.out|apply bA|apply bN|apply bD|refine bS ?_ GE101.out|refine bS ?_ GE102.out)|exact HB.out))):w.heap.size≤gb115))
                have n6_:=mA ((by rw [hg];exact (bZ (by repeat (first|(with_reducible first|exact HB.out|apply bA|apply bN|apply bD|refine bS ?_ GE101.out|refine bS ?_ GE102.out)|exact HB.out))):w.heap.size≤gb115))
                have n7_:=mA ((by rw [hg];exact Nat.ne_of_lt (blk_lt (g:=gb101) (o:=.cells #[.int .i64 a1_0,.slice A1_1 l1_1.length c1_1] 50 (0,0)) (by (with_reducible repeat (first|refine kN ?_ _|refine kD ?_|refine kA ?_ _));exact BK101.out)):gb101≠gb115))
                have n8_:=mA ((by rw [hg];exact Nat.ne_of_gt (blk_lt (g:=gb101) (o:=.cells #[.int .i64 a1_0,.slice A1_1 l1_1.length c1_1] 50 (0,0)) (by (with_reducible repeat (first|refine kN ?_ _|refine kD ?_|refine kA ?_ _));exact BK101.out)):gb115≠gb101))
                have n9_:=mA ((by rw [hg];exact Nat.ne_of_lt (blk_lt (g:=gb102) (o:=.cells #[.int .i64 0,.slice none 0 0] 50 (0,0)) (by (with_reducible repeat (first|refine kN ?_ _|refine kD ?_|refine kA ?_ _));exact BK102.out)):gb102≠gb115))
                have n10_:=mA ((by rw [hg];exact Nat.ne_of_gt (blk_lt (g:=gb102) (o:=.cells #[.int .i64 0,.slice none 0 0] 50 (0,0)) (by (with_reducible repeat (first|refine kN ?_ _|refine kD ?_|refine kA ?_ _));exact BK102.out)):gb115≠gb102))
                clear HO111
                clear BK101
                clear BK102
                clear HB
                have HO111:=n0_
                have BK101:=n1_
                have BK102:=n2_
                have HB:=n3_
                have BK115:=n4_
                have GW115:=n5_
                have GE115:=n6_
                have NB101_115:=n7_
                have NB115_101:=n8_
                have NB102_115:=n9_
                have NB115_102:=n10_
                clear n0_ n1_ n2_ n3_ n4_ n5_ n6_ n7_ n8_ n9_ n10_
                clear hb hbox hg
                refine hK.out _ _ ⟨(kC BK101.out 0).trans rfl,(kC BK101.out 1).trans rfl⟩ (fun hHeld=>?_)
                clear hK K
                refine norm_ (a':=?_) ?_ ?_
                rotate_left
                ·show Act.put _ (some 6) _=_
                 simp only [Act.put,sA,sZ,sS,i64_w,i32_w]
                 rfl
                exact norm_ (by first|(simp only [putAll,Act.put,sA,sZ,sS];done)|(simp only [putAll,Act.put,sA,sZ,sS];rfl)) (hJ7_10 (v110,gb115) _ ⟨hHeld,(by (with_reducible repeat (first|apply rA|apply rN|apply rD));exact HO111.out),(by (with_reducible repeat (first|refine kN ?_ _|refine kD ?_|refine kA ?_ _));exact BK101.out),(by (with_reducible repeat (first|refine kN ?_ _|refine kD ?_|refine kA ?_ _));exact BK102.out),(by (with_reducible repeat (first|refine kN ?_ _|refine kD ?_|refine kA ?_ _));exact BK115.out),GW115.out,GE115.out,NB101_115.out,NB115_101.out,NB102_115.out,NB115_102.out,(by repeat (first|(with_reducible first|exact HB.out|apply bA|apply bN|apply bD|refine bS ?_ GE101.out|refine bS ?_ GE102.out|refine bS ?_ GE115.out)|exact HB.out))⟩)
             ·skip
              rintro v104 w11 ⟨hS_,h0_,h1_,h2_,h3_⟩
              have n0_:Aside0 (Kd.R k52 52 w11 w.heap.size (fun _=>True) v104 y103):=⟨h0_⟩
              have n1_:Aside0 (w11.heap[gb101]?=some (.cells #[.int .i64 a1_0,.slice A1_1 l1_1.length c1_1] 50 (0,0))):=⟨h1_⟩
              have n2_:Aside0 (w11.heap[gb102]?=some (.cells #[.int .i64 0,.slice none 0 0] 50 (0,0))):=⟨h2_⟩
              have n3_:Aside0 (Below w.heap.size w w11):=⟨h3_⟩
              clear BK101
              clear BK102
              clear HB
              clear h0_ h1_ h2_ h3_
              have HO105:=n0_
              have BK101:=n1_
              have BK102:=n2_
              have HB:=n3_
              clear n0_ n1_ n2_ n3_
              have hHeld:w11.cell? ⟨gb101,0,none⟩=some (.int .i64 a1_0)∧w11.cell? ⟨gb101,1,none⟩=some (.slice A1_1 l1_1.length c1_1):=hS_
              refine norm_ (a':=?_) ?_ ?_
              rotate_left
              ·simp only [putAll,Act.put,sA,sZ,sS]
               rfl
              refine three_ (i:=5) (j:=7) (k:=10) (Ni:=some 12) (Nj:=some 14) (Nk:=some 6) #[I,I,I,I,I,I,I,O,O,O,O,O] #[I,I,I,I,I,O,I,I,O,O,O,O] #[I,I,I,I,I,O,I,O,O,O,I,O] rfl rfl rfl rfl rfl rfl (three_of HT_.out (by kernel_rfl)) (by decide) (by decide) (by decide) (fun K hK=>?_) (fun K hK=>?_) (fun K hK=>?_)
              ·skip
               refine Kd.R_append_rows_step k52 (w0:=w) w.heap.size (by rfl) (.tmp 9) (.tmp 11) 34 52 (.agg #[(.int .i64 0),(.int .i64 0)]) 16 rfl Try.underlying34 info52 rfl (by decide) (by omega) v104 y103 l1_1 _ _ _ (fun _=>True) (fun _=>False) rfl rfl ?aO ?aR (fun _ _ h=>h) (fun _ h=>h.elim) ?aF ?aB ?aS ?aL ?_
               (case aR=>repeat (first|exact (Kd.C_below HR1_1.out HB.out)|(with_reducible refine cA ?_ _)|(with_reducible refine cN ?_ _)|(with_reducible refine cD ?_)))
               (case aB=>exact (by repeat (first|(with_reducible first|exact HB.out|apply bA|apply bN|apply bD|refine bS ?_ GE101.out|refine bS ?_ GE102.out)|exact HB.out)))
               (case aF=>exact (fun _ _=>trivial))
               (case aO=>exact (by (with_reducible repeat (first|apply rA|apply rN|apply rD));exact HO105.out))
               (case aS=>exact (bZ (by repeat (first|(with_reducible first|exact HB.out|apply bA|apply bN|apply bD|refine bS ?_ GE101.out|refine bS ?_ GE102.out)|exact HB.out))))
               (case aL=>have:=LMc3.out;omega)
               intro v107 w12 ho hb hg hat
               rw [←Ny106.out] at ho
               have n0_:=mA (blk_grown (g:=gb101) (o:=.cells #[.int .i64 a1_0,.slice A1_1 l1_1.length c1_1] 50 (0,0)) (by (with_reducible repeat (first|refine kN ?_ _|refine kD ?_|refine kA ?_ _));exact BK101.out) hg (Kd.R_ne HO105.out BK101.out (by decide)))
               have n1_:=mA (blk_grown (g:=gb102) (o:=.cells #[.int .i64 0,.slice none 0 0] 50 (0,0)) (by (with_reducible repeat (first|refine kN ?_ _|refine kD ?_|refine kA ?_ _));exact BK102.out) hg (Kd.R_ne HO105.out BK102.out (by decide)))
               have n2_:=mA (hb)
               have n3_:=mA (ho)
               clear BK101
               clear BK102
               clear HB
               clear HO105
               have BK101:=n0_
               have BK102:=n1_
               have HB:=n2_
               have HO108:=n3_
               clear n0_ n1_ n2_ n3_
               clear ho hb hg hat
               refine hK.out _ _ ⟨(kC BK101.out 0).trans rfl,(kC BK101.out 1).trans rfl⟩ (fun hHeld=>?_)
               clear hK K
               refine norm_ (a':=?_) ?_ ?_
               rotate_left
               ·show Act.put _ (some 12) _=_
                simp only [Act.put,sA,sZ,sS,i64_w,i32_w]
                rfl
               exact norm_ (by first|(simp only [putAll,Act.put,sA,sZ,sS];done)|(simp only [putAll,Act.put,sA,sZ,sS];rfl)) (hJ2_5 (v104,v107) _ ⟨hHeld,(by (with_reducible repeat (first|apply rA|apply rN|apply rD));exact HO108.out),(by (with_reducible repeat (first|refine kN ?_ _|refine kD ?_|refine kA ?_ _));exact BK101.out),(by (with_reducible repeat (first|refine kN ?_ _|refine kD ?_|refine kA ?_ _));exact BK102.out),(by repeat (first|(with_reducible first|exact HB.out|apply bA|apply bN|apply bD|refine bS ?_ GE101.out|refine bS ?_ GE102.out)|exact HB.out))⟩)
              ·skip
               refine Kd.R_lit_step k52 _ 52 ?hg (N:=14) ?hd (xs:=([(⟨2,0⟩:S52)]:List (S52))) (inner:=[.int .i64 2,.int .i64 0]) (ok:=fun _=>True) (okp:=fun _=>True) ?hr ?hp (fun _ hk=>hk) trivial (Below.refl _ _) (Nat.le_refl _) (by simp) ?_;(case hd=>rfl);(case hg=>rfl);(case hr=>first|(go_simp;done)|(go_simp;rfl));(case hp=>exact (Reps.c2 (show Kd.M k52 _ _ _ (⟨2,0⟩:S52) [.int .i64 2,.int .i64 0] from (k52_mkM _ _ _ (⟨2,0⟩:S52) )) (Reps.none _ _)))
               intro v110 w12 ho13 hb hg_ hnew_
               clear hg_ hnew_
               (first|rw [←Ny109.out] at ho13|(simp only [Int.reduceToNat] at ho13;rw [←Ny109.out] at ho13))
               have n0_:=mA (Kd.R_elder' (by (with_reducible repeat (first|apply rA|apply rN|apply rD));exact HO105.out) (Kd.R_base ho13) hb)
               have n1_:=mA (Kd.R_lower (Kd.R_new' ho13 (rL (by (with_reducible repeat (first|apply rA|apply rN|apply rD));exact HO105.out))) (bZ (by repeat (first|(with_reducible first|exact HB.out|apply bA|apply bN|apply bD|refine bS ?_ GE101.out|refine bS ?_ GE102.out)|exact HB.out))))
               have n2_:=mA (blk_below (g:=gb101) (o:=.cells #[.int .i64 a1_0,.slice A1_1 l1_1.length c1_1] 50 (0,0)) (by (with_reducible repeat (first|refine kN ?_ _|refine kD ?_|refine kA ?_ _));exact BK101.out) hb)
               have n3_:=mA (blk_below (g:=gb102) (o:=.cells #[.int .i64 0,.slice none 0 0] 50 (0,0)) (by (with_reducible repeat (first|refine kN ?_ _|refine kD ?_|refine kA ?_ _));exact BK102.out) hb)
               have n4_:=mA (bT (by repeat (first|(with_reducible first|exact HB.out|apply bA|apply bN|apply bD|refine bS ?_ GE101.out|refine bS ?_ GE102.out)|exact HB.out)) hb)
               clear HO105
               clear BK101
               clear BK102
               clear HB
               have HO105:=n0_
               have HO111:=n1_
               have BK101:=n2_
               have BK102:=n3_
               have HB:=n4_
               clear n0_ n1_ n2_ n3_ n4_
               clear hb ho13
               refine hK.out _ _ ⟨(kC BK101.out 0).trans rfl,(kC BK101.out 1).trans rfl⟩ (fun hHeld=>?_)
               clear hK K
               refine norm_ (a':=?_) ?_ ?_
               rotate_left
               ·show Act.put _ (some 14) _=_
                simp only [Act.put,sA,sZ,sS,i64_w,i32_w]
                rfl
               exact norm_ (by first|(simp only [putAll,Act.put,sA,sZ,sS];done)|(simp only [putAll,Act.put,sA,sZ,sS];rfl)) (hJ2_7 (v104,v110) _ ⟨hHeld,(by (with_reducible repeat (first|apply rA|apply rN|apply rD));exact rM HO105.out (fun _ hk=>hk.2)),(by (with_reducible repeat (first|apply rA|apply rN|apply rD));exact rM HO111.out (fun _ hk=>hk.2)),(by (with_reducible repeat (first|refine kN ?_ _|refine kD ?_|refine kA ?_ _));exact BK101.out),(by (with_reducible repeat (first|refine kN ?_ _|refine kD ?_|refine kA ?_ _));exact BK102.out),(by repeat (first|(with_reducible first|exact HB.out|apply bA|apply bN|apply bD|refine bS ?_ GE101.out|refine bS ?_ GE102.out)|exact HB.out))⟩)
              ·skip
               refine box_step ?hg (N:=6) ?hd (cs:=#[.int .i64 0,.slice none 0 0]) (t:=50) ?hr ?_;(case hd=>rfl);(case hg=>rfl);(case hr=>first|(go_simp;done)|(go_simp;rfl))
               intro gb115 hg w12 hbox hb
               have n0_:=mA (rB (by (with_reducible repeat (first|apply rA|apply rN|apply rD));exact HO105.out) hb)
               have n1_:=mA (blk_below (g:=gb101) (o:=.cells #[.int .i64 a1_0,.slice A1_1 l1_1.length c1_1] 50 (0,0)) (by (with_reducible repeat (first|refine kN ?_ _|refine kD ?_|refine kA ?_ _));exact BK101.out) hb)
               have n2_:=mA (blk_below (g:=gb102) (o:=.cells #[.int .i64 0,.slice none 0 0] 50 (0,0)) (by (with_reducible repeat (first|refine kN ?_ _|refine kD ?_|refine kA ?_ _));exact BK102.out) hb)
               have n3_:=mA (bT (by repeat (first|(with_reducible first|exact HB.out|apply bA|apply bN|apply bD|refine bS ?_ GE101.out|refine bS ?_ GE102.out)|exact HB.out)) hb)
               have n4_:=mA (hbox)
               have n5_:=mA ((by rw [hg];exact (bZ (by repeat (first|(with_reducible first|exact HB.out|apply bA|apply bN|apply bD|refine bS ?_ GE101.out|refine bS ?_ GE102.out)|exact HB.out))):w.heap.size≤gb115))
               have n6_:=mA ((by rw [hg];exact (bZ (by repeat (first|(with_reducible first|exact HB.out|apply bA|apply bN|apply bD|refine bS ?_ GE101.out|refine bS ?_ GE102.out)|exact HB.out))):w.heap.size≤gb115))
               have n7_:=mA ((by rw [hg];exact Nat.ne_of_lt (blk_lt (g:=gb101) (o:=.cells #[.int .i64 a1_0,.slice A1_1 l1_1.length c1_1] 50 (0,0)) (by (with_reducible repeat (first|refine kN ?_ _|refine kD ?_|refine kA ?_ _));exact BK101.out)):gb101≠gb115))
               have n8_:=mA ((by rw [hg];exact Nat.ne_of_gt (blk_lt (g:=gb101) (o:=.cells #[.int .i64 a1_0,.slice A1_1 l1_1.length c1_1] 50 (0,0)) (by (with_reducible repeat (first|refine kN ?_ _|refine kD ?_|refine kA ?_ _));exact BK101.out)):gb115≠gb101))
               have n9_:=mA ((by rw [hg];exact Nat.ne_of_lt (blk_lt (g:=gb102) (o:=.cells #[.int .i64 0,.slice none 0 0] 50 (0,0)) (by (with_reducible repeat (first|refine kN ?_ _|refine kD ?_|refine kA ?_ _));exact BK102.out)):gb102≠gb115))
               have n10_:=mA ((by rw [hg];exact Nat.ne_of_gt (blk_lt (g:=gb102) (o:=.cells #[.int .i64 0,.slice none 0 0] 50 (0,0)) (by (with_reducible repeat (first|refine kN ?_ _|refine kD ?_|refine kA ?_ _));exact BK102.out)):gb115≠gb102))
               clear HO105
               clear BK101
               clear BK102
               clear HB
               have HO105:=n0_
               have BK101:=n1_
               have BK102:=n2_
               have HB:=n3_
               have BK115:=n4_
               have GW115:=n5_
               have GE115:=n6_
               have NB101_115:=n7_
               have NB115_101:=n8_
               have NB102_115:=n9_
               have NB115_102:=n10_
               clear n0_ n1_ n2_ n3_ n4_ n5_ n6_ n7_ n8_ n9_ n10_
               clear hb hbox hg
               refine hK.out _ _ ⟨(kC BK101.out 0).trans rfl,(kC BK101.out 1).trans rfl⟩ (fun hHeld=>?_)
               clear hK K
               refine norm_ (a':=?_) ?_ ?_
               rotate_left
               ·show Act.put _ (some 6) _=_
                simp only [Act.put,sA,sZ,sS,i64_w,i32_w]
                rfl
               exact norm_ (by first|(simp only [putAll,Act.put,sA,sZ,sS];done)|(simp only [putAll,Act.put,sA,sZ,sS];rfl)) (hJ2_10 (v104,gb115) _ ⟨hHeld,(by (with_reducible repeat (first|apply rA|apply rN|apply rD));exact HO105.out),(by (with_reducible repeat (first|refine kN ?_ _|refine kD ?_|refine kA ?_ _));exact BK101.out),(by (with_reducible repeat (first|refine kN ?_ _|refine kD ?_|refine kA ?_ _));exact BK102.out),(by (with_reducible repeat (first|refine kN ?_ _|refine kD ?_|refine kA ?_ _));exact BK115.out),GW115.out,GE115.out,NB101_115.out,NB115_101.out,NB102_115.out,NB115_102.out,(by repeat (first|(with_reducible first|exact HB.out|apply bA|apply bN|apply bD|refine bS ?_ GE101.out|refine bS ?_ GE102.out|refine bS ?_ GE115.out)|exact HB.out))⟩)
            ·skip
             rintro ⟨v110,gb115⟩ w12 ⟨hS_,h0_,h1_,h2_,h3_,h4_,h5_,h6_,h7_,h8_,h9_,h10_⟩
             have n0_:Aside0 (Kd.R k52 52 w12 w.heap.size (fun _=>True) v110 y109):=⟨h0_⟩
             have n1_:Aside0 (w12.heap[gb101]?=some (.cells #[.int .i64 a1_0,.slice A1_1 l1_1.length c1_1] 50 (0,0))):=⟨h1_⟩
             have n2_:Aside0 (w12.heap[gb102]?=some (.cells #[.int .i64 0,.slice none 0 0] 50 (0,0))):=⟨h2_⟩
             have n3_:Aside0 (w12.heap[gb115]?=some (.cells #[.int .i64 0,.slice none 0 0] 50 (0,0))):=⟨h3_⟩
             have n4_:Aside0 (w.heap.size≤gb115):=⟨h4_⟩
             have n5_:Aside0 (w.heap.size≤gb115):=⟨h5_⟩
             have n6_:Aside0 (gb101≠gb115):=⟨h6_⟩
             have n7_:Aside0 (gb115≠gb101):=⟨h7_⟩
             have n8_:Aside0 (gb102≠gb115):=⟨h8_⟩
             have n9_:Aside0 (gb115≠gb102):=⟨h9_⟩
             have n10_:Aside0 (Below w.heap.size w w12):=⟨h10_⟩
             clear BK101
             clear BK102
             clear HB
             clear h0_ h1_ h2_ h3_ h4_ h5_ h6_ h7_ h8_ h9_ h10_
             have HO111:=n0_
             have BK101:=n1_
             have BK102:=n2_
             have BK115:=n3_
             have GW115:=n4_
             have GE115:=n5_
             have NB101_115:=n6_
             have NB115_101:=n7_
             have NB102_115:=n8_
             have NB115_102:=n9_
             have HB:=n10_
             clear n0_ n1_ n2_ n3_ n4_ n5_ n6_ n7_ n8_ n9_ n10_
             have hHeld:w12.cell? ⟨gb101,0,none⟩=some (.int .i64 a1_0)∧w12.cell? ⟨gb101,1,none⟩=some (.slice A1_1 l1_1.length c1_1):=hS_
             refine norm_ (a':=?_) ?_ ?_
             rotate_left
             ·simp only [putAll,Act.put,sA,sZ,sS]
              rfl
             refine one_ (i:=2) (N:=some 9) #[I,I,I,I,I,O,I,I,O,O,I,O] rfl rfl (one_of HT_.out (by kernel_rfl)) (by decide) (fun K hK=>?_)
             refine Kd.R_lit_step k52 _ 52 ?hg (N:=9) ?hd (xs:=([]:List (S52))) (inner:=[]) (ok:=fun _=>True) (okp:=fun _=>True) ?hr ?hp (fun _ hk=>hk) trivial (Below.refl _ _) (Nat.le_refl _) (by simp) ?_;(case hd=>rfl);(case hg=>rfl);(case hr=>first|(go_simp;done)|(go_simp;rfl));(case hp=>exact (Reps.none _ _))
             intro v104 w13 ho14 hb hg_ hnew_
             clear hg_ hnew_
             (first|rw [←Ny103.out] at ho14|(simp only [Int.reduceToNat] at ho14;rw [←Ny103.out] at ho14))
             have n0_:=mA (Kd.R_elder' (by (with_reducible repeat (first|apply rA|apply rN|apply rD));exact HO111.out) (Kd.R_base ho14) hb)
             have n1_:=mA (Kd.R_lower (Kd.R_new' ho14 (rL (by (with_reducible repeat (first|apply rA|apply rN|apply rD));exact HO111.out))) (bZ (by repeat (first|(with_reducible first|exact HB.out|apply bA|apply bN|apply bD|refine bS ?_ GE101.out|refine bS ?_ GE102.out|refine bS ?_ GE115.out)|exact HB.out))))
             have n2_:=mA (blk_below (g:=gb101) (o:=.cells #[.int .i64 a1_0,.slice A1_1 l1_1.length c1_1] 50 (0,0)) (by (with_reducible repeat (first|refine kN ?_ _|refine kD ?_|refine kA ?_ _));exact BK101.out) hb)
             have n3_:=mA (blk_below (g:=gb102) (o:=.cells #[.int .i64 0,.slice none 0 0] 50 (0,0)) (by (with_reducible repeat (first|refine kN ?_ _|refine kD ?_|refine kA ?_ _));exact BK102.out) hb)
             have n4_:=mA (blk_below (g:=gb115) (o:=.cells #[.int .i64 0,.slice none 0 0] 50 (0,0)) (by (with_reducible repeat (first|refine kN ?_ _|refine kD ?_|refine kA ?_ _));exact BK115.out) hb)
             have n5_:=mA (bT (by repeat (first|(with_reducible first|exact HB.out|apply bA|apply bN|apply bD|refine bS ?_ GE101.out|refine bS ?_ GE102.out|refine bS ?_ GE115.out)|exact HB.out)) hb)
             clear HO111
             clear BK101
             clear BK102
             clear BK115
             clear HB
             have HO111:=n0_
             have HO105:=n1_
             have BK101:=n2_
             have BK102:=n3_
             have BK115:=n4_
             have HB:=n5_
             clear n0_ n1_ n2_ n3_ n4_ n5_
             clear hb ho14
             refine hK.out _ _ ⟨(kC BK101.out 0).trans rfl,(kC BK101.out 1).trans rfl⟩ (fun hHeld=>?_)
             clear hK K
             refine norm_ (a':=?_) ?_ ?_
             rotate_left
             ·show Act.put _ (some 9) _=_
              simp only [Act.put,sA,sZ,sS,i64_w,i32_w]
              rfl
             exact norm_ (by first|(simp only [putAll,Act.put,sA,sZ,sS];done)|(simp only [putAll,Act.put,sA,sZ,sS];rfl)) (hJ2_7_10 (v104,v110,gb115) _ ⟨hHeld,(by (with_reducible repeat (first|apply rA|apply rN|apply rD));exact rM HO105.out (fun _ hk=>hk.2)),(by (with_reducible repeat (first|apply rA|apply rN|apply rD));exact rM HO111.out (fun _ hk=>hk.2)),(by (with_reducible repeat (first|refine kN ?_ _|refine kD ?_|refine kA ?_ _));exact BK101.out),(by (with_reducible repeat (first|refine kN ?_ _|refine kD ?_|refine kA ?_ _));exact BK102.out),(by (with_reducible repeat (first|refine kN ?_ _|refine kD ?_|refine kA ?_ _));exact BK115.out),GW115.out,GE115.out,NB101_115.out,NB115_101.out,NB102_115.out,NB115_102.out,(by repeat (first|(with_reducible first|exact HB.out|apply bA|apply bN|apply bD|refine bS ?_ GE101.out|refine bS ?_ GE102.out|refine bS ?_ GE115.out)|exact HB.out))⟩)
           ·skip
            rintro ⟨v104,gb115⟩ w12 ⟨hS_,h0_,h1_,h2_,h3_,h4_,h5_,h6_,h7_,h8_,h9_,h10_⟩
            have n0_:Aside0 (Kd.R k52 52 w12 w.heap.size (fun _=>True) v104 y103):=⟨h0_⟩
            have n1_:Aside0 (w12.heap[gb101]?=some (.cells #[.int .i64 a1_0,.slice A1_1 l1_1.length c1_1] 50 (0,0))):=⟨h1_⟩
            have n2_:Aside0 (w12.heap[gb102]?=some (.cells #[.int .i64 0,.slice none 0 0] 50 (0,0))):=⟨h2_⟩
            have n3_:Aside0 (w12.heap[gb115]?=some (.cells #[.int .i64 0,.slice none 0 0] 50 (0,0))):=⟨h3_⟩
            have n4_:Aside0 (w.heap.size≤gb115):=⟨h4_⟩
            have n5_:Aside0 (w.heap.size≤gb115):=⟨h5_⟩
            have n6_:Aside0 (gb101≠gb115):=⟨h6_⟩
            have n7_:Aside0 (gb115≠gb101):=⟨h7_⟩
            have n8_:Aside0 (gb102≠gb115):=⟨h8_⟩
            have n9_:Aside0 (gb115≠gb102):=⟨h9_⟩
            have n10_:Aside0 (Below w.heap.size w w12):=⟨h10_⟩
            clear BK101
            clear BK102
            clear HB
            clear h0_ h1_ h2_ h3_ h4_ h5_ h6_ h7_ h8_ h9_ h10_
            have HO105:=n0_
            have BK101:=n1_
            have BK102:=n2_
            have BK115:=n3_
            have GW115:=n4_
            have GE115:=n5_
            have NB101_115:=n6_
            have NB115_101:=n7_
            have NB102_115:=n8_
            have NB115_102:=n9_
            have HB:=n10_
            clear n0_ n1_ n2_ n3_ n4_ n5_ n6_ n7_ n8_ n9_ n10_
            have hHeld:w12.cell? ⟨gb101,0,none⟩=some (.int .i64 a1_0)∧w12.cell? ⟨gb101,1,none⟩=some (.slice A1_1 l1_1.length c1_1):=hS_
            refine norm_ (a':=?_) ?_ ?_
            rotate_left
            ·simp only [putAll,Act.put,sA,sZ,sS]
             rfl
            refine two_ (i:=5) (j:=7) (Ni:=some 12) (Nj:=some 14) #[I,I,I,I,I,I,I,O,O,O,I,O] #[I,I,I,I,I,O,I,I,O,O,I,O] rfl rfl rfl rfl (two_of HT_.out (by kernel_rfl)) (by decide) (by decide) (fun K hK=>?_) (fun K hK=>?_)
            ·skip
             refine Kd.R_append_rows_step k52 (w0:=w) w.heap.size (by rfl) (.tmp 9) (.tmp 11) 34 52 (.agg #[(.int .i64 0),(.int .i64 0)]) 16 rfl Try.underlying34 info52 rfl (by decide) (by omega) v104 y103 l1_1 _ _ _ (fun _=>True) (fun _=>False) rfl rfl ?aO ?aR (fun _ _ h=>h) (fun _ h=>h.elim) ?aF ?aB ?aS ?aL ?_
             (case aR=>repeat (first|exact (Kd.C_below HR1_1.out HB.out)|(with_reducible refine cA ?_ _)|(with_reducible refine cN ?_ _)|(with_reducible refine cD ?_)))
             (case aB=>exact (by repeat (first|(with_reducible first|exact HB.out|apply bA|apply bN|apply bD|refine bS ?_ GE101.out|refine bS ?_ GE102.out|refine bS ?_ GE115.out)|exact HB.out)))
             (case aF=>exact (fun _ _=>trivial))
             (case aO=>exact (by (with_reducible repeat (first|apply rA|apply rN|apply rD));exact HO105.out))
             (case aS=>exact (bZ (by repeat (first|(with_reducible first|exact HB.out|apply bA|apply bN|apply bD|refine bS ?_ GE101.out|refine bS ?_ GE102.out|refine bS ?_ GE115.out)|exact HB.out))))
             (case aL=>have:=LMc3.out;omega)
             intro v107 w13 ho hb hg hat
             rw [←Ny106.out] at ho
             have n0_:=mA (blk_grown (g:=gb101) (o:=.cells #[.int .i64 a1_0,.slice A1_1 l1_1.length c1_1] 50 (0,0)) (by (with_reducible repeat (first|refine kN ?_ _|refine kD ?_|refine kA ?_ _));exact BK101.out) hg (Kd.R_ne HO105.out BK101.out (by decide)))
             have n1_:=mA (blk_grown (g:=gb102) (o:=.cells #[.int .i64 0,.slice none 0 0] 50 (0,0)) (by (with_reducible repeat (first|refine kN ?_ _|refine kD ?_|refine kA ?_ _));exact BK102.out) hg (Kd.R_ne HO105.out BK102.out (by decide)))
             have n2_:=mA (blk_grown (g:=gb115) (o:=.cells #[.int .i64 0,.slice none 0 0] 50 (0,0)) (by (with_reducible repeat (first|refine kN ?_ _|refine kD ?_|refine kA ?_ _));exact BK115.out) hg (Kd.R_ne HO105.out BK115.out (by decide)))
             have n3_:=mA (hb)
             have n4_:=mA (ho)
             clear BK101
             clear BK102
             clear BK115
             clear HB
             clear HO105
             have BK101:=n0_
             have BK102:=n1_
             have BK115:=n2_
             have HB:=n3_
             have HO108:=n4_
             clear n0_ n1_ n2_ n3_ n4_
             clear ho hb hg hat
             refine hK.out _ _ ⟨(kC BK101.out 0).trans rfl,(kC BK101.out 1).trans rfl⟩ (fun hHeld=>?_)
             clear hK K
             refine norm_ (a':=?_) ?_ ?_
             rotate_left
             ·show Act.put _ (some 12) _=_
              simp only [Act.put,sA,sZ,sS,i64_w,i32_w]
              rfl
             exact norm_ (by first|(simp only [putAll,Act.put,sA,sZ,sS];done)|(simp only [putAll,Act.put,sA,sZ,sS];rfl)) (hJ2_5_10 (v104,v107,gb115) _ ⟨hHeld,(by (with_reducible repeat (first|apply rA|apply rN|apply rD));exact HO108.out),(by (with_reducible repeat (first|refine kN ?_ _|refine kD ?_|refine kA ?_ _));exact BK101.out),(by (with_reducible repeat (first|refine kN ?_ _|refine kD ?_|refine kA ?_ _));exact BK102.out),(by (with_reducible repeat (first|refine kN ?_ _|refine kD ?_|refine kA ?_ _));exact BK115.out),GW115.out,GE115.out,NB101_115.out,NB115_101.out,NB102_115.out,NB115_102.out,(by repeat (first|(with_reducible first|exact HB.out|apply bA|apply bN|apply bD|refine bS ?_ GE101.out|refine bS ?_ GE102.out|refine bS ?_ GE115.out)|exact HB.out))⟩)
            ·skip
             refine Kd.R_lit_step k52 _ 52 ?hg (N:=14) ?hd (xs:=([(⟨2,0⟩:S52)]:List (S52))) (inner:=[.int .i64 2,.int .i64 0]) (ok:=fun _=>True) (okp:=fun _=>True) ?hr ?hp (fun _ hk=>hk) trivial (Below.refl _ _) (Nat.le_refl _) (by simp) ?_;(case hd=>rfl);(case hg=>rfl);(case hr=>first|(go_simp;done)|(go_simp;rfl));(case hp=>exact (Reps.c2 (show Kd.M k52 _ _ _ (⟨2,0⟩:S52) [.int .i64 2,.int .i64 0] from (k52_mkM _ _ _ (⟨2,0⟩:S52) )) (Reps.none _ _)))
             intro v110 w13 ho14 hb hg_ hnew_
             clear hg_ hnew_
             (first|rw [←Ny109.out] at ho14|(simp only [Int.reduceToNat] at ho14;rw [←Ny109.out] at ho14))
             have n0_:=mA (Kd.R_elder' (by (with_reducible repeat (first|apply rA|apply rN|apply rD));exact HO105.out) (Kd.R_base ho14) hb)
             have n1_:=mA (Kd.R_lower (Kd.R_new' ho14 (rL (by (with_reducible repeat (first|apply rA|apply rN|apply rD));exact HO105.out))) (bZ (by repeat (first|(with_reducible first|exact HB.out|apply bA|apply bN|apply bD|refine bS ?_ GE101.out|refine bS ?_ GE102.out|refine bS ?_ GE115.out)|exact HB.out))))
             have n2_:=mA (blk_below (g:=gb101) (o:=.cells #[.int .i64 a1_0,.slice A1_1 l1_1.length c1_1] 50 (0,0)) (by (with_reducible repeat (first|refine kN ?_ _|refine kD ?_|refine kA ?_ _));exact BK101.out) hb)
             have n3_:=mA (blk_below (g:=gb102) (o:=.cells #[.int .i64 0,.slice none 0 0] 50 (0,0)) (by (with_reducible repeat (first|refine kN ?_ _|refine kD ?_|refine kA ?_ _));exact BK102.out) hb)
             have n4_:=mA (blk_below (g:=gb115) (o:=.cells #[.int .i64 0,.slice none 0 0] 50 (0,0)) (by (with_reducible repeat (first|refine kN ?_ _|refine kD ?_|refine kA ?_ _));exact BK115.out) hb)
             have n5_:=mA (bT (by repeat (first|(with_reducible first|exact HB.out|apply bA|apply bN|apply bD|refine bS ?_ GE101.out|refine bS ?_ GE102.out|refine bS ?_ GE115.out)|exact HB.out)) hb)
             clear HO105
             clear BK101
             clear BK102
             clear BK115
             clear HB
             have HO105:=n0_
             have HO111:=n1_
             have BK101:=n2_
             have BK102:=n3_
             have BK115:=n4_
             have HB:=n5_
             clear n0_ n1_ n2_ n3_ n4_ n5_
             clear hb ho14
             refine hK.out _ _ ⟨(kC BK101.out 0).trans rfl,(kC BK101.out 1).trans rfl⟩ (fun hHeld=>?_)
             clear hK K
             refine norm_ (a':=?_) ?_ ?_
             rotate_left
             ·show Act.put _ (some 14) _=_
              simp only [Act.put,sA,sZ,sS,i64_w,i32_w]
              rfl
             exact norm_ (by first|(simp only [putAll,Act.put,sA,sZ,sS];done)|(simp only [putAll,Act.put,sA,sZ,sS];rfl)) (hJ2_7_10 (v104,v110,gb115) _ ⟨hHeld,(by (with_reducible repeat (first|apply rA|apply rN|apply rD));exact rM HO105.out (fun _ hk=>hk.2)),(by (with_reducible repeat (first|apply rA|apply rN|apply rD));exact rM HO111.out (fun _ hk=>hk.2)),(by (with_reducible repeat (first|refine kN ?_ _|refine kD ?_|refine kA ?_ _));exact BK101.out),(by (with_reducible repeat (first|refine kN ?_ _|refine kD ?_|refine kA ?_ _));exact BK102.out),(by (with_reducible repeat (first|refine kN ?_ _|refine kD ?_|refine kA ?_ _));exact BK115.out),GW115.out,GE115.out,NB101_115.out,NB115_101.out,NB102_115.out,NB115_102.out,(by repeat (first|(with_reducible first|exact HB.out|apply bA|apply bN|apply bD|refine bS ?_ GE101.out|refine bS ?_ GE102.out|refine bS ?_ GE115.out)|exact HB.out))⟩)
          ·skip
           rintro ⟨v104,v110⟩ w13 ⟨hS_,h0_,h1_,h2_,h3_,h4_⟩
           have n0_:Aside0 (Kd.R k52 52 w13 w.heap.size (fun k_=>some k_≠(v110:Value).ownBlock) v104 y103):=⟨h0_⟩
           have n1_:Aside0 (Kd.R k52 52 w13 w.heap.size (fun k_=>some k_≠(v104:Value).ownBlock) v110 y109):=⟨h1_⟩
           have n2_:Aside0 (w13.heap[gb101]?=some (.cells #[.int .i64 a1_0,.slice A1_1 l1_1.length c1_1] 50 (0,0))):=⟨h2_⟩
           have n3_:Aside0 (w13.heap[gb102]?=some (.cells #[.int .i64 0,.slice none 0 0] 50 (0,0))):=⟨h3_⟩
           have n4_:Aside0 (Below w.heap.size w w13):=⟨h4_⟩
           clear BK101
           clear BK102
           clear HB
           clear h0_ h1_ h2_ h3_ h4_
           have HO105:=n0_
           have HO111:=n1_
           have BK101:=n2_
           have BK102:=n3_
           have HB:=n4_
           clear n0_ n1_ n2_ n3_ n4_
           have hHeld:w13.cell? ⟨gb101,0,none⟩=some (.int .i64 a1_0)∧w13.cell? ⟨gb101,1,none⟩=some (.slice A1_1 l1_1.length c1_1):=hS_
           refine norm_ (a':=?_) ?_ ?_
           rotate_left
           ·simp only [putAll,Act.put,sA,sZ,sS]
            rfl
           refine two_ (i:=5) (j:=10) (Ni:=some 12) (Nj:=some 6) #[I,I,I,I,I,I,I,I,O,O,O,O] #[I,I,I,I,I,O,I,I,O,O,I,O] rfl rfl rfl rfl (two_of HT_.out (by kernel_rfl)) (by decide) (by decide) (fun K hK=>?_) (fun K hK=>?_)
           ·skip
            refine Kd.R_append_rows_step k52 (w0:=w) w.heap.size (by rfl) (.tmp 9) (.tmp 11) 34 52 (.agg #[(.int .i64 0),(.int .i64 0)]) 16 rfl Try.underlying34 info52 rfl (by decide) (by omega) v104 y103 l1_1 _ _ _ (fun k_=>some k_≠(v110:Value).ownBlock) (fun _=>False) rfl rfl ?aO ?aR (fun _ _ h=>h) (fun _ h=>h.elim) ?aF ?aB ?aS ?aL ?_
            (case aR=>repeat (first|exact (Kd.C_below HR1_1.out HB.out)|(with_reducible refine cA ?_ _)|(with_reducible refine cN ?_ _)|(with_reducible refine cD ?_)))
            (case aB=>exact (by repeat (first|(with_reducible first|exact HB.out|apply bA|apply bN|apply bD|refine bS ?_ GE101.out|refine bS ?_ GE102.out)|exact HB.out)))
            (case aF=>exact (fun k_ hk=>Kd.fresh' (rL (by (with_reducible repeat (first|apply rA|apply rN|apply rD));exact HO111.out)) k_ hk))
            (case aO=>exact (by (with_reducible repeat (first|apply rA|apply rN|apply rD));exact HO105.out))
            (case aS=>exact (bZ (by repeat (first|(with_reducible first|exact HB.out|apply bA|apply bN|apply bD|refine bS ?_ GE101.out|refine bS ?_ GE102.out)|exact HB.out))))
            (case aL=>have:=LMc3.out;omega)
            intro v107 w14 ho hb hg hat
            rw [←Ny106.out] at ho
            have n0_:=mA (blk_grown (g:=gb101) (o:=.cells #[.int .i64 a1_0,.slice A1_1 l1_1.length c1_1] 50 (0,0)) (by (with_reducible repeat (first|refine kN ?_ _|refine kD ?_|refine kA ?_ _));exact BK101.out) hg (Kd.R_ne HO105.out BK101.out (by decide)))
            have n1_:=mA (blk_grown (g:=gb102) (o:=.cells #[.int .i64 0,.slice none 0 0] 50 (0,0)) (by (with_reducible repeat (first|refine kN ?_ _|refine kD ?_|refine kA ?_ _));exact BK102.out) hg (Kd.R_ne HO105.out BK102.out (by decide)))
            have n2_:=mA (Kd.R_after (ok:=(fun _=>True)) (by (with_reducible repeat (first|apply rA|apply rN|apply rD));exact rM HO111.out (fun _ hk=>⟨trivial,hk⟩)) hg hat)
            have n3_:=mA (hb)
            have n4_:=mA (ho)
            clear BK101
            clear BK102
            clear HO111
            clear HB
            clear HO105
            have BK101:=n0_
            have BK102:=n1_
            have HO111:=n2_
            have HB:=n3_
            have HO108:=n4_
            clear n0_ n1_ n2_ n3_ n4_
            clear ho hb hg hat
            refine hK.out _ _ ⟨(kC BK101.out 0).trans rfl,(kC BK101.out 1).trans rfl⟩ (fun hHeld=>?_)
            clear hK K
            refine norm_ (a':=?_) ?_ ?_
            rotate_left
            ·show Act.put _ (some 12) _=_
             simp only [Act.put,sA,sZ,sS,i64_w,i32_w]
             rfl
            exact norm_ (by first|(simp only [putAll,Act.put,sA,sZ,sS];done)|(simp only [putAll,Act.put,sA,sZ,sS];rfl)) (hJ2_5_7 (v104,v107,v110) _ ⟨hHeld,(by (with_reducible repeat (first|apply rA|apply rN|apply rD));exact HO108.out),(by (with_reducible repeat (first|apply rA|apply rN|apply rD));exact rM HO111.out (fun _ hk=>hk.2)),(by (with_reducible repeat (first|refine kN ?_ _|refine kD ?_|refine kA ?_ _));exact BK101.out),(by (with_reducible repeat (first|refine kN ?_ _|refine kD ?_|refine kA ?_ _));exact BK102.out),(by repeat (first|(with_reducible first|exact HB.out|apply bA|apply bN|apply bD|refine bS ?_ GE101.out|refine bS ?_ GE102.out)|exact HB.out))⟩)
           ·skip
            refine box_step ?hg (N:=6) ?hd (cs:=#[.int .i64 0,.slice none 0 0]) (t:=50) ?hr ?_;(case hd=>rfl);(case hg=>rfl);(case hr=>first|(go_simp;done)|(go_simp;rfl))
            intro gb115 hg w14 hbox hb
            have n0_:=mA (rB (by (with_reducible repeat (first|apply rA|apply rN|apply rD));exact HO105.out) hb)
            have n1_:=mA (rB (by (with_reducible repeat (first|apply rA|apply rN|apply rD));exact HO111.out) hb)
            have n2_:=mA (blk_below (g:=gb101) (o:=.cells #[.int .i64 a1_0,.slice A1_1 l1_1.length c1_1] 50 (0,0)) (by (with_reducible repeat (first|refine kN ?_ _|refine kD ?_|refine kA ?_ _));exact BK101.out) hb)
            have n3_:=mA (blk_below (g:=gb102) (o:=.cells #[.int .i64 0,.slice none 0 0] 50 (0,0)) (by (with_reducible repeat (first|refine kN ?_ _|refine kD ?_|refine kA ?_ _));exact BK102.out) hb)
            have n4_:=mA (bT (by repeat (first|(with_reducible first|exact HB.out|apply bA|apply bN|apply bD|refine bS ?_ GE101.out|refine bS ?_ GE102.out)|exact HB.out)) hb)
            have n5_:=mA (hbox)
            have n6_:=mA ((by rw [hg];exact (bZ (by repeat (first|(with_reducible first|exact HB.out|apply bA|apply bN|apply bD|refine bS ?_ GE101.out|refine bS ?_ GE102.out)|exact HB.out))):w.heap.size≤gb115))
            have n7_:=mA ((by rw [hg];exact (bZ (by repeat (first|(with_reducible first|exact HB.out|apply bA|apply bN|apply bD|refine bS ?_ GE101.out|refine bS ?_ GE102.out)|exact HB.out))):w.heap.size≤gb115))
            have n8_:=mA ((by rw [hg];exact Nat.ne_of_lt (blk_lt (g:=gb101) (o:=.cells #[.int .i64 a1_0,.slice A1_1 l1_1.length c1_1] 50 (0,0)) (by (with_reducible repeat (first|refine kN ?_ _|refine kD ?_|refine kA ?_ _));exact BK101.out)):gb101≠gb115))
            have n9_:=mA ((by rw [hg];exact Nat.ne_of_gt (blk_lt (g:=gb101) (o:=.cells #[.int .i64 a1_0,.slice A1_1 l1_1.length c1_1] 50 (0,0)) (by (with_reducible repeat (first|refine kN ?_ _|refine kD ?_|refine kA ?_ _));exact BK101.out)):gb115≠gb101))
            have n10_:=mA ((by rw [hg];exact Nat.ne_of_lt (blk_lt (g:=gb102) (o:=.cells #[.int .i64 0,.slice none 0 0] 50 (0,0)) (by (with_reducible repeat (first|refine kN ?_ _|refine kD ?_|refine kA ?_ _));exact BK102.out)):gb102≠gb115))
            have n11_:=mA ((by rw [hg];exact Nat.ne_of_gt (blk_lt (g:=gb102) (o:=.cells #[.int .i64 0,.slice none 0 0] 50 (0,0)) (by (with_reducible repeat (first|refine kN ?_ _|refine kD ?_|refine kA ?_ _));exact BK102.out)):gb115≠gb102))
            clear HO105
            clear HO111
            clear BK101
            clear BK102
            clear HB
            have HO105:=n0_
            have HO111:=n1_
            have BK101:=n2_
            have BK102:=n3_
            have HB:=n4_
            have BK115:=n5_
            have GW115:=n6_
            have GE115:=n7_
            have NB101_115:=n8_
            have NB115_101:=n9_
            have NB102_115:=n10_
            have NB115_102:=n11_
            clear n0_ n1_ n2_ n3_ n4_ n5_ n6_ n7_ n8_ n9_ n10_ n11_
            clear hb hbox hg
            refine hK.out _ _ ⟨(kC BK101.out 0).trans rfl,(kC BK101.out 1).trans rfl⟩ (fun hHeld=>?_)
            clear hK K
            refine norm_ (a':=?_) ?_ ?_
            rotate_left
            ·show Act.put _ (some 6) _=_
             simp only [Act.put,sA,sZ,sS,i64_w,i32_w]
             rfl
            exact norm_ (by first|(simp only [putAll,Act.put,sA,sZ,sS];done)|(simp only [putAll,Act.put,sA,sZ,sS];rfl)) (hJ2_7_10 (v104,v110,gb115) _ ⟨hHeld,(by (with_reducible repeat (first|apply rA|apply rN|apply rD));exact HO105.out),(by (with_reducible repeat (first|apply rA|apply rN|apply rD));exact HO111.out),(by (with_reducible repeat (first|refine kN ?_ _|refine kD ?_|refine kA ?_ _));exact BK101.out),(by (with_reducible repeat (first|refine kN ?_ _|refine kD ?_|refine kA ?_ _));exact BK102.out),(by (with_reducible repeat (first|refine kN ?_ _|refine kD ?_|refine kA ?_ _));exact BK115.out),GW115.out,GE115.out,NB101_115.out,NB115_101.out,NB102_115.out,NB115_102.out,(by repeat (first|(with_reducible first|exact HB.out|apply bA|apply bN|apply bD|refine bS ?_ GE101.out|refine bS ?_ GE102.out|refine bS ?_ GE115.out)|exact HB.out))⟩)
         ·skip
          rintro ⟨v104,v107⟩ w12 ⟨hS_,h0_,h1_,h2_,h3_⟩
          have n0_:Aside0 (Kd.R k52 52 w12 w.heap.size (fun _=>True) v107 y106):=⟨h0_⟩
          have n1_:Aside0 (w12.heap[gb101]?=some (.cells #[.int .i64 a1_0,.slice A1_1 l1_1.length c1_1] 50 (0,0))):=⟨h1_⟩
          have n2_:Aside0 (w12.heap[gb102]?=some (.cells #[.int .i64 0,.slice none 0 0] 50 (0,0))):=⟨h2_⟩
          have n3_:Aside0 (Below w.heap.size w w12):=⟨h3_⟩
          clear BK101
          clear BK102
          clear HB
          clear h0_ h1_ h2_ h3_
          have HO108:=n0_
          have BK101:=n1_
          have BK102:=n2_
          have HB:=n3_
          clear n0_ n1_ n2_ n3_
          have hHeld:w12.cell? ⟨gb101,0,none⟩=some (.int .i64 a1_0)∧w12.cell? ⟨gb101,1,none⟩=some (.slice A1_1 l1_1.length c1_1):=hS_
          refine norm_ (a':=?_) ?_ ?_
          rotate_left
          ·simp only [putAll,Act.put,sA,sZ,sS]
           rfl
          refine two_ (i:=7) (j:=10) (Ni:=some 14) (Nj:=some 6) #[I,I,I,I,I,I,I,I,O,O,O,O] #[I,I,I,I,I,I,I,O,O,O,I,O] rfl rfl rfl rfl (two_of HT_.out (by kernel_rfl)) (by decide) (by decide) (fun K hK=>?_) (fun K hK=>?_)
          ·skip
           refine Kd.R_lit_step k52 _ 52 ?hg (N:=14) ?hd (xs:=([(⟨2,0⟩:S52)]:List (S52))) (inner:=[.int .i64 2,.int .i64 0]) (ok:=fun _=>True) (okp:=fun _=>True) ?hr ?hp (fun _ hk=>hk) trivial (Below.refl _ _) (Nat.le_refl _) (by simp) ?_;(case hd=>rfl);(case hg=>rfl);(case hr=>first|(go_simp;done)|(go_simp;rfl));(case hp=>exact (Reps.c2 (show Kd.M k52 _ _ _ (⟨2,0⟩:S52) [.int .i64 2,.int .i64 0] from (k52_mkM _ _ _ (⟨2,0⟩:S52) )) (Reps.none _ _)))
           intro v110 w13 ho14 hb hg_ hnew_
           clear hg_ hnew_
           (first|rw [←Ny109.out] at ho14|(simp only [Int.reduceToNat] at ho14;rw [←Ny109.out] at ho14))
           have n0_:=mA (Kd.R_elder' (by (with_reducible repeat (first|apply rA|apply rN|apply rD));exact HO108.out) (Kd.R_base ho14) hb)
           have n1_:=mA (Kd.R_lower (Kd.R_new' ho14 (rL (by (with_reducible repeat (first|apply rA|apply rN|apply rD));exact HO108.out))) (bZ (by repeat (first|(with_reducible first|exact HB.out|apply bA|apply bN|apply bD|refine bS ?_ GE101.out|refine bS ?_ GE102.out)|exact HB.out))))
           have n2_:=mA (blk_below (g:=gb101) (o:=.cells #[.int .i64 a1_0,.slice A1_1 l1_1.length c1_1] 50 (0,0)) (by (with_reducible repeat (first|refine kN ?_ _|refine kD ?_|refine kA ?_ _));exact BK101.out) hb)
           have n3_:=mA (blk_below (g:=gb102) (o:=.cells #[.int .i64 0,.slice none 0 0] 50 (0,0)) (by (with_reducible repeat (first|refine kN ?_ _|refine kD ?_|refine kA ?_ _));exact BK102.out) hb)
           have n4_:=mA (bT (by repeat (first|(with_reducible first|exact HB.out|apply bA|apply bN|apply bD|refine bS ?_ GE101.out|refine bS ?_ GE102.out)|exact HB.out)) hb)
           clear HO108
           clear BK101
           clear BK102
           clear HB
           have HO108:=n0_
           have HO111:=n1_
           have BK101:=n2_
           have BK102:=n3_
           have HB:=n4_
           clear n0_ n1_ n2_ n3_ n4_
           clear hb ho14
           refine hK.out _ _ ⟨(kC BK101.out 0).trans rfl,(kC BK101.out 1).trans rfl⟩ (fun hHeld=>?_)
           clear hK K
           refine norm_ (a':=?_) ?_ ?_
           rotate_left
           ·show Act.put _ (some 14) _=_
            simp only [Act.put,sA,sZ,sS,i64_w,i32_w]
            rfl
           exact norm_ (by first|(simp only [putAll,Act.put,sA,sZ,sS];done)|(simp only [putAll,Act.put,sA,sZ,sS];rfl)) (hJ2_5_7 (v104,v107,v110) _ ⟨hHeld,(by (with_reducible repeat (first|apply rA|apply rN|apply rD));exact rM HO108.out (fun _ hk=>hk.2)),(by (with_reducible repeat (first|apply rA|apply rN|apply rD));exact rM HO111.out (fun _ hk=>hk.2)),(by (with_reducible repeat (first|refine kN ?_ _|refine kD ?_|refine kA ?_ _));exact BK101.out),(by (with_reducible repeat (first|refine kN ?_ _|refine kD ?_|refine kA ?_ _));exact BK102.out),(by repeat (first|(with_reducible first|exact HB.out|apply bA|apply bN|apply bD|refine bS ?_ GE101.out|refine bS ?_ GE102.out)|exact HB.out))⟩)
          ·skip
           refine box_step ?hg (N:=6) ?hd (cs:=#[.int .i64 0,.slice none 0 0]) (t:=50) ?hr ?_;(case hd=>rfl);(case hg=>rfl);(case hr=>first|(go_simp;done)|(go_simp;rfl))
           intro gb115 hg w13 hbox hb
           have n0_:=mA (rB (by (with_reducible repeat (first|apply rA|apply rN|apply rD));exact HO108.out) hb)
           have n1_:=mA (blk_below (g:=gb101) (o:=.cells #[.int .i64 a1_0,.slice A1_1 l1_1.length c1_1] 50 (0,0)) (by (with_reducible repeat (first|refine kN ?_ _|refine kD ?_|refine kA ?_ _));exact BK101.out) hb)
           have n2_:=mA (blk_below (g:=gb102) (o:=.cells #[.int .i64 0,.slice none 0 0] 50 (0,0)) (by (with_reducible repeat (first|refine kN ?_ _|refine kD ?_|refine kA ?_ _));exact BK102.out) hb)
           have n3_:=mA (bT (by repeat (first|(with_reducible first|exact HB.out|apply bA|apply bN|apply bD|refine bS ?_ GE101.out|refine bS ?_ GE102.out)|exact HB.out)) hb)
           have n4_:=mA (hbox)
           have n5_:=mA ((by rw [hg];exact (bZ (by repeat (first|(with_reducible first|exact HB.out|apply bA|apply bN|apply bD|refine bS ?_ GE101.out|refine bS ?_ GE102.out)|exact HB.out))):w.heap.size≤gb115))
           have n6_:=mA ((by rw [hg];exact (bZ (by repeat (first|(with_reducible first|exact HB.out|apply bA|apply bN|apply bD|refine bS ?_ GE101.out|refine bS ?_ GE102.out)|exact HB.out))):w.heap.size≤gb115))
           have n7_:=mA ((by rw [hg];exact Nat.ne_of_lt (blk_lt (g:=gb101) (o:=.cells #[.int .i64 a1_0,.slice A1_1 l1_1.length c1_1] 50 (0,0)) (by (with_reducible repeat (first|refine kN ?_ _|refine kD ?_|refine kA ?_ _));exact BK101.out)):gb101≠gb115))
           have n8_:=mA ((by rw [hg];exact Nat.ne_of_gt (blk_lt (g:=gb101) (o:=.cells #[.int .i64 a1_0,.slice A1_1 l1_1.length c1_1] 50 (0,0)) (by (with_reducible repeat (first|refine kN ?_ _|refine kD ?_|refine kA ?_ _));exact BK101.out)):gb115≠gb101))
           have n9_:=mA ((by rw [hg];exact Nat.ne_of_lt (blk_lt (g:=gb102) (o:=.cells #[.int .i64 0,.slice none 0 0] 50 (0,0)) (by (with_reducible repeat (first|refine kN ?_ _|refine kD ?_|refine kA ?_ _));exact BK102.out)):gb102≠gb115))
           have n10_:=mA ((by rw [hg];exact Nat.ne_of_gt (blk_lt (g:=gb102) (o:=.cells #[.int .i64 0,.slice none 0 0] 50 (0,0)) (by (with_reducible repeat (first|refine kN ?_ _|refine kD ?_|refine kA ?_ _));exact BK102.out)):gb115≠gb102))
           clear HO108
           clear BK101
           clear BK102
           clear HB
           have HO108:=n0_
           have BK101:=n1_
           have BK102:=n2_
           have HB:=n3_
           have BK115:=n4_
           have GW115:=n5_
           have GE115:=n6_
           have NB101_115:=n7_
           have NB115_101:=n8_
           have NB102_115:=n9_
           have NB115_102:=n10_
           clear n0_ n1_ n2_ n3_ n4_ n5_ n6_ n7_ n8_ n9_ n10_
           clear hb hbox hg
           refine hK.out _ _ ⟨(kC BK101.out 0).trans rfl,(kC BK101.out 1).trans rfl⟩ (fun hHeld=>?_)
           clear hK K
           refine norm_ (a':=?_) ?_ ?_
           rotate_left
           ·show Act.put _ (some 6) _=_
            simp only [Act.put,sA,sZ,sS,i64_w,i32_w]
            rfl
           exact norm_ (by first|(simp only [putAll,Act.put,sA,sZ,sS];done)|(simp only [putAll,Act.put,sA,sZ,sS];rfl)) (hJ2_5_10 (v104,v107,gb115) _ ⟨hHeld,(by (with_reducible repeat (first|apply rA|apply rN|apply rD));exact HO108.out),(by (with_reducible repeat (first|refine kN ?_ _|refine kD ?_|refine kA ?_ _));exact BK101.out),(by (with_reducible repeat (first|refine kN ?_ _|refine kD ?_|refine kA ?_ _));exact BK102.out),(by (with_reducible repeat (first|refine kN ?_ _|refine kD ?_|refine kA ?_ _));exact BK115.out),GW115.out,GE115.out,NB101_115.out,NB115_101.out,NB102_115.out,NB115_102.out,(by repeat (first|(with_reducible first|exact HB.out|apply bA|apply bN|apply bD|refine bS ?_ GE101.out|refine bS ?_ GE102.out|refine bS ?_ GE115.out)|exact HB.out))⟩)
        ·skip
         rintro ⟨v104,v110,gb115⟩ w14 ⟨hS_,h0_,h1_,h2_,h3_,h4_,h5_,h6_,h7_,h8_,h9_,h10_,h11_⟩
         have n0_:Aside0 (Kd.R k52 52 w14 w.heap.size (fun k_=>some k_≠(v110:Value).ownBlock) v104 y103):=⟨h0_⟩
         have n1_:Aside0 (Kd.R k52 52 w14 w.heap.size (fun k_=>some k_≠(v104:Value).ownBlock) v110 y109):=⟨h1_⟩
         have n2_:Aside0 (w14.heap[gb101]?=some (.cells #[.int .i64 a1_0,.slice A1_1 l1_1.length c1_1] 50 (0,0))):=⟨h2_⟩
         have n3_:Aside0 (w14.heap[gb102]?=some (.cells #[.int .i64 0,.slice none 0 0] 50 (0,0))):=⟨h3_⟩
         have n4_:Aside0 (w14.heap[gb115]?=some (.cells #[.int .i64 0,.slice none 0 0] 50 (0,0))):=⟨h4_⟩
         have n5_:Aside0 (w.heap.size≤gb115):=⟨h5_⟩
         have n6_:Aside0 (w.heap.size≤gb115):=⟨h6_⟩
         have n7_:Aside0 (gb101≠gb115):=⟨h7_⟩
         have n8_:Aside0 (gb115≠gb101):=⟨h8_⟩
         have n9_:Aside0 (gb102≠gb115):=⟨h9_⟩
         have n10_:Aside0 (gb115≠gb102):=⟨h10_⟩
         have n11_:Aside0 (Below w.heap.size w w14):=⟨h11_⟩
         clear BK101
         clear BK102
         clear HB
         clear h0_ h1_ h2_ h3_ h4_ h5_ h6_ h7_ h8_ h9_ h10_ h11_
         have HO105:=n0_
         have HO111:=n1_
         have BK101:=n2_
         have BK102:=n3_
         have BK115:=n4_
         have GW115:=n5_
         have GE115:=n6_
         have NB101_115:=n7_
         have NB115_101:=n8_
         have NB102_115:=n9_
         have NB115_102:=n10_
         have HB:=n11_
         clear n0_ n1_ n2_ n3_ n4_ n5_ n6_ n7_ n8_ n9_ n10_ n11_
         have hHeld:w14.cell? ⟨gb101,0,none⟩=some (.int .i64 a1_0)∧w14.cell? ⟨gb101,1,none⟩=some (.slice A1_1 l1_1.length c1_1):=hS_
         refine norm_ (a':=?_) ?_ ?_
         rotate_left
         ·simp only [putAll,Act.put,sA,sZ,sS]
          rfl
         refine one_ (i:=5) (N:=some 12) #[I,I,I,I,I,I,I,I,O,O,I,O] rfl rfl (one_of HT_.out (by kernel_rfl)) (by decide) (fun K hK=>?_)
         refine Kd.R_append_rows_step k52 (w0:=w) w.heap.size (by rfl) (.tmp 9) (.tmp 11) 34 52 (.agg #[(.int .i64 0),(.int .i64 0)]) 16 rfl Try.underlying34 info52 rfl (by decide) (by omega) v104 y103 l1_1 _ _ _ (fun k_=>some k_≠(v110:Value).ownBlock) (fun _=>False) rfl rfl ?aO ?aR (fun _ _ h=>h) (fun _ h=>h.elim) ?aF ?aB ?aS ?aL ?_
         (case aR=>repeat (first|exact (Kd.C_below HR1_1.out HB.out)|(with_reducible refine cA ?_ _)|(with_reducible refine cN ?_ _)|(with_reducible refine cD ?_)))
         (case aB=>exact (by repeat (first|(with_reducible first|exact HB.out|apply bA|apply bN|apply bD|refine bS ?_ GE101.out|refine bS ?_ GE102.out|refine bS ?_ GE115.out)|exact HB.out)))
         (case aF=>exact (fun k_ hk=>Kd.fresh' (rL (by (with_reducible repeat (first|apply rA|apply rN|apply rD));exact HO111.out)) k_ hk))
         (case aO=>exact (by (with_reducible repeat (first|apply rA|apply rN|apply rD));exact HO105.out))
         (case aS=>exact (bZ (by repeat (first|(with_reducible first|exact HB.out|apply bA|apply bN|apply bD|refine bS ?_ GE101.out|refine bS ?_ GE102.out|refine bS ?_ GE115.out)|exact HB.out))))
         (case aL=>have:=LMc3.out;omega)
         intro v107 w15 ho hb hg hat
         rw [←Ny106.out] at ho
         have n0_:=mA (blk_grown (g:=gb101) (o:=.cells #[.int .i64 a1_0,.slice A1_1 l1_1.length c1_1] 50 (0,0)) (by (with_reducible repeat (first|refine kN ?_ _|refine kD ?_|refine kA ?_ _));exact BK101.out) hg (Kd.R_ne HO105.out BK101.out (by decide)))
         have n1_:=mA (blk_grown (g:=gb102) (o:=.cells #[.int .i64 0,.slice none 0 0] 50 (0,0)) (by (with_reducible repeat (first|refine kN ?_ _|refine kD ?_|refine kA ?_ _));exact BK102.out) hg (Kd.R_ne HO105.out BK102.out (by decide)))
         have n2_:=mA (Kd.R_after (ok:=(fun _=>True)) (by (with_reducible repeat (first|apply rA|apply rN|apply rD));exact rM HO111.out (fun _ hk=>⟨trivial,hk⟩)) hg hat)
         have n3_:=mA (blk_grown (g:=gb115) (o:=.cells #[.int .i64 0,.slice none 0 0] 50 (0,0)) (by (with_reducible repeat (first|refine kN ?_ _|refine kD ?_|refine kA ?_ _));exact BK115.out) hg (Kd.R_ne HO105.out BK115.out (by decide)))
         have n4_:=mA (hb)
         have n5_:=mA (ho)
         clear BK101
         clear BK102
         clear HO111
         clear BK115
         clear HB
         clear HO105
         have BK101:=n0_
         have BK102:=n1_
         have HO111:=n2_
         have BK115:=n3_
         have HB:=n4_
         have HO108:=n5_
         clear n0_ n1_ n2_ n3_ n4_ n5_
         clear ho hb hg hat
         refine hK.out _ _ ⟨(kC BK101.out 0).trans rfl,(kC BK101.out 1).trans rfl⟩ (fun hHeld=>?_)
         clear hK K
         refine norm_ (a':=?_) ?_ ?_
         rotate_left
         ·show Act.put _ (some 12) _=_
          simp only [Act.put,sA,sZ,sS,i64_w,i32_w]
          rfl
         exact norm_ (by first|(simp only [putAll,Act.put,sA,sZ,sS];done)|(simp only [putAll,Act.put,sA,sZ,sS];rfl)) (hJ2_5_7_10 (v104,v107,v110,gb115) _ ⟨hHeld,(by (with_reducible repeat (first|apply rA|apply rN|apply rD));exact HO108.out),(by (with_reducible repeat (first|apply rA|apply rN|apply rD));exact rM HO111.out (fun _ hk=>hk.2)),(by (with_reducible repeat (first|refine kN ?_ _|refine kD ?_|refine kA ?_ _));exact BK101.out),(by (with_reducible repeat (first|refine kN ?_ _|refine kD ?_|refine kA ?_ _));exact BK102.out),(by (with_reducible repeat (first|refine kN ?_ _|refine kD ?_|refine kA ?_ _));exact BK115.out),GW115.out,GE115.out,NB101_115.out,NB115_101.out,NB102_115.out,NB115_102.out,(by repeat (first|(with_reducible first|exact HB.out|apply bA|apply bN|apply bD|refine bS ?_ GE101.out|refine bS ?_ GE102.out|refine bS ?_ GE115.out)|exact HB.out))⟩)
       ·skip
        rintro ⟨v104,v107,gb115⟩ w13 ⟨hS_,h0_,h1_,h2_,h3_,h4_,h5_,h6_,h7_,h8_,h9_,h10_⟩
        have n0_:Aside0 (Kd.R k52 52 w13 w.heap.size (fun _=>True) v107 y106):=⟨h0_⟩
        have n1_:Aside0 (w13.heap[gb101]?=some (.cells #[.int .i64 a1_0,.slice A1_1 l1_1.length c1_1] 50 (0,0))):=⟨h1_⟩
        have n2_:Aside0 (w13.heap[gb102]?=some (.cells #[.int .i64 0,.slice none 0 0] 50 (0,0))):=⟨h2_⟩
        have n3_:Aside0 (w13.heap[gb115]?=some (.cells #[.int .i64 0,.slice none 0 0] 50 (0,0))):=⟨h3_⟩
        have n4_:Aside0 (w.heap.size≤gb115):=⟨h4_⟩
        have n5_:Aside0 (w.heap.size≤gb115):=⟨h5_⟩
        have n6_:Aside0 (gb101≠gb115):=⟨h6_⟩
        have n7_:Aside0 (gb115≠gb101):=⟨h7_⟩
        have n8_:Aside0 (gb102≠gb115):=⟨h8_⟩
        have n9_:Aside0 (gb115≠gb102):=⟨h9_⟩
        have n10_:Aside0 (Below w.heap.size w w13):=⟨h10_⟩
        clear BK101
        clear BK102
        clear HB
        clear h0_ h1_ h2_ h3_ h4_ h5_ h6_ h7_ h8_ h9_ h10_
        have HO108:=n0_
        have BK101:=n1_
        have BK102:=n2_
        have BK115:=n3_
        have GW115:=n4_
        have GE115:=n5_
        have NB101_115:=n6_
        have NB115_101:=n7_
        have NB102_115:=n8_
        have NB115_102:=n9_
        have HB:=n10_
        clear n0_ n1_ n2_ n3_ n4_ n5_ n6_ n7_ n8_ n9_ n10_
        have hHeld:w13.cell? ⟨gb101,0,none⟩=some (.int .i64 a1_0)∧w13.cell? ⟨gb101,1,none⟩=some (.slice A1_1 l1_1.length c1_1):=hS_
        refine norm_ (a':=?_) ?_ ?_
        rotate_left
        ·simp only [putAll,Act.put,sA,sZ,sS]
         rfl
        refine one_ (i:=7) (N:=some 14) #[I,I,I,I,I,I,I,I,O,O,I,O] rfl rfl (one_of HT_.out (by kernel_rfl)) (by decide) (fun K hK=>?_)
        refine Kd.R_lit_step k52 _ 52 ?hg (N:=14) ?hd (xs:=([(⟨2,0⟩:S52)]:List (S52))) (inner:=[.int .i64 2,.int .i64 0]) (ok:=fun _=>True) (okp:=fun _=>True) ?hr ?hp (fun _ hk=>hk) trivial (Below.refl _ _) (Nat.le_refl _) (by simp) ?_;(case hd=>rfl);(case hg=>rfl);(case hr=>first|(go_simp;done)|(go_simp;rfl));(case hp=>exact (Reps.c2 (show Kd.M k52 _ _ _ (⟨2,0⟩:S52) [.int .i64 2,.int .i64 0] from (k52_mkM _ _ _ (⟨2,0⟩:S52) )) (Reps.none _ _)))
        intro v110 w14 ho15 hb hg_ hnew_
        clear hg_ hnew_
        (first|rw [←Ny109.out] at ho15|(simp only [Int.reduceToNat] at ho15;rw [←Ny109.out] at ho15))
        have n0_:=mA (Kd.R_elder' (by (with_reducible repeat (first|apply rA|apply rN|apply rD));exact HO108.out) (Kd.R_base ho15) hb)
        have n1_:=mA (Kd.R_lower (Kd.R_new' ho15 (rL (by (with_reducible repeat (first|apply rA|apply rN|apply rD));exact HO108.out))) (bZ (by repeat (first|(with_reducible first|exact HB.out|apply bA|apply bN|apply bD|refine bS ?_ GE101.out|refine bS ?_ GE102.out|refine bS ?_ GE115.out)|exact HB.out))))
        have n2_:=mA (blk_below (g:=gb101) (o:=.cells #[.int .i64 a1_0,.slice A1_1 l1_1.length c1_1] 50 (0,0)) (by (with_reducible repeat (first|refine kN ?_ _|refine kD ?_|refine kA ?_ _));exact BK101.out) hb)
        have n3_:=mA (blk_below (g:=gb102) (o:=.cells #[.int .i64 0,.slice none 0 0] 50 (0,0)) (by (with_reducible repeat (first|refine kN ?_ _|refine kD ?_|refine kA ?_ _));exact BK102.out) hb)
        have n4_:=mA (blk_below (g:=gb115) (o:=.cells #[.int .i64 0,.slice none 0 0] 50 (0,0)) (by (with_reducible repeat (first|refine kN ?_ _|refine kD ?_|refine kA ?_ _));exact BK115.out) hb)
        have n5_:=mA (bT (by repeat (first|(with_reducible first|exact HB.out|apply bA|apply bN|apply bD|refine bS ?_ GE101.out|refine bS ?_ GE102.out|refine bS ?_ GE115.out)|exact HB.out)) hb)
        clear HO108
        clear BK101
        clear BK102
        clear BK115
        clear HB
        have HO108:=n0_
        have HO111:=n1_
        have BK101:=n2_
        have BK102:=n3_
        have BK115:=n4_
        have HB:=n5_
        clear n0_ n1_ n2_ n3_ n4_ n5_
        clear hb ho15
        refine hK.out _ _ ⟨(kC BK101.out 0).trans rfl,(kC BK101.out 1).trans rfl⟩ (fun hHeld=>?_)
        clear hK K
        refine norm_ (a':=?_) ?_ ?_
        rotate_left
        ·show Act.put _ (some 14) _=_
         simp only [Act.put,sA,sZ,sS,i64_w,i32_w]
         rfl
        exact norm_ (by first|(simp only [putAll,Act.put,sA,sZ,sS];done)|(simp only [putAll,Act.put,sA,sZ,sS];rfl)) (hJ2_5_7_10 (v104,v107,v110,gb115) _ ⟨hHeld,(by (with_reducible repeat (first|apply rA|apply rN|apply rD));exact rM HO108.out (fun _ hk=>hk.2)),(by (with_reducible repeat (first|apply rA|apply rN|apply rD));exact rM HO111.out (fun _ hk=>hk.2)),(by (with_reducible repeat (first|refine kN ?_ _|refine kD ?_|refine kA ?_ _));exact BK101.out),(by (with_reducible repeat (first|refine kN ?_ _|refine kD ?_|refine kA ?_ _));exact BK102.out),(by (with_reducible repeat (first|refine kN ?_ _|refine kD ?_|refine kA ?_ _));exact BK115.out),GW115.out,GE115.out,NB101_115.out,NB115_101.out,NB102_115.out,NB115_102.out,(by repeat (first|(with_reducible first|exact HB.out|apply bA|apply bN|apply bD|refine bS ?_ GE101.out|refine bS ?_ GE102.out|refine bS ?_ GE115.out)|exact HB.out))⟩)
      ·skip
       rintro ⟨v104,v107,v110⟩ w14 ⟨hS_,h0_,h1_,h2_,h3_,h4_⟩
       have n0_:Aside0 (Kd.R k52 52 w14 w.heap.size (fun k_=>some k_≠(v110:Value).ownBlock) v107 y106):=⟨h0_⟩
       have n1_:Aside0 (Kd.R k52 52 w14 w.heap.size (fun k_=>some k_≠(v107:Value).ownBlock) v110 y109):=⟨h1_⟩
       have n2_:Aside0 (w14.heap[gb101]?=some (.cells #[.int .i64 a1_0,.slice A1_1 l1_1.length c1_1] 50 (0,0))):=⟨h2_⟩
       have n3_:Aside0 (w14.heap[gb102]?=some (.cells #[.int .i64 0,.slice none 0 0] 50 (0,0))):=⟨h3_⟩
       have n4_:Aside0 (Below w.heap.size w w14):=⟨h4_⟩
       clear BK101
       clear BK102
       clear HB
       clear h0_ h1_ h2_ h3_ h4_
       have HO108:=n0_
       have HO111:=n1_
       have BK101:=n2_
       have BK102:=n3_
       have HB:=n4_
       clear n0_ n1_ n2_ n3_ n4_
       have hHeld:w14.cell? ⟨gb101,0,none⟩=some (.int .i64 a1_0)∧w14.cell? ⟨gb101,1,none⟩=some (.slice A1_1 l1_1.length c1_1):=hS_
       obtain ⟨Ao16,co16,eo16⟩:=Kd.R_slice HO111.out
       (first|subst eo16|(injection eo16 with f1_ f2_ f3_;have f4_:=f1_.symm;have f5_:=f3_.symm;clear f1_ f2_ f3_;subst f4_;subst f5_))
       refine norm_ (a':=?_) ?_ ?_
       rotate_left
       ·simp only [putAll,Act.put,sA,sZ,sS]
        rfl
       refine two_ (i:=8) (j:=10) (Ni:=some 15) (Nj:=some 6) #[I,I,I,I,I,I,I,I,I,O,O,O] #[I,I,I,I,I,I,I,I,O,O,I,O] rfl rfl rfl rfl (two_of HT_.out (by kernel_rfl)) (by decide) (by decide) (fun K hK=>?_) (fun K hK=>?_)
       ·skip
        refine Kd.R_append_rows_step k52 (w0:=w) w.heap.size (by rfl) (.tmp 12) (.tmp 14) 34 52 (.agg #[(.int .i64 0),(.int .i64 0)]) 16 rfl Try.underlying34 info52 rfl (by decide) (by omega) v107 y106 y109 _ _ _ (fun k_=>some k_≠(.slice Ao16 y109.length co16:Value).ownBlock) (fun _=>False) rfl rfl ?aO ?aR (fun _ _ h=>h) (fun _ h=>h.elim) ?aF ?aB ?aS ?aL ?_
        (case aR=>repeat (first|exact (rR HO111.out).2.2|(with_reducible refine cA ?_ _)|(with_reducible refine cN ?_ _)|(with_reducible refine cD ?_)))
        (case aB=>exact (by repeat (first|(with_reducible first|exact HB.out|apply bA|apply bN|apply bD|refine bS ?_ GE101.out|refine bS ?_ GE102.out)|exact HB.out)))
        (case aF=>exact (fun k_ hk=>Kd.fresh' (rL (by (with_reducible repeat (first|apply rA|apply rN|apply rD));exact HO111.out)) k_ hk))
        (case aO=>exact (by (with_reducible repeat (first|apply rA|apply rN|apply rD));exact HO108.out))
        (case aS=>exact (bZ (by repeat (first|(with_reducible first|exact HB.out|apply bA|apply bN|apply bD|refine bS ?_ GE101.out|refine bS ?_ GE102.out)|exact HB.out))))
        (case aL=>have:=LMc4.out;omega)
        intro v113 w15 ho hb hg hat
        rw [←Ny112.out] at ho
        have n0_:=mA (blk_grown (g:=gb101) (o:=.cells #[.int .i64 a1_0,.slice A1_1 l1_1.length c1_1] 50 (0,0)) (by (with_reducible repeat (first|refine kN ?_ _|refine kD ?_|refine kA ?_ _));exact BK101.out) hg (Kd.R_ne HO108.out BK101.out (by decide)))
        have n1_:=mA (blk_grown (g:=gb102) (o:=.cells #[.int .i64 0,.slice none 0 0] 50 (0,0)) (by (with_reducible repeat (first|refine kN ?_ _|refine kD ?_|refine kA ?_ _));exact BK102.out) hg (Kd.R_ne HO108.out BK102.out (by decide)))
        have n2_:=mA (Kd.R_after (ok:=(fun _=>True)) (by (with_reducible repeat (first|apply rA|apply rN|apply rD));exact rM HO111.out (fun _ hk=>⟨trivial,hk⟩)) hg hat)
        have n3_:=mA (hb)
        have n4_:=mA (ho)
        clear BK101
        clear BK102
        clear HO111
        clear HB
        clear HO108
        have BK101:=n0_
        have BK102:=n1_
        have HO111:=n2_
        have HB:=n3_
        have HO114:=n4_
        clear n0_ n1_ n2_ n3_ n4_
        clear ho hb hg hat
        obtain ⟨Ao17,co17,eo17⟩:=Kd.R_slice HO114.out
        (first|subst eo17|(injection eo17 with f1_ f2_ f3_;have f4_:=f1_.symm;have f5_:=f3_.symm;clear f1_ f2_ f3_;subst f4_;subst f5_))
        refine hK.out _ _ ⟨(kC BK101.out 0).trans rfl,(kC BK101.out 1).trans rfl⟩ (fun hHeld=>?_)
        clear hK K
        refine norm_ (a':=?_) ?_ ?_
        rotate_left
        ·show Act.put _ (some 15) _=_
         simp only [Act.put,sA,sZ,sS,i64_w,i32_w]
         rfl
        refine pure_ (i:=9) (N:=some 16) (v:=?_) (a':=?_) #[I,I,I,I,I,I,I,I,I,I,O,O] rfl rfl (any_of HT_.out (by kernel_rfl)) (fun _ _ _ h=>h) (Or.inl ⟨by rfl,?_⟩) ?_ ?_
        rotate_left
        ·intro w'
         go_simp
         with_reducible rfl
        rotate_left
        ·simp only [Act.put,sA,sZ,sS,i64_w,i32_w]
         rfl
        exact norm_ (by first|(simp only [putAll,Act.put,sA,sZ,sS];done)|(simp only [putAll,Act.put,sA,sZ,sS];rfl)) (hJ2_5_7_8 (v104,v107,.slice Ao16 y109.length co16,.slice Ao17 y112.length co17) _ ⟨hHeld,(by (with_reducible repeat (first|apply rA|apply rN|apply rD));exact rM HO111.out (fun _ hk=>hk.2)),(by (with_reducible repeat (first|apply rA|apply rN|apply rD));exact HO114.out),(by (with_reducible repeat (first|refine kN ?_ _|refine kD ?_|refine kA ?_ _));exact BK101.out),(by (with_reducible repeat (first|refine kN ?_ _|refine kD ?_|refine kA ?_ _));exact BK102.out),(by repeat (first|(with_reducible first|exact HB.out|apply bA|apply bN|apply bD|refine bS ?_ GE101.out|refine bS ?_ GE102.out)|exact HB.out))⟩)
       ·skip
        refine box_step ?hg (N:=6) ?hd (cs:=#[.int .i64 0,.slice none 0 0]) (t:=50) ?hr ?_;(case hd=>rfl);(case hg=>rfl);(case hr=>first|(go_simp;done)|(go_simp;rfl))
        intro gb115 hg w15 hbox hb
        have n0_:=mA (rB (by (with_reducible repeat (first|apply rA|apply rN|apply rD));exact HO108.out) hb)
        have n1_:=mA (rB (by (with_reducible repeat (first|apply rA|apply rN|apply rD));exact HO111.out) hb)
        have n2_:=mA (blk_below (g:=gb101) (o:=.cells #[.int .i64 a1_0,.slice A1_1 l1_1.length c1_1] 50 (0,0)) (by (with_reducible repeat (first|refine kN ?_ _|refine kD ?_|refine kA ?_ _));exact BK101.out) hb)
        have n3_:=mA (blk_below (g:=gb102) (o:=.cells #[.int .i64 0,.slice none 0 0] 50 (0,0)) (by (with_reducible repeat (first|refine kN ?_ _|refine kD ?_|refine kA ?_ _));exact BK102.out) hb)
        have n4_:=mA (bT (by repeat (first|(with_reducible first|exact HB.out|apply bA|apply bN|apply bD|refine bS ?_ GE101.out|refine bS ?_ GE102.out)|exact HB.out)) hb)
        have n5_:=mA (hbox)
        have n6_:=mA ((by rw [hg];exact (bZ (by repeat (first|(with_reducible first|exact HB.out|apply bA|apply bN|apply bD|refine bS ?_ GE101.out|refine bS ?_ GE102.out)|exact HB.out))):w.heap.size≤gb115))
        have n7_:=mA ((by rw [hg];exact (bZ (by repeat (first|(with_reducible first|exact HB.out|apply bA|apply bN|apply bD|refine bS ?_ GE101.out|refine bS ?_ GE102.out)|exact HB.out))):w.heap.size≤gb115))
        have n8_:=mA ((by rw [hg];exact Nat.ne_of_lt (blk_lt (g:=gb101) (o:=.cells #[.int .i64 a1_0,.slice A1_1 l1_1.length c1_1] 50 (0,0)) (by (with_reducible repeat (first|refine kN ?_ _|refine kD ?_|refine kA ?_ _));exact BK101.out)):gb101≠gb115))
        have n9_:=mA ((by rw [hg];exact Nat.ne_of_gt (blk_lt (g:=gb101) (o:=.cells #[.int .i64 a1_0,.slice A1_1 l1_1.length c1_1] 50 (0,0)) (by (with_reducible repeat (first|refine kN ?_ _|refine kD ?_|refine kA ?_ _));exact BK101.out)):gb115≠gb101))
        have n10_:=mA ((by rw [hg];exact Nat.ne_of_lt (blk_lt (g:=gb102) (o:=.cells #[.int .i64 0,.slice none 0 0] 50 (0,0)) (by (with_reducible repeat (first|refine kN ?_ _|refine kD ?_|refine kA ?_ _));exact BK102.out)):gb102≠gb115))
        have n11_:=mA ((by rw [hg];exact Nat.ne_of_gt (blk_lt (g:=gb102) (o:=.cells #[.int .i64 0,.slice none 0 0] 50 (0,0)) (by (with_reducible repeat (first|refine kN ?_ _|refine kD ?_|refine kA ?_ _));exact BK102.out)):gb115≠gb102))
        clear HO108
        clear HO111
        clear BK101
        clear BK102
        clear HB
        have HO108:=n0_
        have HO111:=n1_
        have BK101:=n2_
        have BK102:=n3_
        have HB:=n4_
        have BK115:=n5_
        have GW115:=n6_
        have GE115:=n7_
        have NB101_115:=n8_
        have NB115_101:=n9_
        have NB102_115:=n10_
        have NB115_102:=n11_
        clear n0_ n1_ n2_ n3_ n4_ n5_ n6_ n7_ n8_ n9_ n10_ n11_
        clear hb hbox hg
        refine hK.out _ _ ⟨(kC BK101.out 0).trans rfl,(kC BK101.out 1).trans rfl⟩ (fun hHeld=>?_)
        clear hK K
        refine norm_ (a':=?_) ?_ ?_
        rotate_left
        ·show Act.put _ (some 6) _=_
         simp only [Act.put,sA,sZ,sS,i64_w,i32_w]
         rfl
        exact norm_ (by first|(simp only [putAll,Act.put,sA,sZ,sS];done)|(simp only [putAll,Act.put,sA,sZ,sS];rfl)) (hJ2_5_7_10 (v104,v107,.slice Ao16 y109.length co16,gb115) _ ⟨hHeld,(by (with_reducible repeat (first|apply rA|apply rN|apply rD));exact HO108.out),(by (with_reducible repeat (first|apply rA|apply rN|apply rD));exact HO111.out),(by (with_reducible repeat (first|refine kN ?_ _|refine kD ?_|refine kA ?_ _));exact BK101.out),(by (with_reducible repeat (first|refine kN ?_ _|refine kD ?_|refine kA ?_ _));exact BK102.out),(by (with_reducible repeat (first|refine kN ?_ _|refine kD ?_|refine kA ?_ _));exact BK115.out),GW115.out,GE115.out,NB101_115.out,NB115_101.out,NB102_115.out,NB115_102.out,(by repeat (first|(with_reducible first|exact HB.out|apply bA|apply bN|apply bD|refine bS ?_ GE101.out|refine bS ?_ GE102.out|refine bS ?_ GE115.out)|exact HB.out))⟩)
     ·skip
      rintro ⟨v104,v107,v110,gb115⟩ w15 ⟨hS_,h0_,h1_,h2_,h3_,h4_,h5_,h6_,h7_,h8_,h9_,h10_,h11_⟩
      have n0_:Aside0 (Kd.R k52 52 w15 w.heap.size (fun k_=>some k_≠(v110:Value).ownBlock) v107 y106):=⟨h0_⟩
      have n1_:Aside0 (Kd.R k52 52 w15 w.heap.size (fun k_=>some k_≠(v107:Value).ownBlock) v110 y109):=⟨h1_⟩
      have n2_:Aside0 (w15.heap[gb101]?=some (.cells #[.int .i64 a1_0,.slice A1_1 l1_1.length c1_1] 50 (0,0))):=⟨h2_⟩
      have n3_:Aside0 (w15.heap[gb102]?=some (.cells #[.int .i64 0,.slice none 0 0] 50 (0,0))):=⟨h3_⟩
      have n4_:Aside0 (w15.heap[gb115]?=some (.cells #[.int .i64 0,.slice none 0 0] 50 (0,0))):=⟨h4_⟩
      have n5_:Aside0 (w.heap.size≤gb115):=⟨h5_⟩
      have n6_:Aside0 (w.heap.size≤gb115):=⟨h6_⟩
      have n7_:Aside0 (gb101≠gb115):=⟨h7_⟩
      have n8_:Aside0 (gb115≠gb101):=⟨h8_⟩
      have n9_:Aside0 (gb102≠gb115):=⟨h9_⟩
      have n10_:Aside0 (gb115≠gb102):=⟨h10_⟩
      have n11_:Aside0 (Below w.heap.size w w15):=⟨h11_⟩
      clear BK101
      clear BK102
      clear HB
      clear h0_ h1_ h2_ h3_ h4_ h5_ h6_ h7_ h8_ h9_ h10_ h11_
      have HO108:=n0_
      have HO111:=n1_
      have BK101:=n2_
      have BK102:=n3_
      have BK115:=n4_
      have GW115:=n5_
      have GE115:=n6_
      have NB101_115:=n7_
      have NB115_101:=n8_
      have NB102_115:=n9_
      have NB115_102:=n10_
      have HB:=n11_
      clear n0_ n1_ n2_ n3_ n4_ n5_ n6_ n7_ n8_ n9_ n10_ n11_
      have hHeld:w15.cell? ⟨gb101,0,none⟩=some (.int .i64 a1_0)∧w15.cell? ⟨gb101,1,none⟩=some (.slice A1_1 l1_1.length c1_1):=hS_
      obtain ⟨Ao17,co17,eo17⟩:=Kd.R_slice HO111.out
      (first|subst eo17|(injection eo17 with f1_ f2_ f3_;have f4_:=f1_.symm;have f5_:=f3_.symm;clear f1_ f2_ f3_;subst f4_;subst f5_))
      refine norm_ (a':=?_) ?_ ?_
      rotate_left
      ·simp only [putAll,Act.put,sA,sZ,sS]
       rfl
      refine one_ (i:=8) (N:=some 15) #[I,I,I,I,I,I,I,I,I,O,I,O] rfl rfl (one_of HT_.out (by kernel_rfl)) (by decide) (fun K hK=>?_)
      refine Kd.R_append_rows_step k52 (w0:=w) w.heap.size (by rfl) (.tmp 12) (.tmp 14) 34 52 (.agg #[(.int .i64 0),(.int .i64 0)]) 16 rfl Try.underlying34 info52 rfl (by decide) (by omega) v107 y106 y109 _ _ _ (fun k_=>some k_≠(.slice Ao17 y109.length co17:Value).ownBlock) (fun _=>False) rfl rfl ?aO ?aR (fun _ _ h=>h) (fun _ h=>h.elim) ?aF ?aB ?aS ?aL ?_
      (case aR=>repeat (first|exact (rR HO111.out).2.2|(with_reducible refine cA ?_ _)|(with_reducible refine cN ?_ _)|(with_reducible refine cD ?_)))
      (case aB=>exact (by repeat (first|(with_reducible first|exact HB.out|apply bA|apply bN|apply bD|refine bS ?_ GE101.out|refine bS ?_ GE102.out|refine bS ?_ GE115.out)|exact HB.out)))
      (case aF=>exact (fun k_ hk=>Kd.fresh' (rL (by (with_reducible repeat (first|apply rA|apply rN|apply rD));exact HO111.out)) k_ hk))
      (case aO=>exact (by (with_reducible repeat (first|apply rA|apply rN|apply rD));exact HO108.out))
      (case aS=>exact (bZ (by repeat (first|(with_reducible first|exact HB.out|apply bA|apply bN|apply bD|refine bS ?_ GE101.out|refine bS ?_ GE102.out|refine bS ?_ GE115.out)|exact HB.out))))
      (case aL=>have:=LMc4.out;omega)
      intro v113 w16 ho hb hg hat
      rw [←Ny112.out] at ho
      have n0_:=mA (blk_grown (g:=gb101) (o:=.cells #[.int .i64 a1_0,.slice A1_1 l1_1.length c1_1] 50 (0,0)) (by (with_reducible repeat (first|refine kN ?_ _|refine kD ?_|refine kA ?_ _));exact BK101.out) hg (Kd.R_ne HO108.out BK101.out (by decide)))
      have n1_:=mA (blk_grown (g:=gb102) (o:=.cells #[.int .i64 0,.slice none 0 0] 50 (0,0)) (by (with_reducible repeat (first|refine kN ?_ _|refine kD ?_|refine kA ?_ _));exact BK102.out) hg (Kd.R_ne HO108.out BK102.out (by decide)))
      have n2_:=mA (Kd.R_after (ok:=(fun _=>True)) (by (with_reducible repeat (first|apply rA|apply rN|apply rD));exact rM HO111.out (fun _ hk=>⟨trivial,hk⟩)) hg hat)
      have n3_:=mA (blk_grown (g:=gb115) (o:=.cells #[.int .i64 0,.slice none 0 0] 50 (0,0)) (by (with_reducible repeat (first|refine kN ?_ _|refine kD ?_|refine kA ?_ _));exact BK115.out) hg (Kd.R_ne HO108.out BK115.out (by decide)))
      have n4_:=mA (hb)
      have n5_:=mA (ho)
      clear BK101
      clear BK102
      clear HO111
      clear BK115
      clear HB
      clear HO108
      have BK101:=n0_
      have BK102:=n1_
      have HO111:=n2_
      have BK115:=n3_
      have HB:=n4_
      have HO114:=n5_
      clear n0_ n1_ n2_ n3_ n4_ n5_
      clear ho hb hg hat
      obtain ⟨Ao18,co18,eo18⟩:=Kd.R_slice HO114.out
      (first|subst eo18|(injection eo18 with f1_ f2_ f3_;have f4_:=f1_.symm;have f5_:=f3_.symm;clear f1_ f2_ f3_;subst f4_;subst f5_))
      refine hK.out _ _ ⟨(kC BK101.out 0).trans rfl,(kC BK101.out 1).trans rfl⟩ (fun hHeld=>?_)
      clear hK K
      refine norm_ (a':=?_) ?_ ?_
      rotate_left
      ·show Act.put _ (some 15) _=_
       simp only [Act.put,sA,sZ,sS,i64_w,i32_w]
       rfl
      refine pure_ (i:=9) (N:=some 16) (v:=?_) (a':=?_) #[I,I,I,I,I,I,I,I,I,I,I,O] rfl rfl (any_of HT_.out (by kernel_rfl)) (fun _ _ _ h=>h) (Or.inl ⟨by rfl,?_⟩) ?_ ?_
      rotate_left
      ·intro w'
       go_simp
       with_reducible rfl
      rotate_left
      ·simp only [Act.put,sA,sZ,sS,i64_w,i32_w]
       rfl
      exact norm_ (by first|(simp only [putAll,Act.put,sA,sZ,sS];done)|(simp only [putAll,Act.put,sA,sZ,sS];rfl)) (hJ2_5_7_8_10 (v104,v107,.slice Ao17 y109.length co17,.slice Ao18 y112.length co18,gb115) _ ⟨hHeld,(by (with_reducible repeat (first|apply rA|apply rN|apply rD));exact rM HO111.out (fun _ hk=>hk.2)),(by (with_reducible repeat (first|apply rA|apply rN|apply rD));exact HO114.out),(by (with_reducible repeat (first|refine kN ?_ _|refine kD ?_|refine kA ?_ _));exact BK101.out),(by (with_reducible repeat (first|refine kN ?_ _|refine kD ?_|refine kA ?_ _));exact BK102.out),(by (with_reducible repeat (first|refine kN ?_ _|refine kD ?_|refine kA ?_ _));exact BK115.out),GW115.out,GE115.out,NB101_115.out,NB115_101.out,NB102_115.out,NB115_102.out,(by repeat (first|(with_reducible first|exact HB.out|apply bA|apply bN|apply bD|refine bS ?_ GE101.out|refine bS ?_ GE102.out|refine bS ?_ GE115.out)|exact HB.out))⟩)
    ·skip
     rintro ⟨v104,v107,v110,v113⟩ w17 ⟨hS_,h0_,h1_,h2_,h3_,h4_⟩
     have n0_:Aside0 (Kd.R k52 52 w17 w.heap.size (fun k_=>some k_≠(v113:Value).ownBlock) v110 y109):=⟨h0_⟩
     have n1_:Aside0 (Kd.R k52 52 w17 w.heap.size (fun k_=>some k_≠(v110:Value).ownBlock) v113 y112):=⟨h1_⟩
     have n2_:Aside0 (w17.heap[gb101]?=some (.cells #[.int .i64 a1_0,.slice A1_1 l1_1.length c1_1] 50 (0,0))):=⟨h2_⟩
     have n3_:Aside0 (w17.heap[gb102]?=some (.cells #[.int .i64 0,.slice none 0 0] 50 (0,0))):=⟨h3_⟩
     have n4_:Aside0 (Below w.heap.size w w17):=⟨h4_⟩
     clear BK101
     clear BK102
     clear HB
     clear h0_ h1_ h2_ h3_ h4_
     have HO111:=n0_
     have HO114:=n1_
     have BK101:=n2_
     have BK102:=n3_
     have HB:=n4_
     clear n0_ n1_ n2_ n3_ n4_
     have hHeld:w17.cell? ⟨gb101,0,none⟩=some (.int .i64 a1_0)∧w17.cell? ⟨gb101,1,none⟩=some (.slice A1_1 l1_1.length c1_1):=hS_
     obtain ⟨Ao18,co18,eo18⟩:=Kd.R_slice HO114.out
     (first|subst eo18|(injection eo18 with f1_ f2_ f3_;have f4_:=f1_.symm;have f5_:=f3_.symm;clear f1_ f2_ f3_;subst f4_;subst f5_))
     refine norm_ (a':=?_) ?_ ?_
     rotate_left
     ·simp only [putAll,Act.put,sA,sZ,sS]
      rfl
     refine one_ (i:=10) (N:=some 6) #[I,I,I,I,I,I,I,I,I,I,I,O] rfl rfl (one_of HT_.out (by kernel_rfl)) (by decide) (fun K hK=>?_)
     refine box_step ?hg (N:=6) ?hd (cs:=#[.int .i64 0,.slice none 0 0]) (t:=50) ?hr ?_;(case hd=>rfl);(case hg=>rfl);(case hr=>first|(go_simp;done)|(go_simp;rfl))
     intro gb115 hg w19 hbox hb
     have n0_:=mA (rB (by (with_reducible repeat (first|apply rA|apply rN|apply rD));exact HO111.out) hb)
     have n1_:=mA (rB (by (with_reducible repeat (first|apply rA|apply rN|apply rD));exact HO114.out) hb)
     have n2_:=mA (blk_below (g:=gb101) (o:=.cells #[.int .i64 a1_0,.slice A1_1 l1_1.length c1_1] 50 (0,0)) (by (with_reducible repeat (first|refine kN ?_ _|refine kD ?_|refine kA ?_ _));exact BK101.out) hb)
     have n3_:=mA (blk_below (g:=gb102) (o:=.cells #[.int .i64 0,.slice none 0 0] 50 (0,0)) (by (with_reducible repeat (first|refine kN ?_ _|refine kD ?_|refine kA ?_ _));exact BK102.out) hb)
     have n4_:=mA (bT (by repeat (first|(with_reducible first|exact HB.out|apply bA|apply bN|apply bD|refine bS ?_ GE101.out|refine bS ?_ GE102.out)|exact HB.out)) hb)
     have n5_:=mA (hbox)
     have n6_:=mA ((by rw [hg];exact (bZ (by repeat (first|(with_reducible first|exact HB.out|apply bA|apply bN|apply bD|refine bS ?_ GE101.out|refine bS ?_ GE102.out)|exact HB.out))):w.heap.size≤gb115))
     have n7_:=mA ((by rw [hg];exact (bZ (by repeat (first|(with_reducible first|exact HB.out|apply bA|apply bN|apply bD|refine bS ?_ GE101.out|refine bS ?_ GE102.out)|exact HB.out))):w.heap.size≤gb115))
     have n8_:=mA ((by rw [hg];exact Nat.ne_of_lt (blk_lt (g:=gb101) (o:=.cells #[.int .i64 a1_0,.slice A1_1 l1_1.length c1_1] 50 (0,0)) (by (with_reducible repeat (first|refine kN ?_ _|refine kD ?_|refine kA ?_ _));exact BK101.out)):gb101≠gb115))
     have n9_:=mA ((by rw [hg];exact Nat.ne_of_gt (blk_lt (g:=gb101) (o:=.cells #[.int .i64 a1_0,.slice A1_1 l1_1.length c1_1] 50 (0,0)) (by (with_reducible repeat (first|refine kN ?_ _|refine kD ?_|refine kA ?_ _));exact BK101.out)):gb115≠gb101))
     have n10_:=mA ((by rw [hg];exact Nat.ne_of_lt (blk_lt (g:=gb102) (o:=.cells #[.int .i64 0,.slice none 0 0] 50 (0,0)) (by (with_reducible repeat (first|refine kN ?_ _|refine kD ?_|refine kA ?_ _));exact BK102.out)):gb102≠gb115))
     have n11_:=mA ((by rw [hg];exact Nat.ne_of_gt (blk_lt (g:=gb102) (o:=.cells #[.int .i64 0,.slice none 0 0] 50 (0,0)) (by (with_reducible repeat (first|refine kN ?_ _|refine kD ?_|refine kA ?_ _));exact BK102.out)):gb115≠gb102))
     clear HO111
     clear HO114
     clear BK101
     clear BK102
     clear HB
     have HO111:=n0_
     have HO114:=n1_
     have BK101:=n2_
     have BK102:=n3_
     have HB:=n4_
     have BK115:=n5_
     have GW115:=n6_
     have GE115:=n7_
     have NB101_115:=n8_
     have NB115_101:=n9_
     have NB102_115:=n10_
     have NB115_102:=n11_
     clear n0_ n1_ n2_ n3_ n4_ n5_ n6_ n7_ n8_ n9_ n10_ n11_
     clear hb hbox hg
     refine hK.out _ _ ⟨(kC BK101.out 0).trans rfl,(kC BK101.out 1).trans rfl⟩ (fun hHeld=>?_)
     clear hK K
     refine norm_ (a':=?_) ?_ ?_
     rotate_left
     ·show Act.put _ (some 6) _=_
      simp only [Act.put,sA,sZ,sS,i64_w,i32_w]
      rfl
     exact norm_ (by first|(simp only [putAll,Act.put,sA,sZ,sS];done)|(simp only [putAll,Act.put,sA,sZ,sS];rfl)) (hJ2_5_7_8_10 (v104,v107,v110,.slice Ao18 y112.length co18,gb115) _ ⟨hHeld,(by (with_reducible repeat (first|apply rA|apply rN|apply rD));exact HO111.out),(by (with_reducible repeat (first|apply rA|apply rN|apply rD));exact HO114.out),(by (with_reducible repeat (first|refine kN ?_ _|refine kD ?_|refine kA ?_ _));exact BK101.out),(by (with_reducible repeat (first|refine kN ?_ _|refine kD ?_|refine kA ?_ _));exact BK102.out),(by (with_reducible repeat (first|refine kN ?_ _|refine kD ?_|refine kA ?_ _));exact BK115.out),GW115.out,GE115.out,NB101_115.out,NB115_101.out,NB102_115.out,NB115_102.out,(by repeat (first|(with_reducible first|exact HB.out|apply bA|apply bN|apply bD|refine bS ?_ GE101.out|refine bS ?_ GE102.out|refine bS ?_ GE115.out)|exact HB.out))⟩)
   rintro ⟨v104,v107,v110,v113,gb115⟩ w18 ⟨hS_,h0_,h1_,h2_,h3_,h4_,h5_,h6_,h7_,h8_,h9_,h10_,h11_⟩
   have n0_:Aside0 (Kd.R k52 52 w18 w.heap.size (fun k_=>some k_≠(v113:Value).ownBlock) v110 y109):=⟨h0_⟩
   have n1_:Aside0 (Kd.R k52 52 w18 w.heap.size (fun k_=>some k_≠(v110:Value).ownBlock) v113 y112):=⟨h1_⟩
   have n2_:Aside0 (w18.heap[gb101]?=some (.cells #[.int .i64 a1_0,.slice A1_1 l1_1.length c1_1] 50 (0,0))):=⟨h2_⟩
   have n3_:Aside0 (w18.heap[gb102]?=some (.cells #[.int .i64 0,.slice none 0 0] 50 (0,0))):=⟨h3_⟩
   have n4_:Aside0 (w18.heap[gb115]?=some (.cells #[.int .i64 0,.slice none 0 0] 50 (0,0))):=⟨h4_⟩
   have n5_:Aside0 (w.heap.size≤gb115):=⟨h5_⟩
   have n6_:Aside0 (w.heap.size≤gb115):=⟨h6_⟩
   have n7_:Aside0 (gb101≠gb115):=⟨h7_⟩
   have n8_:Aside0 (gb115≠gb101):=⟨h8_⟩
   have n9_:Aside0 (gb102≠gb115):=⟨h9_⟩
   have n10_:Aside0 (gb115≠gb102):=⟨h10_⟩
   have n11_:Aside0 (Below w.heap.size w w18):=⟨h11_⟩
   clear BK101
   clear BK102
   clear HB
   clear h0_ h1_ h2_ h3_ h4_ h5_ h6_ h7_ h8_ h9_ h10_ h11_
   have HO111:=n0_
   have HO114:=n1_
   have BK101:=n2_
   have BK102:=n3_
   have BK115:=n4_
   have GW115:=n5_
   have GE115:=n6_
   have NB101_115:=n7_
   have NB115_101:=n8_
   have NB102_115:=n9_
   have NB115_102:=n10_
   have HB:=n11_
   clear n0_ n1_ n2_ n3_ n4_ n5_ n6_ n7_ n8_ n9_ n10_ n11_
   have hHeld:w18.cell? ⟨gb101,0,none⟩=some (.int .i64 a1_0)∧w18.cell? ⟨gb101,1,none⟩=some (.slice A1_1 l1_1.length c1_1):=hS_
   obtain ⟨Ao19,co19,eo19⟩:=Kd.R_slice HO114.out
   (first|subst eo19|(injection eo19 with f1_ f2_ f3_;have f4_:=f1_.symm;have f5_:=f3_.symm;clear f1_ f2_ f3_;subst f4_;subst f5_))
   refine norm_ (a':=?_) ?_ ?_
   rotate_left
   ·simp only [putAll,Act.put,sA,sZ,sS]
    rfl
   refine one_ (i:=11) (N:=none) #[I,I,I,I,I,I,I,I,I,I,I,I] rfl rfl (one_of HT_.out (by kernel_rfl)) (by decide) (fun K hK=>?_)
   have hs20:w18.cell? ⟨gb115,0,none⟩=some (.int .i64 0):=(kC BK115.out 0).trans rfl
   have hfs20:=kF BK115.out 0
   have hns20_0:=NB101_115.out
   have hns20_1:=NB102_115.out
   have hms20_0:=NB115_101.out
   have hms20_1:=NB115_102.out
   have hs21:w18.cell? ⟨gb115,1,none⟩=some (.slice none 0 0):=(kC BK115.out 1).trans rfl
   have hfs21:=kF BK115.out 1
   have hns21_0:=NB101_115.out
   have hns21_1:=NB102_115.out
   have hms21_0:=NB115_101.out
   have hms21_1:=NB115_102.out
   refine skip_ (w1:=?_) (by rfl) rfl ?_ ?_
   rotate_left
   ·go_simp
    rfl
   refine hK.out _ _ ⟨((cell_far (p:=⟨gb115,_,none⟩) NB101_115.out _).trans (((cell_far (p:=⟨gb115,_,none⟩) NB101_115.out _).trans (hHeld.1)))),((cell_far (p:=⟨gb115,_,none⟩) NB101_115.out _).trans (((cell_far (p:=⟨gb115,_,none⟩) NB101_115.out _).trans (hHeld.2))))⟩ (fun hHeld=>?_)
   clear hK K
   refine done_ (done_of HT_.out (by kernel_rfl)) ?_
   go_upto_region 2 with (fail)
   go_cut [26] (fun v26 wc=>∃ (kq:Nat) (x26_4:Bool),v26 = .bool x26_4∧Aside0 (spec_DenyClaim.j0 kq x26_4 a1_0 y112=some (r1,r2,r3))∧Aside0 (kq≤k)∧Aside0 (Kd.R k52 52 wc w.heap.size (fun _=>True) (.slice Ao19 y112.length co19) y112)∧Aside0 (wc.heap[gb101]?=some (.cells #[.int .i64 a1_0,(.slice A1_1 l1_1.length c1_1)] 50 (0,0)))∧Aside0 (wc.heap[gb102]?=some (.cells #[.int .i64 0,(.slice none 0 0)] 50 (0,0)))∧Aside0 (wc.heap[gb115]?=some (.cells #[.int .i64 a1_0,(.slice Ao19 y112.length co19)] 50 (0,0)))∧Aside0 (Below w.heap.size w wc))
   case first =>
    have H:=HC5.out
    clear HC5
    replace H:=Option.bind_eq_some_iff.mp H
    obtain ⟨t116,A220,H⟩:=H
    replace H:(if t116=true then ((spec_ClaimOk.f k a0 a1_0 y112).bind fun t117=>(spec_DenyClaim.j0 k (!t117) a1_0 y112)) else (spec_DenyClaim.j0 k true a1_0 y112))=some (r1,r2,r3):=H
    have A22:=mA A220
    clear A220
    by_cases c23:t116=true
    ·subst c23
     have H1:((spec_ClaimOk.f k a0 a1_0 y112).bind fun t117=>(spec_DenyClaim.j0 k (!t117) a1_0 y112))=some (r1,r2,r3):=by rw [if_pos rfl] at H;exact H
     clear H
     have H:=H1
     clear H1
     replace H:=Option.bind_eq_some_iff.mp H
     obtain ⟨t117,A240,H⟩:=H
     replace H:(spec_DenyClaim.j0 k (!t117) a1_0 y112)=some (r1,r2,r3):=H
     have A24:=mA A240
     clear A240
     have H':=mA H
     clear H
     have hnb25:=NB101_102.out
     have hnc25:=NB102_101.out
     have hnb26:=NB101_115.out
     have hnc26:=NB115_101.out
     have hcz27_0:w18.cell? ⟨gb101,0,none⟩=some (.int .i64 a1_0):=(kC BK101.out 0).trans rfl
     have hcz27_1:w18.cell? ⟨gb101,1,none⟩=some (.slice A1_1 l1_1.length c1_1):=(kC BK101.out 1).trans rfl
     have hfz27_0:=kF BK101.out 0
     have hfz27_1:=kF BK101.out 1
     go_wp2_with (first|((with_reducible refine gate_callee (f:=44) rfl ?_);refine goesL_ (some 19) rfl rfl Try.func44 (by kernel_rfl) rfl #[.int .i64 a0,.agg #[.int .i64 a1_0,.slice A1_1 l1_1.length c1_1]] rfl (by (try simp only [mT,mC,mN]);first|done|rfl|(simp only [lD,lT];rfl)) ?_;(with_reducible refine (spec_ClaimOk.calls k a0 a1_0 _ _ l1_1 true _ ?side1 ?side2 A22.out).mono ?_);(case side1=>exact Kd.C_below HR1_1.out (by repeat (first|(with_reducible first|exact HB.out|apply bA|apply bN|apply bD|refine bS ?_ GE101.out|refine bS ?_ GE102.out|refine bS ?_ GE115.out)|exact HB.out)));(case side2=>exact HC1_1.out);rintro e w28 ⟨rfl,hb⟩;refine ⟨_,rfl,?_⟩;have n0_:=mA (rB (by (with_reducible repeat (first|apply rA|apply rN|apply rD));exact (rM (rF (p:=⟨gb115,1,none⟩) (rF (p:=⟨gb115,0,none⟩) (Kd.R_types HO111.out BK115.out (by decide)) (fun _ hk=>hk.2) (.int .i64 a1_0)) (fun _ hk=>hk.2) (.slice Ao19 y112.length co19)) (fun _ h_=>h_.1))) hb);have n1_:=mA (rB (by (with_reducible repeat (first|apply rA|apply rN|apply rD));exact (rM (rF (p:=⟨gb115,1,none⟩) (rF (p:=⟨gb115,0,none⟩) (Kd.R_types HO114.out BK115.out (by decide)) (fun _ hk=>hk.2) (.int .i64 a1_0)) (fun _ hk=>hk.2) (.slice Ao19 y112.length co19)) (fun _ h_=>h_.1))) hb);have n2_:=mA (blk_below (g:=gb101) (o:=.cells #[.int .i64 a1_0,.slice A1_1 l1_1.length c1_1] 50 (0,0)) (by (with_reducible repeat (first|refine kN ?_ _|refine kD ?_|refine kA ?_ _));refine blk_far ?_ NB101_115.out _;(with_reducible repeat (first|refine kN ?_ _|refine kD ?_|refine kA ?_ _));refine blk_far ?_ NB101_115.out _;(with_reducible repeat (first|refine kN ?_ _|refine kD ?_|refine kA ?_ _));exact BK101.out) hb);have n3_:=mA (blk_below (g:=gb102) (o:=.cells #[.int .i64 0,.slice none 0 0] 50 (0,0)) (by (with_reducible repeat (first|refine kN ?_ _|refine kD ?_|refine kA ?_ _));refine blk_far ?_ NB102_115.out _;(with_reducible repeat (first|refine kN ?_ _|refine kD ?_|refine kA ?_ _));refine blk_far ?_ NB102_115.out _;(with_reducible repeat (first|refine kN ?_ _|refine kD ?_|refine kA ?_ _));exact BK102.out) hb);have n4_:=mA (blk_below (g:=gb115) (o:=.cells #[.int .i64 a1_0,.slice Ao19 y112.length co19] 50 (0,0)) (by (with_reducible repeat (first|refine kN ?_ _|refine kD ?_|refine kA ?_ _));refine blk_put (cs:=#[.int .i64 a1_0,.slice none 0 0]) ?_ 1 _ rfl;(with_reducible repeat (first|refine kN ?_ _|refine kD ?_|refine kA ?_ _));refine blk_put (cs:=#[.int .i64 0,.slice none 0 0]) ?_ 0 _ rfl;(with_reducible repeat (first|refine kN ?_ _|refine kD ?_|refine kA ?_ _));exact BK115.out) hb);have n5_:=mA (bT (by repeat (first|(with_reducible first|exact HB.out|apply bA|apply bN|apply bD|refine bS ?_ GE101.out|refine bS ?_ GE102.out|refine bS ?_ GE115.out)|exact HB.out)) hb);clear HO111 HO114 BK101 BK102 BK115 HB;have HO111:=n0_;have HO114:=n1_;have BK101:=n2_;have BK102:=n3_;have BK115:=n4_;have HB:=n5_;clear n0_ n1_ n2_ n3_ n4_ n5_;(try clear hb);(try clear hb2);(try clear hk);(try clear hi);have hnb29:=NB115_102.out;have hnc29:=NB102_115.out;have hcz30_0:w28.cell? ⟨gb115,0,none⟩=some (.int .i64 a1_0):=(kC BK115.out 0).trans rfl;have hcz30_1:w28.cell? ⟨gb115,1,none⟩=some (.slice Ao19 y112.length co19):=(kC BK115.out 1).trans rfl;have hfz30_0:=kF BK115.out 0;have hfz30_1:=kF BK115.out 1)|(go_at_call 44;(with_reducible refine (spec_ClaimOk.calls k a0 a1_0 _ _ y112 t117 _ ?side1 ?side2 A24.out).mono ?_);(case side1=>repeat (first|exact (rR HO114.out).2.2|(with_reducible refine cA ?_ _)|(with_reducible refine cN ?_ _)|(with_reducible refine cD ?_)));(case side2=>exact (rR HO114.out).2.1);rintro e w31 ⟨rfl,hb⟩;have n0_:=mA (rB (by (with_reducible repeat (first|apply rA|apply rN|apply rD));exact HO111.out) hb);have n1_:=mA (rB (by (with_reducible repeat (first|apply rA|apply rN|apply rD));exact HO114.out) hb);have n2_:=mA (blk_below (g:=gb101) (o:=.cells #[.int .i64 a1_0,.slice A1_1 l1_1.length c1_1] 50 (0,0)) (by (with_reducible repeat (first|refine kN ?_ _|refine kD ?_|refine kA ?_ _));exact BK101.out) hb);have n3_:=mA (blk_below (g:=gb102) (o:=.cells #[.int .i64 0,.slice none 0 0] 50 (0,0)) (by (with_reducible repeat (first|refine kN ?_ _|refine kD ?_|refine kA ?_ _));exact BK102.out) hb);have n4_:=mA (blk_below (g:=gb115) (o:=.cells #[.int .i64 a1_0,.slice Ao19 y112.length co19] 50 (0,0)) (by (with_reducible repeat (first|refine kN ?_ _|refine kD ?_|refine kA ?_ _));exact BK115.out) hb);have n5_:=mA (bT (by repeat (first|(with_reducible first|exact HB.out|apply bA|apply bN|apply bD|refine bS ?_ GE101.out|refine bS ?_ GE102.out|refine bS ?_ GE115.out)|exact HB.out)) hb);clear HO111 HO114 BK101 BK102 BK115 HB;have HO111:=n0_;have HO114:=n1_;have BK101:=n2_;have BK102:=n3_;have BK115:=n4_;have HB:=n5_;clear n0_ n1_ n2_ n3_ n4_ n5_;(try clear hb);(try clear hb2);(try clear hk);(try clear hi)))
     go_meet
     case rel=>exact ⟨_,(!t117),(by first|rfl|(simp;done)|(simp [*];done)),H',⟨by first|omega|exact Nat.le_refl _⟩,⟨by (with_reducible repeat (first|apply rA|apply rN|apply rD));exact rM HO114.out (fun _ hk=>trivial)⟩,⟨by (with_reducible repeat (first|refine kN ?_ _|refine kD ?_|refine kA ?_ _));exact BK101.out⟩,⟨by (with_reducible repeat (first|refine kN ?_ _|refine kD ?_|refine kA ?_ _));exact BK102.out⟩,⟨by (with_reducible repeat (first|refine kN ?_ _|refine kD ?_|refine kA ?_ _));exact BK115.out⟩,⟨by repeat (first|(with_reducible first|exact HB.out|apply bA|apply bN|apply bD|refine bS ?_ GE101.out|refine bS ?_ GE102.out|refine bS ?_ GE115.out)|exact HB.out)⟩⟩
    ·replace c23:=Bool.eq_false_iff.mpr c23
     subst c23
     have H1:(spec_DenyClaim.j0 k true a1_0 y112)=some (r1,r2,r3):=by rw [if_neg (show ¬ (false=true) by decide)] at H;exact H
     clear H
     have H:=H1
     clear H1
     have H':=mA H
     clear H
     have hnb32:=NB101_102.out
     have hnc32:=NB102_101.out
     have hnb33:=NB101_115.out
     have hnc33:=NB115_101.out
     have hcz34_0:w18.cell? ⟨gb101,0,none⟩=some (.int .i64 a1_0):=(kC BK101.out 0).trans rfl
     have hcz34_1:w18.cell? ⟨gb101,1,none⟩=some (.slice A1_1 l1_1.length c1_1):=(kC BK101.out 1).trans rfl
     have hfz34_0:=kF BK101.out 0
     have hfz34_1:=kF BK101.out 1
     go_wp2_with (first|((with_reducible refine gate_callee (f:=44) rfl ?_);refine goesL_ (some 19) rfl rfl Try.func44 (by kernel_rfl) rfl #[.int .i64 a0,.agg #[.int .i64 a1_0,.slice A1_1 l1_1.length c1_1]] rfl (by (try simp only [mT,mC,mN]);first|done|rfl|(simp only [lD,lT];rfl)) ?_;(with_reducible refine (spec_ClaimOk.calls k a0 a1_0 _ _ l1_1 false _ ?side1 ?side2 A22.out).mono ?_);(case side1=>exact Kd.C_below HR1_1.out (by repeat (first|(with_reducible first|exact HB.out|apply bA|apply bN|apply bD|refine bS ?_ GE101.out|refine bS ?_ GE102.out|refine bS ?_ GE115.out)|exact HB.out)));(case side2=>exact HC1_1.out);rintro e w35 ⟨rfl,hb⟩;refine ⟨_,rfl,?_⟩;have n0_:=mA (rB (by (with_reducible repeat (first|apply rA|apply rN|apply rD));exact (rM (rF (p:=⟨gb115,1,none⟩) (rF (p:=⟨gb115,0,none⟩) (Kd.R_types HO111.out BK115.out (by decide)) (fun _ hk=>hk.2) (.int .i64 a1_0)) (fun _ hk=>hk.2) (.slice Ao19 y112.length co19)) (fun _ h_=>h_.1))) hb);have n1_:=mA (rB (by (with_reducible repeat (first|apply rA|apply rN|apply rD));exact (rM (rF (p:=⟨gb115,1,none⟩) (rF (p:=⟨gb115,0,none⟩) (Kd.R_types HO114.out BK115.out (by decide)) (fun _ hk=>hk.2) (.int .i64 a1_0)) (fun _ hk=>hk.2) (.slice Ao19 y112.length co19)) (fun _ h_=>h_.1))) hb);have n2_:=mA (blk_below (g:=gb101) (o:=.cells #[.int .i64 a1_0,.slice A1_1 l1_1.length c1_1] 50 (0,0)) (by (with_reducible repeat (first|refine kN ?_ _|refine kD ?_|refine kA ?_ _));refine blk_far ?_ NB101_115.out _;(with_reducible repeat (first|refine kN ?_ _|refine kD ?_|refine kA ?_ _));refine blk_far ?_ NB101_115.out _;(with_reducible repeat (first|refine kN ?_ _|refine kD ?_|refine kA ?_ _));exact BK101.out) hb);have n3_:=mA (blk_below (g:=gb102) (o:=.cells #[.int .i64 0,.slice none 0 0] 50 (0,0)) (by (with_reducible repeat (first|refine kN ?_ _|refine kD ?_|refine kA ?_ _));refine blk_far ?_ NB102_115.out _;(with_reducible repeat (first|refine kN ?_ _|refine kD ?_|refine kA ?_ _));refine blk_far ?_ NB102_115.out _;(with_reducible repeat (first|refine kN ?_ _|refine kD ?_|refine kA ?_ _));exact BK102.out) hb);have n4_:=mA (blk_below (g:=gb115) (o:=.cells #[.int .i64 a1_0,.slice Ao19 y112.length co19] 50 (0,0)) (by (with_reducible repeat (first|refine kN ?_ _|refine kD ?_|refine kA ?_ _));refine blk_put (cs:=#[.int .i64 a1_0,.slice none 0 0]) ?_ 1 _ rfl;(with_reducible repeat (first|refine kN ?_ _|refine kD ?_|refine kA ?_ _));refine blk_put (cs:=#[.int .i64 0,.slice none 0 0]) ?_ 0 _ rfl;(with_reducible repeat (first|refine kN ?_ _|refine kD ?_|refine kA ?_ _));exact BK115.out) hb);have n5_:=mA (bT (by repeat (first|(with_reducible first|exact HB.out|apply bA|apply bN|apply bD|refine bS ?_ GE101.out|refine bS ?_ GE102.out|refine bS ?_ GE115.out)|exact HB.out)) hb);clear HO111 HO114 BK101 BK102 BK115 HB;have HO111:=n0_;have HO114:=n1_;have BK101:=n2_;have BK102:=n3_;have BK115:=n4_;have HB:=n5_;clear n0_ n1_ n2_ n3_ n4_ n5_;(try clear hb);(try clear hb2);(try clear hk);(try clear hi)))
     go_meet
     case rel=>exact ⟨_,(true),(by first|rfl|(simp;done)|(simp [*];done)),H',⟨by first|omega|exact Nat.le_refl _⟩,⟨by (with_reducible repeat (first|apply rA|apply rN|apply rD));exact rM HO114.out (fun _ hk=>trivial)⟩,⟨by (with_reducible repeat (first|refine kN ?_ _|refine kD ?_|refine kA ?_ _));exact BK101.out⟩,⟨by (with_reducible repeat (first|refine kN ?_ _|refine kD ?_|refine kA ?_ _));exact BK102.out⟩,⟨by (with_reducible repeat (first|refine kN ?_ _|refine kD ?_|refine kA ?_ _));exact BK115.out⟩,⟨by repeat (first|(with_reducible first|exact HB.out|apply bA|apply bN|apply bD|refine bS ?_ GE101.out|refine bS ?_ GE102.out|refine bS ?_ GE115.out)|exact HB.out)⟩⟩
   case rest =>
    clear HC5
    try clear c1
    try clear c2
    try clear p2
    try clear c3
    try clear c4
    try clear c23
    try clear c25
    try clear c26
    try clear c29
    try clear c32
    try clear c33
    try clear hcz27_0
    try clear hcz27_1
    try clear hcz30_0
    try clear hcz30_1
    try clear hcz34_0
    try clear hcz34_1
    try clear hfz27_0
    try clear hfz27_1
    try clear hfz30_0
    try clear hfz30_1
    try clear hfz34_0
    try clear hfz34_1
    obtain ⟨kq,x26_4,rfl,HA,HJ4,HO_116001,BK101,BK102,BK115,HB⟩:=hcut
    cases kq with
    | zero=>exact absurd HA.out (by simp [spec_DenyClaim.j0])
    | succ kj4 =>
     have H:=HA.out
     clear HA
     simp only [spec_DenyClaim.j0] at H
     by_cases c36:x26_4=true
     ·subst c36
      have H1:(some (0,([]:List (S52)),false))=some (r1,r2,r3):=by rw [if_pos rfl] at H;exact H
      clear H
      have H:=H1
      clear H1
      simp only [Option.some.injEq,Prod.mk.injEq] at H
      obtain ⟨rfl,rfl,rfl⟩:=H
      have hnb37:=NB102_101.out
      have hnc37:=NB101_102.out
      have hnb38:=NB102_115.out
      have hnc38:=NB115_102.out
      have hcz39_0:wc.cell? ⟨gb102,0,none⟩=some (.int .i64 0):=(kC BK102.out 0).trans rfl
      have hcz39_1:wc.cell? ⟨gb102,1,none⟩=some (.slice none 0 0):=(kC BK102.out 1).trans rfl
      have hfz39_0:=kF BK102.out 0
      have hfz39_1:=kF BK102.out 1
      go_wp2
      refine bodyPost_ret (results_ct rfl _ _ gb102 50 #[.int .i64 0,.slice none 0 0] (0,0) _ rfl (by (with_reducible repeat (first|refine kN ?_ _|refine kD ?_|refine kA ?_ _));refine blk_put (cs:=#[.int .i64 0,.slice none 0 0]) ?_ 1 _ rfl;(with_reducible repeat (first|refine kN ?_ _|refine kD ?_|refine kA ?_ _));refine blk_put (cs:=#[.int .i64 0,.slice none 0 0]) ?_ 0 _ rfl;(with_reducible repeat (first|refine kN ?_ _|refine kD ?_|refine kA ?_ _));exact BK102.out) Try.underlying50 rfl (by kernel_rfl)) rfl ?_
      exact ⟨_,by first|rfl|(simp [errW_none,errW_some]<;>rfl)|(simp [*, errW_none,errW_some]<;>rfl),by first|exact Kd.R_nil _ _ _ _ _|exact Kd.N_nil _ _ _ _ _|exact Kd.V_nil _ _ _ _ _|exact Kd.Q_nil _ _ _ _ _|exact Kd.S_nil _ _ _ _ _,by repeat (first|(with_reducible first|exact HB.out|apply bA|apply bN|apply bD|refine bS ?_ GE101.out|refine bS ?_ GE102.out|refine bS ?_ GE115.out)|exact HB.out)⟩
     ·replace c36:=Bool.eq_false_iff.mpr c36
      subst c36
      have H1:(some (a1_0,y112,true))=some (r1,r2,r3):=by rw [if_neg (show ¬ (false=true) by decide)] at H;exact H
      clear H
      have H:=H1
      clear H1
      simp only [Option.some.injEq,Prod.mk.injEq] at H
      obtain ⟨rfl,rfl,rfl⟩:=H
      have hnb40:=NB115_101.out
      have hnc40:=NB101_115.out
      have hnb41:=NB115_102.out
      have hnc41:=NB102_115.out
      have hcz42_0:wc.cell? ⟨gb115,0,none⟩=some (.int .i64 a1_0):=(kC BK115.out 0).trans rfl
      have hcz42_1:wc.cell? ⟨gb115,1,none⟩=some (.slice Ao19 y112.length co19):=(kC BK115.out 1).trans rfl
      have hfz42_0:=kF BK115.out 0
      have hfz42_1:=kF BK115.out 1
      have hnb43:=NB102_101.out
      have hnc43:=NB101_102.out
      have hcz44_0:wc.cell? ⟨gb102,0,none⟩=some (.int .i64 0):=(kC BK102.out 0).trans rfl
      have hcz44_1:wc.cell? ⟨gb102,1,none⟩=some (.slice none 0 0):=(kC BK102.out 1).trans rfl
      have hfz44_0:=kF BK102.out 0
      have hfz44_1:=kF BK102.out 1
      go_wp2
      refine bodyPost_ret (results_ct rfl _ _ gb102 50 #[.int .i64 a1_0,.slice Ao19 y112.length co19] (0,0) _ rfl (by (with_reducible repeat (first|refine kN ?_ _|refine kD ?_|refine kA ?_ _));refine blk_put (cs:=#[.int .i64 a1_0,.slice none 0 0]) ?_ 1 _ rfl;(with_reducible repeat (first|refine kN ?_ _|refine kD ?_|refine kA ?_ _));refine blk_put (cs:=#[.int .i64 0,.slice none 0 0]) ?_ 0 _ rfl;(with_reducible repeat (first|refine kN ?_ _|refine kD ?_|refine kA ?_ _));exact BK102.out) Try.underlying50 rfl (by kernel_rfl)) rfl ?_
      exact ⟨_,by first|rfl|(simp [errW_none,errW_some]<;>rfl)|(simp [*, errW_none,errW_some]<;>rfl),by (with_reducible repeat (first|apply rA|apply rN|apply rD));exact rM (rF (p:=⟨gb102,1,none⟩) (rF (p:=⟨gb102,0,none⟩) (Kd.R_types HO_116001.out BK102.out (by decide)) (fun _ hk=>hk.2) (.int .i64 a1_0)) (fun _ hk=>hk.2) (.slice Ao19 y112.length co19)) (fun _ hk=>trivial),by repeat (first|(with_reducible first|exact HB.out|apply bA|apply bN|apply bD|refine bS ?_ GE101.out|refine bS ?_ GE102.out|refine bS ?_ GE115.out)|exact HB.out)⟩
  ·rw [if_neg c4] at H
   exact absurd H (by simp)
 ·rw [if_neg c3] at H
  exact absurd H (by simp)
end Go.Proofs.Ytpampekijfjlkaa.X
