/- Joined by a program of this session's: X39, X67, X89, X131, X132, X133, X134. -/
import Derived.Test.YtpampekijfjlkabG22d322e51c
import Derived.Test.YtpampekijfjlkabGbb2dcb0984
import Derived.Test.YtpampekijfjlkabGed8af054f1

namespace Go.Proofs.Ytpampekijfjlkab.X
open Go.RowKit Go.Proofs.YtpampekijfjlkabW.PrintWords Go.Proofs.YtpampekijfjlkabW.PrintLast Go.Proofs.YtpampekijfjlkabW.PrintMore
open Go.Proofs.YtpampekijfjlkabW.PrintWords renaming Aside0.mk → mA, pw_below_drewN → bN, below_drew1 → bD, below_alloc → bA, below_set → bS, blk_alloc → kA, blk_drewN → kN, blk_drew → kD, blk_cell → kC, blk_frozen → kF, below_size → bZ, below_step → bT, Kd.R_alloc → rA, Kd.R_drewN → rN, Kd.R_drew → rD, Kd.R_lt → rL, Kd.R_below → rB, Kd.N_alloc → nA, Kd.N_drewN → nN, Kd.N_drew → nD, Kd.C_alloc → cA, Kd.C_drewN → cN, Kd.C_drew → cD
open List renaming length_take → lT, length_drop → lD, map_toArray → mT, map_cons → mC, map_nil → mN
attribute [local go_sem] max2_int min2_int max_two min_two max_three min_three max_four min_four   -- for this text's walks alone
set_option linter.unusedVariables false
set_option linter.unusedSimpArgs false
/-! ### spec_l4May: function 101 -/
def spec_l4May.f (k:Nat) (a0_0:Int) (l0_1:List (S33)) (a1:Int):Option (Bool):=if 0≤a0_0 then ((spec_l3Holds.f k l0_1 a1).bind fun t102=>(some (((Int.tmod (shr .i64 a1 a0_0) 2)==1)==t102))) else (none)
theorem spec_l4May.mono : ∀ a0 a1 a2 k,LeO (spec_l4May.f k a0 a1 a2) (spec_l4May.f (k+1) a0 a1 a2):=by
 intro a0 a1 a2 k
 unfold spec_l4May.f
 repeat' first
   | (with_reducible exact spec_l3Holds.mono _ _ _)
   | (with_reducible exact LeO.refl _)
   | (with_reducible exact LeO.none _)
   | (with_reducible refine LeO.ite ?_ ?_)
   | (with_reducible refine LeO.bind ?_ (fun _=>?_))
   | exact spec_l3Holds.mono _ _ _
   | exact LeO.none _
   | refine LeO.ite ?_ ?_
   | refine LeO.bind ?_ (fun _=>?_)
set_option maxHeartbeats 8000000 in
set_option maxRecDepth 100000 in
theorem spec_l4May.calls (k:Nat) (a0_0:Int) (A0_1:Option Addr) (c0_1:Nat) (l0_1:List (S33)) (a1:Int) (r:Bool) (w:World) (hr0_1:Kd.C k33 w A0_1 l0_1.length l0_1) (hc0_1:l0_1.length≤c0_1) (h:spec_l4May.f k a0_0 l0_1 a1=some r) :
  Calls Try.prog 101 #[.agg #[.int .i64 a0_0,.slice A0_1 l0_1.length c0_1],.int .i64 a1] w fun e w'=>e = .returned (.bool r)∧Below w.heap.size w w':=by
 have hu36:=Try.underlying36
 have HR0_1:=mA hr0_1
 have HC0_1:=mA hc0_1
 clear hr0_1 hc0_1
 have HB:=mA (Below.refl w.heap.size w)
 have H:(if 0≤a0_0 then ((spec_l3Holds.f k l0_1 a1).bind fun t102=>(some (((Int.tmod (shr .i64 a1 a0_0) 2)==1)==t102))) else (none))=some r:=h
 clear h
 by_cases c3:0≤a0_0
 ·rw [if_pos c3] at H
  have c3b0:=eq_true c3
  have c3b1:decide (0≤a0_0)=true:=decide_eq_true c3
  clear c3
  obtain ⟨ji4,hji4⟩ : ∃ j_:Int,(shr .i64 a1 a0_0)=j_:=⟨_,rfl⟩
  replace H:((spec_l3Holds.f k l0_1 a1).bind fun t102=>(some (((Int.tmod (ji4) 2)==1)==t102)))=some r:=by first|(rw [hji4] at H;exact H)|(simp only [hji4] at H ⊢;exact H)
  have hji4_:(a1 / 2^min a0_0.toNat 64)=ji4:=hji4
  have hji4z:a0_0≤64→(a1 / 2^a0_0.toNat)=ji4:=shr_small hji4
  replace H:=Option.bind_eq_some_iff.mp H
  obtain ⟨t102,A50,H⟩:=H
  replace H:(some (((Int.tmod (ji4) 2)==1)==t102))=some r:=H
  have A5:=mA A50
  clear A50
  obtain rfl:=Option.some.inj H
  go_enter Try.func101,Try.ntmps101
  go_wp2_with (first|((with_reducible refine gate_dst (N:=2) rfl ?_);refine box_event ?hg (N:=2) ?hd (cs:=#[.int .i64 a0_0,.slice A0_1 l0_1.length c0_1]) (t:=36) ?hr ?_;(case hd=>rfl);(case hg=>rfl);(case hr=>first|(go_simp;done)|(go_simp;rfl));intro gb101 hg w6 hbox hb;have n0_:=mA (bT (by repeat (first|(with_reducible first|exact HB.out|apply bA|apply bN|apply bD)|exact HB.out)) hb);have n1_:=mA (hbox);have n2_:=mA ((by rw [hg];exact (bZ (by repeat (first|(with_reducible first|exact HB.out|apply bA|apply bN|apply bD)|exact HB.out))):w.heap.size≤gb101));have n3_:=mA ((by rw [hg];exact (bZ (by repeat (first|(with_reducible first|exact HB.out|apply bA|apply bN|apply bD)|exact HB.out))):w.heap.size≤gb101));clear HB;have HB:=n0_;have BK101:=n1_;have GW101:=n2_;have GE101:=n3_;clear n0_ n1_ n2_ n3_ hb hbox hg;have hcz7_0:w6.cell? ⟨gb101,0,none⟩=some (.int .i64 a0_0):=(kC BK101.out 0).trans rfl;have hcz7_1:w6.cell? ⟨gb101,1,none⟩=some (.slice A0_1 l0_1.length c0_1):=(kC BK101.out 1).trans rfl;have hfz7_0:=kF BK101.out 0;have hfz7_1:=kF BK101.out 1)|(go_at_call 140;(with_reducible refine (spec_l3Holds.calls k _ _ l0_1 a1 t102 _ ?side1 ?side2 A5.out).mono ?_);(case side1=>repeat (first|exact (Kd.C_below HR0_1.out HB.out)|(with_reducible refine cA ?_ _)|(with_reducible refine cN ?_ _)|(with_reducible refine cD ?_)));(case side2=>exact HC0_1.out);rintro e w' ⟨rfl,⟨nd,rfl⟩⟩;(try first|exact ⟨rfl,_,World.drewN_drewN _ _ _⟩|exact ⟨rfl,_,Eq.trans (World.drewN_drewN _ _ _) (congrArg (World.drewN _) (Nat.add_assoc _ _ _))⟩)))
  repeat (go_quiet (first|((with_reducible refine gate_dst (N:=2) rfl ?_);refine box_event ?hg (N:=2) ?hd (cs:=#[.int .i64 a0_0,.slice A0_1 l0_1.length c0_1]) (t:=36) ?hr ?_;(case hd=>rfl);(case hg=>rfl);(case hr=>first|(go_simp;done)|(go_simp;rfl));intro gb101 hg w6 hbox hb;have n0_:=mA (bT (by repeat (first|(with_reducible first|exact HB.out|apply bA|apply bN|apply bD)|exact HB.out)) hb);have n1_:=mA (hbox);have n2_:=mA ((by rw [hg];exact (bZ (by repeat (first|(with_reducible first|exact HB.out|apply bA|apply bN|apply bD)|exact HB.out))):w.heap.size≤gb101));have n3_:=mA ((by rw [hg];exact (bZ (by repeat (first|(with_reducible first|exact HB.out|apply bA|apply bN|apply bD)|exact HB.out))):w.heap.size≤gb101));clear HB;have HB:=n0_;have BK101:=n1_;have GW101:=n2_;have GE101:=n3_;clear n0_ n1_ n2_ n3_ hb hbox hg;have hcz7_0:w6.cell? ⟨gb101,0,none⟩=some (.int .i64 a0_0):=(kC BK101.out 0).trans rfl;have hcz7_1:w6.cell? ⟨gb101,1,none⟩=some (.slice A0_1 l0_1.length c0_1):=(kC BK101.out 1).trans rfl;have hfz7_0:=kF BK101.out 0;have hfz7_1:=kF BK101.out 1)|(go_at_call 140;(with_reducible refine (spec_l3Holds.calls k _ _ l0_1 a1 t102 _ ?side1 ?side2 A5.out).mono ?_);(case side1=>repeat (first|exact (Kd.C_below HR0_1.out HB.out)|(with_reducible refine cA ?_ _)|(with_reducible refine cN ?_ _)|(with_reducible refine cD ?_)));(case side2=>exact HC0_1.out);rintro e w' ⟨rfl,⟨nd,rfl⟩⟩;(try first|exact ⟨rfl,_,World.drewN_drewN _ _ _⟩|exact ⟨rfl,_,Eq.trans (World.drewN_drewN _ _ _) (congrArg (World.drewN _) (Nat.add_assoc _ _ _))⟩)));try go_wp2_with (first|((with_reducible refine gate_dst (N:=2) rfl ?_);refine box_event ?hg (N:=2) ?hd (cs:=#[.int .i64 a0_0,.slice A0_1 l0_1.length c0_1]) (t:=36) ?hr ?_;(case hd=>rfl);(case hg=>rfl);(case hr=>first|(go_simp;done)|(go_simp;rfl));intro gb101 hg w6 hbox hb;have n0_:=mA (bT (by repeat (first|(with_reducible first|exact HB.out|apply bA|apply bN|apply bD)|exact HB.out)) hb);have n1_:=mA (hbox);have n2_:=mA ((by rw [hg];exact (bZ (by repeat (first|(with_reducible first|exact HB.out|apply bA|apply bN|apply bD)|exact HB.out))):w.heap.size≤gb101));have n3_:=mA ((by rw [hg];exact (bZ (by repeat (first|(with_reducible first|exact HB.out|apply bA|apply bN|apply bD)|exact HB.out))):w.heap.size≤gb101));clear HB;have HB:=n0_;have BK101:=n1_;have GW101:=n2_;have GE101:=n3_;clear n0_ n1_ n2_ n3_ hb hbox hg;have hcz7_0:w6.cell? ⟨gb101,0,none⟩=some (.int .i64 a0_0):=(kC BK101.out 0).trans rfl;have hcz7_1:w6.cell? ⟨gb101,1,none⟩=some (.slice A0_1 l0_1.length c0_1):=(kC BK101.out 1).trans rfl;have hfz7_0:=kF BK101.out 0;have hfz7_1:=kF BK101.out 1)|(go_at_call 140;(with_reducible refine (spec_l3Holds.calls k _ _ l0_1 a1 t102 _ ?side1 ?side2 A5.out).mono ?_);(case side1=>repeat (first|exact (Kd.C_below HR0_1.out HB.out)|(with_reducible refine cA ?_ _)|(with_reducible refine cN ?_ _)|(with_reducible refine cD ?_)));(case side2=>exact HC0_1.out);rintro e w' ⟨rfl,⟨nd,rfl⟩⟩;(try first|exact ⟨rfl,_,World.drewN_drewN _ _ _⟩|exact ⟨rfl,_,Eq.trans (World.drewN_drewN _ _ _) (congrArg (World.drewN _) (Nat.add_assoc _ _ _))⟩))))
  go_ret
  exact ⟨by first|rfl|(simp [errW_none,errW_some]<;>rfl)|(simp only [←hji4];first|rfl|(simp [errW_none,errW_some]<;>rfl))|(simp [*, errW_none,errW_some]<;>rfl),by repeat (first|(with_reducible first|exact HB.out|apply bA|apply bN|apply bD|refine bS ?_ GE101.out)|exact HB.out)⟩
 ·rw [if_neg c3] at H
  exact absurd H (by simp)
/-! ### spec_l4Table: function 114 -/
def spec_l4Table.l0:Nat→Int→Int→Int→Int→List (S33)→Option (Int)
 | 0,_,_,_,_,_=>none
 | k+1,x0,x5,x6,x102000,x102001=>if 0≤x0 then (if x6<(shl .i64 1 x0) then ((spec_l4May.f k x102000 x102001 x6).bind fun t102=>(if t102=true then (if 0≤x6 then (spec_l4Table.l0 k x0 (Go.bits .or .i64 x5 (shl .i64 1 x6)) (wrap64 (x6+1)) x102000 x102001) else (none)) else (spec_l4Table.l0 k x0 x5 (wrap64 (x6+1)) x102000 x102001))) else (some x5)) else (none)
def spec_l4Table.f (k:Nat) (a0:Int) (a1_0:Int) (l1_1:List (S33)):Option (Int):=spec_l4Table.l0 k a0 0 0 a1_0 l1_1
theorem spec_l4Table.mono_l : ∀ k,(∀ y0 y1 y2 y3 y4,LeO (spec_l4Table.l0 k y0 y1 y2 y3 y4) (spec_l4Table.l0 (k+1) y0 y1 y2 y3 y4))
 | 0=>fun _ _ _ _ _ r h=>by simp [spec_l4Table.l0] at h
 | k+1=>by
  have ih0:=spec_l4Table.mono_l k
  ·intro y0 y1 y2 y3 y4
   unfold spec_l4Table.l0
   repeat' first
   | (with_reducible exact ih0 _ _ _ _ _)
   | (with_reducible exact spec_l4May.mono _ _ _ _)
   | (with_reducible exact LeO.refl _)
   | (with_reducible exact LeO.none _)
   | (with_reducible refine LeO.ite ?_ ?_)
   | (with_reducible refine LeO.bind ?_ (fun _=>?_))
   | exact ih0 _ _ _ _ _
   | exact spec_l4May.mono _ _ _ _
   | exact LeO.none _
   | refine LeO.ite ?_ ?_
   | refine LeO.bind ?_ (fun _=>?_)
theorem spec_l4Table.mono : ∀ a0 a1 a2 k,LeO (spec_l4Table.f k a0 a1 a2) (spec_l4Table.f (k+1) a0 a1 a2):=by
 intro a0 a1 a2 k
 have ih0:=spec_l4Table.mono_l k
 unfold spec_l4Table.f
 repeat' first
   | (with_reducible exact ih0 _ _ _ _ _)
   | (with_reducible exact spec_l4May.mono _ _ _ _)
   | (with_reducible exact LeO.refl _)
   | (with_reducible exact LeO.none _)
   | (with_reducible refine LeO.ite ?_ ?_)
   | (with_reducible refine LeO.bind ?_ (fun _=>?_))
   | exact ih0 _ _ _ _ _
   | exact spec_l4May.mono _ _ _ _
   | exact LeO.none _
   | refine LeO.ite ?_ ?_
   | refine LeO.bind ?_ (fun _=>?_)
set_option maxHeartbeats 8000000 in
set_option maxRecDepth 100000 in
theorem spec_l4Table.calls (k:Nat) (a0:Int) (a1_0:Int) (A1_1:Option Addr) (c1_1:Nat) (l1_1:List (S33)) (r:Int) (w:World) (hr1_1:Kd.C k33 w A1_1 l1_1.length l1_1) (hc1_1:l1_1.length≤c1_1) (h:spec_l4Table.f k a0 a1_0 l1_1=some r) :
  Calls Try.prog 114 #[.int .i64 a0,.agg #[.int .i64 a1_0,.slice A1_1 l1_1.length c1_1]] w fun e w'=>e = .returned (.int .i64 r)∧Below w.heap.size w w':=by
 have hu36:=Try.underlying36
 have HR1_1:=mA hr1_1
 have HC1_1:=mA hc1_1
 clear hr1_1 hc1_1
 have HB:=mA (Below.refl w.heap.size w)
 have H:(spec_l4Table.l0 k a0 0 0 a1_0 l1_1)=some r:=h
 clear h
 have H':=mA H
 clear H
 go_enter Try.func114,Try.ntmps114
 go_wp2_with (first|((with_reducible refine gate_dst (N:=3) rfl ?_);refine box_event ?hg (N:=3) ?hd (cs:=#[.int .i64 a1_0,.slice A1_1 l1_1.length c1_1]) (t:=36) ?hr ?_;(case hd=>rfl);(case hg=>rfl);(case hr=>first|(go_simp;done)|(go_simp;rfl));intro gb101 hg w3 hbox hb;have n0_:=mA (bT (by repeat (first|(with_reducible first|exact HB.out|apply bA|apply bN|apply bD)|exact HB.out)) hb);have n1_:=mA (hbox);have n2_:=mA ((by rw [hg];exact (bZ (by repeat (first|(with_reducible first|exact HB.out|apply bA|apply bN|apply bD)|exact HB.out))):w.heap.size≤gb101));have n3_:=mA ((by rw [hg];exact (bZ (by repeat (first|(with_reducible first|exact HB.out|apply bA|apply bN|apply bD)|exact HB.out))):w.heap.size≤gb101));clear HB;have HB:=n0_;have BK101:=n1_;have GW101:=n2_;have GE101:=n3_;clear n0_ n1_ n2_ n3_ hb hbox hg))
 go_loopg [5,6] k (fun kq v5 v6 w'=>∃ (x5_1:Int) (x6_1:Int),v5 = .int .i64 x5_1∧v6 = .int .i64 x6_1∧Aside0 (spec_l4Table.l0 kq a0 x5_1 x6_1 a1_0 l1_1=some r)∧Aside0 (kq≤k)∧Aside0 (w'.heap[gb101]?=some (.cells #[.int .i64 a1_0,(.slice A1_1 l1_1.length c1_1)] 36 (0,0)))∧Aside0 (Below w.heap.size w w'))
 case atStart=>exact ⟨(0),(0),(by first|rfl|(simp;done)|(simp [*];done)),(by first|rfl|(simp;done)|(simp [*];done)),H',⟨Nat.le_refl _⟩,⟨by (with_reducible repeat (first|refine kN ?_ _|refine kD ?_|refine kA ?_ _));exact BK101.out⟩,⟨by repeat (first|(with_reducible first|exact HB.out|apply bA|apply bN|apply bD|refine bS ?_ GE101.out)|exact HB.out)⟩⟩
 case round =>
  clear H'
  try clear c1
  try clear p2
  obtain ⟨x5_1,x6_1,rfl,rfl,HA,HK1,BK101,HB⟩:=hrel
  cases gk with
  | zero=>exact absurd HA.out (by simp [spec_l4Table.l0])
  | succ k1 =>
   have H:=HA.out
   clear HA
   simp only [spec_l4Table.l0] at H
   by_cases c4:0≤a0
   ·rw [if_pos c4] at H
    have c4b0:=eq_true c4
    have c4b1:decide (0≤a0)=true:=decide_eq_true c4
    clear c4
    obtain ⟨ji5,hji5⟩ : ∃ j_:Int,(shl .i64 1 a0)=j_:=⟨_,rfl⟩
    replace H:(if x6_1<(ji5) then ((spec_l4May.f k1 a1_0 l1_1 x6_1).bind fun t102=>(if t102=true then (if 0≤x6_1 then (spec_l4Table.l0 k1 a0 (Go.bits .or .i64 x5_1 (shl .i64 1 x6_1)) (wrap64 (x6_1+1)) a1_0 l1_1) else (none)) else (spec_l4Table.l0 k1 a0 x5_1 (wrap64 (x6_1+1)) a1_0 l1_1))) else (some x5_1))=some r:=by first|(rw [hji5] at H;exact H)|(simp only [hji5] at H ⊢;exact H)
    have hji5_:(IntKind.i64.wrap (1*2^min a0.toNat 64))=ji5:=hji5
    have hji5z:a0≤64→(IntKind.i64.wrap (1*2^a0.toNat))=ji5:=shl_small hji5
    have hji5u:(IntKind.i64.wrap (2^min a0.toNat 64))=ji5:=by have h_:=hji5_;rw [Int.one_mul] at h_;exact h_
    have hji5v:a0≤64→(IntKind.i64.wrap (2^a0.toNat))=ji5:=fun hle_=>by have h_:=hji5z hle_;rw [Int.one_mul] at h_;exact h_
    have hji5y:(wrap64 (1*2^min a0.toNat 64))=ji5:=(i64_w _).symm.trans hji5_
    have hji5x:a0≤64→(wrap64 (1*2^a0.toNat))=ji5:=fun h_=>(i64_w _).symm.trans (hji5z h_)
    by_cases c6:x6_1<(ji5)
    ·rw [if_pos c6] at H
     have c6b0:decide (x6_1<(ji5))=true:=decide_eq_true c6
     clear c6
     replace H:=Option.bind_eq_some_iff.mp H
     obtain ⟨t102,A70,H⟩:=H
     replace H:(if t102=true then (if 0≤x6_1 then (spec_l4Table.l0 k1 a0 (Go.bits .or .i64 x5_1 (shl .i64 1 x6_1)) (wrap64 (x6_1+1)) a1_0 l1_1) else (none)) else (spec_l4Table.l0 k1 a0 x5_1 (wrap64 (x6_1+1)) a1_0 l1_1))=some r:=H
     have A7:=mA A70
     clear A70
     by_cases c8:t102=true
     ·subst c8
      have H1:(if 0≤x6_1 then (spec_l4Table.l0 k1 a0 (Go.bits .or .i64 x5_1 (shl .i64 1 x6_1)) (wrap64 (x6_1+1)) a1_0 l1_1) else (none))=some r:=by rw [if_pos rfl] at H;exact H
      clear H
      have H:=H1
      clear H1
      by_cases c9:0≤x6_1
      ·rw [if_pos c9] at H
       have c9b0:=eq_true c9
       have c9b1:decide (0≤x6_1)=true:=decide_eq_true c9
       clear c9
       obtain ⟨ji10,hji10⟩ : ∃ j_:Int,(shl .i64 1 x6_1)=j_:=⟨_,rfl⟩
       replace H:(spec_l4Table.l0 k1 a0 (Go.bits .or .i64 x5_1 (ji10)) (wrap64 (x6_1+1)) a1_0 l1_1)=some r:=by first|(rw [hji10] at H;exact H)|(simp only [hji10] at H ⊢;exact H)
       (try rw [hji10] at A7)
       have hji10_:(IntKind.i64.wrap (1*2^min x6_1.toNat 64))=ji10:=hji10
       have hji10z:x6_1≤64→(IntKind.i64.wrap (1*2^x6_1.toNat))=ji10:=shl_small hji10
       have hji10u:(IntKind.i64.wrap (2^min x6_1.toNat 64))=ji10:=by have h_:=hji10_;rw [Int.one_mul] at h_;exact h_
       have hji10v:x6_1≤64→(IntKind.i64.wrap (2^x6_1.toNat))=ji10:=fun hle_=>by have h_:=hji10z hle_;rw [Int.one_mul] at h_;exact h_
       have hji10y:(wrap64 (1*2^min x6_1.toNat 64))=ji10:=(i64_w _).symm.trans hji10_
       have hji10x:x6_1≤64→(wrap64 (1*2^x6_1.toNat))=ji10:=fun h_=>(i64_w _).symm.trans (hji10z h_)
       have H':=mA H
       clear H
       have hcz11_0:wr.cell? ⟨gb101,0,none⟩=some (.int .i64 a1_0):=(kC BK101.out 0).trans rfl
       have hcz11_1:wr.cell? ⟨gb101,1,none⟩=some (.slice A1_1 l1_1.length c1_1):=(kC BK101.out 1).trans rfl
       have hfz11_0:=kF BK101.out 0
       have hfz11_1:=kF BK101.out 1
       go_wp2_with (first|((with_reducible refine gate_callee (f:=101) rfl ?_);refine goesL_ (some 15) rfl rfl Try.func101 (by kernel_rfl) rfl #[.agg #[.int .i64 a1_0,.slice A1_1 l1_1.length c1_1],.int .i64 x6_1] rfl (by (try simp only [mT,mC,mN]);first|done|rfl|(simp only [lD,lT];rfl)) ?_;(with_reducible refine (spec_l4May.calls k1 a1_0 _ _ l1_1 x6_1 true _ ?side1 ?side2 A7.out).mono ?_);(case side1=>repeat (first|exact (Kd.C_below HR1_1.out HB.out)|(with_reducible refine cA ?_ _)|(with_reducible refine cN ?_ _)|(with_reducible refine cD ?_)));(case side2=>exact HC1_1.out);rintro e w12 ⟨rfl,hb⟩;refine ⟨_,rfl,?_⟩;have n0_:=mA (blk_below (g:=gb101) (o:=.cells #[.int .i64 a1_0,.slice A1_1 l1_1.length c1_1] 36 (0,0)) (by (with_reducible repeat (first|refine kN ?_ _|refine kD ?_|refine kA ?_ _));exact BK101.out) hb);have n1_:=mA (bT (by repeat (first|(with_reducible first|exact HB.out|apply bA|apply bN|apply bD|refine bS ?_ GE101.out)|exact HB.out)) hb);clear BK101 HB;have BK101:=n0_;have HB:=n1_;clear n0_ n1_;(try clear hb);(try clear hb2);(try clear hk);(try clear hi)))
       go_roundg k1
       case measure=>have:=HK1.out;omega
       case rel=>exact ⟨(Go.bits .or .i64 x5_1 (ji10)),(wrap64 (x6_1+1)),(by first|rfl|(simp;done)|(simp only [←hji10]<;>(first|rfl|simp))|(simp [*];done)),(by first|rfl|(simp;done)|(simp [*];done)),H',⟨by have:=HK1.out;omega⟩,⟨by (with_reducible repeat (first|refine kN ?_ _|refine kD ?_|refine kA ?_ _));exact BK101.out⟩,⟨by repeat (first|(with_reducible first|exact HB.out|apply bA|apply bN|apply bD|refine bS ?_ GE101.out)|exact HB.out)⟩⟩
      ·rw [if_neg c9] at H
       exact absurd H (by simp)
     ·replace c8:=Bool.eq_false_iff.mpr c8
      subst c8
      have H1:(spec_l4Table.l0 k1 a0 x5_1 (wrap64 (x6_1+1)) a1_0 l1_1)=some r:=by rw [if_neg (show ¬ (false=true) by decide)] at H;exact H
      clear H
      have H:=H1
      clear H1
      have H':=mA H
      clear H
      have hcz13_0:wr.cell? ⟨gb101,0,none⟩=some (.int .i64 a1_0):=(kC BK101.out 0).trans rfl
      have hcz13_1:wr.cell? ⟨gb101,1,none⟩=some (.slice A1_1 l1_1.length c1_1):=(kC BK101.out 1).trans rfl
      have hfz13_0:=kF BK101.out 0
      have hfz13_1:=kF BK101.out 1
      go_wp2_with (first|((with_reducible refine gate_callee (f:=101) rfl ?_);refine goesL_ (some 15) rfl rfl Try.func101 (by kernel_rfl) rfl #[.agg #[.int .i64 a1_0,.slice A1_1 l1_1.length c1_1],.int .i64 x6_1] rfl (by (try simp only [mT,mC,mN]);first|done|rfl|(simp only [lD,lT];rfl)) ?_;(with_reducible refine (spec_l4May.calls k1 a1_0 _ _ l1_1 x6_1 false _ ?side1 ?side2 A7.out).mono ?_);(case side1=>repeat (first|exact (Kd.C_below HR1_1.out HB.out)|(with_reducible refine cA ?_ _)|(with_reducible refine cN ?_ _)|(with_reducible refine cD ?_)));(case side2=>exact HC1_1.out);rintro e w14 ⟨rfl,hb⟩;refine ⟨_,rfl,?_⟩;have n0_:=mA (blk_below (g:=gb101) (o:=.cells #[.int .i64 a1_0,.slice A1_1 l1_1.length c1_1] 36 (0,0)) (by (with_reducible repeat (first|refine kN ?_ _|refine kD ?_|refine kA ?_ _));exact BK101.out) hb);have n1_:=mA (bT (by repeat (first|(with_reducible first|exact HB.out|apply bA|apply bN|apply bD|refine bS ?_ GE101.out)|exact HB.out)) hb);clear BK101 HB;have BK101:=n0_;have HB:=n1_;clear n0_ n1_;(try clear hb);(try clear hb2);(try clear hk);(try clear hi)))
      go_roundg k1
      case measure=>have:=HK1.out;omega
      case rel=>exact ⟨(x5_1),(wrap64 (x6_1+1)),(by first|rfl|(simp;done)|(simp [*];done)),(by first|rfl|(simp;done)|(simp [*];done)),H',⟨by have:=HK1.out;omega⟩,⟨by (with_reducible repeat (first|refine kN ?_ _|refine kD ?_|refine kA ?_ _));exact BK101.out⟩,⟨by repeat (first|(with_reducible first|exact HB.out|apply bA|apply bN|apply bD|refine bS ?_ GE101.out)|exact HB.out)⟩⟩
    ·rw [if_neg c6] at H
     have c6b0:decide (x6_1<(ji5))=false:=decide_eq_false c6
     clear c6
     obtain rfl:=Option.some.inj H
     go_wp2
     go_ret
     exact ⟨by first|rfl|(simp [errW_none,errW_some]<;>rfl)|(simp only [←hji5];first|rfl|(simp [errW_none,errW_some]<;>rfl))|(simp [*, errW_none,errW_some]<;>rfl),by repeat (first|(with_reducible first|exact HB.out|apply bA|apply bN|apply bD|refine bS ?_ GE101.out)|exact HB.out)⟩
   ·rw [if_neg c4] at H
    exact absurd H (by simp)
/-! ### spec_l4Story: function 127 -/
def spec_l4Story.l0:Nat→Int→List (S36)→Int→Int→Option (Int)
 | 0,_,_,_,_=>none
 | k+1,x0,x1,x5,x6=>if x6<(x1.length:Int) then (if 0≤x6 then ((spec_l4Table.f k x0 ((rd_T36 x1 x6).f0) ((rd_T36 x1 x6).f1)).bind fun t102=>(spec_l4Story.l0 k x0 x1 (Go.bits .and .i64 x5 t102) (wrap64 (x6+1)))) else (none)) else (some x5)
def spec_l4Story.f (k:Nat) (a0:Int) (l1:List (S36)):Option (Int):=if 0≤a0 then (spec_l4Story.l0 k a0 l1 (wrap64 ((shl .i64 1 (shl .u64 1 a0))-1)) 0) else (none)
theorem spec_l4Story.mono_l : ∀ k,(∀ y0 y1 y2 y3,LeO (spec_l4Story.l0 k y0 y1 y2 y3) (spec_l4Story.l0 (k+1) y0 y1 y2 y3))
 | 0=>fun _ _ _ _ r h=>by simp [spec_l4Story.l0] at h
 | k+1=>by
  have ih0:=spec_l4Story.mono_l k
  ·intro y0 y1 y2 y3
   unfold spec_l4Story.l0
   repeat' first
   | (with_reducible exact ih0 _ _ _ _)
   | (with_reducible exact spec_l4Table.mono _ _ _ _)
   | (with_reducible exact LeO.refl _)
   | (with_reducible exact LeO.none _)
   | (with_reducible refine LeO.ite ?_ ?_)
   | (with_reducible refine LeO.bind ?_ (fun _=>?_))
   | exact ih0 _ _ _ _
   | exact spec_l4Table.mono _ _ _ _
   | exact LeO.none _
   | refine LeO.ite ?_ ?_
   | refine LeO.bind ?_ (fun _=>?_)
theorem spec_l4Story.mono : ∀ a0 a1 k,LeO (spec_l4Story.f k a0 a1) (spec_l4Story.f (k+1) a0 a1):=by
 intro a0 a1 k
 have ih0:=spec_l4Story.mono_l k
 unfold spec_l4Story.f
 repeat' first
   | (with_reducible exact ih0 _ _ _ _)
   | (with_reducible exact spec_l4Table.mono _ _ _ _)
   | (with_reducible exact LeO.refl _)
   | (with_reducible exact LeO.none _)
   | (with_reducible refine LeO.ite ?_ ?_)
   | (with_reducible refine LeO.bind ?_ (fun _=>?_))
   | exact ih0 _ _ _ _
   | exact spec_l4Table.mono _ _ _ _
   | exact LeO.none _
   | refine LeO.ite ?_ ?_
   | refine LeO.bind ?_ (fun _=>?_)
set_option maxHeartbeats 8000000 in
set_option maxRecDepth 100000 in
theorem spec_l4Story.calls (k:Nat) (a0:Int) (A1:Option Addr) (c1:Nat) (l1:List (S36)) (r:Int) (w:World) (hr1:Kd.C k36 w A1 l1.length l1) (hc1:l1.length≤c1) (h:spec_l4Story.f k a0 l1=some r) :
  Calls Try.prog 127 #[.int .i64 a0,.slice A1 l1.length c1] w fun e w'=>e = .returned (.int .i64 r)∧Below w.heap.size w w':=by
 have hu36:=Try.underlying36
 have HR1:=mA hr1
 have HC1:=mA hc1
 clear hr1 hc1
 have HB:=mA (Below.refl w.heap.size w)
 have H:(if 0≤a0 then (spec_l4Story.l0 k a0 l1 (wrap64 ((shl .i64 1 (shl .u64 1 a0))-1)) 0) else (none))=some r:=h
 clear h
 by_cases c3:0≤a0
 ·rw [if_pos c3] at H
  have c3b0:=eq_true c3
  have c3b1:decide (0≤a0)=true:=decide_eq_true c3
  clear c3
  obtain ⟨ji4,hji4⟩ : ∃ j_:Int,(shl .u64 1 a0)=j_:=⟨_,rfl⟩
  have hji4_n:(0≤ji4)=True:=eq_true (by rw [←hji4];exact shl_u64_nonneg _ _)
  replace H:(spec_l4Story.l0 k a0 l1 (wrap64 ((shl .i64 1 (ji4))-1)) 0)=some r:=by first|(rw [hji4] at H;exact H)|(simp only [hji4] at H ⊢;exact H)
  have hji4_:(IntKind.u64.wrap (1*2^min a0.toNat 64))=ji4:=hji4
  have hji4z:a0≤64→(IntKind.u64.wrap (1*2^a0.toNat))=ji4:=shl_small hji4
  have hji4u:(IntKind.u64.wrap (2^min a0.toNat 64))=ji4:=by have h_:=hji4_;rw [Int.one_mul] at h_;exact h_
  have hji4v:a0≤64→(IntKind.u64.wrap (2^a0.toNat))=ji4:=fun hle_=>by have h_:=hji4z hle_;rw [Int.one_mul] at h_;exact h_
  obtain ⟨ji5,hji5⟩ : ∃ j_:Int,(shl .i64 1 (ji4))=j_:=⟨_,rfl⟩
  replace H:(spec_l4Story.l0 k a0 l1 (wrap64 ((ji5)-1)) 0)=some r:=by first|(rw [hji5] at H;exact H)|(simp only [hji5] at H ⊢;exact H)
  have hji5_:(IntKind.i64.wrap (1*2^min (ji4).toNat 64))=ji5:=hji5
  have hji5z:(ji4)≤64→(IntKind.i64.wrap (1*2^(ji4).toNat))=ji5:=shl_small hji5
  have hji5u:(IntKind.i64.wrap (2^min (ji4).toNat 64))=ji5:=by have h_:=hji5_;rw [Int.one_mul] at h_;exact h_
  have hji5v:(ji4)≤64→(IntKind.i64.wrap (2^(ji4).toNat))=ji5:=fun hle_=>by have h_:=hji5z hle_;rw [Int.one_mul] at h_;exact h_
  have hji5y:(wrap64 (1*2^min (ji4).toNat 64))=ji5:=(i64_w _).symm.trans hji5_
  have hji5x:(ji4)≤64→(wrap64 (1*2^(ji4).toNat))=ji5:=fun h_=>(i64_w _).symm.trans (hji5z h_)
  have H':=mA H
  clear H
  go_enter Try.func127,Try.ntmps127
  go_wp2
  go_loopg [5,6] k (fun kq v5 v6 w'=>∃ (x5_1:Int) (x6_1:Int),v5 = .int .i64 x5_1∧v6 = .int .i64 x6_1∧Aside0 (spec_l4Story.l0 kq a0 l1 x5_1 x6_1=some r)∧Aside0 (kq≤k)∧Aside0 (Below w.heap.size w w'))
  case atStart=>exact ⟨(wrap64 ((ji5)-1)),(0),(by first|rfl|(simp;done)|(simp only [←hji5]<;>(first|rfl|simp))|(simp [*];done)),(by first|rfl|(simp;done)|(simp [*];done)),H',⟨Nat.le_refl _⟩,⟨by repeat (first|(with_reducible first|exact HB.out|apply bA|apply bN|apply bD)|exact HB.out)⟩⟩
  case round =>
   clear H'
   try clear c1
   try clear p2
   try clear c3
   try clear c3b0
   try clear c3b1
   obtain ⟨x5_1,x6_1,rfl,rfl,HA,HK1,HB⟩:=hrel
   cases gk with
   | zero=>exact absurd HA.out (by simp [spec_l4Story.l0])
   | succ k1 =>
    have H:=HA.out
    clear HA
    simp only [spec_l4Story.l0] at H
    by_cases c6:x6_1<(l1.length:Int)
    ·rw [if_pos c6] at H
     have c6b0:decide (x6_1<(l1.length:Int))=true:=decide_eq_true c6
     clear c6
     by_cases c7:0≤x6_1
     ·rw [if_pos c7] at H
      have c7b0:decide (0≤x6_1)=true:=decide_eq_true c7
      clear c7
      replace H:=Option.bind_eq_some_iff.mp H
      obtain ⟨t102,A80,H⟩:=H
      replace H:(spec_l4Story.l0 k1 a0 l1 (Go.bits .and .i64 x5_1 t102) (wrap64 (x6_1+1)))=some r:=H
      have A8:=mA A80
      clear A80
      have H':=mA H
      clear H
      have p101:0≤(x6_1:Int):=of_decide_eq_true (by first|(with_reducible assumption)|assumption)
      have q101:x6_1<(l1.length:Int):=of_decide_eq_true (by first|(with_reducible assumption)|assumption)
      obtain ⟨ad101,A101_1,c101_1,e101,hx101_0,hx101_1,hl101_1,hi101_1⟩:=at_T36 HR1.out x6_1 p101 q101
      cases e101
      replace hx101_0:=(HB.out.cell (World.block_lt_of_cell? w _ hx101_0)).trans hx101_0
      replace hx101_1:=(HB.out.cell (World.block_lt_of_cell? w _ hx101_1)).trans hx101_1
      have HR101_1:=mA hi101_1
      have HC101_1:=mA hl101_1
      clear hi101_1 hl101_1
      replace p101:=eq_true p101
      replace q101:=eq_true q101
      go_wp2_with (first|((with_reducible refine gate_callee (f:=114) rfl ?_);refine goesL_ (some 23) rfl rfl Try.func114 (by kernel_rfl) rfl #[.int .i64 a0,.agg #[.int .i64 ((rd_T36 l1 x6_1).f0),.slice A101_1 ((rd_T36 l1 x6_1).f1).length c101_1]] rfl (by (try simp only [mT,mC,mN]);first|done|rfl|(simp only [lD,lT];rfl)) ?_;(with_reducible refine (spec_l4Table.calls k1 a0 ((rd_T36 l1 x6_1).f0) _ _ ((rd_T36 l1 x6_1).f1) t102 _ ?side1 ?side2 A8.out).mono ?_);(case side1=>repeat (first|exact (Kd.C_below HR101_1.out HB.out)|(with_reducible refine cA ?_ _)|(with_reducible refine cN ?_ _)|(with_reducible refine cD ?_)));(case side2=>exact HC101_1.out);rintro e w9 ⟨rfl,hb⟩;refine ⟨_,rfl,?_⟩;have n0_:=mA (bT (by repeat (first|(with_reducible first|exact HB.out|apply bA|apply bN|apply bD)|exact HB.out)) hb);clear HB;have HB:=n0_;clear n0_;(try clear hb);(try clear hb2);(try clear hk);(try clear hi)))
      go_roundg k1
      case measure=>have:=HK1.out;omega
      case rel=>exact ⟨(Go.bits .and .i64 x5_1 t102),(wrap64 (x6_1+1)),(by first|rfl|(simp;done)|(simp [*];done)),(by first|rfl|(simp;done)|(simp [*];done)),H',⟨by have:=HK1.out;omega⟩,⟨by repeat (first|(with_reducible first|exact HB.out|apply bA|apply bN|apply bD)|exact HB.out)⟩⟩
     ·rw [if_neg c7] at H
      exact absurd H (by simp)
    ·rw [if_neg c6] at H
     have c6b0:decide (x6_1<(l1.length:Int))=false:=decide_eq_false c6
     clear c6
     obtain rfl:=Option.some.inj H
     go_wp2
     go_ret
     exact ⟨by first|rfl|(simp [errW_none,errW_some]<;>rfl)|(simp only [←hji4, ←hji5];first|rfl|(simp [errW_none,errW_some]<;>rfl))|(simp [*, errW_none,errW_some]<;>rfl),by repeat (first|(with_reducible first|exact HB.out|apply bA|apply bN|apply bD)|exact HB.out)⟩
 ·rw [if_neg c3] at H
  exact absurd H (by simp)
/-! ### spec_l5Without: function 136 -/
def spec_l5Without.f (l0:List (S36)) (a1:Int):Option ((List (S36))):=(some (([]:List (S36)):List (S36))).bind fun y101=>(if 0≤a1 then (if a1≤(l0.length:Int) then ((some (l0.take (a1:Int).toNat:List (S36))).bind fun y104=>(if y101.length+y104.length<4398046511104 then ((some (y101++y104:List (S36))).bind fun y109=>(if 0≤(wrap64 (a1+1)) then (if (wrap64 (a1+1))≤(l0.length:Int) then ((some (l0.drop ((wrap64 (a1+1)):Int).toNat:List (S36))).bind fun y112=>(if y109.length+y112.length<4398046511104 then (some (y109++y112)) else (none))) else (none)) else (none))) else (none))) else (none)) else (none))
set_option maxHeartbeats 8000000 in
set_option maxRecDepth 100000 in
theorem spec_l5Without.calls (P0_:Nat→Prop) (A0:Option Addr) (c0:Nat) (l0:List (S36)) (a1:Int) (r:List (S36)) (w:World) (hs0:Kd.V k36 36 w w.heap.size (fun k_=>P0_ k_) (.slice A0 l0.length c0) l0) (h:spec_l5Without.f l0 a1=some r) :
  Calls Try.prog 136 #[.slice A0 l0.length c0,.int .i64 a1] w fun e w'=>∃ v0_:Value,e = .returned (v0_)∧Kd.N k36 36 w' w.heap.size (fun k_=>(P0_ k_∨w.heap.size≤k_)) v0_ r∧Below w.heap.size w w':=by
 have HO0:=mA (show Kd.V k36 36 w w.heap.size (fun k_=>(P0_ k_∨w.heap.size≤k_)) (.slice A0 l0.length c0) l0 from Kd.V_mono hs0 (fun k_ hk=>.inl hk))
 have HB:=mA (Below.refl w.heap.size w)
 have H:((some (([]:List (S36)):List (S36))).bind fun y101=>(if 0≤a1 then (if a1≤(l0.length:Int) then ((some (l0.take (a1:Int).toNat:List (S36))).bind fun y104=>(if y101.length+y104.length<4398046511104 then ((some (y101++y104:List (S36))).bind fun y109=>(if 0≤(wrap64 (a1+1)) then (if (wrap64 (a1+1))≤(l0.length:Int) then ((some (l0.drop ((wrap64 (a1+1)):Int).toNat:List (S36))).bind fun y112=>(if y109.length+y112.length<4398046511104 then (some (y109++y112)) else (none))) else (none)) else (none))) else (none))) else (none)) else (none)))=some r:=h
 clear h
 obtain ⟨y101,hy101⟩ : ∃ y_:List (S36),y_=(([]:List (S36))):=⟨_,rfl⟩
 replace H:(if 0≤a1 then (if a1≤(l0.length:Int) then ((some (l0.take (a1:Int).toNat:List (S36))).bind fun y104=>(if y101.length+y104.length<4398046511104 then ((some (y101++y104:List (S36))).bind fun y109=>(if 0≤(wrap64 (a1+1)) then (if (wrap64 (a1+1))≤(l0.length:Int) then ((some (l0.drop ((wrap64 (a1+1)):Int).toNat:List (S36))).bind fun y112=>(if y109.length+y112.length<4398046511104 then (some (y109++y112)) else (none))) else (none)) else (none))) else (none))) else (none)) else (none))=some r:=by first|(rw [hy101];with_reducible exact H)|(have H2_:=(Option.bind_some _ _).symm.trans H;rw [hy101];with_reducible exact H2_)|(have H2_:=(Option.bind_some _ _).symm.trans H;with_reducible exact H2_)|with_reducible exact H|(rw [hy101];exact H)|exact H
 have Ny101:=mA hy101
 clear hy101
 by_cases c3:0≤a1
 ·rw [if_pos c3] at H
  have c3b0:=eq_true c3
  have c3b1:decide (0≤a1)=true:=decide_eq_true c3
  clear c3
  by_cases c4:a1≤(l0.length:Int)
  ·rw [if_pos c4] at H
   have c4b0:=eq_true c4
   have c4b1:decide (a1≤(l0.length:Int))=true:=decide_eq_true c4
   clear c4
   obtain ⟨y104,hy104⟩ : ∃ y_:List (S36),y_=(l0.take (a1:Int).toNat):=⟨_,rfl⟩
   replace H:(if y101.length+y104.length<4398046511104 then ((some (y101++y104:List (S36))).bind fun y109=>(if 0≤(wrap64 (a1+1)) then (if (wrap64 (a1+1))≤(l0.length:Int) then ((some (l0.drop ((wrap64 (a1+1)):Int).toNat:List (S36))).bind fun y112=>(if y109.length+y112.length<4398046511104 then (some (y109++y112)) else (none))) else (none)) else (none))) else (none))=some r:=by first|(rw [hy104];with_reducible exact H)|(have H2_:=(Option.bind_some _ _).symm.trans H;rw [hy104];with_reducible exact H2_)|(have H2_:=(Option.bind_some _ _).symm.trans H;with_reducible exact H2_)|with_reducible exact H|(rw [hy104];exact H)|exact H
   have Ny104:=mA hy104
   clear hy104
   by_cases c5:y101.length+y104.length<4398046511104
   ·rw [if_pos c5] at H
    have LMc5:=mA c5
    clear c5
    obtain ⟨y109,hy109⟩ : ∃ y_:List (S36),y_=(y101++y104):=⟨_,rfl⟩
    replace H:(if 0≤(wrap64 (a1+1)) then (if (wrap64 (a1+1))≤(l0.length:Int) then ((some (l0.drop ((wrap64 (a1+1)):Int).toNat:List (S36))).bind fun y112=>(if y109.length+y112.length<4398046511104 then (some (y109++y112)) else (none))) else (none)) else (none))=some r:=by first|(rw [hy109];with_reducible exact H)|(have H2_:=(Option.bind_some _ _).symm.trans H;rw [hy109];with_reducible exact H2_)|(have H2_:=(Option.bind_some _ _).symm.trans H;with_reducible exact H2_)|with_reducible exact H|(rw [hy109];exact H)|exact H
    have Ny109:=mA hy109
    clear hy109
    obtain ⟨ji6,hji6⟩ : ∃ j_:Int,(wrap64 (a1+1))=j_:=⟨_,rfl⟩
    replace H:(if 0≤(ji6) then (if (ji6)≤(l0.length:Int) then ((some (l0.drop ((ji6):Int).toNat:List (S36))).bind fun y112=>(if y109.length+y112.length<4398046511104 then (some (y109++y112)) else (none))) else (none)) else (none))=some r:=by first|(rw [hji6] at H;exact H)|(simp only [hji6] at H ⊢;exact H)
    have hji6w:(IntKind.i64.wrap (a1+1))=ji6:=(i64_w _).trans hji6
    by_cases c7:0≤(ji6)
    ·rw [if_pos c7] at H
     have c7b0:=eq_true c7
     have c7b1:decide (0≤(ji6))=true:=decide_eq_true c7
     clear c7
     by_cases c8:(ji6)≤(l0.length:Int)
     ·rw [if_pos c8] at H
      have c8b0:=eq_true c8
      have c8b1:decide ((ji6)≤(l0.length:Int))=true:=decide_eq_true c8
      clear c8
      obtain ⟨y112,hy112⟩ : ∃ y_:List (S36),y_=(l0.drop ((ji6):Int).toNat):=⟨_,rfl⟩
      replace H:(if y109.length+y112.length<4398046511104 then (some (y109++y112)) else (none))=some r:=by first|(rw [hy112];with_reducible exact H)|(have H2_:=(Option.bind_some _ _).symm.trans H;rw [hy112];with_reducible exact H2_)|(have H2_:=(Option.bind_some _ _).symm.trans H;with_reducible exact H2_)|with_reducible exact H|(rw [hy112];exact H)|exact H
      have Ny112:=mA hy112
      clear hy112
      by_cases c9:y109.length+y112.length<4398046511104
      ·rw [if_pos c9] at H
       have LMc9:=mA c9
       clear c9
       obtain ⟨y117,hy117⟩ : ∃ y_:List (S36),y_=(y109++y112):=⟨_,rfl⟩
       replace H:(some y117)=some r:=by first|(rw [hy117];with_reducible exact H)|(have H2_:=(Option.bind_some _ _).symm.trans H;rw [hy117];with_reducible exact H2_)|(have H2_:=(Option.bind_some _ _).symm.trans H;with_reducible exact H2_)|with_reducible exact H|(rw [hy117];exact H)|exact H
       have Ny117:=mA hy117
       clear hy117
       obtain rfl:=Option.some.inj H
       go_enter Try.func136,Try.ntmps136
       go_wp2_with (first|((with_reducible refine gate_dst (N:=6) rfl ?_);refine Kd.N_lit k36 _ 36 ?hg (N':=6) ?hd (xs:=([]:List (S36))) (inner:=[]) (ok:=(fun k_=>(P0_ k_∨w.heap.size≤k_))) (okp:=(fun k_=>(P0_ k_∨w.heap.size≤k_))) ?hr ?hp (fun _ hk=>hk) ((show ∀ k_,w.heap.size≤k_→(fun k_=>(P0_ k_∨w.heap.size≤k_)) k_ from fun k_ hk=>(.inr (Nat.le_trans (bZ (by repeat (first|(with_reducible first|exact HB.out|apply bA|apply bN|apply bD)|exact HB.out))) hk))) _ (Nat.le_refl _)) (Below.refl _ _) (Nat.le_refl _) (by simp) ?_;(case hd=>rfl);(case hg=>rfl);(case hr=>first|(go_simp;done)|(go_simp;rfl));(case hp=>exact (Reps.none _ _));intro v102 w10 ho11 hb hg_ hnew_;clear hg_ hnew_;(first|rw [←Ny101.out] at ho11|(simp only [Int.reduceToNat] at ho11;rw [←Ny101.out] at ho11));have n0_:=mA (Kd.V_elder' (by (with_reducible repeat (first|apply Kd.V_alloc|apply Kd.V_drewN|apply Kd.V_drew));exact HO0.out) (Kd.N_base ho11) hb);have n1_:=mA (Kd.N_lower ho11 (bZ (by repeat (first|(with_reducible first|exact HB.out|apply bA|apply bN|apply bD)|exact HB.out))));have n2_:=mA (bT (by repeat (first|(with_reducible first|exact HB.out|apply bA|apply bN|apply bD)|exact HB.out)) hb);clear HO0 HB;have HO0:=n0_;have HO103:=n1_;have HB:=n2_;clear n0_ n1_ n2_ hb ho11;have q12:(a1:Int)≤((l0.length:Int):Int):=of_decide_eq_true (by first|(with_reducible assumption)|assumption);obtain ⟨i012,hi012,_,hsz12,_⟩:=info_parts info36;have hroom12:l0.length≤c0:=(Kd.V_reads' HO0.out).2.1;have hC12:Kd.F k36 _ _ A0 l0.length l0:=(Kd.V_at (base:=w.heap.size) HO0.out).2.2;have hcut12:=cut_to (P:=Try.prog) 23 36 .i64 Try.underlying23 hi012 A0 l0.length c0 a1 (of_decide_eq_true (by first|(with_reducible assumption)|assumption)) q12 hroom12;have hr12:=Kd.F_take (m:=(a1:Int).toNat) hC12 (by omega);have hy12:y104.length=(a1:Int).toNat:=(by rw [Ny104.out,lT];omega);rw [←Ny104.out] at hr12;rw [←hy12] at hcut12;have HO108:=mA (show Kd.V k36 36 _ w.heap.size _ (.slice A0 y104.length c0) y104 from Kd.V_mk (by omega) hr12);have HC108:=mA (show y104.length≤c0 from by omega);clear hr12 hC12 hroom12 hi012 hsz12;have KY12:=mA hy12;clear hy12;replace q12:=eq_true q12)|((with_reducible refine gate_builtin (b:=.append) (xs:=#[.tmp 6,.tmp 9]) rfl ?_);at_builtin;refine Kd.N_append_rows k36 (w0:=w) w.heap.size rfl (.tmp 6) (.tmp 9) 23 36 (.agg #[(.int .i64 0),(.slice none 0 0)]) 32 rfl Try.underlying23 info36 rfl (by decide) (by omega) v102 y101 y104 _ _ _ (fun k_=>(P0_ k_∨w.heap.size≤k_)) (fun k_=>((fun k_=>(P0_ k_∨w.heap.size≤k_))) k_∧some k_≠(v102:Value).ownBlock) rfl rfl ?aO ?aR (fun _ hk=>hk) ?aF ?aB ?aS ?aL ?_;(case aR=>exact (by skip;exact Kd.V_F (Kd.V_mono (ok':=(fun k_=>((fun k_=>(P0_ k_∨w.heap.size≤k_))) k_∧some k_≠(v102:Value).ownBlock)) (HO108.out) (fun k_ hk=>⟨hk.1,hk.2⟩))));(case aB=>exact (by repeat (first|(with_reducible first|exact HB.out|apply bA|apply bN|apply bD)|exact HB.out)));(case aF=>exact (fun k_ hk=>(.inr (Nat.le_trans (bZ (by repeat (first|(with_reducible first|exact HB.out|apply bA|apply bN|apply bD)|exact HB.out))) hk))));(case aO=>exact (by (with_reducible repeat (first|apply nA|apply nN|apply nD));exact HO103.out));(case aS=>exact (bZ (by repeat (first|(with_reducible first|exact HB.out|apply bA|apply bN|apply bD)|exact HB.out))));(case aL=>have:=LMc5.out;omega);intro v110 w13 ho hb hg hat;rw [←Ny109.out] at ho;have n0_:=mA (Kd.V_afterv (ok:=(fun k_=>(P0_ k_∨w.heap.size≤k_))) (by (with_reducible repeat (first|apply Kd.V_alloc|apply Kd.V_drewN|apply Kd.V_drew));exact HO0.out) hg hat);have n1_:=mA (Kd.V_afterv (ok:=(fun k_=>(P0_ k_∨w.heap.size≤k_))) (by (with_reducible repeat (first|apply Kd.V_alloc|apply Kd.V_drewN|apply Kd.V_drew));exact HO108.out) hg hat);have n2_:=mA (hb);have n3_:=mA (ho);clear HO0 HO108 HB HO103;have HO0:=n0_;have HO108:=n1_;have HB:=n2_;have HO111:=n3_;clear n0_ n1_ n2_ n3_ ho hb hg hat;have q14:((ji6):Int)≤((l0.length:Int):Int):=of_decide_eq_true (by first|(with_reducible assumption)|assumption);obtain ⟨i014,hi014,_,hsz14,_⟩:=info_parts info36;have hroom14:l0.length≤c0:=(Kd.V_reads' HO0.out).2.1;have hC14:Kd.F k36 _ _ A0 l0.length l0:=(Kd.V_at (base:=w.heap.size) HO0.out).2.2;have q014:(0:Int)≤((ji6):Int):=of_decide_eq_true (by first|(with_reducible assumption)|assumption);have hcut14:=cut_from (P:=Try.prog) 23 36 .i64 Try.underlying23 hi014 2 hsz14 A0 l0.length c0 (ji6) q014 q14;have hr14:=Kd.F_cut (m:=((ji6):Int).toNat) (c:=c0) hC14 (by omega) hroom14;obtain ⟨A14,hA14⟩ : ∃ A1,A1=(if c0=((ji6):Int).toNat then A0 else (A0:Option Addr).map (·.add (((ji6):Int).toNat*2))):=⟨_,rfl⟩;obtain ⟨c14,hc14⟩ : ∃ c1,c1=c0-((ji6):Int).toNat:=⟨_,rfl⟩;have hy14:y112.length=l0.length-((ji6):Int).toNat:=(by rw [Ny112.out,lD]<;>omega);rw [show (l0).drop ((ji6):Int).toNat=y112 from Ny112.out.symm] at hr14;replace hr14:Kd.F k36 _ _ A14 y112.length y112:=(by rw [hA14];exact hr14);rw [←hy14, ←hA14, ←hc14] at hcut14;have HO116:=mA (show Kd.V k36 36 _ w.heap.size _ (.slice A14 y112.length c14) y112 from Kd.V_mk (by rw [hy14,hc14];exact Nat.sub_le_sub_right hroom14 _) hr14);have HC116:=mA (show y112.length≤c14 from by rw [hy14,hc14];exact Nat.sub_le_sub_right hroom14 _);clear hr14 hC14 hroom14 hi014 hsz14 hc14;have KY14:=mA hy14;have KA14:=mA hA14;clear hy14 hA14;replace q14:=eq_true q14)|((with_reducible refine gate_builtin (b:=.append) (xs:=#[.tmp 11,.tmp 15]) rfl ?_);at_builtin;refine Kd.N_append_rows k36 (w0:=w) w.heap.size rfl (.tmp 11) (.tmp 15) 23 36 (.agg #[(.int .i64 0),(.slice none 0 0)]) 32 rfl Try.underlying23 info36 rfl (by decide) (by omega) v110 y109 y112 _ _ _ (fun k_=>(P0_ k_∨w.heap.size≤k_)) (fun k_=>((fun k_=>(P0_ k_∨w.heap.size≤k_))) k_∧some k_≠(v110:Value).ownBlock) rfl rfl ?aO ?aR (fun _ hk=>hk) ?aF ?aB ?aS ?aL ?_;(case aR=>exact (by skip;exact Kd.V_F (Kd.V_mono (ok':=(fun k_=>((fun k_=>(P0_ k_∨w.heap.size≤k_))) k_∧some k_≠(v110:Value).ownBlock)) (HO116.out) (fun k_ hk=>⟨hk.1,hk.2⟩))));(case aB=>exact (by repeat (first|(with_reducible first|exact HB.out|apply bA|apply bN|apply bD)|exact HB.out)));(case aF=>exact (fun k_ hk=>(.inr (Nat.le_trans (bZ (by repeat (first|(with_reducible first|exact HB.out|apply bA|apply bN|apply bD)|exact HB.out))) hk))));(case aO=>exact (by (with_reducible repeat (first|apply nA|apply nN|apply nD));exact HO111.out));(case aS=>exact (bZ (by repeat (first|(with_reducible first|exact HB.out|apply bA|apply bN|apply bD)|exact HB.out))));(case aL=>have:=LMc9.out;omega);intro v118 w15 ho hb hg hat;rw [←Ny117.out] at ho;have n0_:=mA (Kd.V_afterv (ok:=(fun k_=>(P0_ k_∨w.heap.size≤k_))) (by (with_reducible repeat (first|apply Kd.V_alloc|apply Kd.V_drewN|apply Kd.V_drew));exact HO0.out) hg hat);have n1_:=mA (Kd.V_afterv (ok:=(fun k_=>(P0_ k_∨w.heap.size≤k_))) (by (with_reducible repeat (first|apply Kd.V_alloc|apply Kd.V_drewN|apply Kd.V_drew));exact HO108.out) hg hat);have n2_:=mA (Kd.V_afterv (ok:=(fun k_=>(P0_ k_∨w.heap.size≤k_))) (by (with_reducible repeat (first|apply Kd.V_alloc|apply Kd.V_drewN|apply Kd.V_drew));exact HO116.out) hg hat);have n3_:=mA (hb);have n4_:=mA (ho);clear HO0 HO108 HO116 HB HO111;have HO0:=n0_;have HO108:=n1_;have HO116:=n2_;have HB:=n3_;have HO119:=n4_;clear n0_ n1_ n2_ n3_ n4_ ho hb hg hat))
       go_ret
       exact ⟨_,by first|rfl|(simp [errW_none,errW_some]<;>rfl)|(simp only [←hji6];first|rfl|(simp [errW_none,errW_some]<;>rfl))|(simp [*, errW_none,errW_some]<;>rfl),by (with_reducible repeat (first|apply nA|apply nN|apply nD));exact HO119.out,by repeat (first|(with_reducible first|exact HB.out|apply bA|apply bN|apply bD)|exact HB.out)⟩
      ·rw [if_neg c9] at H
       exact absurd H (by simp)
     ·rw [if_neg c8] at H
      exact absurd H (by simp)
    ·rw [if_neg c7] at H
     exact absurd H (by simp)
   ·rw [if_neg c5] at H
    exact absurd H (by simp)
  ·rw [if_neg c4] at H
   exact absurd H (by simp)
 ·rw [if_neg c3] at H
  exact absurd H (by simp)
/-! ### spec_NeedlessClaims: function 87 -/
mutual
def spec_NeedlessClaims.l0:Nat→Int→List (S36)→List Int→Int→Option (List Int)
 | 0,_,_,_,_=>none
 | k+1,x0,x1,x5,x6=>if x6<(x1.length:Int) then ((spec_StoryOk.f k x0 x1).bind fun t104=>(spec_NeedlessClaims.j1 k x0 x1 x5 x6 t104)) else (spec_NeedlessClaims.j1 k x0 x1 x5 x6 false)
def spec_NeedlessClaims.j1:Nat→Int→List (S36)→List Int→Int→Bool→Option (List Int)
 | 0,_,_,_,_,_=>none
 | k+1,x0,x1,x5,x6,x16=>if x16=true then ((spec_l5Without.f x1 x6).bind fun t105=>((spec_l4Story.f k x0 t105).bind fun t108=>((spec_l4Story.f k x0 x1).bind fun t109=>(if t108=t109 then (if x5.length<17592186044416 then (spec_NeedlessClaims.l0 k x0 x1 (x5++[x6]) (wrap64 (x6+1))) else (none)) else (spec_NeedlessClaims.l0 k x0 x1 x5 (wrap64 (x6+1))))))) else (some x5)
end
def spec_NeedlessClaims.f (k:Nat) (a0:Int) (l1:List (S36)):Option (List Int):=spec_NeedlessClaims.l0 k a0 l1 (([]:List Int)) 0
theorem spec_NeedlessClaims.mono_l : ∀ k,(∀ y0 y1 y2 y3,LeO (spec_NeedlessClaims.l0 k y0 y1 y2 y3) (spec_NeedlessClaims.l0 (k+1) y0 y1 y2 y3))∧(∀ y0 y1 y2 y3 y4,LeO (spec_NeedlessClaims.j1 k y0 y1 y2 y3 y4) (spec_NeedlessClaims.j1 (k+1) y0 y1 y2 y3 y4))
 | 0=>⟨fun _ _ _ _ r h=>by simp [spec_NeedlessClaims.l0] at h,fun _ _ _ _ _ r h=>by simp [spec_NeedlessClaims.j1] at h⟩
 | k+1=>by
  obtain ⟨ih0,ih1⟩:=spec_NeedlessClaims.mono_l k
  refine ⟨?_,?_⟩
  ·intro y0 y1 y2 y3
   unfold spec_NeedlessClaims.l0
   repeat' first
   | (with_reducible exact ih0 _ _ _ _)
   | (with_reducible exact ih1 _ _ _ _ _)
   | (with_reducible exact spec_StoryOk.mono _ _ _)
   | (with_reducible exact spec_l4Story.mono _ _ _)
   | (with_reducible exact LeO.refl _)
   | (with_reducible exact LeO.none _)
   | (with_reducible refine LeO.ite ?_ ?_)
   | (with_reducible refine LeO.bind ?_ (fun _=>?_))
   | exact ih0 _ _ _ _
   | exact ih1 _ _ _ _ _
   | exact spec_StoryOk.mono _ _ _
   | exact spec_l4Story.mono _ _ _
   | exact LeO.none _
   | refine LeO.ite ?_ ?_
   | refine LeO.bind ?_ (fun _=>?_)
  ·intro y0 y1 y2 y3 y4
   unfold spec_NeedlessClaims.j1
   repeat' first
   | (with_reducible exact ih0 _ _ _ _)
   | (with_reducible exact ih1 _ _ _ _ _)
   | (with_reducible exact spec_StoryOk.mono _ _ _)
   | (with_reducible exact spec_l4Story.mono _ _ _)
   | (with_reducible exact LeO.refl _)
   | (with_reducible exact LeO.none _)
   | (with_reducible refine LeO.ite ?_ ?_)
   | (with_reducible refine LeO.bind ?_ (fun _=>?_))
   | exact ih0 _ _ _ _
   | exact ih1 _ _ _ _ _
   | exact spec_StoryOk.mono _ _ _
   | exact spec_l4Story.mono _ _ _
   | exact LeO.none _
   | refine LeO.ite ?_ ?_
   | refine LeO.bind ?_ (fun _=>?_)
theorem spec_NeedlessClaims.mono : ∀ a0 a1 k,LeO (spec_NeedlessClaims.f k a0 a1) (spec_NeedlessClaims.f (k+1) a0 a1):=by
 intro a0 a1 k
 obtain ⟨ih0,ih1⟩:=spec_NeedlessClaims.mono_l k
 unfold spec_NeedlessClaims.f
 repeat' first
   | (with_reducible exact ih0 _ _ _ _)
   | (with_reducible exact ih1 _ _ _ _ _)
   | (with_reducible exact spec_StoryOk.mono _ _ _)
   | (with_reducible exact spec_l4Story.mono _ _ _)
   | (with_reducible exact LeO.refl _)
   | (with_reducible exact LeO.none _)
   | (with_reducible refine LeO.ite ?_ ?_)
   | (with_reducible refine LeO.bind ?_ (fun _=>?_))
   | exact ih0 _ _ _ _
   | exact ih1 _ _ _ _ _
   | exact spec_StoryOk.mono _ _ _
   | exact spec_l4Story.mono _ _ _
   | exact LeO.none _
   | refine LeO.ite ?_ ?_
   | refine LeO.bind ?_ (fun _=>?_)
set_option maxHeartbeats 8000000 in
set_option maxRecDepth 100000 in
theorem spec_NeedlessClaims.calls (k:Nat) (a0:Int) (A1:Option Addr) (c1:Nat) (l1:List (S36)) (r:List Int) (w:World) (hr1:Kd.C k36 w A1 l1.length l1) (hc1:l1.length≤c1) (h:spec_NeedlessClaims.f k a0 l1=some r) :
  Calls Try.prog 87 #[.int .i64 a0,.slice A1 l1.length c1] w fun e w'=>∃ v0_:Value,e = .returned (v0_)∧Kd.R (Kd.int .i64) 3 w' w.heap.size (fun _=>True) v0_ r∧Below w.heap.size w w':=by
 have HR1:=mA hr1
 have HC1:=mA hc1
 clear hr1 hc1
 have HB:=mA (Below.refl w.heap.size w)
 have H:(spec_NeedlessClaims.l0 k a0 l1 (([]:List Int)) 0)=some r:=h
 clear h
 obtain ⟨y101,hy101⟩ : ∃ y_:List Int,y_=(([]:List Int)):=⟨_,rfl⟩
 replace H:(spec_NeedlessClaims.l0 k a0 l1 y101 0)=some r:=by first|(rw [hy101];with_reducible exact H)|(have H2_:=(Option.bind_some _ _).symm.trans H;rw [hy101];with_reducible exact H2_)|(have H2_:=(Option.bind_some _ _).symm.trans H;with_reducible exact H2_)|with_reducible exact H|(rw [hy101];exact H)|exact H
 have Ny101:=mA hy101
 clear hy101
 have H':=mA H
 clear H
 go_enter Try.func87,Try.ntmps87
 go_wp2_with (first|((with_reducible refine gate_dst (N:=7) rfl ?_);refine Kd.R_lit (Kd.int .i64) _ 3 ?hg (N:=7) ?hd (xs:=([]:List Int)) (inner:=[]) (ok:=fun _=>True) (okp:=fun _=>True) ?hr ?hp (fun _ hk=>hk) trivial (Below.refl _ _) (Nat.le_refl _) (by simp) ?_;(case hd=>rfl);(case hg=>rfl);(case hr=>first|(go_simp;done)|(go_simp;rfl));(case hp=>exact (Reps.none _ _));intro v102 w3 ho4 hb hg_ hnew_;clear hg_ hnew_;(first|rw [←Ny101.out] at ho4|(simp only [Int.reduceToNat] at ho4;rw [←Ny101.out] at ho4));have n0_:=mA (Kd.R_lower ho4 (bZ (by repeat (first|(with_reducible first|exact HB.out|apply bA|apply bN|apply bD)|exact HB.out))));have n1_:=mA (bT (by repeat (first|(with_reducible first|exact HB.out|apply bA|apply bN|apply bD)|exact HB.out)) hb);clear HB;have HO103:=n0_;have HB:=n1_;clear n0_ n1_ hb ho4))
 go_loopg [5,6] k (fun kq v5 v6 w'=>∃ (x5_1:List Int) (x6_1:Int),v6 = .int .i64 x6_1∧Aside0 (spec_NeedlessClaims.l0 kq a0 l1 x5_1 x6_1=some r)∧Aside0 (kq≤k)∧Aside0 (Kd.R (Kd.int .i64) 3 w' w.heap.size (fun _=>True) v5 x5_1)∧Aside0 (Below w.heap.size w w'))
 case atStart=>exact ⟨(y101),(0),(by first|rfl|(simp;done)|(simp [*];done)),H',⟨Nat.le_refl _⟩,⟨by (with_reducible repeat (first|apply rA|apply rN|apply rD));exact HO103.out⟩,⟨by repeat (first|(with_reducible first|exact HB.out|apply bA|apply bN|apply bD)|exact HB.out)⟩⟩
 case round =>
  clear H'
  try clear c1
  try clear p2
  obtain ⟨x5_1,x6_1,rfl,HA,HK1,HO_5,HB⟩:=hrel
  cases gk with
  | zero=>exact absurd HA.out (by simp [spec_NeedlessClaims.l0])
  | succ k1 =>
   have H:=HA.out
   clear HA
   simp only [spec_NeedlessClaims.l0] at H
   have HC5:=mA H
   clear H
   go_upto_region 3 with (fail)
   go_cut [16] (fun v16 wc=>∃ (kq:Nat) (x16_4:Bool),v16 = .bool x16_4∧Aside0 (spec_NeedlessClaims.j1 kq a0 l1 x5_1 x6_1 x16_4=some r)∧Aside0 (kq≤k1)∧Aside0 (Kd.R (Kd.int .i64) 3 wc w.heap.size (fun _=>True) u5 x5_1)∧Aside0 (Below w.heap.size w wc))
   case first =>
    have H:=HC5.out
    clear HC5
    by_cases c6:x6_1<(l1.length:Int)
    ·rw [if_pos c6] at H
     have c6b0:decide (x6_1<(l1.length:Int))=true:=decide_eq_true c6
     clear c6
     (first|rw [c6b0]|(simp only [i64_w,i32_w];rw [c6b0])|skip)
     replace H:=Option.bind_eq_some_iff.mp H
     obtain ⟨t104,A70,H⟩:=H
     replace H:(spec_NeedlessClaims.j1 k1 a0 l1 x5_1 x6_1 t104)=some r:=H
     have A7:=mA A70
     clear A70
     have H':=mA H
     clear H
     go_wp2_with (first|(go_at_call 25;(with_reducible refine (spec_StoryOk.calls k1 a0 _ _ l1 t104 _ ?side1 ?side2 A7.out).mono ?_);(case side1=>repeat (first|exact (Kd.C_below HR1.out HB.out)|(with_reducible refine cA ?_ _)|(with_reducible refine cN ?_ _)|(with_reducible refine cD ?_)));(case side2=>exact HC1.out);rintro e w8 ⟨rfl,hb⟩;have n0_:=mA (rB (by (with_reducible repeat (first|apply rA|apply rN|apply rD));exact HO_5.out) hb);have n1_:=mA (bT (by repeat (first|(with_reducible first|exact HB.out|apply bA|apply bN|apply bD)|exact HB.out)) hb);clear HO_5 HB;have HO_5:=n0_;have HB:=n1_;clear n0_ n1_;(try clear hb);(try clear hb2);(try clear hk);(try clear hi)))
     go_meet
     case rel=>exact ⟨_,(t104),(by first|rfl|(simp;done)|(simp [*];done)),H',⟨by have:=HK1.out;first|omega|exact Nat.le_refl _⟩,⟨by (with_reducible repeat (first|apply rA|apply rN|apply rD));exact HO_5.out⟩,⟨by repeat (first|(with_reducible first|exact HB.out|apply bA|apply bN|apply bD)|exact HB.out)⟩⟩
    ·rw [if_neg c6] at H
     have c6b0:decide (x6_1<(l1.length:Int))=false:=decide_eq_false c6
     clear c6
     (first|rw [c6b0]|(simp only [i64_w,i32_w];rw [c6b0])|skip)
     have H':=mA H
     clear H
     go_wp2
     go_meet
     case rel=>exact ⟨_,(false),(by first|rfl|(simp;done)|(simp [*];done)),H',⟨by have:=HK1.out;first|omega|exact Nat.le_refl _⟩,⟨by (with_reducible repeat (first|apply rA|apply rN|apply rD));exact HO_5.out⟩,⟨by repeat (first|(with_reducible first|exact HB.out|apply bA|apply bN|apply bD)|exact HB.out)⟩⟩
   case rest =>
    clear HC5
    try clear c1
    try clear p2
    try clear c6
    try clear c6b0
    try clear c8
    try clear p2
    obtain ⟨kq,x16_4,rfl,HA,HJ4,HO_5,HB⟩:=hcut
    cases kq with
    | zero=>exact absurd HA.out (by simp [spec_NeedlessClaims.j1])
    | succ kj4 =>
     have H:=HA.out
     clear HA
     simp only [spec_NeedlessClaims.j1] at H
     by_cases c9:x16_4=true
     ·subst c9
      have H1:((spec_l5Without.f l1 x6_1).bind fun t105=>((spec_l4Story.f kj4 a0 t105).bind fun t108=>((spec_l4Story.f kj4 a0 l1).bind fun t109=>(if t108=t109 then (if x5_1.length<17592186044416 then (spec_NeedlessClaims.l0 kj4 a0 l1 (x5_1++[x6_1]) (wrap64 (x6_1+1))) else (none)) else (spec_NeedlessClaims.l0 kj4 a0 l1 x5_1 (wrap64 (x6_1+1)))))))=some r:=by rw [if_pos rfl] at H;exact H
      clear H
      have H:=H1
      clear H1
      replace H:=Option.bind_eq_some_iff.mp H
      obtain ⟨t105,A100,H⟩:=H
      replace H:((spec_l4Story.f kj4 a0 t105).bind fun t108=>((spec_l4Story.f kj4 a0 l1).bind fun t109=>(if t108=t109 then (if x5_1.length<17592186044416 then (spec_NeedlessClaims.l0 kj4 a0 l1 (x5_1++[x6_1]) (wrap64 (x6_1+1))) else (none)) else (spec_NeedlessClaims.l0 kj4 a0 l1 x5_1 (wrap64 (x6_1+1))))))=some r:=H
      have A10:=mA A100
      clear A100
      replace H:=Option.bind_eq_some_iff.mp H
      obtain ⟨t108,A110,H⟩:=H
      replace H:((spec_l4Story.f kj4 a0 l1).bind fun t109=>(if t108=t109 then (if x5_1.length<17592186044416 then (spec_NeedlessClaims.l0 kj4 a0 l1 (x5_1++[x6_1]) (wrap64 (x6_1+1))) else (none)) else (spec_NeedlessClaims.l0 kj4 a0 l1 x5_1 (wrap64 (x6_1+1)))))=some r:=H
      have A11:=mA A110
      clear A110
      replace H:=Option.bind_eq_some_iff.mp H
      obtain ⟨t109,A120,H⟩:=H
      replace H:(if t108=t109 then (if x5_1.length<17592186044416 then (spec_NeedlessClaims.l0 kj4 a0 l1 (x5_1++[x6_1]) (wrap64 (x6_1+1))) else (none)) else (spec_NeedlessClaims.l0 kj4 a0 l1 x5_1 (wrap64 (x6_1+1))))=some r:=H
      have A12:=mA A120
      clear A120
      by_cases c13:t108=t109
      ·rw [if_pos c13] at H
       have c13b0:(t108==t109)=true:=beq_iff_eq.mpr c13
       have c13b1:(t108 != t109)=false:=bne_eq_false_iff_eq.mpr c13
       clear c13
       by_cases c14:x5_1.length<17592186044416
       ·rw [if_pos c14] at H
        have LMc14:=mA c14
        clear c14
        obtain ⟨y110,hy110⟩ : ∃ y_:List Int,y_=(x5_1++[x6_1]):=⟨_,rfl⟩
        replace H:(spec_NeedlessClaims.l0 kj4 a0 l1 y110 (wrap64 (x6_1+1)))=some r:=by first|(rw [hy110];with_reducible exact H)|(have H2_:=(Option.bind_some _ _).symm.trans H;rw [hy110];with_reducible exact H2_)|(have H2_:=(Option.bind_some _ _).symm.trans H;with_reducible exact H2_)|with_reducible exact H|(rw [hy110];exact H)|exact H
        have Ny110:=mA hy110
        clear hy110
        have H':=mA H
        clear H
        go_wp2_with (first|((with_reducible refine gate_callee (f:=136) rfl ?_);refine goesL_ (some 22) rfl rfl Try.func136 (by kernel_rfl) rfl #[.slice A1 l1.length c1,.int .i64 x6_1] rfl (by (try simp only [mT,mC,mN]);first|done|rfl|(simp only [lD,lT];rfl)) ?_;(with_reducible refine (spec_l5Without.calls (fun k_=>k_<w.heap.size) _ _ l1 x6_1 t105 _ ?side1 A10.out).mono ?_);(case side1=>exact Kd.V_mk HC1.out (Kd.F_below (Kd.C_F k36_heap HR1.out) (by repeat (first|(with_reducible first|exact HB.out|apply bA|apply bN|apply bD)|exact HB.out))));rintro e w15 ⟨v106,rfl,ho0,hb⟩;refine ⟨_,rfl,?_⟩;have n0_:=mA (rB (by (with_reducible repeat (first|apply rA|apply rN|apply rD));exact HO_5.out) hb);have n1_:=mA (Kd.N_lower (Kd.N_mono (ok':=fun k_=>some k_≠(u5:Value).ownBlock) ho0 (fun k_ hk_=>Or.elim hk_ (fun hs_=>fun e_=>Nat.not_le.2 hs_ (Kd.R_base HO_5.out k_ e_.symm)) (fun hn_=>(Kd.fresh' (rL (by (with_reducible repeat (first|apply rA|apply rN|apply rD));exact HO_5.out)) k_ hn_)))) (bZ (by repeat (first|(with_reducible first|exact HB.out|apply bA|apply bN|apply bD)|exact HB.out))));have n2_:=mA (bT (by repeat (first|(with_reducible first|exact HB.out|apply bA|apply bN|apply bD)|exact HB.out)) hb);clear HO_5 HB;have HO_5:=n0_;have HO107:=n1_;have HB:=n2_;clear n0_ n1_ n2_;(try clear hb);(try clear hb2);(try clear hk);(try clear hi);(try clear ho0);obtain ⟨Ao16,co16,eo16⟩:=Kd.N_slice HO107.out;subst eo16)|((with_reducible refine gate_callee (f:=127) rfl ?_);refine goesL_ (some 23) rfl rfl Try.func127 (by kernel_rfl) rfl #[.int .i64 a0,.slice Ao16 t105.length co16] rfl (by (try simp only [mT,mC,mN]);first|done|rfl|(simp only [lD,lT];rfl)) ?_;(with_reducible refine (spec_l4Story.calls kj4 a0 _ _ t105 t108 _ ?side1 ?side2 A11.out).mono ?_);(case side1=>repeat (first|exact (Kd.N_reads' HO107.out).2.2|(with_reducible refine cA ?_ _)|(with_reducible refine cN ?_ _)|(with_reducible refine cD ?_)));(case side2=>exact (Kd.N_reads' HO107.out).2.1);rintro e w17 ⟨rfl,hb⟩;refine ⟨_,rfl,?_⟩;have n0_:=mA (rB (by (with_reducible repeat (first|apply rA|apply rN|apply rD));exact HO_5.out) hb);have n1_:=mA (Kd.N_below (by (with_reducible repeat (first|apply nA|apply nN|apply nD));exact HO107.out) hb);have n2_:=mA (bT (by repeat (first|(with_reducible first|exact HB.out|apply bA|apply bN|apply bD)|exact HB.out)) hb);clear HO_5 HO107 HB;have HO_5:=n0_;have HO107:=n1_;have HB:=n2_;clear n0_ n1_ n2_;(try clear hb);(try clear hb2);(try clear hk);(try clear hi))|((with_reducible refine gate_callee (f:=127) rfl ?_);refine goesL_ (some 26) rfl rfl Try.func127 (by kernel_rfl) rfl #[.int .i64 a0,.slice A1 l1.length c1] rfl (by (try simp only [mT,mC,mN]);first|done|rfl|(simp only [lD,lT];rfl)) ?_;(with_reducible refine (spec_l4Story.calls kj4 a0 _ _ l1 t109 _ ?side1 ?side2 A12.out).mono ?_);(case side1=>repeat (first|exact (Kd.C_below HR1.out HB.out)|(with_reducible refine cA ?_ _)|(with_reducible refine cN ?_ _)|(with_reducible refine cD ?_)));(case side2=>exact HC1.out);rintro e w18 ⟨rfl,hb⟩;refine ⟨_,rfl,?_⟩;have n0_:=mA (rB (by (with_reducible repeat (first|apply rA|apply rN|apply rD));exact HO_5.out) hb);have n1_:=mA (Kd.N_below (by (with_reducible repeat (first|apply nA|apply nN|apply nD));exact HO107.out) hb);have n2_:=mA (bT (by repeat (first|(with_reducible first|exact HB.out|apply bA|apply bN|apply bD)|exact HB.out)) hb);clear HO_5 HO107 HB;have HO_5:=n0_;have HO107:=n1_;have HB:=n2_;clear n0_ n1_ n2_;(try clear hb);(try clear hb2);(try clear hk);(try clear hi))|((with_reducible refine gate_builtin (b:=.append) (xs:=#[.tmp 28,.tmp 30]) rfl ?_);at_builtin;refine Kd.R_append (Kd.int .i64) (w0:=w) w.heap.size rfl (.tmp 28) (.tmp 30) 26 3 (.int .i64 0) 8 rfl Try.underlying26 info3 rfl (by decide) (by omega) u5 x5_1 x6_1 [.int .i64 x6_1] (fun _=>True) (fun _=>False) rfl rfl ?aP (fun _ hk=>hk.elim) ?aF ?aO ?aB ?aS ?aL ?_;(case aP=>exact rfl);(case aB=>exact (by repeat (first|(with_reducible first|exact HB.out|apply bA|apply bN|apply bD)|exact HB.out)));(case aF=>exact (fun _ _=>trivial));(case aO=>exact (by (with_reducible repeat (first|apply rA|apply rN|apply rD));exact HO_5.out));(case aS=>exact (bZ (by repeat (first|(with_reducible first|exact HB.out|apply bA|apply bN|apply bD)|exact HB.out))));(case aL=>have:=LMc14.out;omega);intro v111 w19 ho hb hg hat;rw [←Ny110.out] at ho;have n0_:=mA (Kd.N_afterv (ok:=(fun _=>True)) (by (with_reducible repeat (first|apply nA|apply nN|apply nD));exact Kd.N_mono HO107.out (fun _ hk=>⟨trivial,hk⟩)) hg hat);have n1_:=mA (hb);have n2_:=mA (ho);clear HO107 HB HO_5;have HO107:=n0_;have HB:=n1_;have HO112:=n2_;clear n0_ n1_ n2_ ho hb hg hat))
        go_roundg kj4
        case measure=>have:=HK1.out;have:=HJ4.out;omega
        case rel=>exact ⟨(y110),(wrap64 (x6_1+1)),(by first|rfl|(simp;done)|(simp [*];done)),H',⟨by have:=HK1.out;have:=HJ4.out;omega⟩,⟨by (with_reducible repeat (first|apply rA|apply rN|apply rD));exact HO112.out⟩,⟨by repeat (first|(with_reducible first|exact HB.out|apply bA|apply bN|apply bD)|exact HB.out)⟩⟩
       ·rw [if_neg c14] at H
        exact absurd H (by simp)
      ·rw [if_neg c13] at H
       have c13b0:(t108==t109)=false:=beq_eq_false_iff_ne.mpr c13
       have c13b1:(t108 != t109)=true:=bne_iff_ne.mpr c13
       have H':=mA H
       clear H
       go_wp2_with (first|((with_reducible refine gate_callee (f:=136) rfl ?_);refine goesL_ (some 22) rfl rfl Try.func136 (by kernel_rfl) rfl #[.slice A1 l1.length c1,.int .i64 x6_1] rfl (by (try simp only [mT,mC,mN]);first|done|rfl|(simp only [lD,lT];rfl)) ?_;(with_reducible refine (spec_l5Without.calls (fun k_=>k_<w.heap.size) _ _ l1 x6_1 t105 _ ?side1 A10.out).mono ?_);(case side1=>exact Kd.V_mk HC1.out (Kd.F_below (Kd.C_F k36_heap HR1.out) (by repeat (first|(with_reducible first|exact HB.out|apply bA|apply bN|apply bD)|exact HB.out))));rintro e w20 ⟨v106,rfl,ho0,hb⟩;refine ⟨_,rfl,?_⟩;have n0_:=mA (rB (by (with_reducible repeat (first|apply rA|apply rN|apply rD));exact HO_5.out) hb);have n1_:=mA (Kd.N_lower (Kd.N_mono (ok':=fun k_=>some k_≠(u5:Value).ownBlock) ho0 (fun k_ hk_=>Or.elim hk_ (fun hs_=>fun e_=>Nat.not_le.2 hs_ (Kd.R_base HO_5.out k_ e_.symm)) (fun hn_=>(Kd.fresh' (rL (by (with_reducible repeat (first|apply rA|apply rN|apply rD));exact HO_5.out)) k_ hn_)))) (bZ (by repeat (first|(with_reducible first|exact HB.out|apply bA|apply bN|apply bD)|exact HB.out))));have n2_:=mA (bT (by repeat (first|(with_reducible first|exact HB.out|apply bA|apply bN|apply bD)|exact HB.out)) hb);clear HO_5 HB;have HO_5:=n0_;have HO107:=n1_;have HB:=n2_;clear n0_ n1_ n2_;(try clear hb);(try clear hb2);(try clear hk);(try clear hi);(try clear ho0);obtain ⟨Ao21,co21,eo21⟩:=Kd.N_slice HO107.out;subst eo21)|((with_reducible refine gate_callee (f:=127) rfl ?_);refine goesL_ (some 23) rfl rfl Try.func127 (by kernel_rfl) rfl #[.int .i64 a0,.slice Ao21 t105.length co21] rfl (by (try simp only [mT,mC,mN]);first|done|rfl|(simp only [lD,lT];rfl)) ?_;(with_reducible refine (spec_l4Story.calls kj4 a0 _ _ t105 t108 _ ?side1 ?side2 A11.out).mono ?_);(case side1=>repeat (first|exact (Kd.N_reads' HO107.out).2.2|(with_reducible refine cA ?_ _)|(with_reducible refine cN ?_ _)|(with_reducible refine cD ?_)));(case side2=>exact (Kd.N_reads' HO107.out).2.1);rintro e w22 ⟨rfl,hb⟩;refine ⟨_,rfl,?_⟩;have n0_:=mA (rB (by (with_reducible repeat (first|apply rA|apply rN|apply rD));exact HO_5.out) hb);have n1_:=mA (Kd.N_below (by (with_reducible repeat (first|apply nA|apply nN|apply nD));exact HO107.out) hb);have n2_:=mA (bT (by repeat (first|(with_reducible first|exact HB.out|apply bA|apply bN|apply bD)|exact HB.out)) hb);clear HO_5 HO107 HB;have HO_5:=n0_;have HO107:=n1_;have HB:=n2_;clear n0_ n1_ n2_;(try clear hb);(try clear hb2);(try clear hk);(try clear hi))|((with_reducible refine gate_callee (f:=127) rfl ?_);refine goesL_ (some 26) rfl rfl Try.func127 (by kernel_rfl) rfl #[.int .i64 a0,.slice A1 l1.length c1] rfl (by (try simp only [mT,mC,mN]);first|done|rfl|(simp only [lD,lT];rfl)) ?_;(with_reducible refine (spec_l4Story.calls kj4 a0 _ _ l1 t109 _ ?side1 ?side2 A12.out).mono ?_);(case side1=>repeat (first|exact (Kd.C_below HR1.out HB.out)|(with_reducible refine cA ?_ _)|(with_reducible refine cN ?_ _)|(with_reducible refine cD ?_)));(case side2=>exact HC1.out);rintro e w23 ⟨rfl,hb⟩;refine ⟨_,rfl,?_⟩;have n0_:=mA (rB (by (with_reducible repeat (first|apply rA|apply rN|apply rD));exact HO_5.out) hb);have n1_:=mA (Kd.N_below (by (with_reducible repeat (first|apply nA|apply nN|apply nD));exact HO107.out) hb);have n2_:=mA (bT (by repeat (first|(with_reducible first|exact HB.out|apply bA|apply bN|apply bD)|exact HB.out)) hb);clear HO_5 HO107 HB;have HO_5:=n0_;have HO107:=n1_;have HB:=n2_;clear n0_ n1_ n2_;(try clear hb);(try clear hb2);(try clear hk);(try clear hi)))
       go_roundg kj4
       case measure=>have:=HK1.out;have:=HJ4.out;omega
       case rel=>exact ⟨(x5_1),(wrap64 (x6_1+1)),(by first|rfl|(simp;done)|(simp [*];done)),H',⟨by have:=HK1.out;have:=HJ4.out;omega⟩,⟨by (with_reducible repeat (first|apply rA|apply rN|apply rD));exact HO_5.out⟩,⟨by repeat (first|(with_reducible first|exact HB.out|apply bA|apply bN|apply bD)|exact HB.out)⟩⟩
     ·replace c9:=Bool.eq_false_iff.mpr c9
      subst c9
      have H1:(some x5_1)=some r:=by rw [if_neg (show ¬ (false=true) by decide)] at H;exact H
      clear H
      have H:=H1
      clear H1
      obtain rfl:=Option.some.inj H
      go_wp2
      go_ret
      exact ⟨_,by first|rfl|(simp [errW_none,errW_some]<;>rfl)|(simp [*, errW_none,errW_some]<;>rfl),by (with_reducible repeat (first|apply rA|apply rN|apply rD));exact HO_5.out,by repeat (first|(with_reducible first|exact HB.out|apply bA|apply bN|apply bD)|exact HB.out)⟩
/-! ### laws_hasInt: function 88 -/
def laws_hasInt.l0:Nat→List Int→Int→Int→Option (Bool)
 | 0,_,_,_=>none
 | k+1,x0,x1,x5=>if x5<(x0.length:Int) then (if 0≤x5 then (if (rd x0 x5)=x1 then (some true) else (laws_hasInt.l0 k x0 x1 (wrap64 (x5+1)))) else (none)) else (some false)
def laws_hasInt.f (k:Nat) (l0:List Int) (a1:Int):Option (Bool):=laws_hasInt.l0 k l0 a1 0
theorem laws_hasInt.mono_l : ∀ k,(∀ y0 y1 y2,LeO (laws_hasInt.l0 k y0 y1 y2) (laws_hasInt.l0 (k+1) y0 y1 y2))
 | 0=>fun _ _ _ r h=>by simp [laws_hasInt.l0] at h
 | k+1=>by
  have ih0:=laws_hasInt.mono_l k
  ·intro y0 y1 y2
   unfold laws_hasInt.l0
   repeat' first
   | (with_reducible exact ih0 _ _ _)
   | (with_reducible exact LeO.refl _)
   | (with_reducible exact LeO.none _)
   | (with_reducible refine LeO.ite ?_ ?_)
   | (with_reducible refine LeO.bind ?_ (fun _=>?_))
   | exact ih0 _ _ _
   | exact LeO.none _
   | refine LeO.ite ?_ ?_
   | refine LeO.bind ?_ (fun _=>?_)
theorem laws_hasInt.mono : ∀ a0 a1 k,LeO (laws_hasInt.f k a0 a1) (laws_hasInt.f (k+1) a0 a1):=by
 intro a0 a1 k
 have ih0:=laws_hasInt.mono_l k
 unfold laws_hasInt.f
 repeat' first
   | (with_reducible exact ih0 _ _ _)
   | (with_reducible exact LeO.refl _)
   | (with_reducible exact LeO.none _)
   | (with_reducible refine LeO.ite ?_ ?_)
   | (with_reducible refine LeO.bind ?_ (fun _=>?_))
   | exact ih0 _ _ _
   | exact LeO.none _
   | refine LeO.ite ?_ ?_
   | refine LeO.bind ?_ (fun _=>?_)
set_option maxHeartbeats 8000000 in
set_option maxRecDepth 100000 in
theorem laws_hasInt.calls (k:Nat) (A0:Option Addr) (c0:Nat) (l0:List Int) (a1:Int) (r:Bool) (w:World) (hr0:Kd.C (Kd.int .i64) w A0 l0.length l0) (hc0:l0.length≤c0) (h:laws_hasInt.f k l0 a1=some r) :
  Calls Try.prog 88 #[.slice A0 l0.length c0,.int .i64 a1] w fun e w'=>e = .returned (.bool r)∧Drawn0 w w':=by
 have HR0:=mA hr0
 have HC0:=mA hc0
 clear hr0 hc0
 have H:(laws_hasInt.l0 k l0 a1 0)=some r:=h
 clear h
 have H':=mA H
 clear H
 go_enter Try.func88,Try.ntmps88
 go_wp2
 go_loopg [5] k (fun kq v5 w'=>∃ (x5_1:Int),v5 = .int .i64 x5_1∧Aside0 (laws_hasInt.l0 kq l0 a1 x5_1=some r)∧Aside0 (kq≤k)∧Drawn0 w w')
 case atStart=>exact ⟨(0),(by first|rfl|(simp;done)|(simp [*];done)),H',⟨Nat.le_refl _⟩,by repeat (first|exact Drawn0.refl _|apply Drawn0.step)⟩
 case round =>
  clear H'
  try clear p2
  obtain ⟨x5_1,rfl,HA,HK1,⟨m1,rfl⟩⟩:=hrel
  cases gk with
  | zero=>exact absurd HA.out (by simp [laws_hasInt.l0])
  | succ k1 =>
   have H:=HA.out
   clear HA
   simp only [laws_hasInt.l0] at H
   by_cases c3:x5_1<(l0.length:Int)
   ·rw [if_pos c3] at H
    have c3b0:decide (x5_1<(l0.length:Int))=true:=decide_eq_true c3
    clear c3
    by_cases c4:0≤x5_1
    ·rw [if_pos c4] at H
     have c4b0:decide (0≤x5_1)=true:=decide_eq_true c4
     clear c4
     by_cases c5:(rd l0 x5_1)=a1
     ·rw [if_pos c5] at H
      have c5b0:((rd l0 x5_1)==a1)=true:=beq_iff_eq.mpr c5
      have c5b1:((rd l0 x5_1) != a1)=false:=bne_eq_false_iff_eq.mpr c5
      clear c5
      obtain rfl:=Option.some.inj H
      have p101:0≤(x5_1:Int):=of_decide_eq_true (by first|(with_reducible assumption)|assumption)
      have q101:x5_1<(l0.length:Int):=of_decide_eq_true (by first|(with_reducible assumption)|assumption)
      obtain ⟨ad101,e101,hx101_0⟩:=Kd.at_int HR0.out x5_1 p101 q101
      cases e101
      replace p101:=eq_true p101
      replace q101:=eq_true q101
      go_wp2
      go_ret
      exact ⟨by first|rfl|(simp;done)|(simp [*];done),by repeat (first|exact Drawn0.refl _|apply Drawn0.step)⟩
     ·rw [if_neg c5] at H
      have c5b0:((rd l0 x5_1)==a1)=false:=beq_eq_false_iff_ne.mpr c5
      have c5b1:((rd l0 x5_1) != a1)=true:=bne_iff_ne.mpr c5
      have H':=mA H
      clear H
      have p101:0≤(x5_1:Int):=of_decide_eq_true (by first|(with_reducible assumption)|assumption)
      have q101:x5_1<(l0.length:Int):=of_decide_eq_true (by first|(with_reducible assumption)|assumption)
      obtain ⟨ad101,e101,hx101_0⟩:=Kd.at_int HR0.out x5_1 p101 q101
      cases e101
      replace p101:=eq_true p101
      replace q101:=eq_true q101
      go_wp2
      go_roundg k1
      case measure=>have:=HK1.out;omega
      case rel=>exact ⟨(wrap64 (x5_1+1)),(by first|rfl|(simp;done)|(simp [*];done)),H',⟨by have:=HK1.out;omega⟩,by repeat (first|exact Drawn0.refl _|apply Drawn0.step)⟩
    ·rw [if_neg c4] at H
     exact absurd H (by simp)
   ·rw [if_neg c3] at H
    have c3b0:decide (x5_1<(l0.length:Int))=false:=decide_eq_false c3
    clear c3
    obtain rfl:=Option.some.inj H
    go_wp2
    go_ret
    exact ⟨by first|rfl|(simp;done)|(simp [*];done),by repeat (first|exact Drawn0.refl _|apply Drawn0.step)⟩
/-! ### laws_ascend: function 89 -/
def laws_ascend.l0:Nat→List Int→Int→Option (Bool)
 | 0,_,_=>none
 | k+1,x0,x3=>if x3<(x0.length:Int) then (if 0≤(wrap64 (x3-1)) then (if (wrap64 (x3-1))<(x0.length:Int) then (if 0≤x3 then (if (rd x0 (wrap64 (x3-1)))≥(rd x0 x3) then (some false) else (laws_ascend.l0 k x0 (wrap64 (x3+1)))) else (none)) else (none)) else (none)) else (some true)
def laws_ascend.f (k:Nat) (l0:List Int):Option (Bool):=laws_ascend.l0 k l0 1
theorem laws_ascend.mono_l : ∀ k,(∀ y0 y1,LeO (laws_ascend.l0 k y0 y1) (laws_ascend.l0 (k+1) y0 y1))
 | 0=>fun _ _ r h=>by simp [laws_ascend.l0] at h
 | k+1=>by
  have ih0:=laws_ascend.mono_l k
  ·intro y0 y1
   unfold laws_ascend.l0
   repeat' first
   | (with_reducible exact ih0 _ _)
   | (with_reducible exact LeO.refl _)
   | (with_reducible exact LeO.none _)
   | (with_reducible refine LeO.ite ?_ ?_)
   | (with_reducible refine LeO.bind ?_ (fun _=>?_))
   | exact ih0 _ _
   | exact LeO.none _
   | refine LeO.ite ?_ ?_
   | refine LeO.bind ?_ (fun _=>?_)
theorem laws_ascend.mono : ∀ a0 k,LeO (laws_ascend.f k a0) (laws_ascend.f (k+1) a0):=by
 intro a0 k
 have ih0:=laws_ascend.mono_l k
 unfold laws_ascend.f
 repeat' first
   | (with_reducible exact ih0 _ _)
   | (with_reducible exact LeO.refl _)
   | (with_reducible exact LeO.none _)
   | (with_reducible refine LeO.ite ?_ ?_)
   | (with_reducible refine LeO.bind ?_ (fun _=>?_))
   | exact ih0 _ _
   | exact LeO.none _
   | refine LeO.ite ?_ ?_
   | refine LeO.bind ?_ (fun _=>?_)
set_option maxHeartbeats 8000000 in
set_option maxRecDepth 100000 in
theorem laws_ascend.calls (k:Nat) (A0:Option Addr) (c0:Nat) (l0:List Int) (r:Bool) (w:World) (hr0:Kd.C (Kd.int .i64) w A0 l0.length l0) (hc0:l0.length≤c0) (h:laws_ascend.f k l0=some r) :
  Calls Try.prog 89 #[.slice A0 l0.length c0] w fun e w'=>e = .returned (.bool r)∧Drawn0 w w':=by
 have HR0:=mA hr0
 have HC0:=mA hc0
 clear hr0 hc0
 have H:(laws_ascend.l0 k l0 1)=some r:=h
 clear h
 have H':=mA H
 clear H
 go_enter Try.func89,Try.ntmps89
 go_wp2
 repeat (go_quiet (fail);try go_wp2)
 go_loopg [3] k (fun kq v3 w'=>∃ (x3_1:Int),v3 = .int .i64 x3_1∧Aside0 (laws_ascend.l0 kq l0 x3_1=some r)∧Aside0 (kq≤k)∧Drawn0 w w')
 case atStart=>exact ⟨(1),(by first|rfl|(simp;done)|(simp [*];done)),H',⟨Nat.le_refl _⟩,by repeat (first|exact Drawn0.refl _|apply Drawn0.step)⟩
 case round =>
  clear H'
  obtain ⟨x3_1,rfl,HA,HK1,⟨m1,rfl⟩⟩:=hrel
  cases gk with
  | zero=>exact absurd HA.out (by simp [laws_ascend.l0])
  | succ k1 =>
   have H:=HA.out
   clear HA
   simp only [laws_ascend.l0] at H
   by_cases c2:x3_1<(l0.length:Int)
   ·rw [if_pos c2] at H
    have c2b0:decide (x3_1<(l0.length:Int))=true:=decide_eq_true c2
    clear c2
    obtain ⟨ji3,hji3⟩ : ∃ j_:Int,(wrap64 (x3_1-1))=j_:=⟨_,rfl⟩
    replace H:(if 0≤(ji3) then (if (ji3)<(l0.length:Int) then (if 0≤x3_1 then (if (rd l0 (ji3))≥(rd l0 x3_1) then (some false) else (laws_ascend.l0 k1 l0 (wrap64 (x3_1+1)))) else (none)) else (none)) else (none))=some r:=by first|(rw [hji3] at H;exact H)|(simp only [hji3] at H ⊢;exact H)
    have hji3w:(IntKind.i64.wrap (x3_1-1))=ji3:=(i64_w _).trans hji3
    by_cases c4:0≤(ji3)
    ·rw [if_pos c4] at H
     have c4b0:decide (0≤(ji3))=true:=decide_eq_true c4
     clear c4
     by_cases c5:(ji3)<(l0.length:Int)
     ·rw [if_pos c5] at H
      have c5b0:decide ((ji3)<(l0.length:Int))=true:=decide_eq_true c5
      clear c5
      by_cases c6:0≤x3_1
      ·rw [if_pos c6] at H
       have c6b0:decide (0≤x3_1)=true:=decide_eq_true c6
       clear c6
       by_cases c7:(rd l0 (ji3))≥(rd l0 x3_1)
       ·rw [if_pos c7] at H
        have c7b0:decide ((rd l0 x3_1)≤(rd l0 (ji3)))=true:=decide_eq_true c7
        clear c7
        obtain rfl:=Option.some.inj H
        have p101:0≤((ji3):Int):=of_decide_eq_true (by first|(with_reducible assumption)|assumption)
        have q101:(ji3)<(l0.length:Int):=of_decide_eq_true (by first|(with_reducible assumption)|assumption)
        obtain ⟨ad101,e101,hx101_0⟩:=Kd.at_int HR0.out (ji3) p101 q101
        cases e101
        replace p101:=eq_true p101
        replace q101:=eq_true q101
        have p102:0≤(x3_1:Int):=of_decide_eq_true (by first|(with_reducible assumption)|assumption)
        have q102:x3_1<(l0.length:Int):=of_decide_eq_true (by first|(with_reducible assumption)|assumption)
        obtain ⟨ad102,e102,hx102_0⟩:=Kd.at_int HR0.out x3_1 p102 q102
        obtain rfl:ad101=ad102:=(by injection e102)
        replace p102:=eq_true p102
        replace q102:=eq_true q102
        go_wp2
        repeat (go_quiet (fail);try go_wp2)
        go_ret
        exact ⟨by first|rfl|(simp;done)|(simp only [←hji3]<;>(first|rfl|simp))|(simp [*];done),by repeat (first|exact Drawn0.refl _|apply Drawn0.step)⟩
       ·rw [if_neg c7] at H
        have c7b0:decide ((rd l0 x3_1)≤(rd l0 (ji3)))=false:=decide_eq_false c7
        clear c7
        have H':=mA H
        clear H
        have p101:0≤((ji3):Int):=of_decide_eq_true (by first|(with_reducible assumption)|assumption)
        have q101:(ji3)<(l0.length:Int):=of_decide_eq_true (by first|(with_reducible assumption)|assumption)
        obtain ⟨ad101,e101,hx101_0⟩:=Kd.at_int HR0.out (ji3) p101 q101
        cases e101
        replace p101:=eq_true p101
        replace q101:=eq_true q101
        have p102:0≤(x3_1:Int):=of_decide_eq_true (by first|(with_reducible assumption)|assumption)
        have q102:x3_1<(l0.length:Int):=of_decide_eq_true (by first|(with_reducible assumption)|assumption)
        obtain ⟨ad102,e102,hx102_0⟩:=Kd.at_int HR0.out x3_1 p102 q102
        obtain rfl:ad101=ad102:=(by injection e102)
        replace p102:=eq_true p102
        replace q102:=eq_true q102
        go_wp2
        repeat (go_quiet (fail);try go_wp2)
        go_roundg k1
        case measure=>have:=HK1.out;omega
        case rel=>exact ⟨(wrap64 (x3_1+1)),(by first|rfl|(simp;done)|(simp [*];done)),H',⟨by have:=HK1.out;omega⟩,by repeat (first|exact Drawn0.refl _|apply Drawn0.step)⟩
      ·rw [if_neg c6] at H
       exact absurd H (by simp)
     ·rw [if_neg c5] at H
      exact absurd H (by simp)
    ·rw [if_neg c4] at H
     exact absurd H (by simp)
   ·rw [if_neg c2] at H
    have c2b0:decide (x3_1<(l0.length:Int))=false:=decide_eq_false c2
    clear c2
    obtain rfl:=Option.some.inj H
    go_wp2
    repeat (go_quiet (fail);try go_wp2)
    go_ret
    exact ⟨by first|rfl|(simp;done)|(simp [*];done),by repeat (first|exact Drawn0.refl _|apply Drawn0.step)⟩
end Go.Proofs.Ytpampekijfjlkab.X
