/- Joined by a program of this session's: X18, X19, X20, X21, X22, X23, X24, X25, X28, X29, X30, X31. -/
import Derived.Test.YtpampekijfjlkabG44e43c9cff
import Derived.Test.YtpampekijfjlkabG47e08af4a9

namespace Go.Proofs.Ytpampekijfjlkab.X
open Go.RowKit Go.Proofs.YtpampekijfjlkabW.PrintWords Go.Proofs.YtpampekijfjlkabW.PrintLast Go.Proofs.YtpampekijfjlkabW.PrintMore
open Go.Proofs.YtpampekijfjlkabW.PrintWords renaming Aside0.mk → mA, pw_below_drewN → bN, below_drew1 → bD, below_alloc → bA, below_set → bS, blk_alloc → kA, blk_drewN → kN, blk_drew → kD, blk_cell → kC, blk_frozen → kF, below_size → bZ, below_step → bT, Kd.R_alloc → rA, Kd.R_drewN → rN, Kd.R_drew → rD, Kd.R_mono → rM, Kd.R_reads' → rR, Kd.R_lt → rL, Kd.C_alloc → cA, Kd.C_drewN → cN, Kd.C_drew → cD
open List renaming length_take → lT, length_drop → lD, map_toArray → mT, map_cons → mC, map_nil → mN
attribute [local go_sem] max2_int min2_int max_two min_two max_three min_three max_four min_four   -- for this text's walks alone
set_option linter.unusedVariables false
set_option linter.unusedSimpArgs false
/-! ### impl_tableBy: function 116, over any function value -/
def impl_tableBy.l0 (F:Nat→Int→Option Bool):Nat→Int→Int→Int→Option (Int)
 | 0,_,_,_=>none
 | k+1,x5,x8,x9=>if x9<x8 then ((F k x9).bind fun t308=>(if t308=true then (if 0≤x9 then (impl_tableBy.l0 F k (Go.bits .or .i64 x5 (shl .i64 1 x9)) x8 (wrap64 (x9+1))) else (none)) else (impl_tableBy.l0 F k x5 x8 (wrap64 (x9+1))))) else (some x5)
def impl_tableBy.f (F:Nat→Int→Option Bool) (k:Nat) (a0:Int):Option (Int):=if 0≤a0 then (impl_tableBy.l0 F k 0 (shl .i64 1 a0) 0) else (none)
theorem impl_tableBy.mono_l {F:Nat→Int→Option Bool} (hF : ∀ k x,LeO (F k x) (F (k+1) x)) : ∀ k,(∀ y0 y1 y2,LeO (impl_tableBy.l0 F k y0 y1 y2) (impl_tableBy.l0 F (k+1) y0 y1 y2))
 | 0=>fun _ _ _ r h=>by simp [impl_tableBy.l0] at h
 | k+1=>by
  have ih0:=impl_tableBy.mono_l hF k
  ·intro y0 y1 y2
   unfold impl_tableBy.l0
   repeat' first
   | (with_reducible exact ih0 _ _ _)
   | (with_reducible exact hF _ _)
   | (with_reducible exact LeO.refl _)
   | (with_reducible exact LeO.none _)
   | (with_reducible refine LeO.ite ?_ ?_)
   | (with_reducible refine LeO.bind ?_ (fun _=>?_))
theorem impl_tableBy.mono {F:Nat→Int→Option Bool} (hF : ∀ k x,LeO (F k x) (F (k+1) x)) (a0:Int) (k:Nat):LeO (impl_tableBy.f F k a0) (impl_tableBy.f F (k+1) a0):=by
 have ih0:=impl_tableBy.mono_l hF k
 unfold impl_tableBy.f
 repeat' first
   | (with_reducible exact ih0 _ _ _)
   | (with_reducible exact LeO.none _)
   | (with_reducible refine LeO.ite ?_ ?_)
set_option maxHeartbeats 8000000 in
set_option maxRecDepth 100000 in
theorem impl_tableBy.calls (F : Nat → Int → Option Bool) {CF : FuncId} {fn : Func} (hf : Try.prog.funcs[CF]? = some fn) (hname : (fn.name == "runtime.NumGoroutine") = false) (hbody : fn.body.isSome = true) (CB : Array Value) (k : Nat) (a0 : Int) (r : Int) (w : World)
  (hF : ∀ (k:Nat) (x:Int) (b:Bool) (W:World),Below w.heap.size w W→F k x=some b→Calls Try.prog CF (#[.int .i64 x]++CB) W fun e w'=>e = .returned (.bool b)∧Below W.heap.size W w')
  (h:impl_tableBy.f F k a0=some r) :
  Calls Try.prog 116 #[.int .i64 a0,.func (.func CF) #[] CB] w fun e w'=>e = .returned (.int .i64 r)∧Below w.heap.size w w':=by
 have hcf : ∀ (args:Array Value) (W:World),(callFunc CF args).run Try.prog W = .ok (.enter CF args) W:=fun args W=>enters_ hf hname hbody args W
 have HB:=mA (Below.refl w.heap.size w)
 have H:(if 0≤a0 then (impl_tableBy.l0 F k 0 (shl .i64 1 a0) 0) else (none))=some r:=h
 clear h
 by_cases c3:0≤a0
 ·rw [if_pos c3] at H
  have c3b0:=eq_true c3
  have c3b1:decide (0≤a0)=true:=decide_eq_true c3
  clear c3
  obtain ⟨ji4,hji4⟩ : ∃ j_:Int,(shl .i64 1 a0)=j_:=⟨_,rfl⟩
  replace H:(impl_tableBy.l0 F k 0 ji4 0)=some r:=by rw [hji4] at H;exact H
  have hji4_:(IntKind.i64.wrap (1*2^min a0.toNat 64))=ji4:=hji4
  have hji4z:a0≤64→(IntKind.i64.wrap (1*2^a0.toNat))=ji4:=shl_small hji4
  have hji4u:(IntKind.i64.wrap (2^min a0.toNat 64))=ji4:=by have h_:=hji4_;rw [Int.one_mul] at h_;exact h_
  have hji4v:a0≤64→(IntKind.i64.wrap (2^a0.toNat))=ji4:=fun hle_=>by have h_:=hji4z hle_;rw [Int.one_mul] at h_;exact h_
  have hji4y:(wrap64 (1*2^min a0.toNat 64))=ji4:=(i64_w _).symm.trans hji4_
  have hji4x:a0≤64→(wrap64 (1*2^a0.toNat))=ji4:=fun h_=>(i64_w _).symm.trans (hji4z h_)
  have H':=mA H
  clear H
  go_enter Try.func116,Try.ntmps116
  go_wp2
  go_loopg [5,9] k (fun kq v5 v9 w'=>∃ (x5_1:Int) (x9_1:Int),v5 = .int .i64 x5_1∧v9 = .int .i64 x9_1∧Aside0 (impl_tableBy.l0 F kq x5_1 ji4 x9_1=some r)∧Aside0 (kq≤k)∧Aside0 (Below w.heap.size w w'))
  case atStart=>exact ⟨(0),(0),(by first|rfl|(simp;done)|(simp [*];done)),(by first|rfl|(simp;done)|(simp [*];done)),H',⟨Nat.le_refl _⟩,⟨(by repeat (first|(with_reducible first|exact HB.out|apply bA|apply bN|apply bD)|exact HB.out))⟩⟩
  case round =>
   clear H'
   try clear c1
   try clear p2
   try clear c3
   try clear c3b0
   try clear c3b1
   obtain ⟨x5_1,x9_1,rfl,rfl,HA,HK1,HB⟩:=hrel
   cases gk with
   | zero=>exact absurd HA.out (by simp [impl_tableBy.l0])
   | succ k1 =>
    have H:=HA.out
    clear HA
    simp only [impl_tableBy.l0] at H
    by_cases c5:x9_1<ji4
    ·rw [if_pos c5] at H
     have c5b0:decide (x9_1<ji4)=true:=decide_eq_true c5
     clear c5
     replace H:=Option.bind_eq_some_iff.mp H
     obtain ⟨t308,A60,H⟩:=H
     replace H:(if t308=true then (if 0≤x9_1 then (impl_tableBy.l0 F k1 (Go.bits .or .i64 x5_1 (shl .i64 1 x9_1)) ji4 (wrap64 (x9_1+1))) else (none)) else (impl_tableBy.l0 F k1 x5_1 ji4 (wrap64 (x9_1+1))))=some r:=H
     have A6:=mA A60
     clear A60
     by_cases c7:t308=true
     ·subst c7
      have H1:(if 0≤x9_1 then (impl_tableBy.l0 F k1 (Go.bits .or .i64 x5_1 (shl .i64 1 x9_1)) ji4 (wrap64 (x9_1+1))) else (none))=some r:=by rw [if_pos rfl] at H;exact H
      clear H
      have H:=H1
      clear H1
      by_cases c8:0≤x9_1
      ·rw [if_pos c8] at H
       have c8b0:=eq_true c8
       have c8b1:decide (0≤x9_1)=true:=decide_eq_true c8
       clear c8
       obtain ⟨ji9,hji9⟩ : ∃ j_:Int,(shl .i64 1 x9_1)=j_:=⟨_,rfl⟩
       replace H:(impl_tableBy.l0 F k1 (Go.bits .or .i64 x5_1 (ji9)) ji4 (wrap64 (x9_1+1)))=some r:=by first|(rw [hji9] at H;exact H)|(simp only [hji9] at H ⊢;exact H)
       have hji9_:(IntKind.i64.wrap (1*2^min x9_1.toNat 64))=ji9:=hji9
       have hji9z:x9_1≤64→(IntKind.i64.wrap (1*2^x9_1.toNat))=ji9:=shl_small hji9
       have hji9u:(IntKind.i64.wrap (2^min x9_1.toNat 64))=ji9:=by have h_:=hji9_;rw [Int.one_mul] at h_;exact h_
       have hji9v:x9_1≤64→(IntKind.i64.wrap (2^x9_1.toNat))=ji9:=fun hle_=>by have h_:=hji9z hle_;rw [Int.one_mul] at h_;exact h_
       have hji9y:(wrap64 (1*2^min x9_1.toNat 64))=ji9:=(i64_w _).symm.trans hji9_
       have hji9x:x9_1≤64→(wrap64 (1*2^x9_1.toNat))=ji9:=fun h_=>(i64_w _).symm.trans (hji9z h_)
       have H':=mA H
       clear H
       go_wp2_with (first|((with_reducible refine (hF k1 x9_1 true _ ?sideB A6.out).mono ?_);(case sideB=>exact (by repeat (first|(with_reducible first|exact HB.out|apply bA|apply bN|apply bD)|exact HB.out)));rintro e w10 ⟨rfl,hb⟩;have n0_:=mA (bT (by repeat (first|(with_reducible first|exact HB.out|apply bA|apply bN|apply bD)|exact HB.out)) hb);clear HB;have HB:=n0_;clear n0_;(try clear hb)))
       go_roundg k1
       case measure=>have:=HK1.out;omega
       case rel=>exact ⟨(Go.bits .or .i64 x5_1 (ji9)),(wrap64 (x9_1+1)),(by first|rfl|(simp;done)|(simp only [←hji9]<;>(first|rfl|simp))|(simp [*];done)),(by first|rfl|(simp;done)|(simp [*];done)),H',⟨by have:=HK1.out;omega⟩,⟨(by repeat (first|(with_reducible first|exact HB.out|apply bA|apply bN|apply bD)|exact HB.out))⟩⟩
      ·rw [if_neg c8] at H
       exact absurd H (by simp)
     ·replace c7:=Bool.eq_false_iff.mpr c7
      subst c7
      have H1:(impl_tableBy.l0 F k1 x5_1 ji4 (wrap64 (x9_1+1)))=some r:=by rw [if_neg (show ¬ (false=true) by decide)] at H;exact H
      clear H
      have H:=H1
      clear H1
      have H':=mA H
      clear H
      go_wp2_with (first|((with_reducible refine (hF k1 x9_1 false _ ?sideB A6.out).mono ?_);(case sideB=>exact (by repeat (first|(with_reducible first|exact HB.out|apply bA|apply bN|apply bD)|exact HB.out)));rintro e w10 ⟨rfl,hb⟩;have n0_:=mA (bT (by repeat (first|(with_reducible first|exact HB.out|apply bA|apply bN|apply bD)|exact HB.out)) hb);clear HB;have HB:=n0_;clear n0_;(try clear hb)))
      go_roundg k1
      case measure=>have:=HK1.out;omega
      case rel=>exact ⟨(x5_1),(wrap64 (x9_1+1)),(by first|rfl|(simp;done)|(simp [*];done)),(by first|rfl|(simp;done)|(simp [*];done)),H',⟨by have:=HK1.out;omega⟩,⟨(by repeat (first|(with_reducible first|exact HB.out|apply bA|apply bN|apply bD)|exact HB.out))⟩⟩
    ·rw [if_neg c5] at H
     have c5b0:decide (x9_1<ji4)=false:=decide_eq_false c5
     clear c5
     obtain rfl:=Option.some.inj H
     go_wp2
     go_ret
     exact ⟨by first|rfl|(simp;done)|(simp only [←hji4];rfl)|(simp [*];done),(by repeat (first|(with_reducible first|exact HB.out|apply bA|apply bN|apply bD)|exact HB.out))⟩
 ·rw [if_neg c3] at H
  exact absurd H (by simp)
/-! ### impl_ClaimTable: function 49; what it hands to tableBy: function 117 -/
def impl_ClaimTable.f (k:Nat) (a0:Int) (a1_0:Int) (l1:List (S33)):Option (Int):=(impl_ClaimOk.f k a0 a1_0 l1).bind fun t=>(if t=true then (impl_tableBy.f (fun k_ x_=>impl_maySay.f k_ a1_0 l1 x_) k a0) else (some (-1)))
theorem impl_ClaimTable.mono : ∀ a0 a1_0 l1 k,LeO (impl_ClaimTable.f k a0 a1_0 l1) (impl_ClaimTable.f (k+1) a0 a1_0 l1):=by
 intro a0 a1_0 l1 k
 unfold impl_ClaimTable.f
 refine LeO.bind (impl_ClaimOk.mono _ _ _ _) (fun _=>?_)
 refine LeO.ite ?_ (LeO.refl _)
 exact impl_tableBy.mono (fun k x=>impl_maySay.mono _ _ _ _) _ _
set_option maxHeartbeats 8000000 in
set_option maxRecDepth 100000 in
theorem impl_ClaimTable.calls_1 (k:Nat) (a1_0:Int) (A1:Option Addr) (c1:Nat) (l1:List (S33)) (gb1:Nat) (x:Int) (b:Bool) (w:World) (hg:w.heap[gb1]?=some (.cells #[.int .i64 a1_0,.slice A1 l1.length c1] 36 (0,0))) (hr1:Kd.C k33 w A1 l1.length l1) (hc1:l1.length≤c1) (h:impl_maySay.f k a1_0 l1 x=some b) :
  Calls Try.prog 117 #[.int .i64 x,.pointer (some ⟨gb1,0,none⟩)] w fun e w'=>e = .returned (.bool b)∧Below w.heap.size w w':=by
 have hu36:=Try.underlying36
 have HR1:=mA hr1
 have HC1:=mA hc1
 clear hr1 hc1
 have HB:=mA (Below.refl w.heap.size w)
 have A6:=mA h
 clear h
 have hcz0:w.cell? ⟨gb1,0,none⟩=some (.int .i64 a1_0):=(kC hg 0).trans rfl
 have hfz0:=kF hg 0
 have hcz1:w.cell? ⟨gb1,1,none⟩=some (.slice A1 l1.length c1):=(kC hg 1).trans rfl
 have hfz1:=kF hg 1
 clear hg
 go_enter Try.func117,Try.ntmps117
 go_wp2_with (first|((with_reducible refine gate_callee (f:=105) rfl ?_);refine goesL_ (some 6) rfl rfl Try.func105 (by kernel_rfl) rfl #[.agg #[.int .i64 a1_0,.slice A1 l1.length c1],.int .i64 x] rfl (by (try simp only [mT,mC,mN]);first|done|rfl) ?_;(with_reducible refine (impl_maySay.calls k a1_0 _ _ l1 x b _ ?side1 ?side2 A6.out).mono ?_);(case side1=>repeat (first|exact (Kd.C_below HR1.out HB.out)|(with_reducible refine cA ?_ _)|(with_reducible refine cN ?_ _)|(with_reducible refine cD ?_)));(case side2=>exact HC1.out);  rintro e w12 ⟨rfl,hb⟩;refine ⟨_,rfl,?_⟩;have n0_:=mA (bT (by repeat (first|(with_reducible first|exact HB.out|apply bA|apply bN|apply bD)|exact HB.out)) hb);clear HB;have HB:=n0_;clear n0_;(try clear hb)))
 go_ret
 exact ⟨rfl,(by repeat (first|(with_reducible first|exact HB.out|apply bA|apply bN|apply bD)|exact HB.out))⟩
set_option maxHeartbeats 8000000 in
set_option maxRecDepth 100000 in
theorem impl_ClaimTable.calls (k:Nat) (a0:Int) (a1_0:Int) (A1:Option Addr) (c1:Nat) (l1:List (S33)) (r:Int) (w:World) (hr1:Kd.C k33 w A1 l1.length l1) (hc1:l1.length≤c1) (h:impl_ClaimTable.f k a0 a1_0 l1=some r) :
  Calls Try.prog 49 #[.int .i64 a0,.agg #[.int .i64 a1_0,.slice A1 l1.length c1]] w fun e w'=>e = .returned (.int .i64 r)∧Below w.heap.size w w':=by
 have hu36:=Try.underlying36
 have HR1:=mA hr1
 have HC1:=mA hc1
 clear hr1 hc1
 have HB:=mA (Below.refl w.heap.size w)
 have H:((impl_ClaimOk.f k a0 a1_0 l1).bind fun t=>(if t=true then (impl_tableBy.f (fun k_ x_=>impl_maySay.f k_ a1_0 l1 x_) k a0) else (some (-1))))=some r:=h
 clear h
 obtain ⟨t,A10,H⟩:=Option.bind_eq_some_iff.mp H
 have A1_:=mA A10
 clear A10
 have hmf : ∀ (fn:Fn) (first cap:Array Value) (w:World),(Instr.makeFunc fn first cap).run Try.prog w = .ok (.func fn first cap) w:=fun _ _ _ _=>rfl
 cases t with
 | false =>
  have hr_:r = -1:=by simpa using H.symm
  subst hr_
  clear H
  go_enter Try.func49,Try.ntmps49
  go_wp2_with (first|((with_reducible refine gate_dst (N:=3) rfl ?_);refine box_event ?hg (N:=3) ?hd (cs:=#[.int .i64 a1_0,.slice A1 l1.length c1]) (t:=36) ?hr ?_;(case hd=>rfl);(case hg=>rfl);(case hr=>first|(go_simp;done)|(go_simp;rfl));intro gb1 hg w3 hbox hb;have n0_:=mA (bT (by repeat (first|(with_reducible first|exact HB.out|apply bA|apply bN|apply bD)|exact HB.out)) hb);have n1_:=mA (hbox);clear HB;have HB:=n0_;have BK1:=n1_;clear n0_ n1_ hb hbox hg;have hcz0:w3.cell? ⟨gb1,0,none⟩=some (.int .i64 a1_0):=(kC BK1.out 0).trans rfl;have hfz0:=kF BK1.out 0;have hcz1:w3.cell? ⟨gb1,1,none⟩=some (.slice A1 l1.length c1):=(kC BK1.out 1).trans rfl;have hfz1:=kF BK1.out 1)|((with_reducible refine gate_callee (f:=45) rfl ?_);refine goesL_ (some 7) rfl rfl Try.func45 (by kernel_rfl) rfl #[.int .i64 a0,.agg #[.int .i64 a1_0,.slice A1 l1.length c1]] rfl (by (try simp only [mT,mC,mN]);first|done|rfl) ?_;(with_reducible refine (impl_ClaimOk.calls k a0 a1_0 _ _ l1 false _ ?side1 ?side2 A1_.out).mono ?_);(case side1=>repeat (first|exact (Kd.C_below HR1.out HB.out)|(with_reducible refine cA ?_ _)|(with_reducible refine cN ?_ _)|(with_reducible refine cD ?_)));(case side2=>exact HC1.out);  rintro e w12 ⟨rfl,hb⟩;refine ⟨_,rfl,?_⟩;have m0_:=mA (blk_below BK1.out hb);clear BK1;have BK1:=m0_;clear m0_;have n0_:=mA (bT (by repeat (first|(with_reducible first|exact HB.out|apply bA|apply bN|apply bD)|exact HB.out)) hb);clear HB;have HB:=n0_;clear n0_;(try clear hb)))
  go_ret
  exact ⟨rfl,(by repeat (first|(with_reducible first|exact HB.out|apply bA|apply bN|apply bD)|exact HB.out))⟩
 | true =>
  replace H:=mA (show impl_tableBy.f (fun k_ x_=>impl_maySay.f k_ a1_0 l1 x_) k a0=some r from H)
  go_enter Try.func49,Try.ntmps49
  go_wp2_with (first|((with_reducible refine gate_dst (N:=3) rfl ?_);refine box_event ?hg (N:=3) ?hd (cs:=#[.int .i64 a1_0,.slice A1 l1.length c1]) (t:=36) ?hr ?_;(case hd=>rfl);(case hg=>rfl);(case hr=>first|(go_simp;done)|(go_simp;rfl));intro gb1 hg w3 hbox hb;have n0_:=mA (bT (by repeat (first|(with_reducible first|exact HB.out|apply bA|apply bN|apply bD)|exact HB.out)) hb);have n1_:=mA (hbox);clear HB;have HB:=n0_;have BK1:=n1_;clear n0_ n1_ hb hbox hg;have hcz0:w3.cell? ⟨gb1,0,none⟩=some (.int .i64 a1_0):=(kC BK1.out 0).trans rfl;have hfz0:=kF BK1.out 0;have hcz1:w3.cell? ⟨gb1,1,none⟩=some (.slice A1 l1.length c1):=(kC BK1.out 1).trans rfl;have hfz1:=kF BK1.out 1)|((with_reducible refine gate_callee (f:=45) rfl ?_);refine goesL_ (some 7) rfl rfl Try.func45 (by kernel_rfl) rfl #[.int .i64 a0,.agg #[.int .i64 a1_0,.slice A1 l1.length c1]] rfl (by (try simp only [mT,mC,mN]);first|done|rfl) ?_;(with_reducible refine (impl_ClaimOk.calls k a0 a1_0 _ _ l1 true _ ?side1 ?side2 A1_.out).mono ?_);(case side1=>repeat (first|exact (Kd.C_below HR1.out HB.out)|(with_reducible refine cA ?_ _)|(with_reducible refine cN ?_ _)|(with_reducible refine cD ?_)));(case side2=>exact HC1.out);  rintro e w12 ⟨rfl,hb⟩;refine ⟨_,rfl,?_⟩;have m0_:=mA (blk_below BK1.out hb);clear BK1;have BK1:=m0_;clear m0_;have n0_:=mA (bT (by repeat (first|(with_reducible first|exact HB.out|apply bA|apply bN|apply bD)|exact HB.out)) hb);clear HB;have HB:=n0_;clear n0_;(try clear hb))|((with_reducible refine gate_callee (f:=116) rfl ?_);refine goesL_ (some 11) rfl rfl Try.func116 (by kernel_rfl) rfl #[.int .i64 a0,.func (.func 117) #[] #[.pointer (some ⟨gb1,0,none⟩)]] rfl (by (try simp only [mT,mC,mN]);first|done|rfl) ?_;(with_reducible refine (impl_tableBy.calls (fun k_ x_=>impl_maySay.f k_ a1_0 l1 x_) Try.func117 (by kernel_rfl) rfl #[.pointer (some ⟨gb1,0,none⟩)] k a0 r _ ?hF H.out).mono ?_);(case hF=>exact fun k x b W hb h=>impl_ClaimTable.calls_1 k a1_0 _ _ l1 gb1 x b W (blk_below BK1.out hb) (Kd.C_below (Kd.C_below HR1.out HB.out) hb) HC1.out h);  rintro e w12 ⟨rfl,hb⟩;refine ⟨_,rfl,?_⟩;have n0_:=mA (bT (by repeat (first|(with_reducible first|exact HB.out|apply bA|apply bN|apply bD)|exact HB.out)) hb);clear HB;have HB:=n0_;clear n0_;(try clear hb)))
  go_ret
  exact ⟨rfl,(by repeat (first|(with_reducible first|exact HB.out|apply bA|apply bN|apply bD)|exact HB.out))⟩
/-! ### impl_storyTable: function 126 -/
def impl_storyTable.l0:Nat→Int→Int→List (S36)→Int→Int→Option (Int)
 | 0,_,_,_,_,_=>none
 | k+1,x0,x5,x12,x13,x14=>if x14<x13 then (if 0≤x14 then (if x14<(x12.length:Int) then ((impl_ClaimTable.f k x0 ((rd_T36 x12 x14).f0) ((rd_T36 x12 x14).f1)).bind fun t103=>(impl_storyTable.l0 k x0 (Go.bits .and .i64 x5 t103) x12 x13 (wrap64 (x14+1)))) else (none)) else (none)) else (some x5)
def impl_storyTable.f (k:Nat) (a0:Int) (l1:List (S36)):Option (Int):=if 0≤a0 then (impl_storyTable.l0 k a0 (wrap64 ((shl .i64 1 (shl .u64 1 a0))-1)) l1 (l1.length:Int) 0) else (none)
theorem impl_storyTable.mono_l : ∀ k,(∀ y0 y1 y2 y3 y4,LeO (impl_storyTable.l0 k y0 y1 y2 y3 y4) (impl_storyTable.l0 (k+1) y0 y1 y2 y3 y4))
 | 0=>fun _ _ _ _ _ r h=>by simp [impl_storyTable.l0] at h
 | k+1=>by
  have ih0:=impl_storyTable.mono_l k
  ·intro y0 y1 y2 y3 y4
   unfold impl_storyTable.l0
   repeat' first
   | (with_reducible exact ih0 _ _ _ _ _)
   | (with_reducible exact impl_ClaimTable.mono _ _ _ _)
   | (with_reducible exact LeO.refl _)
   | (with_reducible exact LeO.none _)
   | (with_reducible refine LeO.ite ?_ ?_)
   | (with_reducible refine LeO.bind ?_ (fun _=>?_))
   | exact ih0 _ _ _ _ _
   | exact impl_ClaimTable.mono _ _ _ _
   | exact LeO.none _
   | refine LeO.ite ?_ ?_
   | refine LeO.bind ?_ (fun _=>?_)
theorem impl_storyTable.mono : ∀ a0 a1 k,LeO (impl_storyTable.f k a0 a1) (impl_storyTable.f (k+1) a0 a1):=by
 intro a0 a1 k
 have ih0:=impl_storyTable.mono_l k
 unfold impl_storyTable.f
 repeat' first
   | (with_reducible exact ih0 _ _ _ _ _)
   | (with_reducible exact impl_ClaimTable.mono _ _ _ _)
   | (with_reducible exact LeO.refl _)
   | (with_reducible exact LeO.none _)
   | (with_reducible refine LeO.ite ?_ ?_)
   | (with_reducible refine LeO.bind ?_ (fun _=>?_))
   | exact ih0 _ _ _ _ _
   | exact impl_ClaimTable.mono _ _ _ _
   | exact LeO.none _
   | refine LeO.ite ?_ ?_
   | refine LeO.bind ?_ (fun _=>?_)
set_option maxHeartbeats 8000000 in
set_option maxRecDepth 100000 in
theorem impl_storyTable.calls (k:Nat) (a0:Int) (A1:Option Addr) (c1:Nat) (l1:List (S36)) (r:Int) (w:World) (hr1:Kd.C k36 w A1 l1.length l1) (hc1:l1.length≤c1) (h:impl_storyTable.f k a0 l1=some r) :
  Calls Try.prog 126 #[.int .i64 a0,.slice A1 l1.length c1] w fun e w'=>e = .returned (.int .i64 r)∧Below w.heap.size w w':=by
 have hu36:=Try.underlying36
 have HR1:=mA hr1
 have HC1:=mA hc1
 clear hr1 hc1
 have HB:=mA (Below.refl w.heap.size w)
 have H:(if 0≤a0 then (impl_storyTable.l0 k a0 (wrap64 ((shl .i64 1 (shl .u64 1 a0))-1)) l1 (l1.length:Int) 0) else (none))=some r:=h
 clear h
 by_cases c3:0≤a0
 ·rw [if_pos c3] at H
  have c3b0:=eq_true c3
  have c3b1:decide (0≤a0)=true:=decide_eq_true c3
  clear c3
  obtain ⟨ji4,hji4⟩ : ∃ j_:Int,(shl .u64 1 a0)=j_:=⟨_,rfl⟩
  have hji4_n:(0≤ji4)=True:=eq_true (by rw [←hji4];exact shl_u64_nonneg _ _)
  replace H:(impl_storyTable.l0 k a0 (wrap64 ((shl .i64 1 (ji4))-1)) l1 (l1.length:Int) 0)=some r:=by first|(rw [hji4] at H;exact H)|(simp only [hji4] at H ⊢;exact H)
  have hji4_:(IntKind.u64.wrap (1*2^min a0.toNat 64))=ji4:=hji4
  have hji4z:a0≤64→(IntKind.u64.wrap (1*2^a0.toNat))=ji4:=shl_small hji4
  have hji4u:(IntKind.u64.wrap (2^min a0.toNat 64))=ji4:=by have h_:=hji4_;rw [Int.one_mul] at h_;exact h_
  have hji4v:a0≤64→(IntKind.u64.wrap (2^a0.toNat))=ji4:=fun hle_=>by have h_:=hji4z hle_;rw [Int.one_mul] at h_;exact h_
  obtain ⟨ji5,hji5⟩ : ∃ j_:Int,(shl .i64 1 (ji4))=j_:=⟨_,rfl⟩
  replace H:(impl_storyTable.l0 k a0 (wrap64 ((ji5)-1)) l1 (l1.length:Int) 0)=some r:=by first|(rw [hji5] at H;exact H)|(simp only [hji5] at H ⊢;exact H)
  have hji5_:(IntKind.i64.wrap (1*2^min (ji4).toNat 64))=ji5:=hji5
  have hji5z:(ji4)≤64→(IntKind.i64.wrap (1*2^(ji4).toNat))=ji5:=shl_small hji5
  have hji5u:(IntKind.i64.wrap (2^min (ji4).toNat 64))=ji5:=by have h_:=hji5_;rw [Int.one_mul] at h_;exact h_
  have hji5v:(ji4)≤64→(IntKind.i64.wrap (2^(ji4).toNat))=ji5:=fun hle_=>by have h_:=hji5z hle_;rw [Int.one_mul] at h_;exact h_
  have hji5y:(wrap64 (1*2^min (ji4).toNat 64))=ji5:=(i64_w _).symm.trans hji5_
  have hji5x:(ji4)≤64→(wrap64 (1*2^(ji4).toNat))=ji5:=fun h_=>(i64_w _).symm.trans (hji5z h_)
  have H':=mA H
  clear H
  go_enter Try.func126,Try.ntmps126
  go_wp2
  go_loopg [5,14] k (fun kq v5 v14 w'=>∃ (x5_1:Int) (x14_1:Int),v5 = .int .i64 x5_1∧v14 = .int .i64 x14_1∧Aside0 (impl_storyTable.l0 kq a0 x5_1 l1 (l1.length:Int) x14_1=some r)∧Aside0 (kq≤k)∧Aside0 (Below w.heap.size w w'))
  case atStart=>exact ⟨(wrap64 ((ji5)-1)),(0),(by first|rfl|(simp;done)|(simp only [←hji5]<;>(first|rfl|simp))|(simp [*];done)),(by first|rfl|(simp;done)|(simp [*];done)),H',⟨Nat.le_refl _⟩,⟨by repeat (first|(with_reducible first|exact HB.out|apply bA|apply bN|apply bD)|exact HB.out)⟩⟩
  case round =>
   clear H'
   try clear c1
   try clear p2
   try clear c3
   try clear c3b0
   try clear c3b1
   obtain ⟨x5_1,x14_1,rfl,rfl,HA,HK1,HB⟩:=hrel
   cases gk with
   | zero=>exact absurd HA.out (by simp [impl_storyTable.l0])
   | succ k1 =>
    have H:=HA.out
    clear HA
    simp only [impl_storyTable.l0] at H
    by_cases c6:x14_1<(l1.length:Int)
    ·rw [if_pos c6] at H
     have c6b0:decide (x14_1<(l1.length:Int))=true:=decide_eq_true c6
     clear c6
     by_cases c7:0≤x14_1
     ·rw [if_pos c7] at H
      have c7b0:decide (0≤x14_1)=true:=decide_eq_true c7
      clear c7
      by_cases c8:x14_1<(l1.length:Int)
      ·rw [if_pos c8] at H
       have c8b0:decide (x14_1<(l1.length:Int))=true:=decide_eq_true c8
       clear c8
       replace H:=Option.bind_eq_some_iff.mp H
       obtain ⟨t103,A90,H⟩:=H
       replace H:(impl_storyTable.l0 k1 a0 (Go.bits .and .i64 x5_1 t103) l1 (l1.length:Int) (wrap64 (x14_1+1)))=some r:=H
       have A9:=mA A90
       clear A90
       have H':=mA H
       clear H
       have p101:0≤(x14_1:Int):=of_decide_eq_true (by first|(with_reducible assumption)|assumption)
       have q101:x14_1<(l1.length:Int):=of_decide_eq_true (by first|(with_reducible assumption)|assumption)
       obtain ⟨ad101,A101_1,c101_1,e101,hx101_0,hx101_1,hl101_1,hi101_1⟩:=at_T36 HR1.out x14_1 p101 q101
       cases e101
       replace hx101_0:=(HB.out.cell (World.block_lt_of_cell? w _ hx101_0)).trans hx101_0
       replace hx101_1:=(HB.out.cell (World.block_lt_of_cell? w _ hx101_1)).trans hx101_1
       have HR101_1:=mA hi101_1
       have HC101_1:=mA hl101_1
       clear hi101_1 hl101_1
       replace p101:=eq_true p101
       replace q101:=eq_true q101
       go_wp2_with (first|((with_reducible refine gate_dst (N:=7) rfl ?_);refine box_event ?hg (N:=7) ?hd (cs:=#[.int .i64 0,.slice none 0 0]) (t:=36) ?hr ?_;(case hd=>rfl);(case hg=>rfl);(case hr=>first|(go_simp;done)|(go_simp;rfl));intro gb102 hg w10 hbox hb;have n0_:=mA (bT (by repeat (first|(with_reducible first|exact HB.out|apply bA|apply bN|apply bD)|exact HB.out)) hb);have n1_:=mA (hbox);have n2_:=mA ((by rw [hg];exact (bZ (by repeat (first|(with_reducible first|exact HB.out|apply bA|apply bN|apply bD)|exact HB.out))):w.heap.size≤gb102));have n3_:=mA ((by rw [hg];exact (bZ (by repeat (first|(with_reducible first|exact HB.out|apply bA|apply bN|apply bD)|exact HB.out))):w.heap.size≤gb102));clear HB;have HB:=n0_;have BK102:=n1_;have GW102:=n2_;have GE102:=n3_;clear n0_ n1_ n2_ n3_ hb hbox hg;have hcz11_0:w10.cell? ⟨gb102,0,none⟩=some (.int .i64 0):=(kC BK102.out 0).trans rfl;have hcz11_1:w10.cell? ⟨gb102,1,none⟩=some (.slice none 0 0):=(kC BK102.out 1).trans rfl;have hfz11_0:=kF BK102.out 0;have hfz11_1:=kF BK102.out 1)|((with_reducible refine gate_callee (f:=49) rfl ?_);refine goesL_ (some 21) rfl rfl Try.func49 (by kernel_rfl) rfl #[.int .i64 a0,.agg #[.int .i64 ((rd_T36 l1 x14_1).f0),.slice A101_1 ((rd_T36 l1 x14_1).f1).length c101_1]] rfl (by (try simp only [mT,mC,mN]);first|done|rfl|(simp only [lD,lT];rfl)) ?_;(with_reducible refine (impl_ClaimTable.calls k1 a0 ((rd_T36 l1 x14_1).f0) _ _ ((rd_T36 l1 x14_1).f1) t103 _ ?side1 ?side2 A9.out).mono ?_);(case side1=>exact Kd.C_below HR101_1.out (by repeat (first|(with_reducible first|exact HB.out|apply bA|apply bN|apply bD|refine bS ?_ GE102.out)|exact HB.out)));(case side2=>exact HC101_1.out);rintro e w12 ⟨rfl,hb⟩;refine ⟨_,rfl,?_⟩;have n0_:=mA (blk_below (g:=gb102) (o:=.cells #[.int .i64 ((rd_T36 l1 x14_1).f0),.slice A101_1 ((rd_T36 l1 x14_1).f1).length c101_1] 36 (0,0)) (by (with_reducible repeat (first|refine kN ?_ _|refine kD ?_|refine kA ?_ _));refine blk_put (cs:=#[.int .i64 ((rd_T36 l1 x14_1).f0),.slice none 0 0]) ?_ 1 _ rfl;(with_reducible repeat (first|refine kN ?_ _|refine kD ?_|refine kA ?_ _));refine blk_put (cs:=#[.int .i64 0,.slice none 0 0]) ?_ 0 _ rfl;(with_reducible repeat (first|refine kN ?_ _|refine kD ?_|refine kA ?_ _));exact BK102.out) hb);have n1_:=mA (bT (by repeat (first|(with_reducible first|exact HB.out|apply bA|apply bN|apply bD|refine bS ?_ GE102.out)|exact HB.out)) hb);clear BK102 HB;have BK102:=n0_;have HB:=n1_;clear n0_ n1_;(try clear hb);(try clear hb2);(try clear hk);(try clear hi)))
       go_roundg k1
       case measure=>have:=HK1.out;omega
       case rel=>exact ⟨(Go.bits .and .i64 x5_1 t103),(wrap64 (x14_1+1)),(by first|rfl|(simp;done)|(simp [*];done)),(by first|rfl|(simp;done)|(simp [*];done)),H',⟨by have:=HK1.out;omega⟩,⟨by repeat (first|(with_reducible first|exact HB.out|apply bA|apply bN|apply bD|refine bS ?_ GE102.out)|exact HB.out)⟩⟩
      ·rw [if_neg c8] at H
       exact absurd H (by simp)
     ·rw [if_neg c7] at H
      exact absurd H (by simp)
    ·rw [if_neg c6] at H
     have c6b0:decide (x14_1<(l1.length:Int))=false:=decide_eq_false c6
     clear c6
     obtain rfl:=Option.some.inj H
     go_wp2
     go_ret
     exact ⟨by first|rfl|(simp [errW_none,errW_some]<;>rfl)|(simp only [←hji4, ←hji5];first|rfl|(simp [errW_none,errW_some]<;>rfl))|(simp [*, errW_none,errW_some]<;>rfl),by repeat (first|(with_reducible first|exact HB.out|apply bA|apply bN|apply bD)|exact HB.out)⟩
 ·rw [if_neg c3] at H
  exact absurd H (by simp)
/-! ### impl_StoryTable: function 59 -/
def impl_StoryTable.f (k:Nat) (a0:Int) (l1:List (S36)):Option (Int):=(impl_StoryOk.f k a0 l1).bind fun t101=>(if t101=true then ((impl_storyTable.f k a0 l1).bind fun t102=>(some t102)) else (some (-1)))
theorem impl_StoryTable.mono : ∀ a0 a1 k,LeO (impl_StoryTable.f k a0 a1) (impl_StoryTable.f (k+1) a0 a1):=by
 intro a0 a1 k
 unfold impl_StoryTable.f
 repeat' first
   | (with_reducible exact impl_StoryOk.mono _ _ _)
   | (with_reducible exact impl_storyTable.mono _ _ _)
   | (with_reducible exact LeO.refl _)
   | (with_reducible exact LeO.none _)
   | (with_reducible refine LeO.ite ?_ ?_)
   | (with_reducible refine LeO.bind ?_ (fun _=>?_))
   | exact impl_StoryOk.mono _ _ _
   | exact impl_storyTable.mono _ _ _
   | exact LeO.none _
   | refine LeO.ite ?_ ?_
   | refine LeO.bind ?_ (fun _=>?_)
set_option maxHeartbeats 8000000 in
set_option maxRecDepth 100000 in
theorem impl_StoryTable.calls (k:Nat) (a0:Int) (A1:Option Addr) (c1:Nat) (l1:List (S36)) (r:Int) (w:World) (hr1:Kd.C k36 w A1 l1.length l1) (hc1:l1.length≤c1) (h:impl_StoryTable.f k a0 l1=some r) :
  Calls Try.prog 59 #[.int .i64 a0,.slice A1 l1.length c1] w fun e w'=>e = .returned (.int .i64 r)∧Below w.heap.size w w':=by
 have HR1:=mA hr1
 have HC1:=mA hc1
 clear hr1 hc1
 have HB:=mA (Below.refl w.heap.size w)
 have H:((impl_StoryOk.f k a0 l1).bind fun t101=>(if t101=true then ((impl_storyTable.f k a0 l1).bind fun t102=>(some t102)) else (some (-1))))=some r:=h
 clear h
 replace H:=Option.bind_eq_some_iff.mp H
 obtain ⟨t101,A30,H⟩:=H
 replace H:(if t101=true then ((impl_storyTable.f k a0 l1).bind fun t102=>(some t102)) else (some (-1)))=some r:=H
 have A3:=mA A30
 clear A30
 by_cases c4:t101=true
 ·subst c4
  have H1:((impl_storyTable.f k a0 l1).bind fun t102=>(some t102))=some r:=by rw [if_pos rfl] at H;exact H
  clear H
  have H:=H1
  clear H1
  replace H:=Option.bind_eq_some_iff.mp H
  obtain ⟨t102,A50,H⟩:=H
  replace H:(some t102)=some r:=H
  have A5:=mA A50
  clear A50
  obtain rfl:=Option.some.inj H
  go_enter Try.func59,Try.ntmps59
  go_wp2_with (first|((with_reducible refine gate_callee (f:=61) rfl ?_);refine goesL_ (some 7) rfl rfl Try.func61 (by kernel_rfl) rfl #[.int .i64 a0,.slice A1 l1.length c1] rfl (by (try simp only [mT,mC,mN]);first|done|rfl|(simp only [lD,lT];rfl)) ?_;(with_reducible refine (impl_StoryOk.calls k a0 _ _ l1 true _ ?side1 ?side2 A3.out).mono ?_);(case side1=>repeat (first|exact HR1.out|(with_reducible refine cA ?_ _)|(with_reducible refine cN ?_ _)|(with_reducible refine cD ?_)));(case side2=>exact HC1.out);rintro e w6 ⟨rfl,hb⟩;refine ⟨_,rfl,?_⟩;have n0_:=mA (bT (by repeat (first|(with_reducible first|exact HB.out|apply bA|apply bN|apply bD)|exact HB.out)) hb);clear HB;have HB:=n0_;clear n0_;(try clear hb);(try clear hb2);(try clear hk);(try clear hi))|((with_reducible refine gate_callee (f:=126) rfl ?_);refine goesL_ (some 11) rfl rfl Try.func126 (by kernel_rfl) rfl #[.int .i64 a0,.slice A1 l1.length c1] rfl (by (try simp only [mT,mC,mN]);first|done|rfl|(simp only [lD,lT];rfl)) ?_;(with_reducible refine (impl_storyTable.calls k a0 _ _ l1 t102 _ ?side1 ?side2 A5.out).mono ?_);(case side1=>repeat (first|exact (Kd.C_below HR1.out HB.out)|(with_reducible refine cA ?_ _)|(with_reducible refine cN ?_ _)|(with_reducible refine cD ?_)));(case side2=>exact HC1.out);rintro e w7 ⟨rfl,hb⟩;refine ⟨_,rfl,?_⟩;have n0_:=mA (bT (by repeat (first|(with_reducible first|exact HB.out|apply bA|apply bN|apply bD)|exact HB.out)) hb);clear HB;have HB:=n0_;clear n0_;(try clear hb);(try clear hb2);(try clear hk);(try clear hi)))
  go_ret
  exact ⟨by first|rfl|(simp [errW_none,errW_some]<;>rfl)|(simp [*, errW_none,errW_some]<;>rfl),by repeat (first|(with_reducible first|exact HB.out|apply bA|apply bN|apply bD)|exact HB.out)⟩
 ·replace c4:=Bool.eq_false_iff.mpr c4
  subst c4
  have H1:(some (-1))=some r:=by rw [if_neg (show ¬ (false=true) by decide)] at H;exact H
  clear H
  have H:=H1
  clear H1
  obtain rfl:=Option.some.inj H
  go_enter Try.func59,Try.ntmps59
  go_wp2_with (first|((with_reducible refine gate_callee (f:=61) rfl ?_);refine goesL_ (some 7) rfl rfl Try.func61 (by kernel_rfl) rfl #[.int .i64 a0,.slice A1 l1.length c1] rfl (by (try simp only [mT,mC,mN]);first|done|rfl|(simp only [lD,lT];rfl)) ?_;(with_reducible refine (impl_StoryOk.calls k a0 _ _ l1 false _ ?side1 ?side2 A3.out).mono ?_);(case side1=>repeat (first|exact HR1.out|(with_reducible refine cA ?_ _)|(with_reducible refine cN ?_ _)|(with_reducible refine cD ?_)));(case side2=>exact HC1.out);rintro e w8 ⟨rfl,hb⟩;refine ⟨_,rfl,?_⟩;have n0_:=mA (bT (by repeat (first|(with_reducible first|exact HB.out|apply bA|apply bN|apply bD)|exact HB.out)) hb);clear HB;have HB:=n0_;clear n0_;(try clear hb);(try clear hb2);(try clear hk);(try clear hi)))
  go_ret
  exact ⟨by first|rfl|(simp [errW_none,errW_some]<;>rfl)|(simp [*, errW_none,errW_some]<;>rfl),by repeat (first|(with_reducible first|exact HB.out|apply bA|apply bN|apply bD)|exact HB.out)⟩
/-! ### impl_TableOk: function 57 -/
def impl_TableOk.f (a0:Int) (a1:Int):Option (Bool):=(impl_peopleOk.f a0).bind fun t101=>(if t101=true then (if a1≥0 then (if 0≤a0 then (some (decide (a1<(shl .i64 1 (shl .u64 1 a0))))) else (none)) else (some false)) else (some false))
set_option maxHeartbeats 8000000 in
set_option maxRecDepth 100000 in
theorem impl_TableOk.calls (a0:Int) (a1:Int) (r:Bool) (w:World) (h:impl_TableOk.f a0 a1=some r) :
  Calls Try.prog 57 #[.int .i64 a0,.int .i64 a1] w fun e w'=>e = .returned (.bool r)∧Drawn0 w w':=by
 have H:((impl_peopleOk.f a0).bind fun t101=>(if t101=true then (if a1≥0 then (if 0≤a0 then (some (decide (a1<(shl .i64 1 (shl .u64 1 a0))))) else (none)) else (some false)) else (some false)))=some r:=h
 clear h
 replace H:=Option.bind_eq_some_iff.mp H
 obtain ⟨t101,A30,H⟩:=H
 replace H:(if t101=true then (if a1≥0 then (if 0≤a0 then (some (decide (a1<(shl .i64 1 (shl .u64 1 a0))))) else (none)) else (some false)) else (some false))=some r:=H
 have A3:=mA A30
 clear A30
 by_cases c4:t101=true
 ·subst c4
  have H1:(if a1≥0 then (if 0≤a0 then (some (decide (a1<(shl .i64 1 (shl .u64 1 a0))))) else (none)) else (some false))=some r:=by rw [if_pos rfl] at H;exact H
  clear H
  have H:=H1
  clear H1
  by_cases c5:a1≥0
  ·rw [if_pos c5] at H
   have c5b0:decide (0≤a1)=true:=decide_eq_true c5
   clear c5
   by_cases c6:0≤a0
   ·rw [if_pos c6] at H
    have c6b0:=eq_true c6
    have c6b1:decide (0≤a0)=true:=decide_eq_true c6
    clear c6
    obtain ⟨ji7,hji7⟩ : ∃ j_:Int,(shl .u64 1 a0)=j_:=⟨_,rfl⟩
    have hji7_n:(0≤ji7)=True:=eq_true (by rw [←hji7];exact shl_u64_nonneg _ _)
    replace H:(some (decide (a1<(shl .i64 1 (ji7)))))=some r:=by first|(rw [hji7] at H;exact H)|(simp only [hji7] at H ⊢;exact H)
    (try rw [hji7] at A3)
    have hji7_:(IntKind.u64.wrap (1*2^min a0.toNat 64))=ji7:=hji7
    have hji7z:a0≤64→(IntKind.u64.wrap (1*2^a0.toNat))=ji7:=shl_small hji7
    have hji7u:(IntKind.u64.wrap (2^min a0.toNat 64))=ji7:=by have h_:=hji7_;rw [Int.one_mul] at h_;exact h_
    have hji7v:a0≤64→(IntKind.u64.wrap (2^a0.toNat))=ji7:=fun hle_=>by have h_:=hji7z hle_;rw [Int.one_mul] at h_;exact h_
    obtain ⟨ji8,hji8⟩ : ∃ j_:Int,(shl .i64 1 (ji7))=j_:=⟨_,rfl⟩
    replace H:(some (decide (a1<(ji8))))=some r:=by first|(rw [hji8] at H;exact H)|(simp only [hji8] at H ⊢;exact H)
    (try rw [hji8] at A3)
    have hji8_:(IntKind.i64.wrap (1*2^min (ji7).toNat 64))=ji8:=hji8
    have hji8z:(ji7)≤64→(IntKind.i64.wrap (1*2^(ji7).toNat))=ji8:=shl_small hji8
    have hji8u:(IntKind.i64.wrap (2^min (ji7).toNat 64))=ji8:=by have h_:=hji8_;rw [Int.one_mul] at h_;exact h_
    have hji8v:(ji7)≤64→(IntKind.i64.wrap (2^(ji7).toNat))=ji8:=fun hle_=>by have h_:=hji8z hle_;rw [Int.one_mul] at h_;exact h_
    have hji8y:(wrap64 (1*2^min (ji7).toNat 64))=ji8:=(i64_w _).symm.trans hji8_
    have hji8x:(ji7)≤64→(wrap64 (1*2^(ji7).toNat))=ji8:=fun h_=>(i64_w _).symm.trans (hji8z h_)
    obtain rfl:=Option.some.inj H
    go_enter Try.func57,Try.ntmps57
    go_wp2_with (first|((with_reducible refine gate_callee (f:=115) rfl ?_);refine goesL_ (some 6) rfl rfl Try.func115 (by kernel_rfl) rfl #[.int .i64 a0] rfl (by (try simp only [mT,mC,mN]);first|done|rfl|(simp only [lD,lT];rfl)) ?_;(with_reducible refine (impl_peopleOk.calls a0 true _ A3.out).mono ?_);rintro e w' ⟨rfl,⟨nd,rfl⟩⟩;refine ⟨_,rfl,?_⟩))
    go_ret
    exact ⟨by first|rfl|(simp;done)|(simp only [←hji7, ←hji8]<;>(first|rfl|simp))|(simp [*];done),by repeat (first|exact Drawn0.refl _|apply Drawn0.step)⟩
   ·rw [if_neg c6] at H
    exact absurd H (by simp)
  ·rw [if_neg c5] at H
   have c5b0:decide (0≤a1)=false:=decide_eq_false c5
   clear c5
   obtain rfl:=Option.some.inj H
   go_enter Try.func57,Try.ntmps57
   go_wp2_with (first|((with_reducible refine gate_callee (f:=115) rfl ?_);refine goesL_ (some 6) rfl rfl Try.func115 (by kernel_rfl) rfl #[.int .i64 a0] rfl (by (try simp only [mT,mC,mN]);first|done|rfl|(simp only [lD,lT];rfl)) ?_;(with_reducible refine (impl_peopleOk.calls a0 true _ A3.out).mono ?_);rintro e w' ⟨rfl,⟨nd,rfl⟩⟩;refine ⟨_,rfl,?_⟩))
   go_ret
   exact ⟨by first|rfl|(simp;done)|(simp [*];done),by repeat (first|exact Drawn0.refl _|apply Drawn0.step)⟩
 ·replace c4:=Bool.eq_false_iff.mpr c4
  subst c4
  have H1:(some false)=some r:=by rw [if_neg (show ¬ (false=true) by decide)] at H;exact H
  clear H
  have H:=H1
  clear H1
  obtain rfl:=Option.some.inj H
  go_enter Try.func57,Try.ntmps57
  go_wp2_with (first|((with_reducible refine gate_callee (f:=115) rfl ?_);refine goesL_ (some 6) rfl rfl Try.func115 (by kernel_rfl) rfl #[.int .i64 a0] rfl (by (try simp only [mT,mC,mN]);first|done|rfl|(simp only [lD,lT];rfl)) ?_;(with_reducible refine (impl_peopleOk.calls a0 false _ A3.out).mono ?_);rintro e w' ⟨rfl,⟨nd,rfl⟩⟩;refine ⟨_,rfl,?_⟩))
  go_ret
  exact ⟨by first|rfl|(simp;done)|(simp [*];done),by repeat (first|exact Drawn0.refl _|apply Drawn0.step)⟩
/-! ### impl_WorldsIn: function 95 -/
def impl_WorldsIn.l0:Nat→Int→List Int→Int→Int→Option (List Int)
 | 0,_,_,_,_=>none
 | k+1,x1,x5,x13,x14=>if x14<x13 then (if 0≤x14 then (if (Go.bits .and .i64 (shr .i64 x1 x14) 1)=1 then (if x5.length<17592186044416 then (impl_WorldsIn.l0 k x1 (x5++[x14]) x13 (wrap64 (x14+1))) else (none)) else (impl_WorldsIn.l0 k x1 x5 x13 (wrap64 (x14+1)))) else (none)) else (some x5)
def impl_WorldsIn.f (k:Nat) (a0:Int) (a1:Int):Option (List Int):=(impl_TableOk.f a0 a1).bind fun t101=>(if t101=true then (if 0≤a0 then (impl_WorldsIn.l0 k a1 (([]:List Int)) (shl .i64 1 a0) 0) else (none)) else (some ([]:List Int)))
theorem impl_WorldsIn.mono_l : ∀ k,(∀ y0 y1 y2 y3,LeO (impl_WorldsIn.l0 k y0 y1 y2 y3) (impl_WorldsIn.l0 (k+1) y0 y1 y2 y3))
 | 0=>fun _ _ _ _ r h=>by simp [impl_WorldsIn.l0] at h
 | k+1=>by
  have ih0:=impl_WorldsIn.mono_l k
  ·intro y0 y1 y2 y3
   unfold impl_WorldsIn.l0
   repeat' first
   | (with_reducible exact ih0 _ _ _ _)
   | (with_reducible exact LeO.refl _)
   | (with_reducible exact LeO.none _)
   | (with_reducible refine LeO.ite ?_ ?_)
   | (with_reducible refine LeO.bind ?_ (fun _=>?_))
   | exact ih0 _ _ _ _
   | exact LeO.none _
   | refine LeO.ite ?_ ?_
   | refine LeO.bind ?_ (fun _=>?_)
theorem impl_WorldsIn.mono : ∀ a0 a1 k,LeO (impl_WorldsIn.f k a0 a1) (impl_WorldsIn.f (k+1) a0 a1):=by
 intro a0 a1 k
 have ih0:=impl_WorldsIn.mono_l k
 unfold impl_WorldsIn.f
 repeat' first
   | (with_reducible exact ih0 _ _ _ _)
   | (with_reducible exact LeO.refl _)
   | (with_reducible exact LeO.none _)
   | (with_reducible refine LeO.ite ?_ ?_)
   | (with_reducible refine LeO.bind ?_ (fun _=>?_))
   | exact ih0 _ _ _ _
   | exact LeO.none _
   | refine LeO.ite ?_ ?_
   | refine LeO.bind ?_ (fun _=>?_)
set_option maxHeartbeats 8000000 in
set_option maxRecDepth 100000 in
theorem impl_WorldsIn.calls (k:Nat) (a0:Int) (a1:Int) (r:List Int) (w:World) (h:impl_WorldsIn.f k a0 a1=some r) :
  Calls Try.prog 95 #[.int .i64 a0,.int .i64 a1] w fun e w'=>∃ v0_:Value,e = .returned (v0_)∧Kd.R (Kd.int .i64) 3 w' w.heap.size (fun _=>True) v0_ r∧Below w.heap.size w w':=by
 have HB:=mA (Below.refl w.heap.size w)
 have H:((impl_TableOk.f a0 a1).bind fun t101=>(if t101=true then (if 0≤a0 then (impl_WorldsIn.l0 k a1 (([]:List Int)) (shl .i64 1 a0) 0) else (none)) else (some ([]:List Int))))=some r:=h
 clear h
 replace H:=Option.bind_eq_some_iff.mp H
 obtain ⟨t101,A30,H⟩:=H
 replace H:(if t101=true then (if 0≤a0 then (impl_WorldsIn.l0 k a1 (([]:List Int)) (shl .i64 1 a0) 0) else (none)) else (some ([]:List Int)))=some r:=H
 have A3:=mA A30
 clear A30
 by_cases c4:t101=true
 ·subst c4
  have H1:(if 0≤a0 then (impl_WorldsIn.l0 k a1 (([]:List Int)) (shl .i64 1 a0) 0) else (none))=some r:=by rw [if_pos rfl] at H;exact H
  clear H
  have H:=H1
  clear H1
  obtain ⟨y102,hy102⟩ : ∃ y_:List Int,y_=(([]:List Int)):=⟨_,rfl⟩
  replace H:(if 0≤a0 then (impl_WorldsIn.l0 k a1 y102 (shl .i64 1 a0) 0) else (none))=some r:=by first|(rw [hy102];with_reducible exact H)|(have H2_:=(Option.bind_some _ _).symm.trans H;rw [hy102];with_reducible exact H2_)|(have H2_:=(Option.bind_some _ _).symm.trans H;with_reducible exact H2_)|with_reducible exact H|(rw [hy102];exact H)|exact H
  have Ny102:=mA hy102
  clear hy102
  by_cases c5:0≤a0
  ·rw [if_pos c5] at H
   have c5b0:=eq_true c5
   have c5b1:decide (0≤a0)=true:=decide_eq_true c5
   clear c5
   obtain ⟨ji6,hji6⟩ : ∃ j_:Int,(shl .i64 1 a0)=j_:=⟨_,rfl⟩
   replace H:(impl_WorldsIn.l0 k a1 y102 ji6 0)=some r:=by first|(rw [hji6] at H;exact H)|(simp only [hji6] at H ⊢;exact H)
   (try rw [hji6] at A3)
   have hji6_:(IntKind.i64.wrap (1*2^min a0.toNat 64))=ji6:=hji6
   have hji6z:a0≤64→(IntKind.i64.wrap (1*2^a0.toNat))=ji6:=shl_small hji6
   have hji6u:(IntKind.i64.wrap (2^min a0.toNat 64))=ji6:=by have h_:=hji6_;rw [Int.one_mul] at h_;exact h_
   have hji6v:a0≤64→(IntKind.i64.wrap (2^a0.toNat))=ji6:=fun hle_=>by have h_:=hji6z hle_;rw [Int.one_mul] at h_;exact h_
   have hji6y:(wrap64 (1*2^min a0.toNat 64))=ji6:=(i64_w _).symm.trans hji6_
   have hji6x:a0≤64→(wrap64 (1*2^a0.toNat))=ji6:=fun h_=>(i64_w _).symm.trans (hji6z h_)
   have H':=mA H
   clear H
   go_enter Try.func95,Try.ntmps95
   go_wp2_with (first|((with_reducible refine gate_callee (f:=57) rfl ?_);refine goesL_ (some 9) rfl rfl Try.func57 (by kernel_rfl) rfl #[.int .i64 a0,.int .i64 a1] rfl (by (try simp only [mT,mC,mN]);first|done|rfl|(simp only [lD,lT];rfl)) ?_;(with_reducible refine (impl_TableOk.calls a0 a1 true _ A3.out).mono ?_);rintro e w' ⟨rfl,⟨nd,rfl⟩⟩;refine ⟨_,rfl,?_⟩)|((with_reducible refine gate_dst (N:=11) rfl ?_);refine Kd.R_lit (Kd.int .i64) _ 3 ?hg (N:=11) ?hd (xs:=([]:List Int)) (inner:=[]) (ok:=fun _=>True) (okp:=fun _=>True) ?hr ?hp (fun _ hk=>hk) trivial (Below.refl _ _) (Nat.le_refl _) (by simp) ?_;(case hd=>rfl);(case hg=>rfl);(case hr=>first|(go_simp;done)|(go_simp;rfl));(case hp=>exact (Reps.none _ _));intro v103 w7 ho8 hb hg_ hnew_;clear hg_ hnew_;(first|rw [←Ny102.out] at ho8|(simp only [Int.reduceToNat] at ho8;rw [←Ny102.out] at ho8));have n0_:=mA (Kd.R_lower ho8 (bZ (by repeat (first|(with_reducible first|exact HB.out|apply bA|apply bN|apply bD)|exact HB.out))));have n1_:=mA (bT (by repeat (first|(with_reducible first|exact HB.out|apply bA|apply bN|apply bD)|exact HB.out)) hb);clear HB;have HO104:=n0_;have HB:=n1_;clear n0_ n1_ hb ho8))
   go_loopg [5,14] k (fun kq v5 v14 w'=>∃ (x5_1:List Int) (x14_1:Int),v14 = .int .i64 x14_1∧Aside0 (impl_WorldsIn.l0 kq a1 x5_1 ji6 x14_1=some r)∧Aside0 (kq≤k)∧Aside0 (Kd.R (Kd.int .i64) 3 w' w.heap.size (fun _=>True) v5 x5_1)∧Aside0 (Below w.heap.size w w'))
   case atStart=>exact ⟨(y102),(0),(by first|rfl|(simp;done)|(simp [*];done)),H',⟨Nat.le_refl _⟩,⟨by (with_reducible repeat (first|apply rA|apply rN|apply rD));exact HO104.out⟩,⟨by repeat (first|(with_reducible first|exact HB.out|apply bA|apply bN|apply bD)|exact HB.out)⟩⟩
   case round =>
    clear H'
    try clear p2
    try clear c4
    try clear c5
    try clear c5b0
    try clear c5b1
    try clear p6
    obtain ⟨x5_1,x14_1,rfl,HA,HK1,HO_5,HB⟩:=hrel
    cases gk with
    | zero=>exact absurd HA.out (by simp [impl_WorldsIn.l0])
    | succ k1 =>
     have H:=HA.out
     clear HA
     simp only [impl_WorldsIn.l0] at H
     by_cases c9:x14_1<ji6
     ·rw [if_pos c9] at H
      have c9b0:decide (x14_1<ji6)=true:=decide_eq_true c9
      clear c9
      by_cases c10:0≤x14_1
      ·rw [if_pos c10] at H
       have c10b0:=eq_true c10
       have c10b1:decide (0≤x14_1)=true:=decide_eq_true c10
       clear c10
       obtain ⟨ji11,hji11⟩ : ∃ j_:Int,(shr .i64 a1 x14_1)=j_:=⟨_,rfl⟩
       replace H:(if (Go.bits .and .i64 (ji11) 1)=1 then (if x5_1.length<17592186044416 then (impl_WorldsIn.l0 k1 a1 (x5_1++[x14_1]) ji6 (wrap64 (x14_1+1))) else (none)) else (impl_WorldsIn.l0 k1 a1 x5_1 ji6 (wrap64 (x14_1+1))))=some r:=by first|(rw [hji11] at H;exact H)|(simp only [hji11] at H ⊢;exact H)
       have hji11_:(a1 / 2^min x14_1.toNat 64)=ji11:=hji11
       have hji11z:x14_1≤64→(a1 / 2^x14_1.toNat)=ji11:=shr_small hji11
       by_cases c12:(Go.bits .and .i64 (ji11) 1)=1
       ·rw [if_pos c12] at H
        have c12b0:((Go.bits .and .i64 (ji11) 1)==1)=true:=beq_iff_eq.mpr c12
        have c12b1:((Go.bits .and .i64 (ji11) 1) != 1)=false:=bne_eq_false_iff_eq.mpr c12
        clear c12
        by_cases c13:x5_1.length<17592186044416
        ·rw [if_pos c13] at H
         have LMc13:=mA c13
         clear c13
         obtain ⟨y105,hy105⟩ : ∃ y_:List Int,y_=(x5_1++[x14_1]):=⟨_,rfl⟩
         replace H:(impl_WorldsIn.l0 k1 a1 y105 ji6 (wrap64 (x14_1+1)))=some r:=by first|(rw [hy105];with_reducible exact H)|(have H2_:=(Option.bind_some _ _).symm.trans H;rw [hy105];with_reducible exact H2_)|(have H2_:=(Option.bind_some _ _).symm.trans H;with_reducible exact H2_)|with_reducible exact H|(rw [hy105];exact H)|exact H
         have Ny105:=mA hy105
         clear hy105
         have H':=mA H
         clear H
         go_wp2_with (first|((with_reducible refine gate_builtin (b:=.append) (xs:=#[.tmp 22,.tmp 24]) rfl ?_);at_builtin;refine Kd.R_append (Kd.int .i64) (w0:=w) w.heap.size rfl (.tmp 22) (.tmp 24) 26 3 (.int .i64 0) 8 rfl Try.underlying26 info3 rfl (by decide) (by omega) u5 x5_1 x14_1 [.int .i64 x14_1] (fun _=>True) (fun _=>False) rfl rfl ?aP (fun _ hk=>hk.elim) ?aF ?aO ?aB ?aS ?aL ?_;(case aP=>exact rfl);(case aB=>exact (by repeat (first|(with_reducible first|exact HB.out|apply bA|apply bN|apply bD)|exact HB.out)));(case aF=>exact (fun _ _=>trivial));(case aO=>exact (by (with_reducible repeat (first|apply rA|apply rN|apply rD));exact HO_5.out));(case aS=>exact (bZ (by repeat (first|(with_reducible first|exact HB.out|apply bA|apply bN|apply bD)|exact HB.out))));(case aL=>have:=LMc13.out;omega);intro v106 w14 ho hb hg hat;rw [←Ny105.out] at ho;have n0_:=mA (hb);have n1_:=mA (ho);clear HB HO_5;have HB:=n0_;have HO107:=n1_;clear n0_ n1_ ho hb hg hat))
         go_roundg k1
         case measure=>have:=HK1.out;omega
         case rel=>exact ⟨(y105),(wrap64 (x14_1+1)),(by first|rfl|(simp;done)|(simp [*];done)),H',⟨by have:=HK1.out;omega⟩,⟨by (with_reducible repeat (first|apply rA|apply rN|apply rD));exact HO107.out⟩,⟨by repeat (first|(with_reducible first|exact HB.out|apply bA|apply bN|apply bD)|exact HB.out)⟩⟩
        ·rw [if_neg c13] at H
         exact absurd H (by simp)
       ·rw [if_neg c12] at H
        have c12b0:((Go.bits .and .i64 (ji11) 1)==1)=false:=beq_eq_false_iff_ne.mpr c12
        have c12b1:((Go.bits .and .i64 (ji11) 1) != 1)=true:=bne_iff_ne.mpr c12
        have H':=mA H
        clear H
        go_wp2
        go_roundg k1
        case measure=>have:=HK1.out;omega
        case rel=>exact ⟨(x5_1),(wrap64 (x14_1+1)),(by first|rfl|(simp;done)|(simp [*];done)),H',⟨by have:=HK1.out;omega⟩,⟨by (with_reducible repeat (first|apply rA|apply rN|apply rD));exact HO_5.out⟩,⟨by repeat (first|(with_reducible first|exact HB.out|apply bA|apply bN|apply bD)|exact HB.out)⟩⟩
      ·rw [if_neg c10] at H
       exact absurd H (by simp)
     ·rw [if_neg c9] at H
      have c9b0:decide (x14_1<ji6)=false:=decide_eq_false c9
      clear c9
      obtain rfl:=Option.some.inj H
      go_wp2
      go_ret
      exact ⟨_,by first|rfl|(simp [errW_none,errW_some]<;>rfl)|(simp only [←hji6];first|rfl|(simp [errW_none,errW_some]<;>rfl))|(simp [*, errW_none,errW_some]<;>rfl),by (with_reducible repeat (first|apply rA|apply rN|apply rD));exact HO_5.out,by repeat (first|(with_reducible first|exact HB.out|apply bA|apply bN|apply bD)|exact HB.out)⟩
  ·rw [if_neg c5] at H
   exact absurd H (by simp)
 ·replace c4:=Bool.eq_false_iff.mpr c4
  subst c4
  have H1:(some ([]:List Int))=some r:=by rw [if_neg (show ¬ (false=true) by decide)] at H;exact H
  clear H
  have H:=H1
  clear H1
  obtain rfl:=Option.some.inj H
  go_enter Try.func95,Try.ntmps95
  go_wp2_with (first|((with_reducible refine gate_callee (f:=57) rfl ?_);refine goesL_ (some 9) rfl rfl Try.func57 (by kernel_rfl) rfl #[.int .i64 a0,.int .i64 a1] rfl (by (try simp only [mT,mC,mN]);first|done|rfl|(simp only [lD,lT];rfl)) ?_;(with_reducible refine (impl_TableOk.calls a0 a1 false _ A3.out).mono ?_);rintro e w' ⟨rfl,⟨nd,rfl⟩⟩;refine ⟨_,rfl,?_⟩))
  go_ret
  exact ⟨_,by first|rfl|(simp [errW_none,errW_some]<;>rfl)|(simp [*, errW_none,errW_some]<;>rfl),by first|exact Kd.R_nil _ _ _ _ _|exact Kd.N_nil _ _ _ _ _|exact Kd.V_nil _ _ _ _ _|exact Kd.Q_nil _ _ _ _ _|exact Kd.S_nil _ _ _ _ _,by repeat (first|(with_reducible first|exact HB.out|apply bA|apply bN|apply bD)|exact HB.out)⟩
/-! ### impl_KnownPeople: function 23 -/
mutual
def impl_KnownPeople.l0:Nat→List Int→List Int→Int→Int→Option (List Int)
 | 0,_,_,_,_=>none
 | k+1,x5,x6,x20,x21=>if x21<x20 then (if 0<(x5.length:Int) then (if 0≤x21 then (impl_KnownPeople.l1 k x5 x6 x21 (Go.bits .and .i64 (shr .i64 (rd x5 0) x21) 1) x20 x21 x5 (x5.length:Int) 0) else (none)) else (none)) else (some x6)
def impl_KnownPeople.l1:Nat→List Int→List Int→Int→Int→Int→Int→List Int→Int→Int→Option (List Int)
 | 0,_,_,_,_,_,_,_,_,_=>none
 | k+1,x5,x6,x7,x8,x20,x21,x30,x31,x32=>if x32<x31 then (if 0≤x32 then (if x32<(x30.length:Int) then (if 0≤x7 then (if (Go.bits .and .i64 (shr .i64 (rd x30 x32) x7) 1)=x8 then (impl_KnownPeople.l1 k x5 x6 x7 x8 x20 x21 x30 x31 (wrap64 (x32+1))) else (if x6.length<17592186044416 then (impl_KnownPeople.l0 k x5 (x6++[(-1)]) x20 (wrap64 (x21+1))) else (none))) else (none)) else (none)) else (none)) else (if x6.length<17592186044416 then (impl_KnownPeople.l0 k x5 (x6++[x8]) x20 (wrap64 (x21+1))) else (none))
end
def impl_KnownPeople.f (k:Nat) (a0:Int) (l1:List (S36)):Option (List Int):=(impl_StoryTable.f k a0 l1).bind fun t101=>((impl_WorldsIn.f k a0 t101).bind fun t102=>(if (t102.length:Int)=0 then (some ([]:List Int)) else (impl_KnownPeople.l0 k t102 (([]:List Int)) a0 0)))
theorem impl_KnownPeople.mono_l : ∀ k,(∀ y0 y1 y2 y3,LeO (impl_KnownPeople.l0 k y0 y1 y2 y3) (impl_KnownPeople.l0 (k+1) y0 y1 y2 y3))∧(∀ y0 y1 y2 y3 y4 y5 y6 y7 y8,LeO (impl_KnownPeople.l1 k y0 y1 y2 y3 y4 y5 y6 y7 y8) (impl_KnownPeople.l1 (k+1) y0 y1 y2 y3 y4 y5 y6 y7 y8))
 | 0=>⟨fun _ _ _ _ r h=>by simp [impl_KnownPeople.l0] at h,fun _ _ _ _ _ _ _ _ _ r h=>by simp [impl_KnownPeople.l1] at h⟩
 | k+1=>by
  obtain ⟨ih0,ih1⟩:=impl_KnownPeople.mono_l k
  refine ⟨?_,?_⟩
  ·intro y0 y1 y2 y3
   unfold impl_KnownPeople.l0
   repeat' first
   | (with_reducible exact ih0 _ _ _ _)
   | (with_reducible exact ih1 _ _ _ _ _ _ _ _ _)
   | (with_reducible exact impl_StoryTable.mono _ _ _)
   | (with_reducible exact impl_WorldsIn.mono _ _ _)
   | (with_reducible exact LeO.refl _)
   | (with_reducible exact LeO.none _)
   | (with_reducible refine LeO.ite ?_ ?_)
   | (with_reducible refine LeO.bind ?_ (fun _=>?_))
   | exact ih0 _ _ _ _
   | exact ih1 _ _ _ _ _ _ _ _ _
   | exact impl_StoryTable.mono _ _ _
   | exact impl_WorldsIn.mono _ _ _
   | exact LeO.none _
   | refine LeO.ite ?_ ?_
   | refine LeO.bind ?_ (fun _=>?_)
  ·intro y0 y1 y2 y3 y4 y5 y6 y7 y8
   unfold impl_KnownPeople.l1
   repeat' first
   | (with_reducible exact ih0 _ _ _ _)
   | (with_reducible exact ih1 _ _ _ _ _ _ _ _ _)
   | (with_reducible exact impl_StoryTable.mono _ _ _)
   | (with_reducible exact impl_WorldsIn.mono _ _ _)
   | (with_reducible exact LeO.refl _)
   | (with_reducible exact LeO.none _)
   | (with_reducible refine LeO.ite ?_ ?_)
   | (with_reducible refine LeO.bind ?_ (fun _=>?_))
   | exact ih0 _ _ _ _
   | exact ih1 _ _ _ _ _ _ _ _ _
   | exact impl_StoryTable.mono _ _ _
   | exact impl_WorldsIn.mono _ _ _
   | exact LeO.none _
   | refine LeO.ite ?_ ?_
   | refine LeO.bind ?_ (fun _=>?_)
theorem impl_KnownPeople.mono : ∀ a0 a1 k,LeO (impl_KnownPeople.f k a0 a1) (impl_KnownPeople.f (k+1) a0 a1):=by
 intro a0 a1 k
 obtain ⟨ih0,ih1⟩:=impl_KnownPeople.mono_l k
 unfold impl_KnownPeople.f
 repeat' first
   | (with_reducible exact ih0 _ _ _ _)
   | (with_reducible exact ih1 _ _ _ _ _ _ _ _ _)
   | (with_reducible exact impl_StoryTable.mono _ _ _)
   | (with_reducible exact impl_WorldsIn.mono _ _ _)
   | (with_reducible exact LeO.refl _)
   | (with_reducible exact LeO.none _)
   | (with_reducible refine LeO.ite ?_ ?_)
   | (with_reducible refine LeO.bind ?_ (fun _=>?_))
   | exact ih0 _ _ _ _
   | exact ih1 _ _ _ _ _ _ _ _ _
   | exact impl_StoryTable.mono _ _ _
   | exact impl_WorldsIn.mono _ _ _
   | exact LeO.none _
   | refine LeO.ite ?_ ?_
   | refine LeO.bind ?_ (fun _=>?_)
set_option maxHeartbeats 8000000 in
set_option maxRecDepth 100000 in
theorem impl_KnownPeople.calls (k:Nat) (a0:Int) (A1:Option Addr) (c1:Nat) (l1:List (S36)) (r:List Int) (w:World) (hr1:Kd.C k36 w A1 l1.length l1) (hc1:l1.length≤c1) (h:impl_KnownPeople.f k a0 l1=some r) :
  Calls Try.prog 23 #[.int .i64 a0,.slice A1 l1.length c1] w fun e w'=>∃ v0_:Value,e = .returned (v0_)∧Kd.R (Kd.int .i64) 3 w' w.heap.size (fun _=>True) v0_ r∧Below w.heap.size w w':=by
 have HR1:=mA hr1
 have HC1:=mA hc1
 clear hr1 hc1
 have HB:=mA (Below.refl w.heap.size w)
 have H:((impl_StoryTable.f k a0 l1).bind fun t101=>((impl_WorldsIn.f k a0 t101).bind fun t102=>(if (t102.length:Int)=0 then (some ([]:List Int)) else (impl_KnownPeople.l0 k t102 (([]:List Int)) a0 0))))=some r:=h
 clear h
 replace H:=Option.bind_eq_some_iff.mp H
 obtain ⟨t101,A30,H⟩:=H
 replace H:((impl_WorldsIn.f k a0 t101).bind fun t102=>(if (t102.length:Int)=0 then (some ([]:List Int)) else (impl_KnownPeople.l0 k t102 (([]:List Int)) a0 0)))=some r:=H
 have A3:=mA A30
 clear A30
 replace H:=Option.bind_eq_some_iff.mp H
 obtain ⟨t102,A40,H⟩:=H
 replace H:(if (t102.length:Int)=0 then (some ([]:List Int)) else (impl_KnownPeople.l0 k t102 (([]:List Int)) a0 0))=some r:=H
 have A4:=mA A40
 clear A40
 by_cases c5:(t102.length:Int)=0
 ·rw [if_pos c5] at H
  have c5b0:((t102.length:Int)==0)=true:=beq_iff_eq.mpr c5
  have c5b1:((t102.length:Int) != 0)=false:=bne_eq_false_iff_eq.mpr c5
  clear c5
  obtain rfl:=Option.some.inj H
  go_enter Try.func23,Try.ntmps23
  go_wp2_with (first|((with_reducible refine gate_callee (f:=59) rfl ?_);refine goesL_ (some 14) rfl rfl Try.func59 (by kernel_rfl) rfl #[.int .i64 a0,.slice A1 l1.length c1] rfl (by (try simp only [mT,mC,mN]);first|done|rfl|(simp only [lD,lT];rfl)) ?_;(with_reducible refine (impl_StoryTable.calls k a0 _ _ l1 t101 _ ?side1 ?side2 A3.out).mono ?_);(case side1=>repeat (first|exact HR1.out|(with_reducible refine cA ?_ _)|(with_reducible refine cN ?_ _)|(with_reducible refine cD ?_)));(case side2=>exact HC1.out);rintro e w6 ⟨rfl,hb⟩;refine ⟨_,rfl,?_⟩;have n0_:=mA (bT (by repeat (first|(with_reducible first|exact HB.out|apply bA|apply bN|apply bD)|exact HB.out)) hb);clear HB;have HB:=n0_;clear n0_;(try clear hb);(try clear hb2);(try clear hk);(try clear hi))|((with_reducible refine gate_callee (f:=95) rfl ?_);refine goesL_ (some 15) rfl rfl Try.func95 (by kernel_rfl) rfl #[.int .i64 a0,.int .i64 t101] rfl (by (try simp only [mT,mC,mN]);first|done|rfl|(simp only [lD,lT];rfl)) ?_;(with_reducible refine (impl_WorldsIn.calls k a0 t101 t102 _ A4.out).mono ?_);rintro e w7 ⟨v103,rfl,ho0,hb⟩;refine ⟨_,rfl,?_⟩;have n0_:=mA (Kd.R_lower ho0 (bZ (by repeat (first|(with_reducible first|exact HB.out|apply bA|apply bN|apply bD)|exact HB.out))));have n1_:=mA (bT (by repeat (first|(with_reducible first|exact HB.out|apply bA|apply bN|apply bD)|exact HB.out)) hb);clear HB;have HO104:=n0_;have HB:=n1_;clear n0_ n1_;(try clear hb);(try clear hb2);(try clear hk);(try clear hi);(try clear ho0);obtain ⟨Ao8,co8,eo8⟩:=Kd.R_slice HO104.out;subst eo8))
  go_ret
  exact ⟨_,by first|rfl|(simp [errW_none,errW_some]<;>rfl)|(simp [*, errW_none,errW_some]<;>rfl),by first|exact Kd.R_nil _ _ _ _ _|exact Kd.N_nil _ _ _ _ _|exact Kd.V_nil _ _ _ _ _|exact Kd.Q_nil _ _ _ _ _|exact Kd.S_nil _ _ _ _ _,by repeat (first|(with_reducible first|exact HB.out|apply bA|apply bN|apply bD)|exact HB.out)⟩
 ·rw [if_neg c5] at H
  have c5b0:((t102.length:Int)==0)=false:=beq_eq_false_iff_ne.mpr c5
  have c5b1:((t102.length:Int) != 0)=true:=bne_iff_ne.mpr c5
  have c5b2 : ¬ (t102=[]):=fun h_=>c5 (by rw [h_];rfl)
  obtain ⟨y105,hy105⟩ : ∃ y_:List Int,y_=(([]:List Int)):=⟨_,rfl⟩
  replace H:(impl_KnownPeople.l0 k t102 y105 a0 0)=some r:=by first|(rw [hy105];with_reducible exact H)|(have H2_:=(Option.bind_some _ _).symm.trans H;rw [hy105];with_reducible exact H2_)|(have H2_:=(Option.bind_some _ _).symm.trans H;with_reducible exact H2_)|with_reducible exact H|(rw [hy105];exact H)|exact H
  have Ny105:=mA hy105
  clear hy105
  have H':=mA H
  clear H
  go_enter Try.func23,Try.ntmps23
  go_wp2_with (first|((with_reducible refine gate_callee (f:=59) rfl ?_);refine goesL_ (some 14) rfl rfl Try.func59 (by kernel_rfl) rfl #[.int .i64 a0,.slice A1 l1.length c1] rfl (by (try simp only [mT,mC,mN]);first|done|rfl|(simp only [lD,lT];rfl)) ?_;(with_reducible refine (impl_StoryTable.calls k a0 _ _ l1 t101 _ ?side1 ?side2 A3.out).mono ?_);(case side1=>repeat (first|exact HR1.out|(with_reducible refine cA ?_ _)|(with_reducible refine cN ?_ _)|(with_reducible refine cD ?_)));(case side2=>exact HC1.out);rintro e w9 ⟨rfl,hb⟩;refine ⟨_,rfl,?_⟩;have n0_:=mA (bT (by repeat (first|(with_reducible first|exact HB.out|apply bA|apply bN|apply bD)|exact HB.out)) hb);clear HB;have HB:=n0_;clear n0_;(try clear hb);(try clear hb2);(try clear hk);(try clear hi))|((with_reducible refine gate_callee (f:=95) rfl ?_);refine goesL_ (some 15) rfl rfl Try.func95 (by kernel_rfl) rfl #[.int .i64 a0,.int .i64 t101] rfl (by (try simp only [mT,mC,mN]);first|done|rfl|(simp only [lD,lT];rfl)) ?_;(with_reducible refine (impl_WorldsIn.calls k a0 t101 t102 _ A4.out).mono ?_);rintro e w10 ⟨v103,rfl,ho0,hb⟩;refine ⟨_,rfl,?_⟩;have n0_:=mA (Kd.R_lower ho0 (bZ (by repeat (first|(with_reducible first|exact HB.out|apply bA|apply bN|apply bD)|exact HB.out))));have n1_:=mA (bT (by repeat (first|(with_reducible first|exact HB.out|apply bA|apply bN|apply bD)|exact HB.out)) hb);clear HB;have HO104:=n0_;have HB:=n1_;clear n0_ n1_;(try clear hb);(try clear hb2);(try clear hk);(try clear hi);(try clear ho0);obtain ⟨Ao11,co11,eo11⟩:=Kd.R_slice HO104.out;subst eo11)|((with_reducible refine gate_dst (N:=19) rfl ?_);refine Kd.R_lit (Kd.int .i64) _ 3 ?hg (N:=19) ?hd (xs:=([]:List Int)) (inner:=[]) (ok:=fun _=>True) (okp:=fun _=>True) ?hr ?hp (fun _ hk=>hk) trivial (Below.refl _ _) (Nat.le_refl _) (by simp) ?_;(case hd=>rfl);(case hg=>rfl);(case hr=>first|(go_simp;done)|(go_simp;rfl));(case hp=>exact (Reps.none _ _));intro v106 w12 ho13 hb hg_ hnew_;clear hg_ hnew_;(first|rw [←Ny105.out] at ho13|(simp only [Int.reduceToNat] at ho13;rw [←Ny105.out] at ho13));have n0_:=mA (Kd.R_elder' (by (with_reducible repeat (first|apply rA|apply rN|apply rD));exact HO104.out) (Kd.R_base ho13) hb);have n1_:=mA (Kd.R_lower (Kd.R_new' ho13 (rL (by (with_reducible repeat (first|apply rA|apply rN|apply rD));exact HO104.out))) (bZ (by repeat (first|(with_reducible first|exact HB.out|apply bA|apply bN|apply bD)|exact HB.out))));have n2_:=mA (bT (by repeat (first|(with_reducible first|exact HB.out|apply bA|apply bN|apply bD)|exact HB.out)) hb);clear HO104 HB;have HO104:=n0_;have HO107:=n1_;have HB:=n2_;clear n0_ n1_ n2_ hb ho13))
  go_loopg [6,21] k (fun kq v6 v21 w'=>∃ (x6_1:List Int) (x21_1:Int),v21 = .int .i64 x21_1∧Aside0 (impl_KnownPeople.l0 kq t102 x6_1 a0 x21_1=some r)∧Aside0 (kq≤k)∧Aside0 (Kd.R (Kd.int .i64) 3 w' w.heap.size (fun k_=>some k_≠(v6:Value).ownBlock) (.slice Ao11 t102.length co11) t102)∧Aside0 (Kd.R (Kd.int .i64) 3 w' w.heap.size (fun k_=>some k_≠((.slice Ao11 t102.length co11):Value).ownBlock) v6 x6_1)∧Aside0 (Below w.heap.size w w'))
  case atStart=>exact ⟨(y105),(0),(by first|rfl|(simp;done)|(simp [*];done)),H',⟨Nat.le_refl _⟩,⟨by (with_reducible repeat (first|apply rA|apply rN|apply rD));exact rM HO104.out (fun _ hk=>hk.2)⟩,⟨by (with_reducible repeat (first|apply rA|apply rN|apply rD));exact rM HO107.out (fun _ hk=>hk.2)⟩,⟨by repeat (first|(with_reducible first|exact HB.out|apply bA|apply bN|apply bD)|exact HB.out)⟩⟩
  case round =>
   clear H'
   try clear c1
   try clear c2
   try clear p2
   try clear c5
   try clear c5b0
   try clear c5b1
   try clear c5b2
   try clear c9
   obtain ⟨x6_1,x21_1,rfl,HA,HK1,HO_5,HO_6,HB⟩:=hrel
   cases gk with
   | zero=>exact absurd HA.out (by simp [impl_KnownPeople.l0])
   | succ k1 =>
    have H:=HA.out
    clear HA
    simp only [impl_KnownPeople.l0] at H
    by_cases c14:x21_1<a0
    ·rw [if_pos c14] at H
     have c14b0:decide (x21_1<a0)=true:=decide_eq_true c14
     clear c14
     by_cases c15:0<(t102.length:Int)
     ·rw [if_pos c15] at H
      have c15b0:decide (0<(t102.length:Int))=true:=decide_eq_true c15
      have c15b1:decide (0<t102.length)=true:=decide_eq_true (by omega)
      clear c15
      by_cases c16:0≤x21_1
      ·rw [if_pos c16] at H
       have c16b0:=eq_true c16
       have c16b1:decide (0≤x21_1)=true:=decide_eq_true c16
       clear c16
       obtain ⟨ji17,hji17⟩ : ∃ j_:Int,(shr .i64 (rd t102 0) x21_1)=j_:=⟨_,rfl⟩
       replace H:(impl_KnownPeople.l1 k1 t102 x6_1 x21_1 (Go.bits .and .i64 (ji17) 1) a0 x21_1 t102 (t102.length:Int) 0)=some r:=by first|(rw [hji17] at H;exact H)|(simp only [hji17] at H ⊢;exact H)
       have hji17_:((rd t102 0) / 2^min x21_1.toNat 64)=ji17:=hji17
       have hji17z:x21_1≤64→((rd t102 0) / 2^x21_1.toNat)=ji17:=shr_small hji17
       have H':=mA H
       clear H
       have p108:0≤(0:Int):=(by omega)
       have q108:0<(t102.length:Int):=of_decide_eq_true (by first|(with_reducible assumption)|assumption)
       obtain ⟨ad108,e108,hx108_0⟩:=Kd.at_int (rR HO_5.out).2.2 0 p108 q108
       cases e108
       have qi108:(0<t102.length)=True:=eq_true (by omega)
       (try rw [show ((0:Int)).toNat=0 from rfl] at hx108_0)
       (try rw [Addr.add_zero'] at hx108_0)
       replace p108:=eq_true p108
       replace q108:=eq_true q108
       go_wp2
       go_loopg [8,32] k1 (fun kq v8 v32 w'=>∃ (x8_2:Int) (x32_2:Int),v8 = .int .i64 x8_2∧v32 = .int .i64 x32_2∧Aside0 (impl_KnownPeople.l1 kq t102 x6_1 x21_1 x8_2 a0 x21_1 t102 (t102.length:Int) x32_2=some r)∧Aside0 (kq≤k1)∧Aside0 (Kd.R (Kd.int .i64) 3 w' w.heap.size (fun k_=>some k_≠(u6:Value).ownBlock) (.slice (some ad108) t102.length co11) t102)∧Aside0 (Kd.R (Kd.int .i64) 3 w' w.heap.size (fun k_=>some k_≠((.slice (some ad108) t102.length co11):Value).ownBlock∧some k_≠((.slice (some ad108) t102.length co11):Value).ownBlock) u6 x6_1)∧Aside0 (Kd.R (Kd.int .i64) 3 w' w.heap.size (fun k_=>some k_≠(u6:Value).ownBlock) (.slice (some ad108) t102.length co11) t102)∧Aside0 (Below w.heap.size w w'))
       case atStart=>exact ⟨(Go.bits .and .i64 (ji17) 1),(0),(by first|rfl|(simp;done)|(simp only [←hji17]<;>(first|rfl|simp))|(simp [*];done)),(by first|rfl|(simp;done)|(simp [*];done)),H',⟨Nat.le_refl _⟩,⟨by (with_reducible repeat (first|apply rA|apply rN|apply rD));exact HO_5.out⟩,⟨by (with_reducible repeat (first|apply rA|apply rN|apply rD));exact rM HO_6.out (fun _ hk=>⟨hk,hk⟩)⟩,⟨by (with_reducible repeat (first|apply rA|apply rN|apply rD));exact HO_5.out⟩,⟨by repeat (first|(with_reducible first|exact HB.out|apply bA|apply bN|apply bD)|exact HB.out)⟩⟩
       case round =>
        clear H'
        try clear c1
        try clear p1
        try clear q1
        try clear hx1
        try clear qi1
        try clear c2
        try clear p2
        try clear c5
        try clear c5b0
        try clear c5b1
        try clear c5b2
        try clear c9
        try clear p10
        try clear q10
        try clear hx10
        try clear qi10
        try clear c14
        try clear c14b0
        try clear c15
        try clear c15b0
        try clear c15b1
        try clear c16
        try clear c16b0
        try clear c16b1
        try clear hx108_0
        try clear p108
        try clear p2
        try clear q108
        obtain ⟨x8_2,x32_2,rfl,rfl,HA,HK2,HO_5,HO_6,HO_30,HB⟩:=hrel
        cases gk with
        | zero=>exact absurd HA.out (by simp [impl_KnownPeople.l1])
        | succ k2 =>
         have H:=HA.out
         clear HA
         simp only [impl_KnownPeople.l1] at H
         by_cases c18:x32_2<(t102.length:Int)
         ·rw [if_pos c18] at H
          have c18b0:decide (x32_2<(t102.length:Int))=true:=decide_eq_true c18
          clear c18
          by_cases c19:0≤x32_2
          ·rw [if_pos c19] at H
           have c19b0:decide (0≤x32_2)=true:=decide_eq_true c19
           clear c19
           by_cases c20:x32_2<(t102.length:Int)
           ·rw [if_pos c20] at H
            have c20b0:decide (x32_2<(t102.length:Int))=true:=decide_eq_true c20
            clear c20
            by_cases c21:0≤x21_1
            ·rw [if_pos c21] at H
             have c21b0:=eq_true c21
             have c21b1:decide (0≤x21_1)=true:=decide_eq_true c21
             clear c21
             obtain ⟨ji22,hji22⟩ : ∃ j_:Int,(shr .i64 (rd t102 x32_2) x21_1)=j_:=⟨_,rfl⟩
             replace H:(if (Go.bits .and .i64 (ji22) 1)=x8_2 then (impl_KnownPeople.l1 k2 t102 x6_1 x21_1 x8_2 a0 x21_1 t102 (t102.length:Int) (wrap64 (x32_2+1))) else (if x6_1.length<17592186044416 then (impl_KnownPeople.l0 k2 t102 (x6_1++[(-1)]) a0 (wrap64 (x21_1+1))) else (none)))=some r:=by first|(rw [hji22] at H;exact H)|(simp only [hji22] at H ⊢;exact H)
             have hji22_:((rd t102 x32_2) / 2^min x21_1.toNat 64)=ji22:=hji22
             have hji22z:x21_1≤64→((rd t102 x32_2) / 2^x21_1.toNat)=ji22:=shr_small hji22
             by_cases c23:(Go.bits .and .i64 (ji22) 1)=x8_2
             ·rw [if_pos c23] at H
              have c23b0:((Go.bits .and .i64 (ji22) 1)==x8_2)=true:=beq_iff_eq.mpr c23
              have c23b1:((Go.bits .and .i64 (ji22) 1) != x8_2)=false:=bne_eq_false_iff_eq.mpr c23
              clear c23
              have H':=mA H
              clear H
              have p109:0≤(x32_2:Int):=of_decide_eq_true (by first|(with_reducible assumption)|assumption)
              have q109:x32_2<(t102.length:Int):=of_decide_eq_true (by first|(with_reducible assumption)|assumption)
              obtain ⟨ad109,e109,hx109_0⟩:=Kd.at_int (rR HO_30.out).2.2 x32_2 p109 q109
              obtain rfl:ad108=ad109:=(by injection e109)
              replace p109:=eq_true p109
              replace q109:=eq_true q109
              go_wp2
              go_roundg k2
              case measure=>have:=HK1.out;have:=HK2.out;omega
              case rel=>exact ⟨(x8_2),(wrap64 (x32_2+1)),(by first|rfl|(simp;done)|(simp [*];done)),(by first|rfl|(simp;done)|(simp [*];done)),H',⟨by have:=HK1.out;have:=HK2.out;omega⟩,⟨by (with_reducible repeat (first|apply rA|apply rN|apply rD));exact HO_5.out⟩,⟨by (with_reducible repeat (first|apply rA|apply rN|apply rD));exact HO_6.out⟩,⟨by (with_reducible repeat (first|apply rA|apply rN|apply rD));exact HO_30.out⟩,⟨by repeat (first|(with_reducible first|exact HB.out|apply bA|apply bN|apply bD)|exact HB.out)⟩⟩
             ·rw [if_neg c23] at H
              have c23b0:((Go.bits .and .i64 (ji22) 1)==x8_2)=false:=beq_eq_false_iff_ne.mpr c23
              have c23b1:((Go.bits .and .i64 (ji22) 1) != x8_2)=true:=bne_iff_ne.mpr c23
              by_cases c24:x6_1.length<17592186044416
              ·rw [if_pos c24] at H
               have LMc24:=mA c24
               clear c24
               obtain ⟨y110,hy110⟩ : ∃ y_:List Int,y_=(x6_1++[(-1)]):=⟨_,rfl⟩
               replace H:(impl_KnownPeople.l0 k2 t102 y110 a0 (wrap64 (x21_1+1)))=some r:=by first|(rw [hy110];with_reducible exact H)|(have H2_:=(Option.bind_some _ _).symm.trans H;rw [hy110];with_reducible exact H2_)|(have H2_:=(Option.bind_some _ _).symm.trans H;with_reducible exact H2_)|with_reducible exact H|(rw [hy110];exact H)|exact H
               have Ny110:=mA hy110
               clear hy110
               have H':=mA H
               clear H
               have p109:0≤(x32_2:Int):=of_decide_eq_true (by first|(with_reducible assumption)|assumption)
               have q109:x32_2<(t102.length:Int):=of_decide_eq_true (by first|(with_reducible assumption)|assumption)
               obtain ⟨ad109,e109,hx109_0⟩:=Kd.at_int (rR HO_30.out).2.2 x32_2 p109 q109
               obtain rfl:ad108=ad109:=(by injection e109)
               replace p109:=eq_true p109
               replace q109:=eq_true q109
               go_wp2_with (first|((with_reducible refine gate_builtin (b:=.append) (xs:=#[.tmp 43,.tmp 45]) rfl ?_);at_builtin;refine Kd.R_append (Kd.int .i64) (w0:=w) w.heap.size rfl (.tmp 43) (.tmp 45) 26 3 (.int .i64 0) 8 rfl Try.underlying26 info3 rfl (by decide) (by omega) u6 x6_1 (-1) [.int .i64 (-1)] (fun k_=>some k_≠(.slice (some ad108) t102.length co11:Value).ownBlock∧some k_≠(.slice (some ad108) t102.length co11:Value).ownBlock) (fun _=>False) rfl rfl ?aP (fun _ hk=>hk.elim) ?aF ?aO ?aB ?aS ?aL ?_;(case aP=>exact rfl);(case aB=>exact (by repeat (first|(with_reducible first|exact HB.out|apply bA|apply bN|apply bD)|exact HB.out)));(case aF=>exact (fun k_ hk=>⟨Kd.fresh' (rL (by (with_reducible repeat (first|apply rA|apply rN|apply rD));exact HO_5.out)) k_ hk,Kd.fresh' (rL (by (with_reducible repeat (first|apply rA|apply rN|apply rD));exact HO_30.out)) k_ hk⟩));(case aO=>exact (by (with_reducible repeat (first|apply rA|apply rN|apply rD));exact HO_6.out));(case aS=>exact (bZ (by repeat (first|(with_reducible first|exact HB.out|apply bA|apply bN|apply bD)|exact HB.out))));(case aL=>have:=LMc24.out;omega);intro v111 w25 ho hb hg hat;rw [←Ny110.out] at ho;have n0_:=mA (Kd.R_after (ok:=(fun _=>True)) (by (with_reducible repeat (first|apply rA|apply rN|apply rD));exact rM HO_5.out (fun _ hk=>⟨trivial,hk⟩)) hg hat);have n1_:=mA (Kd.R_after (ok:=(fun _=>True)) (by (with_reducible repeat (first|apply rA|apply rN|apply rD));exact rM HO_30.out (fun _ hk=>⟨trivial,hk⟩)) hg hat);have n2_:=mA (hb);have n3_:=mA (ho);clear HO_5 HO_30 HB HO_6;have HO_5:=n0_;have HO_30:=n1_;have HB:=n2_;have HO112:=n3_;clear n0_ n1_ n2_ n3_ ho hb hg hat))
               go_roundg k2
               case measure=>have:=HK1.out;have:=HK2.out;omega
               case rel=>exact ⟨(y110),(wrap64 (x21_1+1)),(by first|rfl|(simp;done)|(simp [*];done)),H',⟨by have:=HK1.out;have:=HK2.out;omega⟩,⟨by (with_reducible repeat (first|apply rA|apply rN|apply rD));exact rM HO_5.out (fun _ hk=>hk.2)⟩,⟨by (with_reducible repeat (first|apply rA|apply rN|apply rD));exact rM HO112.out (fun _ hk=>hk.1)⟩,⟨by repeat (first|(with_reducible first|exact HB.out|apply bA|apply bN|apply bD)|exact HB.out)⟩⟩
              ·rw [if_neg c24] at H
               exact absurd H (by simp)
            ·rw [if_neg c21] at H
             exact absurd H (by simp)
           ·rw [if_neg c20] at H
            exact absurd H (by simp)
          ·rw [if_neg c19] at H
           exact absurd H (by simp)
         ·rw [if_neg c18] at H
          have c18b0:decide (x32_2<(t102.length:Int))=false:=decide_eq_false c18
          clear c18
          by_cases c26:x6_1.length<17592186044416
          ·rw [if_pos c26] at H
           have LMc26:=mA c26
           clear c26
           obtain ⟨y113,hy113⟩ : ∃ y_:List Int,y_=(x6_1++[x8_2]):=⟨_,rfl⟩
           replace H:(impl_KnownPeople.l0 k2 t102 y113 a0 (wrap64 (x21_1+1)))=some r:=by first|(rw [hy113];with_reducible exact H)|(have H2_:=(Option.bind_some _ _).symm.trans H;rw [hy113];with_reducible exact H2_)|(have H2_:=(Option.bind_some _ _).symm.trans H;with_reducible exact H2_)|with_reducible exact H|(rw [hy113];exact H)|exact H
           have Ny113:=mA hy113
           clear hy113
           have H':=mA H
           clear H
           go_wp2_with (first|((with_reducible refine gate_builtin (b:=.append) (xs:=#[.tmp 43,.tmp 45]) rfl ?_);at_builtin;refine Kd.R_append (Kd.int .i64) (w0:=w) w.heap.size rfl (.tmp 43) (.tmp 45) 26 3 (.int .i64 0) 8 rfl Try.underlying26 info3 rfl (by decide) (by omega) u6 x6_1 x8_2 [.int .i64 x8_2] (fun k_=>some k_≠(.slice (some ad108) t102.length co11:Value).ownBlock∧some k_≠(.slice (some ad108) t102.length co11:Value).ownBlock) (fun _=>False) rfl rfl ?aP (fun _ hk=>hk.elim) ?aF ?aO ?aB ?aS ?aL ?_;(case aP=>exact rfl);(case aB=>exact (by repeat (first|(with_reducible first|exact HB.out|apply bA|apply bN|apply bD)|exact HB.out)));(case aF=>exact (fun k_ hk=>⟨Kd.fresh' (rL (by (with_reducible repeat (first|apply rA|apply rN|apply rD));exact HO_5.out)) k_ hk,Kd.fresh' (rL (by (with_reducible repeat (first|apply rA|apply rN|apply rD));exact HO_30.out)) k_ hk⟩));(case aO=>exact (by (with_reducible repeat (first|apply rA|apply rN|apply rD));exact HO_6.out));(case aS=>exact (bZ (by repeat (first|(with_reducible first|exact HB.out|apply bA|apply bN|apply bD)|exact HB.out))));(case aL=>have:=LMc26.out;omega);intro v114 w27 ho hb hg hat;rw [←Ny113.out] at ho;have n0_:=mA (Kd.R_after (ok:=(fun _=>True)) (by (with_reducible repeat (first|apply rA|apply rN|apply rD));exact rM HO_5.out (fun _ hk=>⟨trivial,hk⟩)) hg hat);have n1_:=mA (Kd.R_after (ok:=(fun _=>True)) (by (with_reducible repeat (first|apply rA|apply rN|apply rD));exact rM HO_30.out (fun _ hk=>⟨trivial,hk⟩)) hg hat);have n2_:=mA (hb);have n3_:=mA (ho);clear HO_5 HO_30 HB HO_6;have HO_5:=n0_;have HO_30:=n1_;have HB:=n2_;have HO115:=n3_;clear n0_ n1_ n2_ n3_ ho hb hg hat))
           go_roundg k2
           case measure=>have:=HK1.out;have:=HK2.out;omega
           case rel=>exact ⟨(y113),(wrap64 (x21_1+1)),(by first|rfl|(simp;done)|(simp [*];done)),H',⟨by have:=HK1.out;have:=HK2.out;omega⟩,⟨by (with_reducible repeat (first|apply rA|apply rN|apply rD));exact rM HO_5.out (fun _ hk=>hk.2)⟩,⟨by (with_reducible repeat (first|apply rA|apply rN|apply rD));exact rM HO115.out (fun _ hk=>hk.1)⟩,⟨by repeat (first|(with_reducible first|exact HB.out|apply bA|apply bN|apply bD)|exact HB.out)⟩⟩
          ·rw [if_neg c26] at H
           exact absurd H (by simp)
      ·rw [if_neg c16] at H
       exact absurd H (by simp)
     ·rw [if_neg c15] at H
      exact absurd H (by simp)
    ·rw [if_neg c14] at H
     have c14b0:decide (x21_1<a0)=false:=decide_eq_false c14
     clear c14
     obtain rfl:=Option.some.inj H
     go_wp2
     go_ret
     exact ⟨_,by first|rfl|(simp [errW_none,errW_some]<;>rfl)|(simp [*, errW_none,errW_some]<;>rfl),by (with_reducible repeat (first|apply rA|apply rN|apply rD));exact rM HO_6.out (fun _ hk=>trivial),by repeat (first|(with_reducible first|exact HB.out|apply bA|apply bN|apply bD)|exact HB.out)⟩
/-! ### impl_OnlyWorld: function 24 -/
def impl_OnlyWorld.f (k:Nat) (a0:Int) (l1:List (S36)):Option (Int×Bool):=(impl_StoryTable.f k a0 l1).bind fun t101=>((impl_WorldsIn.f k a0 t101).bind fun t102=>(if (t102.length:Int)=1 then (if 0<(t102.length:Int) then (some (rd t102 0,true)) else (none)) else (some ((-1),false))))
theorem impl_OnlyWorld.mono : ∀ a0 a1 k,LeO (impl_OnlyWorld.f k a0 a1) (impl_OnlyWorld.f (k+1) a0 a1):=by
 intro a0 a1 k
 unfold impl_OnlyWorld.f
 repeat' first
   | (with_reducible exact impl_StoryTable.mono _ _ _)
   | (with_reducible exact impl_WorldsIn.mono _ _ _)
   | (with_reducible exact LeO.refl _)
   | (with_reducible exact LeO.none _)
   | (with_reducible refine LeO.ite ?_ ?_)
   | (with_reducible refine LeO.bind ?_ (fun _=>?_))
   | exact impl_StoryTable.mono _ _ _
   | exact impl_WorldsIn.mono _ _ _
   | exact LeO.none _
   | refine LeO.ite ?_ ?_
   | refine LeO.bind ?_ (fun _=>?_)
set_option maxHeartbeats 8000000 in
set_option maxRecDepth 100000 in
theorem impl_OnlyWorld.calls (k:Nat) (a0:Int) (A1:Option Addr) (c1:Nat) (l1:List (S36)) (r1:Int) (r2:Bool) (w:World) (hr1:Kd.C k36 w A1 l1.length l1) (hc1:l1.length≤c1) (h:impl_OnlyWorld.f k a0 l1=some (r1,r2)) :
  Calls Try.prog 24 #[.int .i64 a0,.slice A1 l1.length c1] w fun e w'=>e = .returned (.tuple #[.int .i64 r1,.bool r2])∧Below w.heap.size w w':=by
 have HR1:=mA hr1
 have HC1:=mA hc1
 clear hr1 hc1
 have HB:=mA (Below.refl w.heap.size w)
 have H:((impl_StoryTable.f k a0 l1).bind fun t101=>((impl_WorldsIn.f k a0 t101).bind fun t102=>(if (t102.length:Int)=1 then (if 0<(t102.length:Int) then (some (rd t102 0,true)) else (none)) else (some ((-1),false)))))=some (r1,r2):=h
 clear h
 replace H:=Option.bind_eq_some_iff.mp H
 obtain ⟨t101,A30,H⟩:=H
 replace H:((impl_WorldsIn.f k a0 t101).bind fun t102=>(if (t102.length:Int)=1 then (if 0<(t102.length:Int) then (some (rd t102 0,true)) else (none)) else (some ((-1),false))))=some (r1,r2):=H
 have A3:=mA A30
 clear A30
 replace H:=Option.bind_eq_some_iff.mp H
 obtain ⟨t102,A40,H⟩:=H
 replace H:(if (t102.length:Int)=1 then (if 0<(t102.length:Int) then (some (rd t102 0,true)) else (none)) else (some ((-1),false)))=some (r1,r2):=H
 have A4:=mA A40
 clear A40
 by_cases c5:(t102.length:Int)=1
 ·rw [if_pos c5] at H
  have c5b0:((t102.length:Int)==1)=true:=beq_iff_eq.mpr c5
  have c5b1:((t102.length:Int) != 1)=false:=bne_eq_false_iff_eq.mpr c5
  clear c5
  by_cases c6:0<(t102.length:Int)
  ·rw [if_pos c6] at H
   have c6b0:decide (0<(t102.length:Int))=true:=decide_eq_true c6
   have c6b1:decide (0<t102.length)=true:=decide_eq_true (by omega)
   clear c6
   simp only [Option.some.injEq,Prod.mk.injEq] at H
   obtain ⟨rfl,rfl⟩:=H
   go_enter Try.func24,Try.ntmps24
   go_wp2_with (first|((with_reducible refine gate_callee (f:=59) rfl ?_);refine goesL_ (some 10) rfl rfl Try.func59 (by kernel_rfl) rfl #[.int .i64 a0,.slice A1 l1.length c1] rfl (by (try simp only [mT,mC,mN]);first|done|rfl|(simp only [lD,lT];rfl)) ?_;(with_reducible refine (impl_StoryTable.calls k a0 _ _ l1 t101 _ ?side1 ?side2 A3.out).mono ?_);(case side1=>repeat (first|exact HR1.out|(with_reducible refine cA ?_ _)|(with_reducible refine cN ?_ _)|(with_reducible refine cD ?_)));(case side2=>exact HC1.out);rintro e w7 ⟨rfl,hb⟩;refine ⟨_,rfl,?_⟩;have n0_:=mA (bT (by repeat (first|(with_reducible first|exact HB.out|apply bA|apply bN|apply bD)|exact HB.out)) hb);clear HB;have HB:=n0_;clear n0_;(try clear hb);(try clear hb2);(try clear hk);(try clear hi))|((with_reducible refine gate_callee (f:=95) rfl ?_);refine goesL_ (some 11) rfl rfl Try.func95 (by kernel_rfl) rfl #[.int .i64 a0,.int .i64 t101] rfl (by (try simp only [mT,mC,mN]);first|done|rfl|(simp only [lD,lT];rfl)) ?_;(with_reducible refine (impl_WorldsIn.calls k a0 t101 t102 _ A4.out).mono ?_);rintro e w8 ⟨v103,rfl,ho0,hb⟩;refine ⟨_,rfl,?_⟩;have n0_:=mA (Kd.R_lower ho0 (bZ (by repeat (first|(with_reducible first|exact HB.out|apply bA|apply bN|apply bD)|exact HB.out))));have n1_:=mA (bT (by repeat (first|(with_reducible first|exact HB.out|apply bA|apply bN|apply bD)|exact HB.out)) hb);clear HB;have HO104:=n0_;have HB:=n1_;clear n0_ n1_;(try clear hb);(try clear hb2);(try clear hk);(try clear hi);(try clear ho0);obtain ⟨Ao9,co9,eo9⟩:=Kd.R_slice HO104.out;subst eo9;have p105:0≤(0:Int):=(by omega);have q105:0<(t102.length:Int):=of_decide_eq_true (by first|(with_reducible assumption)|assumption);obtain ⟨ad105,e105,hx105_0⟩:=Kd.at_int (rR HO104.out).2.2 0 p105 q105;cases e105;have qi105:(0<t102.length)=True:=eq_true (by omega);(try rw [show ((0:Int)).toNat=0 from rfl] at hx105_0);(try rw [Addr.add_zero'] at hx105_0);replace p105:=eq_true p105;replace q105:=eq_true q105))
   go_ret2
   exact ⟨by first|rfl|(simp [errW_none,errW_some]<;>rfl)|(simp [*, errW_none,errW_some]<;>rfl),by repeat (first|(with_reducible first|exact HB.out|apply bA|apply bN|apply bD)|exact HB.out)⟩
  ·rw [if_neg c6] at H
   exact absurd H (by simp)
 ·rw [if_neg c5] at H
  have c5b0:((t102.length:Int)==1)=false:=beq_eq_false_iff_ne.mpr c5
  have c5b1:((t102.length:Int) != 1)=true:=bne_iff_ne.mpr c5
  simp only [Option.some.injEq,Prod.mk.injEq] at H
  obtain ⟨rfl,rfl⟩:=H
  go_enter Try.func24,Try.ntmps24
  go_wp2_with (first|((with_reducible refine gate_callee (f:=59) rfl ?_);refine goesL_ (some 10) rfl rfl Try.func59 (by kernel_rfl) rfl #[.int .i64 a0,.slice A1 l1.length c1] rfl (by (try simp only [mT,mC,mN]);first|done|rfl|(simp only [lD,lT];rfl)) ?_;(with_reducible refine (impl_StoryTable.calls k a0 _ _ l1 t101 _ ?side1 ?side2 A3.out).mono ?_);(case side1=>repeat (first|exact HR1.out|(with_reducible refine cA ?_ _)|(with_reducible refine cN ?_ _)|(with_reducible refine cD ?_)));(case side2=>exact HC1.out);rintro e w10 ⟨rfl,hb⟩;refine ⟨_,rfl,?_⟩;have n0_:=mA (bT (by repeat (first|(with_reducible first|exact HB.out|apply bA|apply bN|apply bD)|exact HB.out)) hb);clear HB;have HB:=n0_;clear n0_;(try clear hb);(try clear hb2);(try clear hk);(try clear hi))|((with_reducible refine gate_callee (f:=95) rfl ?_);refine goesL_ (some 11) rfl rfl Try.func95 (by kernel_rfl) rfl #[.int .i64 a0,.int .i64 t101] rfl (by (try simp only [mT,mC,mN]);first|done|rfl|(simp only [lD,lT];rfl)) ?_;(with_reducible refine (impl_WorldsIn.calls k a0 t101 t102 _ A4.out).mono ?_);rintro e w11 ⟨v103,rfl,ho0,hb⟩;refine ⟨_,rfl,?_⟩;have n0_:=mA (Kd.R_lower ho0 (bZ (by repeat (first|(with_reducible first|exact HB.out|apply bA|apply bN|apply bD)|exact HB.out))));have n1_:=mA (bT (by repeat (first|(with_reducible first|exact HB.out|apply bA|apply bN|apply bD)|exact HB.out)) hb);clear HB;have HO104:=n0_;have HB:=n1_;clear n0_ n1_;(try clear hb);(try clear hb2);(try clear hk);(try clear hi);(try clear ho0);obtain ⟨Ao12,co12,eo12⟩:=Kd.R_slice HO104.out;subst eo12))
  go_ret2
  exact ⟨by first|rfl|(simp [errW_none,errW_some]<;>rfl)|(simp [*, errW_none,errW_some]<;>rfl),by repeat (first|(with_reducible first|exact HB.out|apply bA|apply bN|apply bD)|exact HB.out)⟩
/-! ### spec_ClaimOk: function 37 -/
def spec_ClaimOk.f (k:Nat) (a0:Int) (a1_0:Int) (l1_1:List (S33)):Option (Bool):=if a1_0≥0 then (if a1_0<a0 then ((spec_TermOk.f k a0 l1_1).bind fun t102=>(if t102=true then (some (decide ((l1_1.length:Int)≤13))) else (some false))) else (some false)) else (some false)
theorem spec_ClaimOk.mono : ∀ a0 a1 a2 k,LeO (spec_ClaimOk.f k a0 a1 a2) (spec_ClaimOk.f (k+1) a0 a1 a2):=by
 intro a0 a1 a2 k
 unfold spec_ClaimOk.f
 repeat' first
   | (with_reducible exact spec_TermOk.mono _ _ _)
   | (with_reducible exact LeO.refl _)
   | (with_reducible exact LeO.none _)
   | (with_reducible refine LeO.ite ?_ ?_)
   | (with_reducible refine LeO.bind ?_ (fun _=>?_))
   | exact spec_TermOk.mono _ _ _
   | exact LeO.none _
   | refine LeO.ite ?_ ?_
   | refine LeO.bind ?_ (fun _=>?_)
set_option maxHeartbeats 8000000 in
set_option maxRecDepth 100000 in
theorem spec_ClaimOk.calls (k:Nat) (a0:Int) (a1_0:Int) (A1_1:Option Addr) (c1_1:Nat) (l1_1:List (S33)) (r:Bool) (w:World) (hr1_1:Kd.C k33 w A1_1 l1_1.length l1_1) (hc1_1:l1_1.length≤c1_1) (h:spec_ClaimOk.f k a0 a1_0 l1_1=some r) :
  Calls Try.prog 37 #[.int .i64 a0,.agg #[.int .i64 a1_0,.slice A1_1 l1_1.length c1_1]] w fun e w'=>e = .returned (.bool r)∧Below w.heap.size w w':=by
 have hu36:=Try.underlying36
 have HR1_1:=mA hr1_1
 have HC1_1:=mA hc1_1
 clear hr1_1 hc1_1
 have HB:=mA (Below.refl w.heap.size w)
 have H:(if a1_0≥0 then (if a1_0<a0 then ((spec_TermOk.f k a0 l1_1).bind fun t102=>(if t102=true then (some (decide ((l1_1.length:Int)≤13))) else (some false))) else (some false)) else (some false))=some r:=h
 clear h
 by_cases c3:a1_0≥0
 ·rw [if_pos c3] at H
  have c3b0:decide (0≤a1_0)=true:=decide_eq_true c3
  clear c3
  by_cases c4:a1_0<a0
  ·rw [if_pos c4] at H
   have c4b0:decide (a1_0<a0)=true:=decide_eq_true c4
   clear c4
   replace H:=Option.bind_eq_some_iff.mp H
   obtain ⟨t102,A50,H⟩:=H
   replace H:(if t102=true then (some (decide ((l1_1.length:Int)≤13))) else (some false))=some r:=H
   have A5:=mA A50
   clear A50
   by_cases c6:t102=true
   ·subst c6
    have H1:(some (decide ((l1_1.length:Int)≤13)))=some r:=by rw [if_pos rfl] at H;exact H
    clear H
    have H:=H1
    clear H1
    obtain rfl:=Option.some.inj H
    go_enter Try.func37,Try.ntmps37
    go_wp2_with (first|((with_reducible refine gate_dst (N:=3) rfl ?_);(try (refine gate_guard (by rfl) ?_;dsimp only));refine box_event ?hg (N:=3) ?hd (cs:=#[.int .i64 a1_0,.slice A1_1 l1_1.length c1_1]) (t:=36) ?hr ?_;(case hd=>rfl);(case hg=>rfl);(case hr=>first|(go_simp;done)|(go_simp;rfl));intro gb101 hg w7 hbox hb;have n0_:=mA (bT (by repeat (first|(with_reducible first|exact HB.out|apply bA|apply bN|apply bD)|exact HB.out)) hb);have n1_:=mA (hbox);have n2_:=mA ((by rw [hg];exact (bZ (by repeat (first|(with_reducible first|exact HB.out|apply bA|apply bN|apply bD)|exact HB.out))):w.heap.size≤gb101));have n3_:=mA ((by rw [hg];exact (bZ (by repeat (first|(with_reducible first|exact HB.out|apply bA|apply bN|apply bD)|exact HB.out))):w.heap.size≤gb101));clear HB;have HB:=n0_;have BK101:=n1_;have GW101:=n2_;have GE101:=n3_;clear n0_ n1_ n2_ n3_ hb hbox hg;have hcz8_0:w7.cell? ⟨gb101,0,none⟩=some (.int .i64 a1_0):=(kC BK101.out 0).trans rfl;have hcz8_1:w7.cell? ⟨gb101,1,none⟩=some (.slice A1_1 l1_1.length c1_1):=(kC BK101.out 1).trans rfl;have hfz8_0:=kF BK101.out 0;have hfz8_1:=kF BK101.out 1)|(go_at_call 68;(with_reducible refine (spec_TermOk.calls k a0 _ _ l1_1 true _ ?side1 ?side2 A5.out).mono ?_);(case side1=>repeat (first|exact (Kd.C_below HR1_1.out HB.out)|(with_reducible refine cA ?_ _)|(with_reducible refine cN ?_ _)|(with_reducible refine cD ?_)));(case side2=>exact HC1_1.out);rintro e w' ⟨rfl,⟨nd,rfl⟩⟩))
    go_ret
    exact ⟨by first|rfl|(simp [errW_none,errW_some]<;>rfl)|(simp [*, errW_none,errW_some]<;>rfl),by repeat (first|(with_reducible first|exact HB.out|apply bA|apply bN|apply bD|refine bS ?_ GE101.out)|exact HB.out)⟩
   ·replace c6:=Bool.eq_false_iff.mpr c6
    subst c6
    have H1:(some false)=some r:=by rw [if_neg (show ¬ (false=true) by decide)] at H;exact H
    clear H
    have H:=H1
    clear H1
    obtain rfl:=Option.some.inj H
    go_enter Try.func37,Try.ntmps37
    go_wp2_with (first|((with_reducible refine gate_dst (N:=3) rfl ?_);(try (refine gate_guard (by rfl) ?_;dsimp only));refine box_event ?hg (N:=3) ?hd (cs:=#[.int .i64 a1_0,.slice A1_1 l1_1.length c1_1]) (t:=36) ?hr ?_;(case hd=>rfl);(case hg=>rfl);(case hr=>first|(go_simp;done)|(go_simp;rfl));intro gb101 hg w9 hbox hb;have n0_:=mA (bT (by repeat (first|(with_reducible first|exact HB.out|apply bA|apply bN|apply bD)|exact HB.out)) hb);have n1_:=mA (hbox);have n2_:=mA ((by rw [hg];exact (bZ (by repeat (first|(with_reducible first|exact HB.out|apply bA|apply bN|apply bD)|exact HB.out))):w.heap.size≤gb101));have n3_:=mA ((by rw [hg];exact (bZ (by repeat (first|(with_reducible first|exact HB.out|apply bA|apply bN|apply bD)|exact HB.out))):w.heap.size≤gb101));clear HB;have HB:=n0_;have BK101:=n1_;have GW101:=n2_;have GE101:=n3_;clear n0_ n1_ n2_ n3_ hb hbox hg;have hcz10_0:w9.cell? ⟨gb101,0,none⟩=some (.int .i64 a1_0):=(kC BK101.out 0).trans rfl;have hcz10_1:w9.cell? ⟨gb101,1,none⟩=some (.slice A1_1 l1_1.length c1_1):=(kC BK101.out 1).trans rfl;have hfz10_0:=kF BK101.out 0;have hfz10_1:=kF BK101.out 1)|(go_at_call 68;(with_reducible refine (spec_TermOk.calls k a0 _ _ l1_1 false _ ?side1 ?side2 A5.out).mono ?_);(case side1=>repeat (first|exact (Kd.C_below HR1_1.out HB.out)|(with_reducible refine cA ?_ _)|(with_reducible refine cN ?_ _)|(with_reducible refine cD ?_)));(case side2=>exact HC1_1.out);rintro e w' ⟨rfl,⟨nd,rfl⟩⟩))
    go_ret
    exact ⟨by first|rfl|(simp [errW_none,errW_some]<;>rfl)|(simp [*, errW_none,errW_some]<;>rfl),by repeat (first|(with_reducible first|exact HB.out|apply bA|apply bN|apply bD|refine bS ?_ GE101.out)|exact HB.out)⟩
  ·rw [if_neg c4] at H
   have c4b0:decide (a1_0<a0)=false:=decide_eq_false c4
   clear c4
   obtain rfl:=Option.some.inj H
   go_enter Try.func37,Try.ntmps37
   go_wp2_with (first|((with_reducible refine gate_dst (N:=3) rfl ?_);(try (refine gate_guard (by rfl) ?_;dsimp only));refine box_event ?hg (N:=3) ?hd (cs:=#[.int .i64 a1_0,.slice A1_1 l1_1.length c1_1]) (t:=36) ?hr ?_;(case hd=>rfl);(case hg=>rfl);(case hr=>first|(go_simp;done)|(go_simp;rfl));intro gb101 hg w11 hbox hb;have n0_:=mA (bT (by repeat (first|(with_reducible first|exact HB.out|apply bA|apply bN|apply bD)|exact HB.out)) hb);have n1_:=mA (hbox);have n2_:=mA ((by rw [hg];exact (bZ (by repeat (first|(with_reducible first|exact HB.out|apply bA|apply bN|apply bD)|exact HB.out))):w.heap.size≤gb101));have n3_:=mA ((by rw [hg];exact (bZ (by repeat (first|(with_reducible first|exact HB.out|apply bA|apply bN|apply bD)|exact HB.out))):w.heap.size≤gb101));clear HB;have HB:=n0_;have BK101:=n1_;have GW101:=n2_;have GE101:=n3_;clear n0_ n1_ n2_ n3_ hb hbox hg;have hcz12_0:w11.cell? ⟨gb101,0,none⟩=some (.int .i64 a1_0):=(kC BK101.out 0).trans rfl;have hcz12_1:w11.cell? ⟨gb101,1,none⟩=some (.slice A1_1 l1_1.length c1_1):=(kC BK101.out 1).trans rfl;have hfz12_0:=kF BK101.out 0;have hfz12_1:=kF BK101.out 1))
   go_ret
   exact ⟨by first|rfl|(simp [errW_none,errW_some]<;>rfl)|(simp [*, errW_none,errW_some]<;>rfl),by repeat (first|(with_reducible first|exact HB.out|apply bA|apply bN|apply bD|refine bS ?_ GE101.out)|exact HB.out)⟩
 ·rw [if_neg c3] at H
  have c3b0:decide (0≤a1_0)=false:=decide_eq_false c3
  clear c3
  obtain rfl:=Option.some.inj H
  go_enter Try.func37,Try.ntmps37
  go_wp2_with (first|((with_reducible refine gate_dst (N:=3) rfl ?_);(try (refine gate_guard (by rfl) ?_;dsimp only));refine box_event ?hg (N:=3) ?hd (cs:=#[.int .i64 a1_0,.slice A1_1 l1_1.length c1_1]) (t:=36) ?hr ?_;(case hd=>rfl);(case hg=>rfl);(case hr=>first|(go_simp;done)|(go_simp;rfl));intro gb101 hg w13 hbox hb;have n0_:=mA (bT (by repeat (first|(with_reducible first|exact HB.out|apply bA|apply bN|apply bD)|exact HB.out)) hb);have n1_:=mA (hbox);have n2_:=mA ((by rw [hg];exact (bZ (by repeat (first|(with_reducible first|exact HB.out|apply bA|apply bN|apply bD)|exact HB.out))):w.heap.size≤gb101));have n3_:=mA ((by rw [hg];exact (bZ (by repeat (first|(with_reducible first|exact HB.out|apply bA|apply bN|apply bD)|exact HB.out))):w.heap.size≤gb101));clear HB;have HB:=n0_;have BK101:=n1_;have GW101:=n2_;have GE101:=n3_;clear n0_ n1_ n2_ n3_ hb hbox hg;have hcz14_0:w13.cell? ⟨gb101,0,none⟩=some (.int .i64 a1_0):=(kC BK101.out 0).trans rfl;have hcz14_1:w13.cell? ⟨gb101,1,none⟩=some (.slice A1_1 l1_1.length c1_1):=(kC BK101.out 1).trans rfl;have hfz14_0:=kF BK101.out 0;have hfz14_1:=kF BK101.out 1))
  go_ret
  exact ⟨by first|rfl|(simp [errW_none,errW_some]<;>rfl)|(simp [*, errW_none,errW_some]<;>rfl),by repeat (first|(with_reducible first|exact HB.out|apply bA|apply bN|apply bD|refine bS ?_ GE101.out)|exact HB.out)⟩
/-! ### spec_StoryOk: function 25 -/
def spec_StoryOk.l0:Nat→Int→List (S36)→Int→Option (Bool)
 | 0,_,_,_=>none
 | k+1,x0,x1,x5=>if x5<(x1.length:Int) then (if 0≤x5 then ((spec_ClaimOk.f k x0 ((rd_T36 x1 x5).f0) ((rd_T36 x1 x5).f1)).bind fun t102=>(if t102=true then (spec_StoryOk.l0 k x0 x1 (wrap64 (x5+1))) else (some false))) else (none)) else ((spec_l1In.f x0 1 4).bind fun t103=>(if t103=true then (some (decide ((x1.length:Int)≤6))) else (some false)))
def spec_StoryOk.f (k:Nat) (a0:Int) (l1:List (S36)):Option (Bool):=spec_StoryOk.l0 k a0 l1 0
theorem spec_StoryOk.mono_l : ∀ k,(∀ y0 y1 y2,LeO (spec_StoryOk.l0 k y0 y1 y2) (spec_StoryOk.l0 (k+1) y0 y1 y2))
 | 0=>fun _ _ _ r h=>by simp [spec_StoryOk.l0] at h
 | k+1=>by
  have ih0:=spec_StoryOk.mono_l k
  ·intro y0 y1 y2
   unfold spec_StoryOk.l0
   repeat' first
   | (with_reducible exact ih0 _ _ _)
   | (with_reducible exact spec_ClaimOk.mono _ _ _ _)
   | (with_reducible exact LeO.refl _)
   | (with_reducible exact LeO.none _)
   | (with_reducible refine LeO.ite ?_ ?_)
   | (with_reducible refine LeO.bind ?_ (fun _=>?_))
   | exact ih0 _ _ _
   | exact spec_ClaimOk.mono _ _ _ _
   | exact LeO.none _
   | refine LeO.ite ?_ ?_
   | refine LeO.bind ?_ (fun _=>?_)
theorem spec_StoryOk.mono : ∀ a0 a1 k,LeO (spec_StoryOk.f k a0 a1) (spec_StoryOk.f (k+1) a0 a1):=by
 intro a0 a1 k
 have ih0:=spec_StoryOk.mono_l k
 unfold spec_StoryOk.f
 repeat' first
   | (with_reducible exact ih0 _ _ _)
   | (with_reducible exact spec_ClaimOk.mono _ _ _ _)
   | (with_reducible exact LeO.refl _)
   | (with_reducible exact LeO.none _)
   | (with_reducible refine LeO.ite ?_ ?_)
   | (with_reducible refine LeO.bind ?_ (fun _=>?_))
   | exact ih0 _ _ _
   | exact spec_ClaimOk.mono _ _ _ _
   | exact LeO.none _
   | refine LeO.ite ?_ ?_
   | refine LeO.bind ?_ (fun _=>?_)
set_option maxHeartbeats 8000000 in
set_option maxRecDepth 100000 in
theorem spec_StoryOk.calls (k:Nat) (a0:Int) (A1:Option Addr) (c1:Nat) (l1:List (S36)) (r:Bool) (w:World) (hr1:Kd.C k36 w A1 l1.length l1) (hc1:l1.length≤c1) (h:spec_StoryOk.f k a0 l1=some r) :
  Calls Try.prog 25 #[.int .i64 a0,.slice A1 l1.length c1] w fun e w'=>e = .returned (.bool r)∧Below w.heap.size w w':=by
 have hu36:=Try.underlying36
 have HR1:=mA hr1
 have HC1:=mA hc1
 clear hr1 hc1
 have HB:=mA (Below.refl w.heap.size w)
 have H:(spec_StoryOk.l0 k a0 l1 0)=some r:=h
 clear h
 have H':=mA H
 clear H
 go_enter Try.func25,Try.ntmps25
 go_wp2
 go_loopg [5] k (fun kq v5 w'=>∃ (x5_1:Int),v5 = .int .i64 x5_1∧Aside0 (spec_StoryOk.l0 kq a0 l1 x5_1=some r)∧Aside0 (kq≤k)∧Aside0 (Below w.heap.size w w'))
 case atStart=>exact ⟨(0),(by first|rfl|(simp;done)|(simp [*];done)),H',⟨Nat.le_refl _⟩,⟨by repeat (first|(with_reducible first|exact HB.out|apply bA|apply bN|apply bD)|exact HB.out)⟩⟩
 case round =>
  clear H'
  try clear c1
  try clear c2
  try clear p2
  obtain ⟨x5_1,rfl,HA,HK1,HB⟩:=hrel
  cases gk with
  | zero=>exact absurd HA.out (by simp [spec_StoryOk.l0])
  | succ k1 =>
   have H:=HA.out
   clear HA
   simp only [spec_StoryOk.l0] at H
   by_cases c3:x5_1<(l1.length:Int)
   ·rw [if_pos c3] at H
    have c3b0:decide (x5_1<(l1.length:Int))=true:=decide_eq_true c3
    clear c3
    by_cases c4:0≤x5_1
    ·rw [if_pos c4] at H
     have c4b0:decide (0≤x5_1)=true:=decide_eq_true c4
     clear c4
     replace H:=Option.bind_eq_some_iff.mp H
     obtain ⟨t102,A50,H⟩:=H
     replace H:(if t102=true then (spec_StoryOk.l0 k1 a0 l1 (wrap64 (x5_1+1))) else (some false))=some r:=H
     have A5:=mA A50
     clear A50
     by_cases c6:t102=true
     ·subst c6
      have H1:(spec_StoryOk.l0 k1 a0 l1 (wrap64 (x5_1+1)))=some r:=by rw [if_pos rfl] at H;exact H
      clear H
      have H:=H1
      clear H1
      have H':=mA H
      clear H
      have p101:0≤(x5_1:Int):=of_decide_eq_true (by first|(with_reducible assumption)|assumption)
      have q101:x5_1<(l1.length:Int):=of_decide_eq_true (by first|(with_reducible assumption)|assumption)
      obtain ⟨ad101,A101_1,c101_1,e101,hx101_0,hx101_1,hl101_1,hi101_1⟩:=at_T36 HR1.out x5_1 p101 q101
      cases e101
      replace hx101_0:=(HB.out.cell (World.block_lt_of_cell? w _ hx101_0)).trans hx101_0
      replace hx101_1:=(HB.out.cell (World.block_lt_of_cell? w _ hx101_1)).trans hx101_1
      have HR101_1:=mA hi101_1
      have HC101_1:=mA hl101_1
      clear hi101_1 hl101_1
      replace p101:=eq_true p101
      replace q101:=eq_true q101
      go_wp2_with (first|((with_reducible refine gate_callee (f:=37) rfl ?_);refine goesL_ (some 17) rfl rfl Try.func37 (by kernel_rfl) rfl #[.int .i64 a0,.agg #[.int .i64 ((rd_T36 l1 x5_1).f0),.slice A101_1 ((rd_T36 l1 x5_1).f1).length c101_1]] rfl (by (try simp only [mT,mC,mN]);first|done|rfl|(simp only [lD,lT];rfl)) ?_;(with_reducible refine (spec_ClaimOk.calls k1 a0 ((rd_T36 l1 x5_1).f0) _ _ ((rd_T36 l1 x5_1).f1) true _ ?side1 ?side2 A5.out).mono ?_);(case side1=>repeat (first|exact (Kd.C_below HR101_1.out HB.out)|(with_reducible refine cA ?_ _)|(with_reducible refine cN ?_ _)|(with_reducible refine cD ?_)));(case side2=>exact HC101_1.out);rintro e w7 ⟨rfl,hb⟩;refine ⟨_,rfl,?_⟩;have n0_:=mA (bT (by repeat (first|(with_reducible first|exact HB.out|apply bA|apply bN|apply bD)|exact HB.out)) hb);clear HB;have HB:=n0_;clear n0_;(try clear hb);(try clear hb2);(try clear hk);(try clear hi)))
      go_roundg k1
      case measure=>have:=HK1.out;omega
      case rel=>exact ⟨(wrap64 (x5_1+1)),(by first|rfl|(simp;done)|(simp [*];done)),H',⟨by have:=HK1.out;omega⟩,⟨by repeat (first|(with_reducible first|exact HB.out|apply bA|apply bN|apply bD)|exact HB.out)⟩⟩
     ·replace c6:=Bool.eq_false_iff.mpr c6
      subst c6
      have H1:(some false)=some r:=by rw [if_neg (show ¬ (false=true) by decide)] at H;exact H
      clear H
      have H:=H1
      clear H1
      obtain rfl:=Option.some.inj H
      have p101:0≤(x5_1:Int):=of_decide_eq_true (by first|(with_reducible assumption)|assumption)
      have q101:x5_1<(l1.length:Int):=of_decide_eq_true (by first|(with_reducible assumption)|assumption)
      obtain ⟨ad101,A101_1,c101_1,e101,hx101_0,hx101_1,hl101_1,hi101_1⟩:=at_T36 HR1.out x5_1 p101 q101
      cases e101
      replace hx101_0:=(HB.out.cell (World.block_lt_of_cell? w _ hx101_0)).trans hx101_0
      replace hx101_1:=(HB.out.cell (World.block_lt_of_cell? w _ hx101_1)).trans hx101_1
      have HR101_1:=mA hi101_1
      have HC101_1:=mA hl101_1
      clear hi101_1 hl101_1
      replace p101:=eq_true p101
      replace q101:=eq_true q101
      go_wp2_with (first|((with_reducible refine gate_callee (f:=37) rfl ?_);refine goesL_ (some 17) rfl rfl Try.func37 (by kernel_rfl) rfl #[.int .i64 a0,.agg #[.int .i64 ((rd_T36 l1 x5_1).f0),.slice A101_1 ((rd_T36 l1 x5_1).f1).length c101_1]] rfl (by (try simp only [mT,mC,mN]);first|done|rfl|(simp only [lD,lT];rfl)) ?_;(with_reducible refine (spec_ClaimOk.calls k1 a0 ((rd_T36 l1 x5_1).f0) _ _ ((rd_T36 l1 x5_1).f1) false _ ?side1 ?side2 A5.out).mono ?_);(case side1=>repeat (first|exact (Kd.C_below HR101_1.out HB.out)|(with_reducible refine cA ?_ _)|(with_reducible refine cN ?_ _)|(with_reducible refine cD ?_)));(case side2=>exact HC101_1.out);rintro e w8 ⟨rfl,hb⟩;refine ⟨_,rfl,?_⟩;have n0_:=mA (bT (by repeat (first|(with_reducible first|exact HB.out|apply bA|apply bN|apply bD)|exact HB.out)) hb);clear HB;have HB:=n0_;clear n0_;(try clear hb);(try clear hb2);(try clear hk);(try clear hi)))
      go_ret
      exact ⟨by first|rfl|(simp [errW_none,errW_some]<;>rfl)|(simp [*, errW_none,errW_some]<;>rfl),by repeat (first|(with_reducible first|exact HB.out|apply bA|apply bN|apply bD)|exact HB.out)⟩
    ·rw [if_neg c4] at H
     exact absurd H (by simp)
   ·rw [if_neg c3] at H
    have c3b0:decide (x5_1<(l1.length:Int))=false:=decide_eq_false c3
    clear c3
    replace H:=Option.bind_eq_some_iff.mp H
    obtain ⟨t103,A90,H⟩:=H
    replace H:(if t103=true then (some (decide ((l1.length:Int)≤6))) else (some false))=some r:=H
    have A9:=mA A90
    clear A90
    by_cases c10:t103=true
    ·subst c10
     have H1:(some (decide ((l1.length:Int)≤6)))=some r:=by rw [if_pos rfl] at H;exact H
     clear H
     have H:=H1
     clear H1
     obtain rfl:=Option.some.inj H
     go_wp2_with (first|((with_reducible refine gate_callee (f:=98) rfl ?_);refine goesL_ (some 20) rfl rfl Try.func98 (by kernel_rfl) rfl #[.int .i64 a0,.int .i64 1,.int .i64 4] rfl (by (try simp only [mT,mC,mN]);first|done|rfl|(simp only [lD,lT];rfl)) ?_;(with_reducible refine (spec_l1In.calls a0 1 4 true _ A9.out).mono ?_);rintro e w' ⟨rfl,⟨nd,rfl⟩⟩;refine ⟨_,rfl,?_⟩))
     go_ret
     exact ⟨by first|rfl|(simp [errW_none,errW_some]<;>rfl)|(simp [*, errW_none,errW_some]<;>rfl),by repeat (first|(with_reducible first|exact HB.out|apply bA|apply bN|apply bD)|exact HB.out)⟩
    ·replace c10:=Bool.eq_false_iff.mpr c10
     subst c10
     have H1:(some false)=some r:=by rw [if_neg (show ¬ (false=true) by decide)] at H;exact H
     clear H
     have H:=H1
     clear H1
     obtain rfl:=Option.some.inj H
     go_wp2_with (first|((with_reducible refine gate_callee (f:=98) rfl ?_);refine goesL_ (some 20) rfl rfl Try.func98 (by kernel_rfl) rfl #[.int .i64 a0,.int .i64 1,.int .i64 4] rfl (by (try simp only [mT,mC,mN]);first|done|rfl|(simp only [lD,lT];rfl)) ?_;(with_reducible refine (spec_l1In.calls a0 1 4 false _ A9.out).mono ?_);rintro e w' ⟨rfl,⟨nd,rfl⟩⟩;refine ⟨_,rfl,?_⟩))
     go_ret
     exact ⟨by first|rfl|(simp [errW_none,errW_some]<;>rfl)|(simp [*, errW_none,errW_some]<;>rfl),by repeat (first|(with_reducible first|exact HB.out|apply bA|apply bN|apply bD)|exact HB.out)⟩
/-! ### impl_WorldOk: function 99 -/
def impl_WorldOk.f (a0:Int) (a1:Int):Option (Bool):=(impl_peopleOk.f a0).bind fun t101=>(if t101=true then (if a1≥0 then (if 0≤a0 then (some (decide (a1<(shl .i64 1 a0)))) else (none)) else (some false)) else (some false))
set_option maxHeartbeats 8000000 in
set_option maxRecDepth 100000 in
theorem impl_WorldOk.calls (a0:Int) (a1:Int) (r:Bool) (w:World) (h:impl_WorldOk.f a0 a1=some r) :
  Calls Try.prog 99 #[.int .i64 a0,.int .i64 a1] w fun e w'=>e = .returned (.bool r)∧Drawn0 w w':=by
 have H:((impl_peopleOk.f a0).bind fun t101=>(if t101=true then (if a1≥0 then (if 0≤a0 then (some (decide (a1<(shl .i64 1 a0)))) else (none)) else (some false)) else (some false)))=some r:=h
 clear h
 replace H:=Option.bind_eq_some_iff.mp H
 obtain ⟨t101,A30,H⟩:=H
 replace H:(if t101=true then (if a1≥0 then (if 0≤a0 then (some (decide (a1<(shl .i64 1 a0)))) else (none)) else (some false)) else (some false))=some r:=H
 have A3:=mA A30
 clear A30
 by_cases c4:t101=true
 ·subst c4
  have H1:(if a1≥0 then (if 0≤a0 then (some (decide (a1<(shl .i64 1 a0)))) else (none)) else (some false))=some r:=by rw [if_pos rfl] at H;exact H
  clear H
  have H:=H1
  clear H1
  by_cases c5:a1≥0
  ·rw [if_pos c5] at H
   have c5b0:decide (0≤a1)=true:=decide_eq_true c5
   clear c5
   by_cases c6:0≤a0
   ·rw [if_pos c6] at H
    have c6b0:=eq_true c6
    have c6b1:decide (0≤a0)=true:=decide_eq_true c6
    clear c6
    obtain ⟨ji7,hji7⟩ : ∃ j_:Int,(shl .i64 1 a0)=j_:=⟨_,rfl⟩
    replace H:(some (decide (a1<(ji7))))=some r:=by first|(rw [hji7] at H;exact H)|(simp only [hji7] at H ⊢;exact H)
    (try rw [hji7] at A3)
    have hji7_:(IntKind.i64.wrap (1*2^min a0.toNat 64))=ji7:=hji7
    have hji7z:a0≤64→(IntKind.i64.wrap (1*2^a0.toNat))=ji7:=shl_small hji7
    have hji7u:(IntKind.i64.wrap (2^min a0.toNat 64))=ji7:=by have h_:=hji7_;rw [Int.one_mul] at h_;exact h_
    have hji7v:a0≤64→(IntKind.i64.wrap (2^a0.toNat))=ji7:=fun hle_=>by have h_:=hji7z hle_;rw [Int.one_mul] at h_;exact h_
    have hji7y:(wrap64 (1*2^min a0.toNat 64))=ji7:=(i64_w _).symm.trans hji7_
    have hji7x:a0≤64→(wrap64 (1*2^a0.toNat))=ji7:=fun h_=>(i64_w _).symm.trans (hji7z h_)
    obtain rfl:=Option.some.inj H
    go_enter Try.func99,Try.ntmps99
    go_wp2_with (first|((with_reducible refine gate_callee (f:=115) rfl ?_);refine goesL_ (some 6) rfl rfl Try.func115 (by kernel_rfl) rfl #[.int .i64 a0] rfl (by (try simp only [mT,mC,mN]);first|done|rfl|(simp only [lD,lT];rfl)) ?_;(with_reducible refine (impl_peopleOk.calls a0 true _ A3.out).mono ?_);rintro e w' ⟨rfl,⟨nd,rfl⟩⟩;refine ⟨_,rfl,?_⟩))
    go_ret
    exact ⟨by first|rfl|(simp;done)|(simp only [←hji7]<;>(first|rfl|simp))|(simp [*];done),by repeat (first|exact Drawn0.refl _|apply Drawn0.step)⟩
   ·rw [if_neg c6] at H
    exact absurd H (by simp)
  ·rw [if_neg c5] at H
   have c5b0:decide (0≤a1)=false:=decide_eq_false c5
   clear c5
   obtain rfl:=Option.some.inj H
   go_enter Try.func99,Try.ntmps99
   go_wp2_with (first|((with_reducible refine gate_callee (f:=115) rfl ?_);refine goesL_ (some 6) rfl rfl Try.func115 (by kernel_rfl) rfl #[.int .i64 a0] rfl (by (try simp only [mT,mC,mN]);first|done|rfl|(simp only [lD,lT];rfl)) ?_;(with_reducible refine (impl_peopleOk.calls a0 true _ A3.out).mono ?_);rintro e w' ⟨rfl,⟨nd,rfl⟩⟩;refine ⟨_,rfl,?_⟩))
   go_ret
   exact ⟨by first|rfl|(simp;done)|(simp [*];done),by repeat (first|exact Drawn0.refl _|apply Drawn0.step)⟩
 ·replace c4:=Bool.eq_false_iff.mpr c4
  subst c4
  have H1:(some false)=some r:=by rw [if_neg (show ¬ (false=true) by decide)] at H;exact H
  clear H
  have H:=H1
  clear H1
  obtain rfl:=Option.some.inj H
  go_enter Try.func99,Try.ntmps99
  go_wp2_with (first|((with_reducible refine gate_callee (f:=115) rfl ?_);refine goesL_ (some 6) rfl rfl Try.func115 (by kernel_rfl) rfl #[.int .i64 a0] rfl (by (try simp only [mT,mC,mN]);first|done|rfl|(simp only [lD,lT];rfl)) ?_;(with_reducible refine (impl_peopleOk.calls a0 false _ A3.out).mono ?_);rintro e w' ⟨rfl,⟨nd,rfl⟩⟩;refine ⟨_,rfl,?_⟩))
  go_ret
  exact ⟨by first|rfl|(simp;done)|(simp [*];done),by repeat (first|exact Drawn0.refl _|apply Drawn0.step)⟩
/-! ### laws_alive: function 26 -/
def laws_alive.f  : Option (Bool):=(impl_WorldOk.f 1 1).bind fun t101=>(if t101=true then ((impl_WorldOk.f 1 2).bind fun t102=>(some (!t102))) else (some false))
set_option maxHeartbeats 8000000 in
set_option maxRecDepth 100000 in
theorem laws_alive.calls  (r:Bool) (w:World) (h:laws_alive.f  = some r) :
  Calls Try.prog 26 #[] w fun e w'=>e = .returned (.bool r)∧Drawn0 w w':=by
 have H:((impl_WorldOk.f 1 1).bind fun t101=>(if t101=true then ((impl_WorldOk.f 1 2).bind fun t102=>(some (!t102))) else (some false)))=some r:=h
 clear h
 replace H:=Option.bind_eq_some_iff.mp H
 obtain ⟨t101,A10,H⟩:=H
 replace H:(if t101=true then ((impl_WorldOk.f 1 2).bind fun t102=>(some (!t102))) else (some false))=some r:=H
 have A1:=mA A10
 clear A10
 by_cases c2:t101=true
 ·subst c2
  have H1:((impl_WorldOk.f 1 2).bind fun t102=>(some (!t102)))=some r:=by rw [if_pos rfl] at H;exact H
  clear H
  have H:=H1
  clear H1
  replace H:=Option.bind_eq_some_iff.mp H
  obtain ⟨t102,A30,H⟩:=H
  replace H:(some (!t102))=some r:=H
  have A3:=mA A30
  clear A30
  obtain rfl:=Option.some.inj H
  go_enter Try.func26,Try.ntmps26
  go_wp2_with (first|((with_reducible refine gate_callee (f:=99) rfl ?_);refine goesL_ (some 1) rfl rfl Try.func99 (by kernel_rfl) rfl #[.int .i64 1,.int .i64 1] rfl (by (try simp only [mT,mC,mN]);first|done|rfl|(simp only [lD,lT];rfl)) ?_;(with_reducible refine (impl_WorldOk.calls 1 1 true _ A1.out).mono ?_);rintro e w' ⟨rfl,⟨nd,rfl⟩⟩;refine ⟨_,rfl,?_⟩)|(go_at_call 99;(with_reducible refine (impl_WorldOk.calls 1 2 t102 _ A3.out).mono ?_);rintro e w' ⟨rfl,⟨nd,rfl⟩⟩))
  go_ret
  exact ⟨by first|rfl|(simp;done)|(simp [*];done),by repeat (first|exact Drawn0.refl _|apply Drawn0.step)⟩
 ·replace c2:=Bool.eq_false_iff.mpr c2
  subst c2
  have H1:(some false)=some r:=by rw [if_neg (show ¬ (false=true) by decide)] at H;exact H
  clear H
  have H:=H1
  clear H1
  obtain rfl:=Option.some.inj H
  go_enter Try.func26,Try.ntmps26
  go_wp2_with (first|((with_reducible refine gate_callee (f:=99) rfl ?_);refine goesL_ (some 1) rfl rfl Try.func99 (by kernel_rfl) rfl #[.int .i64 1,.int .i64 1] rfl (by (try simp only [mT,mC,mN]);first|done|rfl|(simp only [lD,lT];rfl)) ?_;(with_reducible refine (impl_WorldOk.calls 1 1 false _ A1.out).mono ?_);rintro e w' ⟨rfl,⟨nd,rfl⟩⟩;refine ⟨_,rfl,?_⟩))
  go_ret
  exact ⟨by first|rfl|(simp;done)|(simp [*];done),by repeat (first|exact Drawn0.refl _|apply Drawn0.step)⟩
end Go.Proofs.Ytpampekijfjlkab.X
