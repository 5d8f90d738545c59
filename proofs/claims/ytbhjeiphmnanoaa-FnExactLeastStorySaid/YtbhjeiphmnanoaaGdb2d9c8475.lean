/- Joined by a program of this session's: X29, X34, X35, X36, X37, X38, X39, X40. -/
import Derived.Test.YtbhjeiphmnanoaaGb51738d237
import Derived.Test.YtbhjeiphmnanoaaG852bf05f1a
import Derived.Test.YtbhjeiphmnanoaaG33f55002db

namespace Go.Proofs.Ytbhjeiphmnanoaa.X
open Go.RowKit Go.Proofs.YtbhjeiphmnanoaaW.PrintWords Go.Proofs.YtbhjeiphmnanoaaW.PrintLast Go.Proofs.YtbhjeiphmnanoaaW.PrintMore
open Go.Proofs.YtbhjeiphmnanoaaW.PrintWords renaming Aside0.mk → mA, pw_below_drewN → bN, below_drew1 → bD, below_alloc → bA, below_set → bS, blk_alloc → kA, blk_drewN → kN, blk_drew → kD, blk_cell → kC, blk_frozen → kF, below_size → bZ, below_step → bT, blk_put → kP, blk_below → kB, blk_lt → kL, Kd.N_alloc → nA, Kd.N_drewN → nN, Kd.N_drew → nD, Kd.C_alloc → cA, Kd.C_drewN → cN, Kd.C_drew → cD
open List renaming setIfInBounds_toArray → sA, set_cons_zero → sZ, set_cons_succ → sS, length_take → lT, length_drop → lD, map_toArray → mT, map_cons → mC, map_nil → mN
open Bool renaming true → I, false → O
attribute [local go_sem] max2_int min2_int max_two min_two max_three min_three max_four min_four   -- for this text's walks alone
set_option linter.unusedVariables false
set_option linter.unusedSimpArgs false
/-! ### impl_tableBy: function 53, over any function value -/
def impl_tableBy.l0 (F:Nat→Int→Option Bool):Nat→Int→Int→Int→Option (Int)
 | 0,_,_,_=>none
 | k+1,x5,x8,x9=>if x9<x8 then ((F k x9).bind fun t308=>(if t308=true then (if 0≤x9 then (impl_tableBy.l0 F k (Go.bits .or .i64 x5 (shl .i64 1 x9)) x8 (wrap64 (x9+1))) else (none)) else (impl_tableBy.l0 F k x5 x8 (wrap64 (x9+1))))) else (some x5)
def impl_tableBy.f (F:Nat→Int→Option Bool) (k:Nat) (a0:Int):Option (Int):=if 0≤a0 then (impl_tableBy.l0 F k 0 (shl .i64 1 a0) 0) else (none)
theorem impl_tableBy.mono_l {F:Nat→Int→Option Bool} (hF : ∀ k x,LeO (F k x) (F (k+1) x)) : ∀ k,(∀ y0 y1 y2,LeO (impl_tableBy.l0 F k y0 y1 y2) (impl_tableBy.l0 F (k+1) y0 y1 y2))
 | 0=>fun _ _ _ r h=>by simp [impl_tableBy.l0] at h
 | k+1=>by
  have ih0:=impl_tableBy.mono_l hF k
  ·intro y0 y1 y2
   unfold impl_tableBy.l0
   repeat' first
   | (with_reducible exact ih0 _ _ _)
   | (with_reducible exact hF _ _)
   | (with_reducible exact LeO.refl _)
   | (with_reducible exact LeO.none _)
   | (with_reducible refine LeO.ite ?_ ?_)
   | (with_reducible refine LeO.bind ?_ (fun _=>?_))
theorem impl_tableBy.mono {F:Nat→Int→Option Bool} (hF : ∀ k x,LeO (F k x) (F (k+1) x)) (a0:Int) (k:Nat):LeO (impl_tableBy.f F k a0) (impl_tableBy.f F (k+1) a0):=by
 have ih0:=impl_tableBy.mono_l hF k
 unfold impl_tableBy.f
 repeat' first
   | (with_reducible exact ih0 _ _ _)
   | (with_reducible exact LeO.none _)
   | (with_reducible refine LeO.ite ?_ ?_)
set_option maxHeartbeats 8000000 in
set_option maxRecDepth 100000 in
theorem impl_tableBy.calls (F : Nat → Int → Option Bool) {CF : FuncId} {fn : Func} (hf : Try.prog.funcs[CF]? = some fn) (hname : (fn.name == "runtime.NumGoroutine") = false) (hbody : fn.body.isSome = true) (CB : Array Value) (k : Nat) (a0 : Int) (r : Int) (w : World)
  (hF : ∀ (k:Nat) (x:Int) (b:Bool) (W:World),Below w.heap.size w W→F k x=some b→Calls Try.prog CF (#[.int .i64 x]++CB) W fun e w'=>e = .returned (.bool b)∧Below W.heap.size W w')
  (h:impl_tableBy.f F k a0=some r) :
  Calls Try.prog 53 #[.int .i64 a0,.func (.func CF) #[] CB] w fun e w'=>e = .returned (.int .i64 r)∧Below w.heap.size w w':=by
 have hcf : ∀ (args:Array Value) (W:World),(callFunc CF args).run Try.prog W = .ok (.enter CF args) W:=fun args W=>enters_ hf hname hbody args W
 have HB:=mA (Below.refl w.heap.size w)
 have H:(if 0≤a0 then (impl_tableBy.l0 F k 0 (shl .i64 1 a0) 0) else (none))=some r:=h
 clear h
 by_cases c3:0≤a0
 ·rw [if_pos c3] at H
  have c3b0:=eq_true c3
  have c3b1:decide (0≤a0)=true:=decide_eq_true c3
  clear c3
  obtain ⟨ji4,hji4⟩ : ∃ j_:Int,(shl .i64 1 a0)=j_:=⟨_,rfl⟩
  replace H:(impl_tableBy.l0 F k 0 ji4 0)=some r:=by rw [hji4] at H;exact H
  have hji4_:(IntKind.i64.wrap (1*2^min a0.toNat 64))=ji4:=hji4
  have hji4z:a0≤64→(IntKind.i64.wrap (1*2^a0.toNat))=ji4:=shl_small hji4
  have hji4u:(IntKind.i64.wrap (2^min a0.toNat 64))=ji4:=by have h_:=hji4_;rw [Int.one_mul] at h_;exact h_
  have hji4v:a0≤64→(IntKind.i64.wrap (2^a0.toNat))=ji4:=fun hle_=>by have h_:=hji4z hle_;rw [Int.one_mul] at h_;exact h_
  have hji4y:(wrap64 (1*2^min a0.toNat 64))=ji4:=(i64_w _).symm.trans hji4_
  have hji4x:a0≤64→(wrap64 (1*2^a0.toNat))=ji4:=fun h_=>(i64_w _).symm.trans (hji4z h_)
  have H':=mA H
  clear H
  go_enter Try.func53,Try.ntmps53
  go_wp2
  go_loopg [5,9] k (fun kq v5 v9 w'=>∃ (x5_1:Int) (x9_1:Int),v5 = .int .i64 x5_1∧v9 = .int .i64 x9_1∧Aside0 (impl_tableBy.l0 F kq x5_1 ji4 x9_1=some r)∧Aside0 (kq≤k)∧Aside0 (Below w.heap.size w w'))
  case atStart=>exact ⟨(0),(0),(by first|rfl|(simp;done)|(simp [*];done)),(by first|rfl|(simp;done)|(simp [*];done)),H',⟨Nat.le_refl _⟩,⟨(by repeat first|(with_reducible first|exact HB.out|apply bA|apply bN|apply bD)|exact HB.out)⟩⟩
  case round =>
   clear H'
   try clear c1
   try clear p2
   try clear c3
   try clear c3b0
   try clear c3b1
   obtain ⟨x5_1,x9_1,rfl,rfl,HA,HK1,HB⟩:=hrel
   cases gk with
   | zero=>exact absurd HA.out (by simp [impl_tableBy.l0])
   | succ k1 =>
    have H:=HA.out
    clear HA
    simp only [impl_tableBy.l0] at H
    by_cases c5:x9_1<ji4
    ·rw [if_pos c5] at H
     have c5b0:decide (x9_1<ji4)=true:=decide_eq_true c5
     clear c5
     replace H:=Option.bind_eq_some_iff.mp H
     obtain ⟨t308,A60,H⟩:=H
     replace H:(if t308=true then (if 0≤x9_1 then (impl_tableBy.l0 F k1 (Go.bits .or .i64 x5_1 (shl .i64 1 x9_1)) ji4 (wrap64 (x9_1+1))) else (none)) else (impl_tableBy.l0 F k1 x5_1 ji4 (wrap64 (x9_1+1))))=some r:=H
     have A6:=mA A60
     clear A60
     by_cases c7:t308=true
     ·subst c7
      have H1:(if 0≤x9_1 then (impl_tableBy.l0 F k1 (Go.bits .or .i64 x5_1 (shl .i64 1 x9_1)) ji4 (wrap64 (x9_1+1))) else (none))=some r:=by rw [if_pos rfl] at H;exact H
      clear H
      have H:=H1
      clear H1
      by_cases c8:0≤x9_1
      ·rw [if_pos c8] at H
       have c8b0:=eq_true c8
       have c8b1:decide (0≤x9_1)=true:=decide_eq_true c8
       clear c8
       obtain ⟨ji9,hji9⟩ : ∃ j_:Int,(shl .i64 1 x9_1)=j_:=⟨_,rfl⟩
       replace H:(impl_tableBy.l0 F k1 (Go.bits .or .i64 x5_1 (ji9)) ji4 (wrap64 (x9_1+1)))=some r:=by first|(rw [hji9] at H;exact H)|(simp only [hji9] at H ⊢;exact H)
       have hji9_:(IntKind.i64.wrap (1*2^min x9_1.toNat 64))=ji9:=hji9
       have hji9z:x9_1≤64→(IntKind.i64.wrap (1*2^x9_1.toNat))=ji9:=shl_small hji9
       have hji9u:(IntKind.i64.wrap (2^min x9_1.toNat 64))=ji9:=by have h_:=hji9_;rw [Int.one_mul] at h_;exact h_
       have hji9v:x9_1≤64→(IntKind.i64.wrap (2^x9_1.toNat))=ji9:=fun hle_=>by have h_:=hji9z hle_;rw [Int.one_mul] at h_;exact h_
       have hji9y:(wrap64 (1*2^min x9_1.toNat 64))=ji9:=(i64_w _).symm.trans hji9_
       have hji9x:x9_1≤64→(wrap64 (1*2^x9_1.toNat))=ji9:=fun h_=>(i64_w _).symm.trans (hji9z h_)
       have H':=mA H
       clear H
       go_wp2_with (first|((with_reducible refine (hF k1 x9_1 true _ ?sideB A6.out).mono ?_);(case sideB=>exact (by repeat first|(with_reducible first|exact HB.out|apply bA|apply bN|apply bD)|exact HB.out));rintro e w10 ⟨rfl,hb⟩;have n0_:=mA (bT (by repeat first|(with_reducible first|exact HB.out|apply bA|apply bN|apply bD)|exact HB.out) hb);clear HB;have HB:=n0_;clear n0_;(try clear hb)))
       go_roundg k1
       case measure=>have:=HK1.out;omega
       case rel=>exact ⟨(Go.bits .or .i64 x5_1 (ji9)),(wrap64 (x9_1+1)),(by first|rfl|(simp;done)|(simp only [←hji9]<;>(first|rfl|simp))|(simp [*];done)),(by first|rfl|(simp;done)|(simp [*];done)),H',⟨by have:=HK1.out;omega⟩,⟨(by repeat first|(with_reducible first|exact HB.out|apply bA|apply bN|apply bD)|exact HB.out)⟩⟩
      ·rw [if_neg c8] at H
       exact absurd H (by simp)
     ·replace c7:=Bool.eq_false_iff.mpr c7
      subst c7
      have H1:(impl_tableBy.l0 F k1 x5_1 ji4 (wrap64 (x9_1+1)))=some r:=by rw [if_neg (show ¬ (false=true) by decide)] at H;exact H
      clear H
      have H:=H1
      clear H1
      have H':=mA H
      clear H
      go_wp2_with (first|((with_reducible refine (hF k1 x9_1 false _ ?sideB A6.out).mono ?_);(case sideB=>exact (by repeat first|(with_reducible first|exact HB.out|apply bA|apply bN|apply bD)|exact HB.out));rintro e w10 ⟨rfl,hb⟩;have n0_:=mA (bT (by repeat first|(with_reducible first|exact HB.out|apply bA|apply bN|apply bD)|exact HB.out) hb);clear HB;have HB:=n0_;clear n0_;(try clear hb)))
      go_roundg k1
      case measure=>have:=HK1.out;omega
      case rel=>exact ⟨(x5_1),(wrap64 (x9_1+1)),(by first|rfl|(simp;done)|(simp [*];done)),(by first|rfl|(simp;done)|(simp [*];done)),H',⟨by have:=HK1.out;omega⟩,⟨(by repeat first|(with_reducible first|exact HB.out|apply bA|apply bN|apply bD)|exact HB.out)⟩⟩
    ·rw [if_neg c5] at H
     have c5b0:decide (x9_1<ji4)=false:=decide_eq_false c5
     clear c5
     obtain rfl:=Option.some.inj H
     go_wp2
     go_ret
     exact ⟨by first|rfl|(simp;done)|(simp only [←hji4];rfl)|(simp [*];done),(by repeat first|(with_reducible first|exact HB.out|apply bA|apply bN|apply bD)|exact HB.out)⟩
 ·rw [if_neg c3] at H
  exact absurd H (by simp)
/-! ### impl_maySay: function 55 -/
def impl_maySay.f (k:Nat) (a0_0:Int) (l0_1:List (S59)) (a1:Int):Option (Bool):=(impl_holds.f k l0_1 a1).bind fun t102=>(if 0≤a0_0 then (some (t102==((Go.bits .and .i64 (shr .i64 a1 a0_0) 1)==1))) else (none))
theorem impl_maySay.mono : ∀ a0 a1 a2 k,LeO (impl_maySay.f k a0 a1 a2) (impl_maySay.f (k+1) a0 a1 a2):=by
 intro a0 a1 a2 k
 unfold impl_maySay.f
 repeat' first
   | (with_reducible exact impl_holds.mono _ _ _)
   | (with_reducible exact LeO.refl _)
   | (with_reducible exact LeO.none _)
   | (with_reducible refine LeO.ite ?_ ?_)
   | (with_reducible refine LeO.bind ?_ (fun _=>?_))
   | exact impl_holds.mono _ _ _
   | exact LeO.none _
   | refine LeO.ite ?_ ?_
   | refine LeO.bind ?_ (fun _=>?_)
def impl_maySay.T1:Bool×List (List Nat×List Nat):=(true,[([],[]),([0],[0]),([],[]),([1,2],[1,2]),([],[]),([],[]),([5],[5]),([4,6],[4,6]),([7],[7]),([8],[8]),([3,9],[3,9]),([10,3,0,1,2,3,4,5,6,7,8,9,10],[10])])
def impl_maySay.B1:List Nat:=[0,1,0,7,0,0,32,112,240,496,1023,2047]
theorem impl_maySay.tab1:rtab .any (opsOf Try.f55 1)=impl_maySay.T1:=by kernel_rfl
theorem impl_maySay.bits1:waitsOk impl_maySay.T1.2 impl_maySay.B1=true:=by kernel_rfl
set_option maxHeartbeats 8000000 in
set_option maxRecDepth 100000 in
theorem impl_maySay.calls (k:Nat) (a0_0:Int) (A0_1:Option Addr) (c0_1:Nat) (l0_1:List (S59)) (a1:Int) (r:Bool) (w:World) (hr0_1:Kd.C k59 w A0_1 l0_1.length l0_1) (hc0_1:l0_1.length≤c0_1) (h:impl_maySay.f k a0_0 l0_1 a1=some r) :
  Calls Try.prog 55 #[.agg #[.int .i64 a0_0,.slice A0_1 l0_1.length c0_1],.int .i64 a1] w fun e w'=>e = .returned (.bool r)∧Below w.heap.size w w':=by
 have hu42:=Try.underlying42
 have HR0_1:=mA hr0_1
 have HC0_1:=mA hc0_1
 clear hr0_1 hc0_1
 have HB:=mA (Below.refl w.heap.size w)
 have H:((impl_holds.f k l0_1 a1).bind fun t102=>(if 0≤a0_0 then (some (t102==((Go.bits .and .i64 (shr .i64 a1 a0_0) 1)==1))) else (none)))=some r:=h
 clear h
 replace H:=Option.bind_eq_some_iff.mp H
 obtain ⟨t102,A30,H⟩:=H
 replace H:(if 0≤a0_0 then (some (t102==((Go.bits .and .i64 (shr .i64 a1 a0_0) 1)==1))) else (none))=some r:=H
 have A3:=mA A30
 clear A30
 by_cases c4:0≤a0_0
 ·rw [if_pos c4] at H
  have c4b0:=eq_true c4
  have c4b1:decide (0≤a0_0)=true:=decide_eq_true c4
  clear c4
  obtain ⟨ji5,hji5⟩ : ∃ j_:Int,(shr .i64 a1 a0_0)=j_:=⟨_,rfl⟩
  replace H:(some (t102==((Go.bits .and .i64 (ji5) 1)==1)))=some r:=by first|(rw [hji5] at H;exact H)|(simp only [hji5] at H ⊢;exact H)
  (try rw [hji5] at A3)
  have hji5_:(a1 / 2^min a0_0.toNat 64)=ji5:=hji5
  have hji5z:a0_0≤64→(a1 / 2^a0_0.toNat)=ji5:=shr_small hji5
  obtain rfl:=Option.some.inj H
  go_enter Try.func55,Try.ntmps55
  try go_wp2_with (first|((with_reducible refine gate_dst (N:=2) rfl ?_);refine box_event ?hg (N:=2) ?hd (cs:=#[.int .i64 a0_0,.slice A0_1 l0_1.length c0_1]) (t:=42) ?hr ?_;(case hd=>rfl);(case hg=>rfl);(case hr=>first|(go_simp;done)|(go_simp;rfl));intro gb101 hg w6 hbox hb;have n0_:=mA (bT (by repeat first|(with_reducible first|exact HB.out|apply bA|apply bN|apply bD)|exact HB.out) hb);have n1_:=mA (hbox);have n2_:=mA ((by rw [hg];exact (bZ (by repeat first|(with_reducible first|exact HB.out|apply bA|apply bN|apply bD)|exact HB.out)):w.heap.size≤gb101));have n3_:=mA ((by rw [hg];exact (bZ (by repeat first|(with_reducible first|exact HB.out|apply bA|apply bN|apply bD)|exact HB.out)):w.heap.size≤gb101));clear HB;have HB:=n0_;have BK101:=n1_;have GW101:=n2_;have GE101:=n3_;clear n0_ n1_ n2_ n3_ hb hbox hg))
  have n0_:=mA (kD BK101.out)
  have n1_:=mA (bD HB.out)
  clear BK101
  clear HB
  have BK101:=n0_
  have HB:=n1_
  clear n0_ n1_
  refine start_ (n:=12) (S:=fun w'=>w'.cell? ⟨gb101,0,none⟩=some (.int .i64 a0_0)∧w'.cell? ⟨gb101,1,none⟩=some (.slice A0_1 l0_1.length c0_1)) (ds:=[]) #[O,O,O,O,O,O,O,O,O,O,O,O] (by kernel_rfl) rfl rfl ⟨(kC BK101.out 0).trans rfl,(kC BK101.out 1).trans rfl⟩ (fun hHeld=>?_);refine with_tabW impl_maySay.tab1 impl_maySay.bits1 (fun HT_ HW_=>?_)
  generalize w6.drew=w7 at BK101 HB hHeld ⊢
  refine pure_ (i:=0) (N:=some 5) (v:=?_) (a':=?_) #[I,O,O,O,O,O,O,O,O,O,O,O] rfl rfl (any_of HT_.out (by kernel_rfl)) (fun _ _ _ h=>h) (Or.inl ⟨by rfl,?_⟩) ?_ ?_
  rotate_left
  ·intro w'
   go_simp
   with_reducible rfl
  rotate_left
  ·simp only [Act.put,sA,sZ,sS,i64_w,i32_w]
   rfl
  refine pure_ (i:=2) (N:=some 7) (v:=?_) (a':=?_) #[I,O,I,O,O,O,O,O,O,O,O,O] rfl rfl (any_of HT_.out (by kernel_rfl)) (fun _ _ _ h=>h) (Or.inl ⟨by rfl,?_⟩) ?_ ?_
  rotate_left
  ·intro w'
   go_simp
   with_reducible rfl
  rotate_left
  ·simp only [Act.put,sA,sZ,sS,i64_w,i32_w]
   rfl
  refine pure_ (i:=4) (N:=some 9) (v:=?_) (a':=?_) #[I,O,I,O,I,O,O,O,O,O,O,O] rfl rfl (any_of HT_.out (by kernel_rfl)) (fun _ _ _ h=>h) (Or.inl ⟨by rfl,?_⟩) ?_ ?_
  rotate_left
  ·intro w'
   go_simp
   with_reducible rfl
  rotate_left
  ·simp only [Act.put,sA,sZ,sS,i64_w,i32_w]
   rfl
  refine pure_ (i:=5) (N:=some 10) (v:=?_) (a':=?_) #[I,O,I,O,I,I,O,O,O,O,O,O] rfl rfl (any_of HT_.out (by kernel_rfl)) (fun _ _ _ h=>h) (Or.inl ⟨by rfl,?_⟩) ?_ ?_
  rotate_left
  ·intro w'
   go_simp
   with_reducible rfl
  rotate_left
  ·simp only [Act.put,sA,sZ,sS,i64_w,i32_w]
   rfl
  refine take_ (i:=1) (N:=some 6) (v:=?_) (a':=?_) #[I,I,I,O,I,I,O,O,O,O,O,O] rfl rfl (take_ofW HT_.out HW_.out (by kernel_rfl)) (fun _ _ _ h=>h) (Or.inl ⟨by rfl,?_⟩) hHeld ?_ ?_
  rotate_left
  ·rintro w' ⟨s0,s1⟩
   go_simp
   with_reducible rfl
  rotate_left
  ·simp only [Act.put,sA,sZ,sS,i64_w,i32_w]
   rfl
  refine take_ (i:=6) (N:=some 11) (v:=?_) (a':=?_) #[I,I,I,O,I,I,I,O,O,O,O,O] rfl rfl (take_ofW HT_.out HW_.out (by kernel_rfl)) (fun _ _ _ h=>h) (Or.inl ⟨by rfl,?_⟩) hHeld ?_ ?_
  rotate_left
  ·rintro w' ⟨s0,s1⟩
   go_simp
   with_reducible rfl
  rotate_left
  ·simp only [Act.put,sA,sZ,sS,i64_w,i32_w]
   rfl
  refine pure_ (i:=7) (N:=some 12) (v:=?_) (a':=?_) #[I,I,I,O,I,I,I,I,O,O,O,O] rfl rfl (any_of HT_.out (by kernel_rfl)) (fun _ _ _ h=>h) (Or.inl ⟨by rfl,?_⟩) ?_ ?_
  rotate_left
  ·intro w'
   go_simp
   with_reducible rfl
  rotate_left
  ·simp only [Act.put,sA,sZ,sS,i64_w,i32_w]
   rfl
  refine pure_ (i:=8) (N:=some 13) (v:=?_) (a':=?_) #[I,I,I,O,I,I,I,I,I,O,O,O] rfl rfl (any_of HT_.out (by kernel_rfl)) (fun _ _ _ h=>h) (Or.inl ⟨by rfl,?_⟩) ?_ ?_
  rotate_left
  ·intro w'
   go_simp
   with_reducible rfl
  rotate_left
  ·simp only [Act.put,sA,sZ,sS,i64_w,i32_w]
   rfl
  refine pure_ (i:=9) (N:=some 14) (v:=?_) (a':=?_) #[I,I,I,O,I,I,I,I,I,I,O,O] rfl rfl (any_of HT_.out (by kernel_rfl)) (fun _ _ _ h=>h) (Or.inl ⟨by rfl,?_⟩) ?_ ?_
  rotate_left
  ·intro w'
   go_simp
   with_reducible rfl
  rotate_left
  ·simp only [Act.put,sA,sZ,sS,i64_w,i32_w]
   rfl
  refine one_ (i:=3) (N:=some 8) #[I,I,I,I,I,I,I,I,I,I,O,O] rfl rfl (one_of HT_.out (by kernel_rfl)) (by decide) (fun K hK=>?_)
  refine goes_ Try.func58 (by kernel_rfl) rfl #[.slice A0_1 l0_1.length c0_1,.int .i64 a1] (by rfl) rfl rfl (by (try simp only [mT,mC,mN]);first|done|rfl|(simp only [lD,lT];rfl)) ?_
  with_reducible refine (impl_holds.calls k _ _ l0_1 a1 t102 _ ?side1 ?side2 A3.out).mono ?_
  (case side1=>repeat first|exact (Kd.C_below HR0_1.out HB.out)|(with_reducible refine cA ?_ _)|(with_reducible refine cN ?_ _)|(with_reducible refine cD ?_))
  (case side2=>exact HC0_1.out)
  rintro e w8 ⟨rfl,hb⟩
  refine ⟨_,rfl,?_⟩
  have n0_:=mA (kB (g:=gb101) (o:=.cells #[.int .i64 a0_0,.slice A0_1 l0_1.length c0_1] 42 (0,0)) (by (with_reducible repeat first|refine kN ?_ _|refine kD ?_|refine kA ?_ _);exact BK101.out) hb)
  have n1_:=mA (bT (by repeat first|(with_reducible first|exact HB.out|apply bA|apply bN|apply bD|refine bS ?_ GE101.out)|exact HB.out) hb)
  clear BK101
  clear HB
  have BK101:=n0_
  have HB:=n1_
  clear n0_ n1_
  (try clear hb)
  (try clear hb2)
  (try clear hk)
  (try clear hi)
  refine hK.out _ _ ⟨(kC BK101.out 0).trans rfl,(kC BK101.out 1).trans rfl⟩ (fun hHeld=>?_)
  clear hK K
  refine norm_ (a':=?_) ?_ ?_
  rotate_left
  ·show Act.put _ (some 8) _=_
   simp only [Act.put,sA,sZ,sS,i64_w,i32_w]
   rfl
  refine pure_ (i:=10) (N:=some 15) (v:=?_) (a':=?_) #[I,I,I,I,I,I,I,I,I,I,I,O] rfl rfl (any_of HT_.out (by kernel_rfl)) (fun _ _ _ h=>h) (Or.inl ⟨by rfl,?_⟩) ?_ ?_
  rotate_left
  ·intro w'
   go_simp
   with_reducible rfl
  rotate_left
  ·simp only [Act.put,sA,sZ,sS,i64_w,i32_w]
   rfl
  refine pure_ (i:=11) (N:=some 4) (v:=?_) (a':=?_) #[I,I,I,I,I,I,I,I,I,I,I,I] rfl rfl (any_of HT_.out (by kernel_rfl)) (fun _ _ _ h=>h) (Or.inl ⟨by rfl,?_⟩) ?_ ?_
  rotate_left
  ·intro w'
   go_simp
   with_reducible rfl
  rotate_left
  ·simp only [Act.put,sA,sZ,sS,i64_w,i32_w]
   rfl
  refine done_ (done_of HT_.out (by kernel_rfl)) ?_
  try go_wp2
  go_ret
  exact ⟨by first|rfl|(simp [errW_none,errW_some]<;>rfl)|(simp only [←hji5];first|rfl|(simp [errW_none,errW_some]<;>rfl))|(simp [*, errW_none,errW_some]<;>rfl),by repeat (first|(with_reducible first|exact HB.out|apply bA|apply bN|apply bD|refine bS ?_ GE101.out)|exact HB.out)⟩
 ·rw [if_neg c4] at H
  exact absurd H (by simp)
/-! ### impl_ClaimTable: function 45; what it hands to tableBy: function 54 -/
def impl_ClaimTable.f (k:Nat) (a0:Int) (a1_0:Int) (l1:List (S59)):Option (Int):=(impl_ClaimOk.f k a0 a1_0 l1).bind fun t=>(if t=true then (impl_tableBy.f (fun k_ x_=>impl_maySay.f k_ a1_0 l1 x_) k a0) else (some (-1)))
theorem impl_ClaimTable.mono : ∀ a0 a1_0 l1 k,LeO (impl_ClaimTable.f k a0 a1_0 l1) (impl_ClaimTable.f (k+1) a0 a1_0 l1):=by
 intro a0 a1_0 l1 k
 unfold impl_ClaimTable.f
 refine LeO.bind (impl_ClaimOk.mono _ _ _ _) (fun _=>?_)
 refine LeO.ite ?_ (LeO.refl _)
 exact impl_tableBy.mono (fun k x=>impl_maySay.mono _ _ _ _) _ _
set_option maxHeartbeats 8000000 in
set_option maxRecDepth 100000 in
theorem impl_ClaimTable.calls_1 (k:Nat) (a1_0:Int) (A1:Option Addr) (c1:Nat) (l1:List (S59)) (gb1:Nat) (x:Int) (b:Bool) (w:World) (hg:w.heap[gb1]?=some (.cells #[.int .i64 a1_0,.slice A1 l1.length c1] 42 (0,0))) (hr1:Kd.C k59 w A1 l1.length l1) (hc1:l1.length≤c1) (h:impl_maySay.f k a1_0 l1 x=some b) :
  Calls Try.prog 54 #[.int .i64 x,.pointer (some ⟨gb1,0,none⟩)] w fun e w'=>e = .returned (.bool b)∧Below w.heap.size w w':=by
 have hu42:=Try.underlying42
 have HR1:=mA hr1
 have HC1:=mA hc1
 clear hr1 hc1
 have HB:=mA (Below.refl w.heap.size w)
 have A6:=mA h
 clear h
 have hcz0:w.cell? ⟨gb1,0,none⟩=some (.int .i64 a1_0):=(kC hg 0).trans rfl
 have hfz0:=kF hg 0
 have hcz1:w.cell? ⟨gb1,1,none⟩=some (.slice A1 l1.length c1):=(kC hg 1).trans rfl
 have hfz1:=kF hg 1
 clear hg
 go_enter Try.func54,Try.ntmps54
 go_wp2_with (first|((with_reducible refine gate_callee (f:=55) rfl ?_);refine goesL_ (some 6) rfl rfl Try.func55 (by kernel_rfl) rfl #[.agg #[.int .i64 a1_0,.slice A1 l1.length c1],.int .i64 x] rfl (by (try simp only [mT,mC,mN]);first|done|rfl) ?_;(with_reducible refine (impl_maySay.calls k a1_0 _ _ l1 x b _ ?side1 ?side2 A6.out).mono ?_);(case side1=>repeat first|exact (Kd.C_below HR1.out HB.out)|(with_reducible refine cA ?_ _)|(with_reducible refine cN ?_ _)|(with_reducible refine cD ?_));(case side2=>exact HC1.out);  rintro e w12 ⟨rfl,hb⟩;refine ⟨_,rfl,?_⟩;have n0_:=mA (bT (by repeat first|(with_reducible first|exact HB.out|apply bA|apply bN|apply bD)|exact HB.out) hb);clear HB;have HB:=n0_;clear n0_;(try clear hb)))
 go_ret
 exact ⟨rfl,(by repeat first|(with_reducible first|exact HB.out|apply bA|apply bN|apply bD)|exact HB.out)⟩
set_option maxHeartbeats 8000000 in
set_option maxRecDepth 100000 in
theorem impl_ClaimTable.calls (k:Nat) (a0:Int) (a1_0:Int) (A1:Option Addr) (c1:Nat) (l1:List (S59)) (r:Int) (w:World) (hr1:Kd.C k59 w A1 l1.length l1) (hc1:l1.length≤c1) (h:impl_ClaimTable.f k a0 a1_0 l1=some r) :
  Calls Try.prog 45 #[.int .i64 a0,.agg #[.int .i64 a1_0,.slice A1 l1.length c1]] w fun e w'=>e = .returned (.int .i64 r)∧Below w.heap.size w w':=by
 have hu42:=Try.underlying42
 have HR1:=mA hr1
 have HC1:=mA hc1
 clear hr1 hc1
 have HB:=mA (Below.refl w.heap.size w)
 have H:((impl_ClaimOk.f k a0 a1_0 l1).bind fun t=>(if t=true then (impl_tableBy.f (fun k_ x_=>impl_maySay.f k_ a1_0 l1 x_) k a0) else (some (-1))))=some r:=h
 clear h
 obtain ⟨t,A10,H⟩:=Option.bind_eq_some_iff.mp H
 have A1_:=mA A10
 clear A10
 have hmf : ∀ (fn:Fn) (first cap:Array Value) (w:World),(Instr.makeFunc fn first cap).run Try.prog w = .ok (.func fn first cap) w:=fun _ _ _ _=>rfl
 cases t with
 | false =>
  have hr_:r = -1:=by simpa using H.symm
  subst hr_
  clear H
  go_enter Try.func45,Try.ntmps45
  go_wp2_with (first|((with_reducible refine gate_dst (N:=3) rfl ?_);refine box_event ?hg (N:=3) ?hd (cs:=#[.int .i64 a1_0,.slice A1 l1.length c1]) (t:=42) ?hr ?_;(case hd=>rfl);(case hg=>rfl);(case hr=>first|(go_simp;done)|(go_simp;rfl));intro gb1 hg w3 hbox hb;have n0_:=mA (bT (by repeat first|(with_reducible first|exact HB.out|apply bA|apply bN|apply bD)|exact HB.out) hb);have n1_:=mA (hbox);clear HB;have HB:=n0_;have BK1:=n1_;clear n0_ n1_ hb hbox hg;have hcz0:w3.cell? ⟨gb1,0,none⟩=some (.int .i64 a1_0):=(kC BK1.out 0).trans rfl;have hfz0:=kF BK1.out 0;have hcz1:w3.cell? ⟨gb1,1,none⟩=some (.slice A1 l1.length c1):=(kC BK1.out 1).trans rfl;have hfz1:=kF BK1.out 1)|((with_reducible refine gate_callee (f:=41) rfl ?_);refine goesL_ (some 7) rfl rfl Try.func41 (by kernel_rfl) rfl #[.int .i64 a0,.agg #[.int .i64 a1_0,.slice A1 l1.length c1]] rfl (by (try simp only [mT,mC,mN]);first|done|rfl) ?_;(with_reducible refine (impl_ClaimOk.calls k a0 a1_0 _ _ l1 false _ ?side1 ?side2 A1_.out).mono ?_);(case side1=>repeat first|exact (Kd.C_below HR1.out HB.out)|(with_reducible refine cA ?_ _)|(with_reducible refine cN ?_ _)|(with_reducible refine cD ?_));(case side2=>exact HC1.out);  rintro e w12 ⟨rfl,hb⟩;refine ⟨_,rfl,?_⟩;have m0_:=mA (kB BK1.out hb);clear BK1;have BK1:=m0_;clear m0_;have n0_:=mA (bT (by repeat first|(with_reducible first|exact HB.out|apply bA|apply bN|apply bD)|exact HB.out) hb);clear HB;have HB:=n0_;clear n0_;(try clear hb)))
  go_ret
  exact ⟨rfl,(by repeat first|(with_reducible first|exact HB.out|apply bA|apply bN|apply bD)|exact HB.out)⟩
 | true =>
  replace H:=mA (show impl_tableBy.f (fun k_ x_=>impl_maySay.f k_ a1_0 l1 x_) k a0=some r from H)
  go_enter Try.func45,Try.ntmps45
  go_wp2_with (first|((with_reducible refine gate_dst (N:=3) rfl ?_);refine box_event ?hg (N:=3) ?hd (cs:=#[.int .i64 a1_0,.slice A1 l1.length c1]) (t:=42) ?hr ?_;(case hd=>rfl);(case hg=>rfl);(case hr=>first|(go_simp;done)|(go_simp;rfl));intro gb1 hg w3 hbox hb;have n0_:=mA (bT (by repeat first|(with_reducible first|exact HB.out|apply bA|apply bN|apply bD)|exact HB.out) hb);have n1_:=mA (hbox);clear HB;have HB:=n0_;have BK1:=n1_;clear n0_ n1_ hb hbox hg;have hcz0:w3.cell? ⟨gb1,0,none⟩=some (.int .i64 a1_0):=(kC BK1.out 0).trans rfl;have hfz0:=kF BK1.out 0;have hcz1:w3.cell? ⟨gb1,1,none⟩=some (.slice A1 l1.length c1):=(kC BK1.out 1).trans rfl;have hfz1:=kF BK1.out 1)|((with_reducible refine gate_callee (f:=41) rfl ?_);refine goesL_ (some 7) rfl rfl Try.func41 (by kernel_rfl) rfl #[.int .i64 a0,.agg #[.int .i64 a1_0,.slice A1 l1.length c1]] rfl (by (try simp only [mT,mC,mN]);first|done|rfl) ?_;(with_reducible refine (impl_ClaimOk.calls k a0 a1_0 _ _ l1 true _ ?side1 ?side2 A1_.out).mono ?_);(case side1=>repeat first|exact (Kd.C_below HR1.out HB.out)|(with_reducible refine cA ?_ _)|(with_reducible refine cN ?_ _)|(with_reducible refine cD ?_));(case side2=>exact HC1.out);  rintro e w12 ⟨rfl,hb⟩;refine ⟨_,rfl,?_⟩;have m0_:=mA (kB BK1.out hb);clear BK1;have BK1:=m0_;clear m0_;have n0_:=mA (bT (by repeat first|(with_reducible first|exact HB.out|apply bA|apply bN|apply bD)|exact HB.out) hb);clear HB;have HB:=n0_;clear n0_;(try clear hb))|((with_reducible refine gate_callee (f:=53) rfl ?_);refine goesL_ (some 11) rfl rfl Try.func53 (by kernel_rfl) rfl #[.int .i64 a0,.func (.func 54) #[] #[.pointer (some ⟨gb1,0,none⟩)]] rfl (by (try simp only [mT,mC,mN]);first|done|rfl) ?_;(with_reducible refine (impl_tableBy.calls (fun k_ x_=>impl_maySay.f k_ a1_0 l1 x_) Try.func54 (by kernel_rfl) rfl #[.pointer (some ⟨gb1,0,none⟩)] k a0 r _ ?hF H.out).mono ?_);(case hF=>exact fun k x b W hb h=>impl_ClaimTable.calls_1 k a1_0 _ _ l1 gb1 x b W (kB BK1.out hb) (Kd.C_below (Kd.C_below HR1.out HB.out) hb) HC1.out h);  rintro e w12 ⟨rfl,hb⟩;refine ⟨_,rfl,?_⟩;have n0_:=mA (bT (by repeat first|(with_reducible first|exact HB.out|apply bA|apply bN|apply bD)|exact HB.out) hb);clear HB;have HB:=n0_;clear n0_;(try clear hb)))
  go_ret
  exact ⟨rfl,(by repeat first|(with_reducible first|exact HB.out|apply bA|apply bN|apply bD)|exact HB.out)⟩
/-! ### impl_storyTable: function 28 -/
def impl_storyTable.l0:Nat→Int→Int→List (S42)→Int→Int→Option (Int)
 | 0,_,_,_,_,_=>none
 | k+1,x0,x5,x12,x13,x14=>if x14<x13 then (if 0≤x14 then (if x14<(x12.length:Int) then ((impl_ClaimTable.f k x0 ((rd_T42 x12 x14).f0) ((rd_T42 x12 x14).f1)).bind fun t103=>(impl_storyTable.l0 k x0 (Go.bits .and .i64 x5 t103) x12 x13 (wrap64 (x14+1)))) else (none)) else (none)) else (some x5)
def impl_storyTable.f (k:Nat) (a0:Int) (l1:List (S42)):Option (Int):=if 0≤a0 then (impl_storyTable.l0 k a0 (wrap64 ((shl .i64 1 (shl .u64 1 a0))-1)) l1 (l1.length:Int) 0) else (none)
theorem impl_storyTable.mono_l : ∀ k,(∀ y0 y1 y2 y3 y4,LeO (impl_storyTable.l0 k y0 y1 y2 y3 y4) (impl_storyTable.l0 (k+1) y0 y1 y2 y3 y4))
 | 0=>fun _ _ _ _ _ r h=>by simp [impl_storyTable.l0] at h
 | k+1=>by
  have ih0:=impl_storyTable.mono_l k
  ·intro y0 y1 y2 y3 y4
   unfold impl_storyTable.l0
   repeat' first
   | (with_reducible exact ih0 _ _ _ _ _)
   | (with_reducible exact impl_ClaimTable.mono _ _ _ _)
   | (with_reducible exact LeO.refl _)
   | (with_reducible exact LeO.none _)
   | (with_reducible refine LeO.ite ?_ ?_)
   | (with_reducible refine LeO.bind ?_ (fun _=>?_))
   | exact ih0 _ _ _ _ _
   | exact impl_ClaimTable.mono _ _ _ _
   | exact LeO.none _
   | refine LeO.ite ?_ ?_
   | refine LeO.bind ?_ (fun _=>?_)
theorem impl_storyTable.mono : ∀ a0 a1 k,LeO (impl_storyTable.f k a0 a1) (impl_storyTable.f (k+1) a0 a1):=by
 intro a0 a1 k
 have ih0:=impl_storyTable.mono_l k
 unfold impl_storyTable.f
 repeat' first
   | (with_reducible exact ih0 _ _ _ _ _)
   | (with_reducible exact impl_ClaimTable.mono _ _ _ _)
   | (with_reducible exact LeO.refl _)
   | (with_reducible exact LeO.none _)
   | (with_reducible refine LeO.ite ?_ ?_)
   | (with_reducible refine LeO.bind ?_ (fun _=>?_))
   | exact ih0 _ _ _ _ _
   | exact impl_ClaimTable.mono _ _ _ _
   | exact LeO.none _
   | refine LeO.ite ?_ ?_
   | refine LeO.bind ?_ (fun _=>?_)
set_option maxHeartbeats 8000000 in
set_option maxRecDepth 100000 in
theorem impl_storyTable.calls (k:Nat) (a0:Int) (A1:Option Addr) (c1:Nat) (l1:List (S42)) (r:Int) (w:World) (hr1:Kd.C k42 w A1 l1.length l1) (hc1:l1.length≤c1) (h:impl_storyTable.f k a0 l1=some r) :
  Calls Try.prog 28 #[.int .i64 a0,.slice A1 l1.length c1] w fun e w'=>e = .returned (.int .i64 r)∧Below w.heap.size w w':=by
 have hu42:=Try.underlying42
 have HR1:=mA hr1
 have HC1:=mA hc1
 clear hr1 hc1
 have HB:=mA (Below.refl w.heap.size w)
 have H:(if 0≤a0 then (impl_storyTable.l0 k a0 (wrap64 ((shl .i64 1 (shl .u64 1 a0))-1)) l1 (l1.length:Int) 0) else (none))=some r:=h
 clear h
 by_cases c3:0≤a0
 ·rw [if_pos c3] at H
  have c3b0:=eq_true c3
  have c3b1:decide (0≤a0)=true:=decide_eq_true c3
  clear c3
  obtain ⟨ji4,hji4⟩ : ∃ j_:Int,(shl .u64 1 a0)=j_:=⟨_,rfl⟩
  have hji4_n:(0≤ji4)=True:=eq_true (by rw [←hji4];exact shl_u64_nonneg _ _)
  replace H:(impl_storyTable.l0 k a0 (wrap64 ((shl .i64 1 (ji4))-1)) l1 (l1.length:Int) 0)=some r:=by first|(rw [hji4] at H;exact H)|(simp only [hji4] at H ⊢;exact H)
  have hji4_:(IntKind.u64.wrap (1*2^min a0.toNat 64))=ji4:=hji4
  have hji4z:a0≤64→(IntKind.u64.wrap (1*2^a0.toNat))=ji4:=shl_small hji4
  have hji4u:(IntKind.u64.wrap (2^min a0.toNat 64))=ji4:=by have h_:=hji4_;rw [Int.one_mul] at h_;exact h_
  have hji4v:a0≤64→(IntKind.u64.wrap (2^a0.toNat))=ji4:=fun hle_=>by have h_:=hji4z hle_;rw [Int.one_mul] at h_;exact h_
  obtain ⟨ji5,hji5⟩ : ∃ j_:Int,(shl .i64 1 (ji4))=j_:=⟨_,rfl⟩
  replace H:(impl_storyTable.l0 k a0 (wrap64 ((ji5)-1)) l1 (l1.length:Int) 0)=some r:=by first|(rw [hji5] at H;exact H)|(simp only [hji5] at H ⊢;exact H)
  have hji5_:(IntKind.i64.wrap (1*2^min (ji4).toNat 64))=ji5:=hji5
  have hji5z:(ji4)≤64→(IntKind.i64.wrap (1*2^(ji4).toNat))=ji5:=shl_small hji5
  have hji5u:(IntKind.i64.wrap (2^min (ji4).toNat 64))=ji5:=by have h_:=hji5_;rw [Int.one_mul] at h_;exact h_
  have hji5v:(ji4)≤64→(IntKind.i64.wrap (2^(ji4).toNat))=ji5:=fun hle_=>by have h_:=hji5z hle_;rw [Int.one_mul] at h_;exact h_
  have hji5y:(wrap64 (1*2^min (ji4).toNat 64))=ji5:=(i64_w _).symm.trans hji5_
  have hji5x:(ji4)≤64→(wrap64 (1*2^(ji4).toNat))=ji5:=fun h_=>(i64_w _).symm.trans (hji5z h_)
  have H':=mA H
  clear H
  go_enter Try.func28,Try.ntmps28
  go_wp2
  go_loopg [5,14] k (fun kq v5 v14 w'=>∃ (x5_1:Int) (x14_1:Int),v5 = .int .i64 x5_1∧v14 = .int .i64 x14_1∧Aside0 (impl_storyTable.l0 kq a0 x5_1 l1 (l1.length:Int) x14_1=some r)∧Aside0 (kq≤k)∧Aside0 (Below w.heap.size w w'))
  case atStart=>exact ⟨(wrap64 ((ji5)-1)),(0),(by first|rfl|(simp;done)|(simp only [←hji5]<;>(first|rfl|simp))|(simp [*];done)),(by first|rfl|(simp;done)|(simp [*];done)),H',⟨Nat.le_refl _⟩,⟨by repeat (first|(with_reducible first|exact HB.out|apply bA|apply bN|apply bD)|exact HB.out)⟩⟩
  case round =>
   clear H'
   try clear c1
   try clear c2
   try clear p2
   try clear c3
   try clear c3b0
   try clear c3b1
   obtain ⟨x5_1,x14_1,rfl,rfl,HA,HK1,HB⟩:=hrel
   cases gk with
   | zero=>exact absurd HA.out (by simp [impl_storyTable.l0])
   | succ k1 =>
    have H:=HA.out
    clear HA
    simp only [impl_storyTable.l0] at H
    by_cases c6:x14_1<(l1.length:Int)
    ·rw [if_pos c6] at H
     have c6b0:decide (x14_1<(l1.length:Int))=true:=decide_eq_true c6
     clear c6
     by_cases c7:0≤x14_1
     ·rw [if_pos c7] at H
      have c7b0:decide (0≤x14_1)=true:=decide_eq_true c7
      clear c7
      by_cases c8:x14_1<(l1.length:Int)
      ·rw [if_pos c8] at H
       have c8b0:decide (x14_1<(l1.length:Int))=true:=decide_eq_true c8
       clear c8
       replace H:=Option.bind_eq_some_iff.mp H
       obtain ⟨t103,A90,H⟩:=H
       replace H:(impl_storyTable.l0 k1 a0 (Go.bits .and .i64 x5_1 t103) l1 (l1.length:Int) (wrap64 (x14_1+1)))=some r:=H
       have A9:=mA A90
       clear A90
       have H':=mA H
       clear H
       have p101:0≤(x14_1:Int):=of_decide_eq_true (by first|with_reducible assumption|assumption)
       have q101:x14_1<(l1.length:Int):=of_decide_eq_true (by first|with_reducible assumption|assumption)
       obtain ⟨ad101,A101_1,c101_1,e101,hx101_0,hx101_1,hl101_1,hi101_1⟩:=at_T42 HR1.out x14_1 p101 q101
       cases e101
       replace hx101_0:=(HB.out.cell (World.block_lt_of_cell? w _ hx101_0)).trans hx101_0
       replace hx101_1:=(HB.out.cell (World.block_lt_of_cell? w _ hx101_1)).trans hx101_1
       have HR101_1:=mA hi101_1
       have HC101_1:=mA hl101_1
       clear hi101_1 hl101_1
       replace p101:=eq_true p101
       replace q101:=eq_true q101
       go_wp2_with (first|((with_reducible refine gate_dst (N:=7) rfl ?_);refine box_event ?hg (N:=7) ?hd (cs:=#[.int .i64 0,.slice none 0 0]) (t:=42) ?hr ?_;(case hd=>rfl);(case hg=>rfl);(case hr=>first|(go_simp;done)|(go_simp;rfl));intro gb102 hg w10 hbox hb;have n0_:=mA (bT (by repeat first|(with_reducible first|exact HB.out|apply bA|apply bN|apply bD)|exact HB.out) hb);have n1_:=mA (hbox);have n2_:=mA ((by rw [hg];exact (bZ (by repeat first|(with_reducible first|exact HB.out|apply bA|apply bN|apply bD)|exact HB.out)):w.heap.size≤gb102));have n3_:=mA ((by rw [hg];exact (bZ (by repeat first|(with_reducible first|exact HB.out|apply bA|apply bN|apply bD)|exact HB.out)):w.heap.size≤gb102));clear HB;have HB:=n0_;have BK102:=n1_;have GW102:=n2_;have GE102:=n3_;clear n0_ n1_ n2_ n3_ hb hbox hg;have hcz11_0:w10.cell? ⟨gb102,0,none⟩=some (.int .i64 0):=(kC BK102.out 0).trans rfl;have hcz11_1:w10.cell? ⟨gb102,1,none⟩=some (.slice none 0 0):=(kC BK102.out 1).trans rfl;have hfz11_0:=kF BK102.out 0;have hfz11_1:=kF BK102.out 1)|((with_reducible refine gate_callee (f:=45) rfl ?_);refine goesL_ (some 21) rfl rfl Try.func45 (by kernel_rfl) rfl #[.int .i64 a0,.agg #[.int .i64 ((rd_T42 l1 x14_1).f0),.slice A101_1 ((rd_T42 l1 x14_1).f1).length c101_1]] rfl (by (try simp only [mT,mC,mN]);first|done|rfl|(simp only [lD,lT];rfl)) ?_;(with_reducible refine (impl_ClaimTable.calls k1 a0 ((rd_T42 l1 x14_1).f0) _ _ ((rd_T42 l1 x14_1).f1) t103 _ ?side1 ?side2 A9.out).mono ?_);(case side1=>exact Kd.C_below HR101_1.out (by repeat first|(with_reducible first|exact HB.out|apply bA|apply bN|apply bD|refine bS ?_ GE102.out)|exact HB.out));(case side2=>exact HC101_1.out);rintro e w12 ⟨rfl,hb⟩;refine ⟨_,rfl,?_⟩;have n0_:=mA (kB (g:=gb102) (o:=.cells #[.int .i64 ((rd_T42 l1 x14_1).f0),.slice A101_1 ((rd_T42 l1 x14_1).f1).length c101_1] 42 (0,0)) (by (with_reducible repeat first|refine kN ?_ _|refine kD ?_|refine kA ?_ _);refine kP (cs:=#[.int .i64 ((rd_T42 l1 x14_1).f0),.slice none 0 0]) ?_ 1 _ rfl;(with_reducible repeat first|refine kN ?_ _|refine kD ?_|refine kA ?_ _);refine kP (cs:=#[.int .i64 0,.slice none 0 0]) ?_ 0 _ rfl;(with_reducible repeat first|refine kN ?_ _|refine kD ?_|refine kA ?_ _);exact BK102.out) hb);have n1_:=mA (bT (by repeat first|(with_reducible first|exact HB.out|apply bA|apply bN|apply bD|refine bS ?_ GE102.out)|exact HB.out) hb);clear BK102 HB;have BK102:=n0_;have HB:=n1_;clear n0_ n1_;(try clear hb);(try clear hb2);(try clear hk);(try clear hi)))
       go_roundg k1
       case measure=>have:=HK1.out;omega
       case rel=>exact ⟨(Go.bits .and .i64 x5_1 t103),(wrap64 (x14_1+1)),(by first|rfl|(simp;done)|(simp [*];done)),(by first|rfl|(simp;done)|(simp [*];done)),H',⟨by have:=HK1.out;omega⟩,⟨by repeat (first|(with_reducible first|exact HB.out|apply bA|apply bN|apply bD|refine bS ?_ GE102.out)|exact HB.out)⟩⟩
      ·rw [if_neg c8] at H
       exact absurd H (by simp)
     ·rw [if_neg c7] at H
      exact absurd H (by simp)
    ·rw [if_neg c6] at H
     have c6b0:decide (x14_1<(l1.length:Int))=false:=decide_eq_false c6
     clear c6
     obtain rfl:=Option.some.inj H
     go_wp2
     go_ret
     exact ⟨by first|rfl|(simp [errW_none,errW_some]<;>rfl)|(simp only [←hji4, ←hji5];first|rfl|(simp [errW_none,errW_some]<;>rfl))|(simp [*, errW_none,errW_some]<;>rfl),by repeat (first|(with_reducible first|exact HB.out|apply bA|apply bN|apply bD)|exact HB.out)⟩
 ·rw [if_neg c3] at H
  exact absurd H (by simp)
/-! ### impl_LeastStory: function 9 -/
def impl_LeastStory.l0:Nat→Int→List (S42)→Int→Option ((List (S42))×Bool)
 | 0,_,_,_=>none
 | k+1,x0,x6,x7=>if x7<(x6.length:Int) then ((impl_without.f x6 x7).bind fun t108=>((impl_storyTable.f k x0 t108).bind fun t111=>((impl_storyTable.f k x0 x6).bind fun t112=>(if t111=t112 then (impl_LeastStory.l0 k x0 t108 x7) else (impl_LeastStory.l0 k x0 x6 (wrap64 (x7+1))))))) else ((impl_copyStory.f k x6).bind fun t105=>(some (t105,true)))
def impl_LeastStory.f (k:Nat) (a0:Int) (l1:List (S42)):Option ((List (S42))×Bool):=(impl_StoryOk.f k a0 l1).bind fun t101=>(if t101=true then ((impl_copyStory.f k l1).bind fun t102=>(impl_LeastStory.l0 k a0 t102 0)) else (some (([]:List (S42)),false)))
theorem impl_LeastStory.mono_l : ∀ k,(∀ y0 y1 y2,LeO (impl_LeastStory.l0 k y0 y1 y2) (impl_LeastStory.l0 (k+1) y0 y1 y2))
 | 0=>fun _ _ _ r h=>by simp [impl_LeastStory.l0] at h
 | k+1=>by
  have ih0:=impl_LeastStory.mono_l k
  ·intro y0 y1 y2
   unfold impl_LeastStory.l0
   repeat' first
   | (with_reducible exact ih0 _ _ _)
   | (with_reducible exact impl_StoryOk.mono _ _ _)
   | (with_reducible exact impl_copyStory.mono _ _)
   | (with_reducible exact impl_storyTable.mono _ _ _)
   | (with_reducible exact LeO.refl _)
   | (with_reducible exact LeO.none _)
   | (with_reducible refine LeO.ite ?_ ?_)
   | (with_reducible refine LeO.bind ?_ (fun _=>?_))
   | exact ih0 _ _ _
   | exact impl_StoryOk.mono _ _ _
   | exact impl_copyStory.mono _ _
   | exact impl_storyTable.mono _ _ _
   | exact LeO.none _
   | refine LeO.ite ?_ ?_
   | refine LeO.bind ?_ (fun _=>?_)
theorem impl_LeastStory.mono : ∀ a0 a1 k,LeO (impl_LeastStory.f k a0 a1) (impl_LeastStory.f (k+1) a0 a1):=by
 intro a0 a1 k
 have ih0:=impl_LeastStory.mono_l k
 unfold impl_LeastStory.f
 repeat' first
   | (with_reducible exact ih0 _ _ _)
   | (with_reducible exact impl_StoryOk.mono _ _ _)
   | (with_reducible exact impl_copyStory.mono _ _)
   | (with_reducible exact impl_storyTable.mono _ _ _)
   | (with_reducible exact LeO.refl _)
   | (with_reducible exact LeO.none _)
   | (with_reducible refine LeO.ite ?_ ?_)
   | (with_reducible refine LeO.bind ?_ (fun _=>?_))
   | exact ih0 _ _ _
   | exact impl_StoryOk.mono _ _ _
   | exact impl_copyStory.mono _ _
   | exact impl_storyTable.mono _ _ _
   | exact LeO.none _
   | refine LeO.ite ?_ ?_
   | refine LeO.bind ?_ (fun _=>?_)
set_option maxHeartbeats 8000000 in
set_option maxRecDepth 100000 in
theorem impl_LeastStory.callsS (k:Nat) (a0:Int) (A1:Option Addr) (c1:Nat) (l1:List (S42)) (r1:List (S42)) (r2:Bool) (w:World) (hr1:Kd.C k42 w A1 l1.length l1) (hc1:l1.length≤c1) (h:impl_LeastStory.f k a0 l1=some (r1,r2)) :
  Calls Try.prog 9 #[.int .i64 a0,.slice A1 l1.length c1] w fun e w'=>∃ v0_:Value,e = .returned (.tuple #[v0_,.bool r2])∧Kd.S k42 42 w' w.heap.size (fun _=>True) v0_ r1∧Below w.heap.size w w':=by
 have HR1:=mA hr1
 have HC1:=mA hc1
 clear hr1 hc1
 have HB:=mA (Below.refl w.heap.size w)
 have H:((impl_StoryOk.f k a0 l1).bind fun t101=>(if t101=true then ((impl_copyStory.f k l1).bind fun t102=>(impl_LeastStory.l0 k a0 t102 0)) else (some (([]:List (S42)),false))))=some (r1,r2):=h
 clear h
 replace H:=Option.bind_eq_some_iff.mp H
 obtain ⟨t101,A30,H⟩:=H
 replace H:(if t101=true then ((impl_copyStory.f k l1).bind fun t102=>(impl_LeastStory.l0 k a0 t102 0)) else (some (([]:List (S42)),false)))=some (r1,r2):=H
 have A3:=mA A30
 clear A30
 by_cases c4:t101=true
 ·subst c4
  have H1:((impl_copyStory.f k l1).bind fun t102=>(impl_LeastStory.l0 k a0 t102 0))=some (r1,r2):=by rw [if_pos rfl] at H;exact H
  clear H
  have H:=H1
  clear H1
  replace H:=Option.bind_eq_some_iff.mp H
  obtain ⟨t102,A50,H⟩:=H
  replace H:(impl_LeastStory.l0 k a0 t102 0)=some (r1,r2):=H
  have A5:=mA A50
  clear A50
  have H':=mA H
  clear H
  go_enter Try.func9,Try.ntmps9
  go_wp2_with (first|((with_reducible refine gate_callee (f:=25) rfl ?_);refine goesL_ (some 11) rfl rfl Try.func25 (by kernel_rfl) rfl #[.int .i64 a0,.slice A1 l1.length c1] rfl (by (try simp only [mT,mC,mN]);first|done|rfl|(simp only [lD,lT];rfl)) ?_;(with_reducible refine (impl_StoryOk.calls k a0 _ _ l1 true _ ?side1 ?side2 A3.out).mono ?_);(case side1=>repeat first|exact HR1.out|(with_reducible refine cA ?_ _)|(with_reducible refine cN ?_ _)|(with_reducible refine cD ?_));(case side2=>exact HC1.out);rintro e w6 ⟨rfl,hb⟩;refine ⟨_,rfl,?_⟩;have n0_:=mA (bT (by repeat first|(with_reducible first|exact HB.out|apply bA|apply bN|apply bD)|exact HB.out) hb);clear HB;have HB:=n0_;clear n0_;(try clear hb);(try clear hb2);(try clear hk);(try clear hi))|((with_reducible refine gate_callee (f:=26) rfl ?_);refine goesL_ (some 14) rfl rfl Try.func26 (by kernel_rfl) rfl #[.slice A1 l1.length c1] rfl (by (try simp only [mT,mC,mN]);first|done|rfl|(simp only [lD,lT];rfl)) ?_;(with_reducible refine (impl_copyStory.calls k _ _ l1 t102 _ ?side1 ?side2 A5.out).mono ?_);(case side1=>repeat first|exact (Kd.C_below HR1.out HB.out)|(with_reducible refine cA ?_ _)|(with_reducible refine cN ?_ _)|(with_reducible refine cD ?_));(case side2=>exact HC1.out);rintro e w7 ⟨v103,rfl,ho0,hb⟩;refine ⟨_,rfl,?_⟩;have n0_:=mA (Kd.N_lower (Kd.N_mono (ok':=fun k_=>(w.heap.size≤k_)) (Kd.S_N (Kd.S_bound ho0)) (fun k_ hk_=>(Nat.le_trans (bZ (by repeat first|(with_reducible first|exact HB.out|apply bA|apply bN|apply bD)|exact HB.out)) hk_.2.1))) (bZ (by repeat first|(with_reducible first|exact HB.out|apply bA|apply bN|apply bD)|exact HB.out)));have n1_:=mA (bT (by repeat first|(with_reducible first|exact HB.out|apply bA|apply bN|apply bD)|exact HB.out) hb);clear HB;have HO104:=n0_;have HB:=n1_;clear n0_ n1_;(try clear hb);(try clear hb2);(try clear hk);(try clear hi);(try clear ho0)))
  go_loopg [6,7] k (fun kq v6 v7 w'=>∃ (x6_1:List (S42)) (x7_1:Int),v7 = .int .i64 x7_1∧Aside0 (impl_LeastStory.l0 kq a0 x6_1 x7_1=some (r1,r2))∧Aside0 (kq≤k)∧Aside0 (Kd.N k42 42 w' w.heap.size (fun k_=>(w.heap.size≤k_)) v6 x6_1)∧Aside0 (Below w.heap.size w w'))
  case atStart=>exact ⟨(t102),(0),(by first|rfl|(simp;done)|(simp [*];done)),H',⟨Nat.le_refl _⟩,⟨by (with_reducible repeat first|apply nA|apply nN|apply nD);exact HO104.out⟩,⟨by repeat (first|(with_reducible first|exact HB.out|apply bA|apply bN|apply bD)|exact HB.out)⟩⟩
  case round =>
   clear H'
   try clear c1
   try clear c2
   try clear p2
   try clear c4
   obtain ⟨x6_1,x7_1,rfl,HA,HK1,HO_6,HB⟩:=hrel
   cases gk with
   | zero=>exact absurd HA.out (by simp [impl_LeastStory.l0])
   | succ k1 =>
    have H:=HA.out
    clear HA
    simp only [impl_LeastStory.l0] at H
    by_cases c8:x7_1<(x6_1.length:Int)
    ·rw [if_pos c8] at H
     have c8b0:decide (x7_1<(x6_1.length:Int))=true:=decide_eq_true c8
     clear c8
     replace H:=Option.bind_eq_some_iff.mp H
     obtain ⟨t108,A90,H⟩:=H
     replace H:((impl_storyTable.f k1 a0 t108).bind fun t111=>((impl_storyTable.f k1 a0 x6_1).bind fun t112=>(if t111=t112 then (impl_LeastStory.l0 k1 a0 t108 x7_1) else (impl_LeastStory.l0 k1 a0 x6_1 (wrap64 (x7_1+1))))))=some (r1,r2):=H
     have A9:=mA A90
     clear A90
     replace H:=Option.bind_eq_some_iff.mp H
     obtain ⟨t111,A100,H⟩:=H
     replace H:((impl_storyTable.f k1 a0 x6_1).bind fun t112=>(if t111=t112 then (impl_LeastStory.l0 k1 a0 t108 x7_1) else (impl_LeastStory.l0 k1 a0 x6_1 (wrap64 (x7_1+1)))))=some (r1,r2):=H
     have A10:=mA A100
     clear A100
     replace H:=Option.bind_eq_some_iff.mp H
     obtain ⟨t112,A110,H⟩:=H
     replace H:(if t111=t112 then (impl_LeastStory.l0 k1 a0 t108 x7_1) else (impl_LeastStory.l0 k1 a0 x6_1 (wrap64 (x7_1+1))))=some (r1,r2):=H
     have A11:=mA A110
     clear A110
     by_cases c12:t111=t112
     ·rw [if_pos c12] at H
      have c12b0:(t111==t112)=true:=beq_iff_eq.mpr c12
      have c12b1:(t111 != t112)=false:=bne_eq_false_iff_eq.mpr c12
      clear c12
      have H':=mA H
      clear H
      obtain ⟨Ao13,co13,eo13⟩:=Kd.N_slice HO_6.out
      subst eo13
      go_wp2_with (first|((with_reducible refine gate_callee (f:=27) rfl ?_);refine goesL_ (some 21) rfl rfl Try.func27 (by kernel_rfl) rfl #[.slice Ao13 x6_1.length co13,.int .i64 x7_1] rfl (by (try simp only [mT,mC,mN]);first|done|rfl|(simp only [lD,lT];rfl)) ?_;(with_reducible refine (impl_without.calls (fun k_=>(w.heap.size≤k_)) _ _ x6_1 x7_1 t108 _ ?side1 A9.out).mono ?_);(case side1=>exact Kd.N_V (HO_6.out));rintro e w14 ⟨v109,rfl,ho0,hb⟩;refine ⟨_,rfl,?_⟩;have n0_:=mA (Kd.N_elder' (by (with_reducible repeat first|apply nA|apply nN|apply nD);exact HO_6.out) (Kd.N_base ho0) hb);have n1_:=mA (Kd.N_lower (Kd.N_mono (ok':=fun k_=>(w.heap.size≤k_)) ho0 (fun k_ hk_=>Or.elim hk_ (fun hs_=>hs_) (fun hn_=>(Nat.le_trans (bZ (by repeat first|(with_reducible first|exact HB.out|apply bA|apply bN|apply bD)|exact HB.out)) hn_)))) (bZ (by repeat first|(with_reducible first|exact HB.out|apply bA|apply bN|apply bD)|exact HB.out)));have n2_:=mA (bT (by repeat first|(with_reducible first|exact HB.out|apply bA|apply bN|apply bD)|exact HB.out) hb);clear HO_6 HB;have HO_6:=n0_;have HO110:=n1_;have HB:=n2_;clear n0_ n1_ n2_;(try clear hb);(try clear hb2);(try clear hk);(try clear hi);(try clear ho0);obtain ⟨Ao15,co15,eo15⟩:=Kd.N_slice HO110.out;subst eo15)|((with_reducible refine gate_callee (f:=28) rfl ?_);refine goesL_ (some 24) rfl rfl Try.func28 (by kernel_rfl) rfl #[.int .i64 a0,.slice Ao15 t108.length co15] rfl (by (try simp only [mT,mC,mN]);first|done|rfl|(simp only [lD,lT];rfl)) ?_;(with_reducible refine (impl_storyTable.calls k1 a0 _ _ t108 t111 _ ?side1 ?side2 A10.out).mono ?_);(case side1=>repeat first|exact (Kd.N_reads' HO110.out).2.2|(with_reducible refine cA ?_ _)|(with_reducible refine cN ?_ _)|(with_reducible refine cD ?_));(case side2=>exact (Kd.N_reads' HO110.out).2.1);rintro e w16 ⟨rfl,hb⟩;refine ⟨_,rfl,?_⟩;have n0_:=mA (Kd.N_below (by (with_reducible repeat first|apply nA|apply nN|apply nD);exact HO_6.out) hb);have n1_:=mA (Kd.N_below (by (with_reducible repeat first|apply nA|apply nN|apply nD);exact HO110.out) hb);have n2_:=mA (bT (by repeat first|(with_reducible first|exact HB.out|apply bA|apply bN|apply bD)|exact HB.out) hb);clear HO_6 HO110 HB;have HO_6:=n0_;have HO110:=n1_;have HB:=n2_;clear n0_ n1_ n2_;(try clear hb);(try clear hb2);(try clear hk);(try clear hi))|((with_reducible refine gate_callee (f:=28) rfl ?_);refine goesL_ (some 27) rfl rfl Try.func28 (by kernel_rfl) rfl #[.int .i64 a0,.slice Ao13 x6_1.length co13] rfl (by (try simp only [mT,mC,mN]);first|done|rfl|(simp only [lD,lT];rfl)) ?_;(with_reducible refine (impl_storyTable.calls k1 a0 _ _ x6_1 t112 _ ?side1 ?side2 A11.out).mono ?_);(case side1=>repeat first|exact (Kd.N_reads' HO_6.out).2.2|(with_reducible refine cA ?_ _)|(with_reducible refine cN ?_ _)|(with_reducible refine cD ?_));(case side2=>exact (Kd.N_reads' HO_6.out).2.1);rintro e w17 ⟨rfl,hb⟩;refine ⟨_,rfl,?_⟩;have n0_:=mA (Kd.N_below (by (with_reducible repeat first|apply nA|apply nN|apply nD);exact HO_6.out) hb);have n1_:=mA (Kd.N_below (by (with_reducible repeat first|apply nA|apply nN|apply nD);exact HO110.out) hb);have n2_:=mA (bT (by repeat first|(with_reducible first|exact HB.out|apply bA|apply bN|apply bD)|exact HB.out) hb);clear HO_6 HO110 HB;have HO_6:=n0_;have HO110:=n1_;have HB:=n2_;clear n0_ n1_ n2_;(try clear hb);(try clear hb2);(try clear hk);(try clear hi)))
      go_roundg k1
      case measure=>have:=HK1.out;omega
      case rel=>exact ⟨(t108),(x7_1),(by first|rfl|(simp;done)|(simp [*];done)),H',⟨by have:=HK1.out;omega⟩,⟨by (with_reducible repeat first|apply nA|apply nN|apply nD);exact HO110.out⟩,⟨by repeat (first|(with_reducible first|exact HB.out|apply bA|apply bN|apply bD)|exact HB.out)⟩⟩
     ·rw [if_neg c12] at H
      have c12b0:(t111==t112)=false:=beq_eq_false_iff_ne.mpr c12
      have c12b1:(t111 != t112)=true:=bne_iff_ne.mpr c12
      have H':=mA H
      clear H
      obtain ⟨Ao18,co18,eo18⟩:=Kd.N_slice HO_6.out
      subst eo18
      go_wp2_with (first|((with_reducible refine gate_callee (f:=27) rfl ?_);refine goesL_ (some 21) rfl rfl Try.func27 (by kernel_rfl) rfl #[.slice Ao18 x6_1.length co18,.int .i64 x7_1] rfl (by (try simp only [mT,mC,mN]);first|done|rfl|(simp only [lD,lT];rfl)) ?_;(with_reducible refine (impl_without.calls (fun k_=>(w.heap.size≤k_)) _ _ x6_1 x7_1 t108 _ ?side1 A9.out).mono ?_);(case side1=>exact Kd.N_V (HO_6.out));rintro e w19 ⟨v109,rfl,ho0,hb⟩;refine ⟨_,rfl,?_⟩;have n0_:=mA (Kd.N_elder' (by (with_reducible repeat first|apply nA|apply nN|apply nD);exact HO_6.out) (Kd.N_base ho0) hb);have n1_:=mA (Kd.N_lower (Kd.N_mono (ok':=fun k_=>(w.heap.size≤k_)) ho0 (fun k_ hk_=>Or.elim hk_ (fun hs_=>hs_) (fun hn_=>(Nat.le_trans (bZ (by repeat first|(with_reducible first|exact HB.out|apply bA|apply bN|apply bD)|exact HB.out)) hn_)))) (bZ (by repeat first|(with_reducible first|exact HB.out|apply bA|apply bN|apply bD)|exact HB.out)));have n2_:=mA (bT (by repeat first|(with_reducible first|exact HB.out|apply bA|apply bN|apply bD)|exact HB.out) hb);clear HO_6 HB;have HO_6:=n0_;have HO110:=n1_;have HB:=n2_;clear n0_ n1_ n2_;(try clear hb);(try clear hb2);(try clear hk);(try clear hi);(try clear ho0);obtain ⟨Ao20,co20,eo20⟩:=Kd.N_slice HO110.out;subst eo20)|((with_reducible refine gate_callee (f:=28) rfl ?_);refine goesL_ (some 24) rfl rfl Try.func28 (by kernel_rfl) rfl #[.int .i64 a0,.slice Ao20 t108.length co20] rfl (by (try simp only [mT,mC,mN]);first|done|rfl|(simp only [lD,lT];rfl)) ?_;(with_reducible refine (impl_storyTable.calls k1 a0 _ _ t108 t111 _ ?side1 ?side2 A10.out).mono ?_);(case side1=>repeat first|exact (Kd.N_reads' HO110.out).2.2|(with_reducible refine cA ?_ _)|(with_reducible refine cN ?_ _)|(with_reducible refine cD ?_));(case side2=>exact (Kd.N_reads' HO110.out).2.1);rintro e w21 ⟨rfl,hb⟩;refine ⟨_,rfl,?_⟩;have n0_:=mA (Kd.N_below (by (with_reducible repeat first|apply nA|apply nN|apply nD);exact HO_6.out) hb);have n1_:=mA (Kd.N_below (by (with_reducible repeat first|apply nA|apply nN|apply nD);exact HO110.out) hb);have n2_:=mA (bT (by repeat first|(with_reducible first|exact HB.out|apply bA|apply bN|apply bD)|exact HB.out) hb);clear HO_6 HO110 HB;have HO_6:=n0_;have HO110:=n1_;have HB:=n2_;clear n0_ n1_ n2_;(try clear hb);(try clear hb2);(try clear hk);(try clear hi))|((with_reducible refine gate_callee (f:=28) rfl ?_);refine goesL_ (some 27) rfl rfl Try.func28 (by kernel_rfl) rfl #[.int .i64 a0,.slice Ao18 x6_1.length co18] rfl (by (try simp only [mT,mC,mN]);first|done|rfl|(simp only [lD,lT];rfl)) ?_;(with_reducible refine (impl_storyTable.calls k1 a0 _ _ x6_1 t112 _ ?side1 ?side2 A11.out).mono ?_);(case side1=>repeat first|exact (Kd.N_reads' HO_6.out).2.2|(with_reducible refine cA ?_ _)|(with_reducible refine cN ?_ _)|(with_reducible refine cD ?_));(case side2=>exact (Kd.N_reads' HO_6.out).2.1);rintro e w22 ⟨rfl,hb⟩;refine ⟨_,rfl,?_⟩;have n0_:=mA (Kd.N_below (by (with_reducible repeat first|apply nA|apply nN|apply nD);exact HO_6.out) hb);have n1_:=mA (Kd.N_below (by (with_reducible repeat first|apply nA|apply nN|apply nD);exact HO110.out) hb);have n2_:=mA (bT (by repeat first|(with_reducible first|exact HB.out|apply bA|apply bN|apply bD)|exact HB.out) hb);clear HO_6 HO110 HB;have HO_6:=n0_;have HO110:=n1_;have HB:=n2_;clear n0_ n1_ n2_;(try clear hb);(try clear hb2);(try clear hk);(try clear hi)))
      go_roundg k1
      case measure=>have:=HK1.out;omega
      case rel=>exact ⟨(x6_1),(wrap64 (x7_1+1)),(by first|rfl|(simp;done)|(simp [*];done)),H',⟨by have:=HK1.out;omega⟩,⟨by (with_reducible repeat first|apply nA|apply nN|apply nD);exact Kd.N_mono HO_6.out (fun _ hk=>hk.1)⟩,⟨by repeat (first|(with_reducible first|exact HB.out|apply bA|apply bN|apply bD)|exact HB.out)⟩⟩
    ·rw [if_neg c8] at H
     have c8b0:decide (x7_1<(x6_1.length:Int))=false:=decide_eq_false c8
     clear c8
     replace H:=Option.bind_eq_some_iff.mp H
     obtain ⟨t105,A230,H⟩:=H
     replace H:(some (t105,true))=some (r1,r2):=H
     have A23:=mA A230
     clear A230
     simp only [Option.some.injEq,Prod.mk.injEq] at H
     obtain ⟨rfl,rfl⟩:=H
     obtain ⟨Ao24,co24,eo24⟩:=Kd.N_slice HO_6.out
     subst eo24
     go_wp2_with (first|((with_reducible refine gate_callee (f:=26) rfl ?_);refine goesL_ (some 33) rfl rfl Try.func26 (by kernel_rfl) rfl #[.slice Ao24 x6_1.length co24] rfl (by (try simp only [mT,mC,mN]);first|done|rfl|(simp only [lD,lT];rfl)) ?_;(with_reducible refine (impl_copyStory.calls k1 _ _ x6_1 t105 _ ?side1 ?side2 A23.out).mono ?_);(case side1=>repeat first|exact (Kd.N_reads' HO_6.out).2.2|(with_reducible refine cA ?_ _)|(with_reducible refine cN ?_ _)|(with_reducible refine cD ?_));(case side2=>exact (Kd.N_reads' HO_6.out).2.1);rintro e w25 ⟨v106,rfl,ho0,hb⟩;refine ⟨_,rfl,?_⟩;have n0_:=mA (Kd.N_elder' (by (with_reducible repeat first|apply nA|apply nN|apply nD);exact HO_6.out) (Kd.N_base (Kd.S_N ho0)) hb);have n1_:=mA (Kd.S_lower ho0 (bZ (by repeat first|(with_reducible first|exact HB.out|apply bA|apply bN|apply bD)|exact HB.out)));have n2_:=mA (bT (by repeat first|(with_reducible first|exact HB.out|apply bA|apply bN|apply bD)|exact HB.out) hb);clear HO_6 HB;have HO_6:=n0_;have HO107:=n1_;have HB:=n2_;clear n0_ n1_ n2_;(try clear hb);(try clear hb2);(try clear hk);(try clear hi);(try clear ho0)))
     go_ret2
     exact ⟨_,by first|rfl|(simp [errW_none,errW_some]<;>rfl)|(simp [*, errW_none,errW_some]<;>rfl),by (with_reducible repeat first|apply Kd.S_alloc|apply Kd.S_drewN|apply Kd.S_drew);exact HO107.out,by repeat (first|(with_reducible first|exact HB.out|apply bA|apply bN|apply bD)|exact HB.out)⟩
 ·replace c4:=Bool.eq_false_iff.mpr c4
  subst c4
  have H1:(some (([]:List (S42)),false))=some (r1,r2):=by rw [if_neg (show ¬ (false=true) by decide)] at H;exact H
  clear H
  have H:=H1
  clear H1
  simp only [Option.some.injEq,Prod.mk.injEq] at H
  obtain ⟨rfl,rfl⟩:=H
  go_enter Try.func9,Try.ntmps9
  go_wp2_with (first|((with_reducible refine gate_callee (f:=25) rfl ?_);refine goesL_ (some 11) rfl rfl Try.func25 (by kernel_rfl) rfl #[.int .i64 a0,.slice A1 l1.length c1] rfl (by (try simp only [mT,mC,mN]);first|done|rfl|(simp only [lD,lT];rfl)) ?_;(with_reducible refine (impl_StoryOk.calls k a0 _ _ l1 false _ ?side1 ?side2 A3.out).mono ?_);(case side1=>repeat first|exact HR1.out|(with_reducible refine cA ?_ _)|(with_reducible refine cN ?_ _)|(with_reducible refine cD ?_));(case side2=>exact HC1.out);rintro e w26 ⟨rfl,hb⟩;refine ⟨_,rfl,?_⟩;have n0_:=mA (bT (by repeat first|(with_reducible first|exact HB.out|apply bA|apply bN|apply bD)|exact HB.out) hb);clear HB;have HB:=n0_;clear n0_;(try clear hb);(try clear hb2);(try clear hk);(try clear hi)))
  go_ret2
  exact ⟨_,by first|rfl|(simp [errW_none,errW_some]<;>rfl)|(simp [*, errW_none,errW_some]<;>rfl),by first|exact Kd.S_nil _ _ _ _ _|exact Kd.N_nil _ _ _ _ _|exact Kd.V_nil _ _ _ _ _|exact Kd.Q_nil _ _ _ _ _|exact Kd.R_nil _ _ _ _ _,by repeat (first|(with_reducible first|exact HB.out|apply bA|apply bN|apply bD)|exact HB.out)⟩
theorem impl_LeastStory.calls (k:Nat) (a0:Int) (A1:Option Addr) (c1:Nat) (l1:List (S42)) (r1:List (S42)) (r2:Bool) (w:World) (hr1:Kd.C k42 w A1 l1.length l1) (hc1:l1.length≤c1) (h:impl_LeastStory.f k a0 l1=some (r1,r2)) :
  Calls Try.prog 9 #[.int .i64 a0,.slice A1 l1.length c1] w fun e w'=>∃ v0_:Value,e = .returned (.tuple #[v0_,.bool r2])∧Kd.N k42 42 w' w.heap.size (fun k_=>(w.heap.size≤k_)) v0_ r1∧Below w.heap.size w w':=by
 refine (impl_LeastStory.callsS k a0 A1 c1 l1 r1 r2 w hr1 hc1 h).mono ?_
 rintro e w' ⟨v0_,h1,h2,h3⟩
 exact ⟨v0_,h1,Kd.N_mono (Kd.S_N (Kd.S_bound h2)) (fun k_ hk_=>hk_.2.1),h3⟩
/-! ### laws_eqMark: function 56 -/
def laws_eqMark.f (a0_0:Int) (a0_1:Int) (a1_0:Int) (a1_1:Int):Option (Bool):=if a0_0=a1_0 then (if a0_1=a1_1 then (some true) else (some false)) else (some false)
set_option maxHeartbeats 8000000 in
set_option maxRecDepth 100000 in
theorem laws_eqMark.calls (a0_0:Int) (a0_1:Int) (a1_0:Int) (a1_1:Int) (r:Bool) (w:World) (h:laws_eqMark.f a0_0 a0_1 a1_0 a1_1=some r) :
  Calls Try.prog 56 #[.agg #[.int .i64 a0_0,.int .i64 a0_1],.agg #[.int .i64 a1_0,.int .i64 a1_1]] w fun e w'=>e = .returned (.bool r)∧Below w.heap.size w w':=by
 have hu59:=Try.underlying59
 have HB:=mA (Below.refl w.heap.size w)
 have H:(if a0_0=a1_0 then (if a0_1=a1_1 then (some true) else (some false)) else (some false))=some r:=h
 clear h
 by_cases c3:a0_0=a1_0
 ·rw [if_pos c3] at H
  have c3b0:(a0_0==a1_0)=true:=beq_iff_eq.mpr c3
  have c3b1:(a0_0 != a1_0)=false:=bne_eq_false_iff_eq.mpr c3
  clear c3
  by_cases c4:a0_1=a1_1
  ·rw [if_pos c4] at H
   have c4b0:(a0_1==a1_1)=true:=beq_iff_eq.mpr c4
   have c4b1:(a0_1 != a1_1)=false:=bne_eq_false_iff_eq.mpr c4
   clear c4
   obtain rfl:=Option.some.inj H
   go_enter Try.func56,Try.ntmps56
   go_wp2_with (first|((with_reducible refine gate_dst (N:=2) rfl ?_);refine box_event ?hg (N:=2) ?hd (cs:=#[.int .i64 a0_0,.int .i64 a0_1]) (t:=59) ?hr ?_;(case hd=>rfl);(case hg=>rfl);(case hr=>first|(go_simp;done)|(go_simp;rfl));intro gb101 hg w5 hbox hb;have n0_:=mA (bT (by repeat first|(with_reducible first|exact HB.out|apply bA|apply bN|apply bD)|exact HB.out) hb);have n1_:=mA (hbox);have n2_:=mA ((by rw [hg];exact (bZ (by repeat first|(with_reducible first|exact HB.out|apply bA|apply bN|apply bD)|exact HB.out)):w.heap.size≤gb101));have n3_:=mA ((by rw [hg];exact (bZ (by repeat first|(with_reducible first|exact HB.out|apply bA|apply bN|apply bD)|exact HB.out)):w.heap.size≤gb101));clear HB;have HB:=n0_;have BK101:=n1_;have GW101:=n2_;have GE101:=n3_;clear n0_ n1_ n2_ n3_ hb hbox hg)|((with_reducible refine gate_dst (N:=3) rfl ?_);refine box_event ?hg (N:=3) ?hd (cs:=#[.int .i64 a1_0,.int .i64 a1_1]) (t:=59) ?hr ?_;(case hd=>rfl);(case hg=>rfl);(case hr=>first|(go_simp;done)|(go_simp;rfl));intro gb102 hg w6 hbox hb;have n0_:=mA (kB (g:=gb101) (o:=.cells #[.int .i64 a0_0,.int .i64 a0_1] 59 (0,0)) (by (with_reducible repeat first|refine kN ?_ _|refine kD ?_|refine kA ?_ _);exact BK101.out) hb);have n1_:=mA (bT (by repeat first|(with_reducible first|exact HB.out|apply bA|apply bN|apply bD|refine bS ?_ GE101.out)|exact HB.out) hb);have n2_:=mA (hbox);have n3_:=mA ((by rw [hg];exact (bZ (by repeat first|(with_reducible first|exact HB.out|apply bA|apply bN|apply bD|refine bS ?_ GE101.out)|exact HB.out)):w.heap.size≤gb102));have n4_:=mA ((by rw [hg];exact (bZ (by repeat first|(with_reducible first|exact HB.out|apply bA|apply bN|apply bD|refine bS ?_ GE101.out)|exact HB.out)):w.heap.size≤gb102));have n5_:=mA ((by rw [hg];exact Nat.ne_of_lt (kL (g:=gb101) (o:=.cells #[.int .i64 a0_0,.int .i64 a0_1] 59 (0,0)) (by (with_reducible repeat first|refine kN ?_ _|refine kD ?_|refine kA ?_ _);exact BK101.out)):gb101≠gb102));have n6_:=mA ((by rw [hg];exact Nat.ne_of_gt (kL (g:=gb101) (o:=.cells #[.int .i64 a0_0,.int .i64 a0_1] 59 (0,0)) (by (with_reducible repeat first|refine kN ?_ _|refine kD ?_|refine kA ?_ _);exact BK101.out)):gb102≠gb101));clear BK101 HB;have BK101:=n0_;have HB:=n1_;have BK102:=n2_;have GW102:=n3_;have GE102:=n4_;have NB101_102:=n5_;have NB102_101:=n6_;clear n0_ n1_ n2_ n3_ n4_ n5_ n6_ hb hbox hg;have hnb7:=NB101_102.out;have hnc7:=NB102_101.out;have hcz8_0:w6.cell? ⟨gb101,0,none⟩=some (.int .i64 a0_0):=(kC BK101.out 0).trans rfl;have hcz8_1:w6.cell? ⟨gb101,1,none⟩=some (.int .i64 a0_1):=(kC BK101.out 1).trans rfl;have hfz8_0:=kF BK101.out 0;have hfz8_1:=kF BK101.out 1;have hcz9_0:w6.cell? ⟨gb102,0,none⟩=some (.int .i64 a1_0):=(kC BK102.out 0).trans rfl;have hcz9_1:w6.cell? ⟨gb102,1,none⟩=some (.int .i64 a1_1):=(kC BK102.out 1).trans rfl;have hfz9_0:=kF BK102.out 0;have hfz9_1:=kF BK102.out 1))
   go_ret
   exact ⟨by first|rfl|(simp [errW_none,errW_some]<;>rfl)|(simp [*, errW_none,errW_some]<;>rfl),by repeat (first|(with_reducible first|exact HB.out|apply bA|apply bN|apply bD|refine bS ?_ GE101.out|refine bS ?_ GE102.out)|exact HB.out)⟩
  ·rw [if_neg c4] at H
   have c4b0:(a0_1==a1_1)=false:=beq_eq_false_iff_ne.mpr c4
   have c4b1:(a0_1 != a1_1)=true:=bne_iff_ne.mpr c4
   obtain rfl:=Option.some.inj H
   go_enter Try.func56,Try.ntmps56
   go_wp2_with (first|((with_reducible refine gate_dst (N:=2) rfl ?_);refine box_event ?hg (N:=2) ?hd (cs:=#[.int .i64 a0_0,.int .i64 a0_1]) (t:=59) ?hr ?_;(case hd=>rfl);(case hg=>rfl);(case hr=>first|(go_simp;done)|(go_simp;rfl));intro gb101 hg w10 hbox hb;have n0_:=mA (bT (by repeat first|(with_reducible first|exact HB.out|apply bA|apply bN|apply bD)|exact HB.out) hb);have n1_:=mA (hbox);have n2_:=mA ((by rw [hg];exact (bZ (by repeat first|(with_reducible first|exact HB.out|apply bA|apply bN|apply bD)|exact HB.out)):w.heap.size≤gb101));have n3_:=mA ((by rw [hg];exact (bZ (by repeat first|(with_reducible first|exact HB.out|apply bA|apply bN|apply bD)|exact HB.out)):w.heap.size≤gb101));clear HB;have HB:=n0_;have BK101:=n1_;have GW101:=n2_;have GE101:=n3_;clear n0_ n1_ n2_ n3_ hb hbox hg)|((with_reducible refine gate_dst (N:=3) rfl ?_);refine box_event ?hg (N:=3) ?hd (cs:=#[.int .i64 a1_0,.int .i64 a1_1]) (t:=59) ?hr ?_;(case hd=>rfl);(case hg=>rfl);(case hr=>first|(go_simp;done)|(go_simp;rfl));intro gb102 hg w11 hbox hb;have n0_:=mA (kB (g:=gb101) (o:=.cells #[.int .i64 a0_0,.int .i64 a0_1] 59 (0,0)) (by (with_reducible repeat first|refine kN ?_ _|refine kD ?_|refine kA ?_ _);exact BK101.out) hb);have n1_:=mA (bT (by repeat first|(with_reducible first|exact HB.out|apply bA|apply bN|apply bD|refine bS ?_ GE101.out)|exact HB.out) hb);have n2_:=mA (hbox);have n3_:=mA ((by rw [hg];exact (bZ (by repeat first|(with_reducible first|exact HB.out|apply bA|apply bN|apply bD|refine bS ?_ GE101.out)|exact HB.out)):w.heap.size≤gb102));have n4_:=mA ((by rw [hg];exact (bZ (by repeat first|(with_reducible first|exact HB.out|apply bA|apply bN|apply bD|refine bS ?_ GE101.out)|exact HB.out)):w.heap.size≤gb102));have n5_:=mA ((by rw [hg];exact Nat.ne_of_lt (kL (g:=gb101) (o:=.cells #[.int .i64 a0_0,.int .i64 a0_1] 59 (0,0)) (by (with_reducible repeat first|refine kN ?_ _|refine kD ?_|refine kA ?_ _);exact BK101.out)):gb101≠gb102));have n6_:=mA ((by rw [hg];exact Nat.ne_of_gt (kL (g:=gb101) (o:=.cells #[.int .i64 a0_0,.int .i64 a0_1] 59 (0,0)) (by (with_reducible repeat first|refine kN ?_ _|refine kD ?_|refine kA ?_ _);exact BK101.out)):gb102≠gb101));clear BK101 HB;have BK101:=n0_;have HB:=n1_;have BK102:=n2_;have GW102:=n3_;have GE102:=n4_;have NB101_102:=n5_;have NB102_101:=n6_;clear n0_ n1_ n2_ n3_ n4_ n5_ n6_ hb hbox hg;have hnb12:=NB101_102.out;have hnc12:=NB102_101.out;have hcz13_0:w11.cell? ⟨gb101,0,none⟩=some (.int .i64 a0_0):=(kC BK101.out 0).trans rfl;have hcz13_1:w11.cell? ⟨gb101,1,none⟩=some (.int .i64 a0_1):=(kC BK101.out 1).trans rfl;have hfz13_0:=kF BK101.out 0;have hfz13_1:=kF BK101.out 1;have hcz14_0:w11.cell? ⟨gb102,0,none⟩=some (.int .i64 a1_0):=(kC BK102.out 0).trans rfl;have hcz14_1:w11.cell? ⟨gb102,1,none⟩=some (.int .i64 a1_1):=(kC BK102.out 1).trans rfl;have hfz14_0:=kF BK102.out 0;have hfz14_1:=kF BK102.out 1))
   go_ret
   exact ⟨by first|rfl|(simp [errW_none,errW_some]<;>rfl)|(simp [*, errW_none,errW_some]<;>rfl),by repeat (first|(with_reducible first|exact HB.out|apply bA|apply bN|apply bD|refine bS ?_ GE101.out|refine bS ?_ GE102.out)|exact HB.out)⟩
 ·rw [if_neg c3] at H
  have c3b0:(a0_0==a1_0)=false:=beq_eq_false_iff_ne.mpr c3
  have c3b1:(a0_0 != a1_0)=true:=bne_iff_ne.mpr c3
  obtain rfl:=Option.some.inj H
  go_enter Try.func56,Try.ntmps56
  go_wp2_with (first|((with_reducible refine gate_dst (N:=2) rfl ?_);refine box_event ?hg (N:=2) ?hd (cs:=#[.int .i64 a0_0,.int .i64 a0_1]) (t:=59) ?hr ?_;(case hd=>rfl);(case hg=>rfl);(case hr=>first|(go_simp;done)|(go_simp;rfl));intro gb101 hg w15 hbox hb;have n0_:=mA (bT (by repeat first|(with_reducible first|exact HB.out|apply bA|apply bN|apply bD)|exact HB.out) hb);have n1_:=mA (hbox);have n2_:=mA ((by rw [hg];exact (bZ (by repeat first|(with_reducible first|exact HB.out|apply bA|apply bN|apply bD)|exact HB.out)):w.heap.size≤gb101));have n3_:=mA ((by rw [hg];exact (bZ (by repeat first|(with_reducible first|exact HB.out|apply bA|apply bN|apply bD)|exact HB.out)):w.heap.size≤gb101));clear HB;have HB:=n0_;have BK101:=n1_;have GW101:=n2_;have GE101:=n3_;clear n0_ n1_ n2_ n3_ hb hbox hg)|((with_reducible refine gate_dst (N:=3) rfl ?_);refine box_event ?hg (N:=3) ?hd (cs:=#[.int .i64 a1_0,.int .i64 a1_1]) (t:=59) ?hr ?_;(case hd=>rfl);(case hg=>rfl);(case hr=>first|(go_simp;done)|(go_simp;rfl));intro gb102 hg w16 hbox hb;have n0_:=mA (kB (g:=gb101) (o:=.cells #[.int .i64 a0_0,.int .i64 a0_1] 59 (0,0)) (by (with_reducible repeat first|refine kN ?_ _|refine kD ?_|refine kA ?_ _);exact BK101.out) hb);have n1_:=mA (bT (by repeat first|(with_reducible first|exact HB.out|apply bA|apply bN|apply bD|refine bS ?_ GE101.out)|exact HB.out) hb);have n2_:=mA (hbox);have n3_:=mA ((by rw [hg];exact (bZ (by repeat first|(with_reducible first|exact HB.out|apply bA|apply bN|apply bD|refine bS ?_ GE101.out)|exact HB.out)):w.heap.size≤gb102));have n4_:=mA ((by rw [hg];exact (bZ (by repeat first|(with_reducible first|exact HB.out|apply bA|apply bN|apply bD|refine bS ?_ GE101.out)|exact HB.out)):w.heap.size≤gb102));have n5_:=mA ((by rw [hg];exact Nat.ne_of_lt (kL (g:=gb101) (o:=.cells #[.int .i64 a0_0,.int .i64 a0_1] 59 (0,0)) (by (with_reducible repeat first|refine kN ?_ _|refine kD ?_|refine kA ?_ _);exact BK101.out)):gb101≠gb102));have n6_:=mA ((by rw [hg];exact Nat.ne_of_gt (kL (g:=gb101) (o:=.cells #[.int .i64 a0_0,.int .i64 a0_1] 59 (0,0)) (by (with_reducible repeat first|refine kN ?_ _|refine kD ?_|refine kA ?_ _);exact BK101.out)):gb102≠gb101));clear BK101 HB;have BK101:=n0_;have HB:=n1_;have BK102:=n2_;have GW102:=n3_;have GE102:=n4_;have NB101_102:=n5_;have NB102_101:=n6_;clear n0_ n1_ n2_ n3_ n4_ n5_ n6_ hb hbox hg;have hnb17:=NB101_102.out;have hnc17:=NB102_101.out;have hcz18_0:w16.cell? ⟨gb101,0,none⟩=some (.int .i64 a0_0):=(kC BK101.out 0).trans rfl;have hcz18_1:w16.cell? ⟨gb101,1,none⟩=some (.int .i64 a0_1):=(kC BK101.out 1).trans rfl;have hfz18_0:=kF BK101.out 0;have hfz18_1:=kF BK101.out 1;have hcz19_0:w16.cell? ⟨gb102,0,none⟩=some (.int .i64 a1_0):=(kC BK102.out 0).trans rfl;have hcz19_1:w16.cell? ⟨gb102,1,none⟩=some (.int .i64 a1_1):=(kC BK102.out 1).trans rfl;have hfz19_0:=kF BK102.out 0;have hfz19_1:=kF BK102.out 1))
  go_ret
  exact ⟨by first|rfl|(simp [errW_none,errW_some]<;>rfl)|(simp [*, errW_none,errW_some]<;>rfl),by repeat (first|(with_reducible first|exact HB.out|apply bA|apply bN|apply bD|refine bS ?_ GE101.out|refine bS ?_ GE102.out)|exact HB.out)⟩
/-! ### laws_eqMarkS: function 46 -/
def laws_eqMarkS.l0:Nat→List (S59)→List (S59)→Int→Option (Bool)
 | 0,_,_,_=>none
 | k+1,x0,x1,x5=>if x5<(x0.length:Int) then (if 0≤x5 then (if x5<(x1.length:Int) then ((laws_eqMark.f ((rd_T59 x0 x5).f0) ((rd_T59 x0 x5).f1) ((rd_T59 x1 x5).f0) ((rd_T59 x1 x5).f1)).bind fun t103=>(if t103=true then (laws_eqMarkS.l0 k x0 x1 (wrap64 (x5+1))) else (some false))) else (none)) else (none)) else (some true)
def laws_eqMarkS.f (k:Nat) (l0:List (S59)) (l1:List (S59)):Option (Bool):=if (l0.length:Int)=(l1.length:Int) then (laws_eqMarkS.l0 k l0 l1 0) else (some false)
theorem laws_eqMarkS.mono_l : ∀ k,(∀ y0 y1 y2,LeO (laws_eqMarkS.l0 k y0 y1 y2) (laws_eqMarkS.l0 (k+1) y0 y1 y2))
 | 0=>fun _ _ _ r h=>by simp [laws_eqMarkS.l0] at h
 | k+1=>by
  have ih0:=laws_eqMarkS.mono_l k
  ·intro y0 y1 y2
   unfold laws_eqMarkS.l0
   repeat' first
   | (with_reducible exact ih0 _ _ _)
   | (with_reducible exact LeO.refl _)
   | (with_reducible exact LeO.none _)
   | (with_reducible refine LeO.ite ?_ ?_)
   | (with_reducible refine LeO.bind ?_ (fun _=>?_))
   | exact ih0 _ _ _
   | exact LeO.none _
   | refine LeO.ite ?_ ?_
   | refine LeO.bind ?_ (fun _=>?_)
theorem laws_eqMarkS.mono : ∀ a0 a1 k,LeO (laws_eqMarkS.f k a0 a1) (laws_eqMarkS.f (k+1) a0 a1):=by
 intro a0 a1 k
 have ih0:=laws_eqMarkS.mono_l k
 unfold laws_eqMarkS.f
 repeat' first
   | (with_reducible exact ih0 _ _ _)
   | (with_reducible exact LeO.refl _)
   | (with_reducible exact LeO.none _)
   | (with_reducible refine LeO.ite ?_ ?_)
   | (with_reducible refine LeO.bind ?_ (fun _=>?_))
   | exact ih0 _ _ _
   | exact LeO.none _
   | refine LeO.ite ?_ ?_
   | refine LeO.bind ?_ (fun _=>?_)
def laws_eqMarkS.T6:Bool×List (List Nat×List Nat):=(true,[([],[]),([],[]),([0,1],[0,1]),([2],[2]),([],[]),([],[]),([4,5],[4,5]),([6],[6]),([3,7],[3,7]),([8],[8])])
def laws_eqMarkS.B6:List Nat:=[0,0,3,7,0,0,48,112,255,511]
theorem laws_eqMarkS.tab6:rtab .any (opsOf Try.f46 6)=laws_eqMarkS.T6:=by kernel_rfl
theorem laws_eqMarkS.bits6:waitsOk laws_eqMarkS.T6.2 laws_eqMarkS.B6=true:=by kernel_rfl
set_option maxHeartbeats 8000000 in
set_option maxRecDepth 100000 in
theorem laws_eqMarkS.calls (k:Nat) (A0:Option Addr) (c0:Nat) (l0:List (S59)) (A1:Option Addr) (c1:Nat) (l1:List (S59)) (r:Bool) (w:World) (hr0:Kd.C k59 w A0 l0.length l0) (hc0:l0.length≤c0) (hr1:Kd.C k59 w A1 l1.length l1) (hc1:l1.length≤c1) (h:laws_eqMarkS.f k l0 l1=some r) :
  Calls Try.prog 46 #[.slice A0 l0.length c0,.slice A1 l1.length c1] w fun e w'=>e = .returned (.bool r)∧Below w.heap.size w w':=by
 have hu59:=Try.underlying59
 have HR0:=mA hr0
 have HC0:=mA hc0
 clear hr0 hc0
 have HR1:=mA hr1
 have HC1:=mA hc1
 clear hr1 hc1
 have HB:=mA (Below.refl w.heap.size w)
 have H:(if (l0.length:Int)=(l1.length:Int) then (laws_eqMarkS.l0 k l0 l1 0) else (some false))=some r:=h
 clear h
 by_cases c3:(l0.length:Int)=(l1.length:Int)
 ·rw [if_pos c3] at H
  have c3b0:((l0.length:Int)==(l1.length:Int))=true:=beq_iff_eq.mpr c3
  have c3b1:((l0.length:Int) != (l1.length:Int))=false:=bne_eq_false_iff_eq.mpr c3
  have c3b2:(l0.length==l1.length)=true:=by first|simpa using c3|(simp at c3 ⊢;omega)
  clear c3
  have H':=mA H
  clear H
  go_enter Try.func46,Try.ntmps46
  go_wp2
  go_loopg [5] k (fun kq v5 w'=>∃ (x5_1:Int),v5 = .int .i64 x5_1∧Aside0 (laws_eqMarkS.l0 kq l0 l1 x5_1=some r)∧Aside0 (kq≤k)∧Aside0 (Below w.heap.size w w'))
  case atStart=>exact ⟨(0),(by first|rfl|(simp;done)|(simp [*];done)),H',⟨Nat.le_refl _⟩,⟨by repeat (first|(with_reducible first|exact HB.out|apply bA|apply bN|apply bD)|exact HB.out)⟩⟩
  case round =>
   clear H'
   try clear c1
   try clear p2
   try clear c3
   try clear c3b0
   try clear c3b1
   try clear c3b2
   obtain ⟨x5_1,rfl,HA,HK1,HB⟩:=hrel
   cases gk with
   | zero=>exact absurd HA.out (by simp [laws_eqMarkS.l0])
   | succ k1 =>
    have H:=HA.out
    clear HA
    simp only [laws_eqMarkS.l0] at H
    by_cases c4:x5_1<(l0.length:Int)
    ·rw [if_pos c4] at H
     have c4b0:decide (x5_1<(l0.length:Int))=true:=decide_eq_true c4
     clear c4
     by_cases c5:0≤x5_1
     ·rw [if_pos c5] at H
      have c5b0:decide (0≤x5_1)=true:=decide_eq_true c5
      clear c5
      by_cases c6:x5_1<(l1.length:Int)
      ·rw [if_pos c6] at H
       have c6b0:decide (x5_1<(l1.length:Int))=true:=decide_eq_true c6
       clear c6
       replace H:=Option.bind_eq_some_iff.mp H
       obtain ⟨t103,A70,H⟩:=H
       replace H:(if t103=true then (laws_eqMarkS.l0 k1 l0 l1 (wrap64 (x5_1+1))) else (some false))=some r:=H
       have A7:=mA A70
       clear A70
       by_cases c8:t103=true
       ·subst c8
        have H1:(laws_eqMarkS.l0 k1 l0 l1 (wrap64 (x5_1+1)))=some r:=by rw [if_pos rfl] at H;exact H
        clear H
        have H:=H1
        clear H1
        have H':=mA H
        clear H
        try go_wp2
        have n0_:=mA (bD HB.out)
        clear HB
        have HB:=n0_
        clear n0_
        have p101:0≤(x5_1:Int):=of_decide_eq_true (by first|with_reducible assumption|assumption)
        have q101:x5_1<(l0.length:Int):=of_decide_eq_true (by first|with_reducible assumption|assumption)
        obtain ⟨ad101,e101,hx101_0,hx101_1⟩:=at_T59 HR0.out x5_1 p101 q101
        have hw101_1:=hx101_1
        have hw101_0:=hx101_0
        cases e101
        replace hx101_0:=(HB.out.cell (World.block_lt_of_cell? w _ hx101_0)).trans hx101_0
        replace hx101_1:=(HB.out.cell (World.block_lt_of_cell? w _ hx101_1)).trans hx101_1
        replace p101:=eq_true p101
        replace q101:=eq_true q101
        have p102:0≤(x5_1:Int):=of_decide_eq_true (by first|with_reducible assumption|assumption)
        have q102:x5_1<(l1.length:Int):=of_decide_eq_true (by first|with_reducible assumption|assumption)
        obtain ⟨ad102,e102,hx102_0,hx102_1⟩:=at_T59 HR1.out x5_1 p102 q102
        have hw102_1:=hx102_1
        have hw102_0:=hx102_0
        cases e102
        replace hx102_0:=(HB.out.cell (World.block_lt_of_cell? w _ hx102_0)).trans hx102_0
        replace hx102_1:=(HB.out.cell (World.block_lt_of_cell? w _ hx102_1)).trans hx102_1
        replace p102:=eq_true p102
        replace q102:=eq_true q102
        refine start_ (n:=10) (S:=fun w'=>w'.cell? (ad101.add ((x5_1).toNat*2))=some (.int .i64 ((rd_T59 l0 x5_1).f0))∧w'.cell? ⟨(ad101.add ((x5_1).toNat*2)).block,(ad101.add ((x5_1).toNat*2)).off+1,none⟩=some (.int .i64 ((rd_T59 l0 x5_1).f1))∧w'.cell? (ad102.add ((x5_1).toNat*2))=some (.int .i64 ((rd_T59 l1 x5_1).f0))∧w'.cell? ⟨(ad102.add ((x5_1).toNat*2)).block,(ad102.add ((x5_1).toNat*2)).off+1,none⟩=some (.int .i64 ((rd_T59 l1 x5_1).f1))) (ds:=[]) #[O,O,O,O,O,O,O,O,O,O] (by kernel_rfl) rfl rfl ⟨((HB.out.cell (World.block_lt_of_cell? w _ hw101_0)).trans hw101_0),((HB.out.cell (World.block_lt_of_cell? w _ hw101_1)).trans hw101_1),((HB.out.cell (World.block_lt_of_cell? w _ hw102_0)).trans hw102_0),((HB.out.cell (World.block_lt_of_cell? w _ hw102_1)).trans hw102_1)⟩ (fun hHeld=>?_);refine with_tabW laws_eqMarkS.tab6 laws_eqMarkS.bits6 (fun HT_ HW_=>?_)
        generalize wr.drew=w9 at HB hx101_0 hx101_1 hx102_0 hx102_1 hHeld ⊢
        refine pure_ (i:=0) (N:=some 17) (v:=?_) (a':=?_) #[I,O,O,O,O,O,O,O,O,O] rfl rfl (any_of HT_.out (by kernel_rfl)) (fun _ _ _ h=>h) (Or.inl ⟨by rfl,?_⟩) ?_ ?_
        rotate_left
        ·intro w'
         go_simp
         with_reducible rfl
        rotate_left
        ·simp only [Act.put,sA,sZ,sS,i64_w,i32_w]
         rfl
        refine pure_ (i:=1) (N:=some 18) (v:=?_) (a':=?_) #[I,I,O,O,O,O,O,O,O,O] rfl rfl (any_of HT_.out (by kernel_rfl)) (fun _ _ _ h=>h) (Or.inl ⟨by rfl,?_⟩) ?_ ?_
        rotate_left
        ·intro w'
         go_simp
         with_reducible rfl
        rotate_left
        ·simp only [Act.put,sA,sZ,sS,i64_w,i32_w]
         rfl
        refine pure_ (i:=2) (N:=some 19) (v:=?_) (a':=?_) #[I,I,I,O,O,O,O,O,O,O] rfl rfl (any_of HT_.out (by kernel_rfl)) (fun _ _ _ h=>h) (Or.inl ⟨by rfl,?_⟩) ?_ ?_
        rotate_left
        ·intro w'
         go_simp
         with_reducible rfl
        rotate_left
        ·simp only [Act.put,sA,sZ,sS,i64_w,i32_w]
         rfl
        refine pure_ (i:=4) (N:=some 21) (v:=?_) (a':=?_) #[I,I,I,O,I,O,O,O,O,O] rfl rfl (any_of HT_.out (by kernel_rfl)) (fun _ _ _ h=>h) (Or.inl ⟨by rfl,?_⟩) ?_ ?_
        rotate_left
        ·intro w'
         go_simp
         with_reducible rfl
        rotate_left
        ·simp only [Act.put,sA,sZ,sS,i64_w,i32_w]
         rfl
        refine pure_ (i:=5) (N:=some 22) (v:=?_) (a':=?_) #[I,I,I,O,I,I,O,O,O,O] rfl rfl (any_of HT_.out (by kernel_rfl)) (fun _ _ _ h=>h) (Or.inl ⟨by rfl,?_⟩) ?_ ?_
        rotate_left
        ·intro w'
         go_simp
         with_reducible rfl
        rotate_left
        ·simp only [Act.put,sA,sZ,sS,i64_w,i32_w]
         rfl
        refine pure_ (i:=6) (N:=some 23) (v:=?_) (a':=?_) #[I,I,I,O,I,I,I,O,O,O] rfl rfl (any_of HT_.out (by kernel_rfl)) (fun _ _ _ h=>h) (Or.inl ⟨by rfl,?_⟩) ?_ ?_
        rotate_left
        ·intro w'
         go_simp
         with_reducible rfl
        rotate_left
        ·simp only [Act.put,sA,sZ,sS,i64_w,i32_w]
         rfl
        refine take_ (i:=3) (N:=some 20) (v:=?_) (a':=?_) #[I,I,I,I,I,I,I,O,O,O] rfl rfl (take_ofW HT_.out HW_.out (by kernel_rfl)) (fun _ _ _ h=>h) (Or.inl ⟨by rfl,?_⟩) hHeld ?_ ?_
        rotate_left
        ·rintro w' ⟨s0,s1,s2,s3⟩
         go_simp
         with_reducible rfl
        rotate_left
        ·simp only [Act.put,sA,sZ,sS,i64_w,i32_w]
         rfl
        refine take_ (i:=7) (N:=some 24) (v:=?_) (a':=?_) #[I,I,I,I,I,I,I,I,O,O] rfl rfl (take_ofW HT_.out HW_.out (by kernel_rfl)) (fun _ _ _ h=>h) (Or.inl ⟨by rfl,?_⟩) hHeld ?_ ?_
        rotate_left
        ·rintro w' ⟨s0,s1,s2,s3⟩
         go_simp
         with_reducible rfl
        rotate_left
        ·simp only [Act.put,sA,sZ,sS,i64_w,i32_w]
         rfl
        refine one_ (i:=8) (N:=some 25) #[I,I,I,I,I,I,I,I,I,O] rfl rfl (one_of HT_.out (by kernel_rfl)) (by decide) (fun K hK=>?_)
        refine goes_ Try.func56 (by kernel_rfl) rfl #[.agg #[.int .i64 ((rd_T59 l0 x5_1).f0),.int .i64 ((rd_T59 l0 x5_1).f1)],.agg #[.int .i64 ((rd_T59 l1 x5_1).f0),.int .i64 ((rd_T59 l1 x5_1).f1)]] (by rfl) rfl rfl (by (try simp only [mT,mC,mN]);first|done|rfl|(simp only [lD,lT];rfl)) ?_
        with_reducible refine (laws_eqMark.calls ((rd_T59 l0 x5_1).f0) ((rd_T59 l0 x5_1).f1) ((rd_T59 l1 x5_1).f0) ((rd_T59 l1 x5_1).f1) true _ A7.out).mono ?_
        rintro e w10 ⟨rfl,hb⟩
        refine ⟨_,rfl,?_⟩
        have n0_:=mA (bT (by repeat first|(with_reducible first|exact HB.out|apply bA|apply bN|apply bD)|exact HB.out) hb)
        clear HB
        have HB:=n0_
        clear n0_
        (try clear hb)
        (try clear hb2)
        (try clear hk)
        (try clear hi)
        refine hK.out _ _ ⟨((HB.out.cell (World.block_lt_of_cell? w _ hw101_0)).trans hw101_0),((HB.out.cell (World.block_lt_of_cell? w _ hw101_1)).trans hw101_1),((HB.out.cell (World.block_lt_of_cell? w _ hw102_0)).trans hw102_0),((HB.out.cell (World.block_lt_of_cell? w _ hw102_1)).trans hw102_1)⟩ (fun hHeld=>?_)
        clear hK K
        refine norm_ (a':=?_) ?_ ?_
        rotate_left
        ·show Act.put _ (some 25) _=_
         simp only [Act.put,sA,sZ,sS,i64_w,i32_w]
         rfl
        refine pure_ (i:=9) (N:=some 26) (v:=?_) (a':=?_) #[I,I,I,I,I,I,I,I,I,I] rfl rfl (any_of HT_.out (by kernel_rfl)) (fun _ _ _ h=>h) (Or.inl ⟨by rfl,?_⟩) ?_ ?_
        rotate_left
        ·intro w'
         go_simp
         with_reducible rfl
        rotate_left
        ·simp only [Act.put,sA,sZ,sS,i64_w,i32_w]
         rfl
        refine done_ (done_of HT_.out (by kernel_rfl)) ?_
        try go_wp2
        go_roundg k1
        case measure=>have:=HK1.out;omega
        case rel=>exact ⟨(wrap64 (x5_1+1)),(by first|rfl|(simp;done)|(simp [*];done)),H',⟨by have:=HK1.out;omega⟩,⟨by repeat (first|(with_reducible first|exact HB.out|apply bA|apply bN|apply bD)|exact HB.out)⟩⟩
       ·replace c8:=Bool.eq_false_iff.mpr c8
        subst c8
        have H1:(some false)=some r:=by rw [if_neg (show ¬ (false=true) by decide)] at H;exact H
        clear H
        have H:=H1
        clear H1
        obtain rfl:=Option.some.inj H
        try go_wp2
        have n0_:=mA (bD HB.out)
        clear HB
        have HB:=n0_
        clear n0_
        have p101:0≤(x5_1:Int):=of_decide_eq_true (by first|with_reducible assumption|assumption)
        have q101:x5_1<(l0.length:Int):=of_decide_eq_true (by first|with_reducible assumption|assumption)
        obtain ⟨ad101,e101,hx101_0,hx101_1⟩:=at_T59 HR0.out x5_1 p101 q101
        have hw101_1:=hx101_1
        have hw101_0:=hx101_0
        cases e101
        replace hx101_0:=(HB.out.cell (World.block_lt_of_cell? w _ hx101_0)).trans hx101_0
        replace hx101_1:=(HB.out.cell (World.block_lt_of_cell? w _ hx101_1)).trans hx101_1
        replace p101:=eq_true p101
        replace q101:=eq_true q101
        have p102:0≤(x5_1:Int):=of_decide_eq_true (by first|with_reducible assumption|assumption)
        have q102:x5_1<(l1.length:Int):=of_decide_eq_true (by first|with_reducible assumption|assumption)
        obtain ⟨ad102,e102,hx102_0,hx102_1⟩:=at_T59 HR1.out x5_1 p102 q102
        have hw102_1:=hx102_1
        have hw102_0:=hx102_0
        cases e102
        replace hx102_0:=(HB.out.cell (World.block_lt_of_cell? w _ hx102_0)).trans hx102_0
        replace hx102_1:=(HB.out.cell (World.block_lt_of_cell? w _ hx102_1)).trans hx102_1
        replace p102:=eq_true p102
        replace q102:=eq_true q102
        refine start_ (n:=10) (S:=fun w'=>w'.cell? (ad101.add ((x5_1).toNat*2))=some (.int .i64 ((rd_T59 l0 x5_1).f0))∧w'.cell? ⟨(ad101.add ((x5_1).toNat*2)).block,(ad101.add ((x5_1).toNat*2)).off+1,none⟩=some (.int .i64 ((rd_T59 l0 x5_1).f1))∧w'.cell? (ad102.add ((x5_1).toNat*2))=some (.int .i64 ((rd_T59 l1 x5_1).f0))∧w'.cell? ⟨(ad102.add ((x5_1).toNat*2)).block,(ad102.add ((x5_1).toNat*2)).off+1,none⟩=some (.int .i64 ((rd_T59 l1 x5_1).f1))) (ds:=[]) #[O,O,O,O,O,O,O,O,O,O] (by kernel_rfl) rfl rfl ⟨((HB.out.cell (World.block_lt_of_cell? w _ hw101_0)).trans hw101_0),((HB.out.cell (World.block_lt_of_cell? w _ hw101_1)).trans hw101_1),((HB.out.cell (World.block_lt_of_cell? w _ hw102_0)).trans hw102_0),((HB.out.cell (World.block_lt_of_cell? w _ hw102_1)).trans hw102_1)⟩ (fun hHeld=>?_);refine with_tabW laws_eqMarkS.tab6 laws_eqMarkS.bits6 (fun HT_ HW_=>?_)
        generalize wr.drew=w11 at HB hx101_0 hx101_1 hx102_0 hx102_1 hHeld ⊢
        refine pure_ (i:=0) (N:=some 17) (v:=?_) (a':=?_) #[I,O,O,O,O,O,O,O,O,O] rfl rfl (any_of HT_.out (by kernel_rfl)) (fun _ _ _ h=>h) (Or.inl ⟨by rfl,?_⟩) ?_ ?_
        rotate_left
        ·intro w'
         go_simp
         with_reducible rfl
        rotate_left
        ·simp only [Act.put,sA,sZ,sS,i64_w,i32_w]
         rfl
        refine pure_ (i:=1) (N:=some 18) (v:=?_) (a':=?_) #[I,I,O,O,O,O,O,O,O,O] rfl rfl (any_of HT_.out (by kernel_rfl)) (fun _ _ _ h=>h) (Or.inl ⟨by rfl,?_⟩) ?_ ?_
        rotate_left
        ·intro w'
         go_simp
         with_reducible rfl
        rotate_left
        ·simp only [Act.put,sA,sZ,sS,i64_w,i32_w]
         rfl
        refine pure_ (i:=2) (N:=some 19) (v:=?_) (a':=?_) #[I,I,I,O,O,O,O,O,O,O] rfl rfl (any_of HT_.out (by kernel_rfl)) (fun _ _ _ h=>h) (Or.inl ⟨by rfl,?_⟩) ?_ ?_
        rotate_left
        ·intro w'
         go_simp
         with_reducible rfl
        rotate_left
        ·simp only [Act.put,sA,sZ,sS,i64_w,i32_w]
         rfl
        refine pure_ (i:=4) (N:=some 21) (v:=?_) (a':=?_) #[I,I,I,O,I,O,O,O,O,O] rfl rfl (any_of HT_.out (by kernel_rfl)) (fun _ _ _ h=>h) (Or.inl ⟨by rfl,?_⟩) ?_ ?_
        rotate_left
        ·intro w'
         go_simp
         with_reducible rfl
        rotate_left
        ·simp only [Act.put,sA,sZ,sS,i64_w,i32_w]
         rfl
        refine pure_ (i:=5) (N:=some 22) (v:=?_) (a':=?_) #[I,I,I,O,I,I,O,O,O,O] rfl rfl (any_of HT_.out (by kernel_rfl)) (fun _ _ _ h=>h) (Or.inl ⟨by rfl,?_⟩) ?_ ?_
        rotate_left
        ·intro w'
         go_simp
         with_reducible rfl
        rotate_left
        ·simp only [Act.put,sA,sZ,sS,i64_w,i32_w]
         rfl
        refine pure_ (i:=6) (N:=some 23) (v:=?_) (a':=?_) #[I,I,I,O,I,I,I,O,O,O] rfl rfl (any_of HT_.out (by kernel_rfl)) (fun _ _ _ h=>h) (Or.inl ⟨by rfl,?_⟩) ?_ ?_
        rotate_left
        ·intro w'
         go_simp
         with_reducible rfl
        rotate_left
        ·simp only [Act.put,sA,sZ,sS,i64_w,i32_w]
         rfl
        refine take_ (i:=3) (N:=some 20) (v:=?_) (a':=?_) #[I,I,I,I,I,I,I,O,O,O] rfl rfl (take_ofW HT_.out HW_.out (by kernel_rfl)) (fun _ _ _ h=>h) (Or.inl ⟨by rfl,?_⟩) hHeld ?_ ?_
        rotate_left
        ·rintro w' ⟨s0,s1,s2,s3⟩
         go_simp
         with_reducible rfl
        rotate_left
        ·simp only [Act.put,sA,sZ,sS,i64_w,i32_w]
         rfl
        refine take_ (i:=7) (N:=some 24) (v:=?_) (a':=?_) #[I,I,I,I,I,I,I,I,O,O] rfl rfl (take_ofW HT_.out HW_.out (by kernel_rfl)) (fun _ _ _ h=>h) (Or.inl ⟨by rfl,?_⟩) hHeld ?_ ?_
        rotate_left
        ·rintro w' ⟨s0,s1,s2,s3⟩
         go_simp
         with_reducible rfl
        rotate_left
        ·simp only [Act.put,sA,sZ,sS,i64_w,i32_w]
         rfl
        refine one_ (i:=8) (N:=some 25) #[I,I,I,I,I,I,I,I,I,O] rfl rfl (one_of HT_.out (by kernel_rfl)) (by decide) (fun K hK=>?_)
        refine goes_ Try.func56 (by kernel_rfl) rfl #[.agg #[.int .i64 ((rd_T59 l0 x5_1).f0),.int .i64 ((rd_T59 l0 x5_1).f1)],.agg #[.int .i64 ((rd_T59 l1 x5_1).f0),.int .i64 ((rd_T59 l1 x5_1).f1)]] (by rfl) rfl rfl (by (try simp only [mT,mC,mN]);first|done|rfl|(simp only [lD,lT];rfl)) ?_
        with_reducible refine (laws_eqMark.calls ((rd_T59 l0 x5_1).f0) ((rd_T59 l0 x5_1).f1) ((rd_T59 l1 x5_1).f0) ((rd_T59 l1 x5_1).f1) false _ A7.out).mono ?_
        rintro e w12 ⟨rfl,hb⟩
        refine ⟨_,rfl,?_⟩
        have n0_:=mA (bT (by repeat first|(with_reducible first|exact HB.out|apply bA|apply bN|apply bD)|exact HB.out) hb)
        clear HB
        have HB:=n0_
        clear n0_
        (try clear hb)
        (try clear hb2)
        (try clear hk)
        (try clear hi)
        refine hK.out _ _ ⟨((HB.out.cell (World.block_lt_of_cell? w _ hw101_0)).trans hw101_0),((HB.out.cell (World.block_lt_of_cell? w _ hw101_1)).trans hw101_1),((HB.out.cell (World.block_lt_of_cell? w _ hw102_0)).trans hw102_0),((HB.out.cell (World.block_lt_of_cell? w _ hw102_1)).trans hw102_1)⟩ (fun hHeld=>?_)
        clear hK K
        refine norm_ (a':=?_) ?_ ?_
        rotate_left
        ·show Act.put _ (some 25) _=_
         simp only [Act.put,sA,sZ,sS,i64_w,i32_w]
         rfl
        refine pure_ (i:=9) (N:=some 26) (v:=?_) (a':=?_) #[I,I,I,I,I,I,I,I,I,I] rfl rfl (any_of HT_.out (by kernel_rfl)) (fun _ _ _ h=>h) (Or.inl ⟨by rfl,?_⟩) ?_ ?_
        rotate_left
        ·intro w'
         go_simp
         with_reducible rfl
        rotate_left
        ·simp only [Act.put,sA,sZ,sS,i64_w,i32_w]
         rfl
        refine done_ (done_of HT_.out (by kernel_rfl)) ?_
        try go_wp2
        go_ret
        exact ⟨by first|rfl|(simp [errW_none,errW_some]<;>rfl)|(simp [*, errW_none,errW_some]<;>rfl),by repeat (first|(with_reducible first|exact HB.out|apply bA|apply bN|apply bD)|exact HB.out)⟩
      ·rw [if_neg c6] at H
       exact absurd H (by simp)
     ·rw [if_neg c5] at H
      exact absurd H (by simp)
    ·rw [if_neg c4] at H
     have c4b0:decide (x5_1<(l0.length:Int))=false:=decide_eq_false c4
     clear c4
     obtain rfl:=Option.some.inj H
     go_wp2
     go_ret
     exact ⟨by first|rfl|(simp [errW_none,errW_some]<;>rfl)|(simp [*, errW_none,errW_some]<;>rfl),by repeat (first|(with_reducible first|exact HB.out|apply bA|apply bN|apply bD)|exact HB.out)⟩
 ·rw [if_neg c3] at H
  have c3b0:((l0.length:Int)==(l1.length:Int))=false:=beq_eq_false_iff_ne.mpr c3
  have c3b1:((l0.length:Int) != (l1.length:Int))=true:=bne_iff_ne.mpr c3
  have c3b2:(l0.length==l1.length)=false:=by first|simpa using c3|(simp at c3 ⊢;omega)
  obtain rfl:=Option.some.inj H
  go_enter Try.func46,Try.ntmps46
  go_wp2
  go_ret
  exact ⟨by first|rfl|(simp [errW_none,errW_some]<;>rfl)|(simp [*, errW_none,errW_some]<;>rfl),by repeat (first|(with_reducible first|exact HB.out|apply bA|apply bN|apply bD)|exact HB.out)⟩
/-! ### laws_eqClaim: function 29 -/
def laws_eqClaim.f (k:Nat) (a0_0:Int) (l0_1:List (S59)) (a1_0:Int) (l1_1:List (S59)):Option (Bool):=if a0_0=a1_0 then ((laws_eqMarkS.f k l0_1 l1_1).bind fun t103=>(if t103=true then (some true) else (some false))) else (some false)
theorem laws_eqClaim.mono : ∀ a0 a1 a2 a3 k,LeO (laws_eqClaim.f k a0 a1 a2 a3) (laws_eqClaim.f (k+1) a0 a1 a2 a3):=by
 intro a0 a1 a2 a3 k
 unfold laws_eqClaim.f
 repeat' first
   | (with_reducible exact laws_eqMarkS.mono _ _ _)
   | (with_reducible exact LeO.refl _)
   | (with_reducible exact LeO.none _)
   | (with_reducible refine LeO.ite ?_ ?_)
   | (with_reducible refine LeO.bind ?_ (fun _=>?_))
   | exact laws_eqMarkS.mono _ _ _
   | exact LeO.none _
   | refine LeO.ite ?_ ?_
   | refine LeO.bind ?_ (fun _=>?_)
set_option maxHeartbeats 8000000 in
set_option maxRecDepth 100000 in
theorem laws_eqClaim.calls (k:Nat) (a0_0:Int) (A0_1:Option Addr) (c0_1:Nat) (l0_1:List (S59)) (a1_0:Int) (A1_1:Option Addr) (c1_1:Nat) (l1_1:List (S59)) (r:Bool) (w:World) (hr0_1:Kd.C k59 w A0_1 l0_1.length l0_1) (hc0_1:l0_1.length≤c0_1) (hr1_1:Kd.C k59 w A1_1 l1_1.length l1_1) (hc1_1:l1_1.length≤c1_1) (h:laws_eqClaim.f k a0_0 l0_1 a1_0 l1_1=some r) :
  Calls Try.prog 29 #[.agg #[.int .i64 a0_0,.slice A0_1 l0_1.length c0_1],.agg #[.int .i64 a1_0,.slice A1_1 l1_1.length c1_1]] w fun e w'=>e = .returned (.bool r)∧Below w.heap.size w w':=by
 have hu42:=Try.underlying42
 have HR0_1:=mA hr0_1
 have HC0_1:=mA hc0_1
 clear hr0_1 hc0_1
 have HR1_1:=mA hr1_1
 have HC1_1:=mA hc1_1
 clear hr1_1 hc1_1
 have HB:=mA (Below.refl w.heap.size w)
 have H:(if a0_0=a1_0 then ((laws_eqMarkS.f k l0_1 l1_1).bind fun t103=>(if t103=true then (some true) else (some false))) else (some false))=some r:=h
 clear h
 by_cases c3:a0_0=a1_0
 ·rw [if_pos c3] at H
  have c3b0:(a0_0==a1_0)=true:=beq_iff_eq.mpr c3
  have c3b1:(a0_0 != a1_0)=false:=bne_eq_false_iff_eq.mpr c3
  clear c3
  replace H:=Option.bind_eq_some_iff.mp H
  obtain ⟨t103,A40,H⟩:=H
  replace H:(if t103=true then (some true) else (some false))=some r:=H
  have A4:=mA A40
  clear A40
  by_cases c5:t103=true
  ·subst c5
   have H1:(some true)=some r:=by rw [if_pos rfl] at H;exact H
   clear H
   have H:=H1
   clear H1
   obtain rfl:=Option.some.inj H
   go_enter Try.func29,Try.ntmps29
   go_wp2_with (first|((with_reducible refine gate_dst (N:=2) rfl ?_);refine box_event ?hg (N:=2) ?hd (cs:=#[.int .i64 a0_0,.slice A0_1 l0_1.length c0_1]) (t:=42) ?hr ?_;(case hd=>rfl);(case hg=>rfl);(case hr=>first|(go_simp;done)|(go_simp;rfl));intro gb101 hg w6 hbox hb;have n0_:=mA (bT (by repeat first|(with_reducible first|exact HB.out|apply bA|apply bN|apply bD)|exact HB.out) hb);have n1_:=mA (hbox);have n2_:=mA ((by rw [hg];exact (bZ (by repeat first|(with_reducible first|exact HB.out|apply bA|apply bN|apply bD)|exact HB.out)):w.heap.size≤gb101));have n3_:=mA ((by rw [hg];exact (bZ (by repeat first|(with_reducible first|exact HB.out|apply bA|apply bN|apply bD)|exact HB.out)):w.heap.size≤gb101));clear HB;have HB:=n0_;have BK101:=n1_;have GW101:=n2_;have GE101:=n3_;clear n0_ n1_ n2_ n3_ hb hbox hg)|((with_reducible refine gate_dst (N:=3) rfl ?_);refine box_event ?hg (N:=3) ?hd (cs:=#[.int .i64 a1_0,.slice A1_1 l1_1.length c1_1]) (t:=42) ?hr ?_;(case hd=>rfl);(case hg=>rfl);(case hr=>first|(go_simp;done)|(go_simp;rfl));intro gb102 hg w7 hbox hb;have n0_:=mA (kB (g:=gb101) (o:=.cells #[.int .i64 a0_0,.slice A0_1 l0_1.length c0_1] 42 (0,0)) (by (with_reducible repeat first|refine kN ?_ _|refine kD ?_|refine kA ?_ _);exact BK101.out) hb);have n1_:=mA (bT (by repeat first|(with_reducible first|exact HB.out|apply bA|apply bN|apply bD|refine bS ?_ GE101.out)|exact HB.out) hb);have n2_:=mA (hbox);have n3_:=mA ((by rw [hg];exact (bZ (by repeat first|(with_reducible first|exact HB.out|apply bA|apply bN|apply bD|refine bS ?_ GE101.out)|exact HB.out)):w.heap.size≤gb102));have n4_:=mA ((by rw [hg];exact (bZ (by repeat first|(with_reducible first|exact HB.out|apply bA|apply bN|apply bD|refine bS ?_ GE101.out)|exact HB.out)):w.heap.size≤gb102));have n5_:=mA ((by rw [hg];exact Nat.ne_of_lt (kL (g:=gb101) (o:=.cells #[.int .i64 a0_0,.slice A0_1 l0_1.length c0_1] 42 (0,0)) (by (with_reducible repeat first|refine kN ?_ _|refine kD ?_|refine kA ?_ _);exact BK101.out)):gb101≠gb102));have n6_:=mA ((by rw [hg];exact Nat.ne_of_gt (kL (g:=gb101) (o:=.cells #[.int .i64 a0_0,.slice A0_1 l0_1.length c0_1] 42 (0,0)) (by (with_reducible repeat first|refine kN ?_ _|refine kD ?_|refine kA ?_ _);exact BK101.out)):gb102≠gb101));clear BK101 HB;have BK101:=n0_;have HB:=n1_;have BK102:=n2_;have GW102:=n3_;have GE102:=n4_;have NB101_102:=n5_;have NB102_101:=n6_;clear n0_ n1_ n2_ n3_ n4_ n5_ n6_ hb hbox hg;have hnb8:=NB101_102.out;have hnc8:=NB102_101.out;have hcz9_0:w7.cell? ⟨gb101,0,none⟩=some (.int .i64 a0_0):=(kC BK101.out 0).trans rfl;have hcz9_1:w7.cell? ⟨gb101,1,none⟩=some (.slice A0_1 l0_1.length c0_1):=(kC BK101.out 1).trans rfl;have hfz9_0:=kF BK101.out 0;have hfz9_1:=kF BK101.out 1;have hcz10_0:w7.cell? ⟨gb102,0,none⟩=some (.int .i64 a1_0):=(kC BK102.out 0).trans rfl;have hcz10_1:w7.cell? ⟨gb102,1,none⟩=some (.slice A1_1 l1_1.length c1_1):=(kC BK102.out 1).trans rfl;have hfz10_0:=kF BK102.out 0;have hfz10_1:=kF BK102.out 1)|((with_reducible refine gate_callee (f:=46) rfl ?_);refine goesL_ (some 14) rfl rfl Try.func46 (by kernel_rfl) rfl #[.slice A0_1 l0_1.length c0_1,.slice A1_1 l1_1.length c1_1] rfl (by (try simp only [mT,mC,mN]);first|done|rfl|(simp only [lD,lT];rfl)) ?_;(with_reducible refine (laws_eqMarkS.calls k _ _ l0_1 _ _ l1_1 true _ ?side1 ?side2 ?side3 ?side4 A4.out).mono ?_);(case side1=>repeat first|exact (Kd.C_below HR0_1.out HB.out)|(with_reducible refine cA ?_ _)|(with_reducible refine cN ?_ _)|(with_reducible refine cD ?_));(case side2=>exact HC0_1.out);(case side3=>repeat first|exact (Kd.C_below HR1_1.out HB.out)|(with_reducible refine cA ?_ _)|(with_reducible refine cN ?_ _)|(with_reducible refine cD ?_));(case side4=>exact HC1_1.out);rintro e w11 ⟨rfl,hb⟩;refine ⟨_,rfl,?_⟩;have n0_:=mA (kB (g:=gb101) (o:=.cells #[.int .i64 a0_0,.slice A0_1 l0_1.length c0_1] 42 (0,0)) (by (with_reducible repeat first|refine kN ?_ _|refine kD ?_|refine kA ?_ _);exact BK101.out) hb);have n1_:=mA (kB (g:=gb102) (o:=.cells #[.int .i64 a1_0,.slice A1_1 l1_1.length c1_1] 42 (0,0)) (by (with_reducible repeat first|refine kN ?_ _|refine kD ?_|refine kA ?_ _);exact BK102.out) hb);have n2_:=mA (bT (by repeat first|(with_reducible first|exact HB.out|apply bA|apply bN|apply bD|refine bS ?_ GE101.out|refine bS ?_ GE102.out)|exact HB.out) hb);clear BK101 BK102 HB;have BK101:=n0_;have BK102:=n1_;have HB:=n2_;clear n0_ n1_ n2_;(try clear hb);(try clear hb2);(try clear hk);(try clear hi)))
   go_ret
   exact ⟨by first|rfl|(simp [errW_none,errW_some]<;>rfl)|(simp [*, errW_none,errW_some]<;>rfl),by repeat (first|(with_reducible first|exact HB.out|apply bA|apply bN|apply bD|refine bS ?_ GE101.out|refine bS ?_ GE102.out)|exact HB.out)⟩
  ·replace c5:=Bool.eq_false_iff.mpr c5
   subst c5
   have H1:(some false)=some r:=by rw [if_neg (show ¬ (false=true) by decide)] at H;exact H
   clear H
   have H:=H1
   clear H1
   obtain rfl:=Option.some.inj H
   go_enter Try.func29,Try.ntmps29
   go_wp2_with (first|((with_reducible refine gate_dst (N:=2) rfl ?_);refine box_event ?hg (N:=2) ?hd (cs:=#[.int .i64 a0_0,.slice A0_1 l0_1.length c0_1]) (t:=42) ?hr ?_;(case hd=>rfl);(case hg=>rfl);(case hr=>first|(go_simp;done)|(go_simp;rfl));intro gb101 hg w12 hbox hb;have n0_:=mA (bT (by repeat first|(with_reducible first|exact HB.out|apply bA|apply bN|apply bD)|exact HB.out) hb);have n1_:=mA (hbox);have n2_:=mA ((by rw [hg];exact (bZ (by repeat first|(with_reducible first|exact HB.out|apply bA|apply bN|apply bD)|exact HB.out)):w.heap.size≤gb101));have n3_:=mA ((by rw [hg];exact (bZ (by repeat first|(with_reducible first|exact HB.out|apply bA|apply bN|apply bD)|exact HB.out)):w.heap.size≤gb101));clear HB;have HB:=n0_;have BK101:=n1_;have GW101:=n2_;have GE101:=n3_;clear n0_ n1_ n2_ n3_ hb hbox hg)|((with_reducible refine gate_dst (N:=3) rfl ?_);refine box_event ?hg (N:=3) ?hd (cs:=#[.int .i64 a1_0,.slice A1_1 l1_1.length c1_1]) (t:=42) ?hr ?_;(case hd=>rfl);(case hg=>rfl);(case hr=>first|(go_simp;done)|(go_simp;rfl));intro gb102 hg w13 hbox hb;have n0_:=mA (kB (g:=gb101) (o:=.cells #[.int .i64 a0_0,.slice A0_1 l0_1.length c0_1] 42 (0,0)) (by (with_reducible repeat first|refine kN ?_ _|refine kD ?_|refine kA ?_ _);exact BK101.out) hb);have n1_:=mA (bT (by repeat first|(with_reducible first|exact HB.out|apply bA|apply bN|apply bD|refine bS ?_ GE101.out)|exact HB.out) hb);have n2_:=mA (hbox);have n3_:=mA ((by rw [hg];exact (bZ (by repeat first|(with_reducible first|exact HB.out|apply bA|apply bN|apply bD|refine bS ?_ GE101.out)|exact HB.out)):w.heap.size≤gb102));have n4_:=mA ((by rw [hg];exact (bZ (by repeat first|(with_reducible first|exact HB.out|apply bA|apply bN|apply bD|refine bS ?_ GE101.out)|exact HB.out)):w.heap.size≤gb102));have n5_:=mA ((by rw [hg];exact Nat.ne_of_lt (kL (g:=gb101) (o:=.cells #[.int .i64 a0_0,.slice A0_1 l0_1.length c0_1] 42 (0,0)) (by (with_reducible repeat first|refine kN ?_ _|refine kD ?_|refine kA ?_ _);exact BK101.out)):gb101≠gb102));have n6_:=mA ((by rw [hg];exact Nat.ne_of_gt (kL (g:=gb101) (o:=.cells #[.int .i64 a0_0,.slice A0_1 l0_1.length c0_1] 42 (0,0)) (by (with_reducible repeat first|refine kN ?_ _|refine kD ?_|refine kA ?_ _);exact BK101.out)):gb102≠gb101));clear BK101 HB;have BK101:=n0_;have HB:=n1_;have BK102:=n2_;have GW102:=n3_;have GE102:=n4_;have NB101_102:=n5_;have NB102_101:=n6_;clear n0_ n1_ n2_ n3_ n4_ n5_ n6_ hb hbox hg;have hnb14:=NB101_102.out;have hnc14:=NB102_101.out;have hcz15_0:w13.cell? ⟨gb101,0,none⟩=some (.int .i64 a0_0):=(kC BK101.out 0).trans rfl;have hcz15_1:w13.cell? ⟨gb101,1,none⟩=some (.slice A0_1 l0_1.length c0_1):=(kC BK101.out 1).trans rfl;have hfz15_0:=kF BK101.out 0;have hfz15_1:=kF BK101.out 1;have hcz16_0:w13.cell? ⟨gb102,0,none⟩=some (.int .i64 a1_0):=(kC BK102.out 0).trans rfl;have hcz16_1:w13.cell? ⟨gb102,1,none⟩=some (.slice A1_1 l1_1.length c1_1):=(kC BK102.out 1).trans rfl;have hfz16_0:=kF BK102.out 0;have hfz16_1:=kF BK102.out 1)|((with_reducible refine gate_callee (f:=46) rfl ?_);refine goesL_ (some 14) rfl rfl Try.func46 (by kernel_rfl) rfl #[.slice A0_1 l0_1.length c0_1,.slice A1_1 l1_1.length c1_1] rfl (by (try simp only [mT,mC,mN]);first|done|rfl|(simp only [lD,lT];rfl)) ?_;(with_reducible refine (laws_eqMarkS.calls k _ _ l0_1 _ _ l1_1 false _ ?side1 ?side2 ?side3 ?side4 A4.out).mono ?_);(case side1=>repeat first|exact (Kd.C_below HR0_1.out HB.out)|(with_reducible refine cA ?_ _)|(with_reducible refine cN ?_ _)|(with_reducible refine cD ?_));(case side2=>exact HC0_1.out);(case side3=>repeat first|exact (Kd.C_below HR1_1.out HB.out)|(with_reducible refine cA ?_ _)|(with_reducible refine cN ?_ _)|(with_reducible refine cD ?_));(case side4=>exact HC1_1.out);rintro e w17 ⟨rfl,hb⟩;refine ⟨_,rfl,?_⟩;have n0_:=mA (kB (g:=gb101) (o:=.cells #[.int .i64 a0_0,.slice A0_1 l0_1.length c0_1] 42 (0,0)) (by (with_reducible repeat first|refine kN ?_ _|refine kD ?_|refine kA ?_ _);exact BK101.out) hb);have n1_:=mA (kB (g:=gb102) (o:=.cells #[.int .i64 a1_0,.slice A1_1 l1_1.length c1_1] 42 (0,0)) (by (with_reducible repeat first|refine kN ?_ _|refine kD ?_|refine kA ?_ _);exact BK102.out) hb);have n2_:=mA (bT (by repeat first|(with_reducible first|exact HB.out|apply bA|apply bN|apply bD|refine bS ?_ GE101.out|refine bS ?_ GE102.out)|exact HB.out) hb);clear BK101 BK102 HB;have BK101:=n0_;have BK102:=n1_;have HB:=n2_;clear n0_ n1_ n2_;(try clear hb);(try clear hb2);(try clear hk);(try clear hi)))
   go_ret
   exact ⟨by first|rfl|(simp [errW_none,errW_some]<;>rfl)|(simp [*, errW_none,errW_some]<;>rfl),by repeat (first|(with_reducible first|exact HB.out|apply bA|apply bN|apply bD|refine bS ?_ GE101.out|refine bS ?_ GE102.out)|exact HB.out)⟩
 ·rw [if_neg c3] at H
  have c3b0:(a0_0==a1_0)=false:=beq_eq_false_iff_ne.mpr c3
  have c3b1:(a0_0 != a1_0)=true:=bne_iff_ne.mpr c3
  obtain rfl:=Option.some.inj H
  go_enter Try.func29,Try.ntmps29
  go_wp2_with (first|((with_reducible refine gate_dst (N:=2) rfl ?_);refine box_event ?hg (N:=2) ?hd (cs:=#[.int .i64 a0_0,.slice A0_1 l0_1.length c0_1]) (t:=42) ?hr ?_;(case hd=>rfl);(case hg=>rfl);(case hr=>first|(go_simp;done)|(go_simp;rfl));intro gb101 hg w18 hbox hb;have n0_:=mA (bT (by repeat first|(with_reducible first|exact HB.out|apply bA|apply bN|apply bD)|exact HB.out) hb);have n1_:=mA (hbox);have n2_:=mA ((by rw [hg];exact (bZ (by repeat first|(with_reducible first|exact HB.out|apply bA|apply bN|apply bD)|exact HB.out)):w.heap.size≤gb101));have n3_:=mA ((by rw [hg];exact (bZ (by repeat first|(with_reducible first|exact HB.out|apply bA|apply bN|apply bD)|exact HB.out)):w.heap.size≤gb101));clear HB;have HB:=n0_;have BK101:=n1_;have GW101:=n2_;have GE101:=n3_;clear n0_ n1_ n2_ n3_ hb hbox hg)|((with_reducible refine gate_dst (N:=3) rfl ?_);refine box_event ?hg (N:=3) ?hd (cs:=#[.int .i64 a1_0,.slice A1_1 l1_1.length c1_1]) (t:=42) ?hr ?_;(case hd=>rfl);(case hg=>rfl);(case hr=>first|(go_simp;done)|(go_simp;rfl));intro gb102 hg w19 hbox hb;have n0_:=mA (kB (g:=gb101) (o:=.cells #[.int .i64 a0_0,.slice A0_1 l0_1.length c0_1] 42 (0,0)) (by (with_reducible repeat first|refine kN ?_ _|refine kD ?_|refine kA ?_ _);exact BK101.out) hb);have n1_:=mA (bT (by repeat first|(with_reducible first|exact HB.out|apply bA|apply bN|apply bD|refine bS ?_ GE101.out)|exact HB.out) hb);have n2_:=mA (hbox);have n3_:=mA ((by rw [hg];exact (bZ (by repeat first|(with_reducible first|exact HB.out|apply bA|apply bN|apply bD|refine bS ?_ GE101.out)|exact HB.out)):w.heap.size≤gb102));have n4_:=mA ((by rw [hg];exact (bZ (by repeat first|(with_reducible first|exact HB.out|apply bA|apply bN|apply bD|refine bS ?_ GE101.out)|exact HB.out)):w.heap.size≤gb102));have n5_:=mA ((by rw [hg];exact Nat.ne_of_lt (kL (g:=gb101) (o:=.cells #[.int .i64 a0_0,.slice A0_1 l0_1.length c0_1] 42 (0,0)) (by (with_reducible repeat first|refine kN ?_ _|refine kD ?_|refine kA ?_ _);exact BK101.out)):gb101≠gb102));have n6_:=mA ((by rw [hg];exact Nat.ne_of_gt (kL (g:=gb101) (o:=.cells #[.int .i64 a0_0,.slice A0_1 l0_1.length c0_1] 42 (0,0)) (by (with_reducible repeat first|refine kN ?_ _|refine kD ?_|refine kA ?_ _);exact BK101.out)):gb102≠gb101));clear BK101 HB;have BK101:=n0_;have HB:=n1_;have BK102:=n2_;have GW102:=n3_;have GE102:=n4_;have NB101_102:=n5_;have NB102_101:=n6_;clear n0_ n1_ n2_ n3_ n4_ n5_ n6_ hb hbox hg;have hnb20:=NB101_102.out;have hnc20:=NB102_101.out;have hcz21_0:w19.cell? ⟨gb101,0,none⟩=some (.int .i64 a0_0):=(kC BK101.out 0).trans rfl;have hcz21_1:w19.cell? ⟨gb101,1,none⟩=some (.slice A0_1 l0_1.length c0_1):=(kC BK101.out 1).trans rfl;have hfz21_0:=kF BK101.out 0;have hfz21_1:=kF BK101.out 1;have hcz22_0:w19.cell? ⟨gb102,0,none⟩=some (.int .i64 a1_0):=(kC BK102.out 0).trans rfl;have hcz22_1:w19.cell? ⟨gb102,1,none⟩=some (.slice A1_1 l1_1.length c1_1):=(kC BK102.out 1).trans rfl;have hfz22_0:=kF BK102.out 0;have hfz22_1:=kF BK102.out 1))
  go_ret
  exact ⟨by first|rfl|(simp [errW_none,errW_some]<;>rfl)|(simp [*, errW_none,errW_some]<;>rfl),by repeat (first|(with_reducible first|exact HB.out|apply bA|apply bN|apply bD|refine bS ?_ GE101.out|refine bS ?_ GE102.out)|exact HB.out)⟩
end Go.Proofs.Ytbhjeiphmnanoaa.X
