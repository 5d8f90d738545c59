/- Joined by a program of this session's: X29, X74, X95, X96, X97, LDT, LTR, LC, X93, LCT, LH, LHW, LTB, LTY, LTO, LTS, X47, LW. -/
import Derived.Test.YtpampekijfjlkaaGb265ce0487
import Derived.Test.YtpampekijfjlkaaG59f44119b0
import Derived.Test.YtpampekijfjlkaaG6f5345e18b
import Derived.Test.YtpampekijfjlkaaG70e0c375a6
import Derived.Test.YtpampekijfjlkaaG3bb1aa4afd
import Derived.Test.YtpampekijfjlkaaGd128a151e1
import Derived.Laws.BitsLemmas

-- printed by a program of this session's (xprint)
namespace Go.Proofs.Ytpampekijfjlkaa.X
open Go.RowKit Go.Proofs.YtpampekijfjlkaaW.PrintWords Go.Proofs.YtpampekijfjlkaaW.PrintLast Go.Proofs.YtpampekijfjlkaaW.PrintMore
attribute [local go_sem] max2_int min2_int max_two min_two max_three min_three max_four min_four   -- for this text's walks alone
set_option linter.unusedVariables false
set_option linter.unusedSimpArgs false

/-! ### impl_tableBy: function 109, over any function value -/
def impl_tableBy.l0 (F : Nat → Int → Option Bool) : Nat → Int → Int → Int → Option (Int)
 | 0, _, _, _ => none
 | k + 1, x5, x8, x9 => if x9 < x8 then ((F k x9).bind fun t308 => (if t308 = true then (if 0 ≤ x9 then (impl_tableBy.l0 F k (Go.bits .or .i64 x5 (shl .i64 1 x9)) x8 (wrap64 (x9 + 1))) else (none)) else (impl_tableBy.l0 F k x5 x8 (wrap64 (x9 + 1))))) else (some x5)
def impl_tableBy.f (F : Nat → Int → Option Bool) (k : Nat) (a0 : Int) : Option (Int) := if 0 ≤ a0 then (impl_tableBy.l0 F k 0 (shl .i64 1 a0) 0) else (none)
theorem impl_tableBy.mono_l {F : Nat → Int → Option Bool} (hF : ∀ k x, LeO (F k x) (F (k + 1) x)) : ∀ k, (∀ y0 y1 y2, LeO (impl_tableBy.l0 F k y0 y1 y2) (impl_tableBy.l0 F (k + 1) y0 y1 y2))
 | 0 => fun _ _ _ r h => by simp [impl_tableBy.l0] at h
 | k + 1 => by
  have ih0 := impl_tableBy.mono_l hF k
  ·intro y0 y1 y2
   unfold impl_tableBy.l0
   repeat' first
   | (with_reducible exact ih0 _ _ _)
   | (with_reducible exact hF _ _)
   | (with_reducible exact LeO.refl _)
   | (with_reducible exact LeO.none _)
   | (with_reducible refine LeO.ite ?_ ?_)
   | (with_reducible refine LeO.bind ?_ (fun _ => ?_))
theorem impl_tableBy.mono {F : Nat → Int → Option Bool} (hF : ∀ k x, LeO (F k x) (F (k + 1) x)) (a0 : Int) (k : Nat) : LeO (impl_tableBy.f F k a0) (impl_tableBy.f F (k + 1) a0) := by
 have ih0 := impl_tableBy.mono_l hF k
 unfold impl_tableBy.f
 repeat' first
   | (with_reducible exact ih0 _ _ _)
   | (with_reducible exact LeO.none _)
   | (with_reducible refine LeO.ite ?_ ?_)
set_option maxHeartbeats 8000000 in
set_option maxRecDepth 100000 in
theorem impl_tableBy.calls (F : Nat → Int → Option Bool) {CF : FuncId} {fn : Func} (hf : Try.prog.funcs[CF]? = some fn) (hname : (fn.name == "runtime.NumGoroutine") = false) (hbody : fn.body.isSome = true) (CB : Array Value) (k : Nat) (a0 : Int) (r : Int) (w : World)
  (hF : ∀ (k : Nat) (x : Int) (b : Bool) (W : World), Below w.heap.size w W → F k x = some b → Calls Try.prog CF (#[.int .i64 x] ++ CB) W fun e w' => e = .returned (.bool b) ∧ Below W.heap.size W w')
  (h : impl_tableBy.f F k a0 = some r) :
  Calls Try.prog 109 #[.int .i64 a0, .func (.func CF) #[] CB] w fun e w' => e = .returned (.int .i64 r) ∧ Below w.heap.size w w' := by
 have hcf : ∀ (args : Array Value) (W : World), (callFunc CF args).run Try.prog W = .ok (.enter CF args) W := fun args W => enters_ hf hname hbody args W
 have HB := Aside0.mk (Below.refl w.heap.size w)
 have H : (if 0 ≤ a0 then (impl_tableBy.l0 F k 0 (shl .i64 1 a0) 0) else (none)) = some r := h
 clear h
 by_cases c3 : 0 ≤ a0
 ·rw [if_pos c3] at H
  have c3b0 := eq_true c3
  have c3b1 : decide (0 ≤ a0) = true := decide_eq_true c3
  clear c3
  obtain ⟨ji4, hji4⟩ : ∃ j_ : Int, (shl .i64 1 a0) = j_ := ⟨_, rfl⟩
  replace H : (impl_tableBy.l0 F k 0 ji4 0) = some r := by rw [hji4] at H; exact H
  have hji4_ : (IntKind.i64.wrap (1 * 2 ^ min a0.toNat 64)) = ji4 := hji4
  have hji4z : a0 ≤ 64 → (IntKind.i64.wrap (1 * 2 ^ a0.toNat)) = ji4 := shl_small hji4
  have hji4u : (IntKind.i64.wrap (2 ^ min a0.toNat 64)) = ji4 := by have h_ := hji4_; rw [Int.one_mul] at h_; exact h_
  have hji4v : a0 ≤ 64 → (IntKind.i64.wrap (2 ^ a0.toNat)) = ji4 := fun hle_ => by have h_ := hji4z hle_; rw [Int.one_mul] at h_; exact h_
  have hji4y : (wrap64 (1 * 2 ^ min a0.toNat 64)) = ji4 := (i64_w _).symm.trans hji4_
  have hji4x : a0 ≤ 64 → (wrap64 (1 * 2 ^ a0.toNat)) = ji4 := fun h_ => (i64_w _).symm.trans (hji4z h_)
  have H' := Aside0.mk H
  clear H
  go_enter Try.func109, Try.ntmps109
  go_wp2
  go_loopg [5, 9] k (fun kq v5 v9 w' => ∃ (x5_1 : Int) (x9_1 : Int), v5 = .int .i64 x5_1 ∧ v9 = .int .i64 x9_1 ∧ Aside0 (impl_tableBy.l0 F kq x5_1 ji4 x9_1 = some r) ∧ Aside0 (kq ≤ k) ∧ Aside0 (Below w.heap.size w w'))
  case atStart => exact ⟨(0), (0), (by first | rfl | (simp; done) | (simp [*]; done)), (by first | rfl | (simp; done) | (simp [*]; done)), H', ⟨Nat.le_refl _⟩, ⟨(by repeat (first | (with_reducible first | exact HB.out | apply below_alloc | apply pw_below_drewN | apply below_drew1) | exact HB.out))⟩⟩
  case round =>
   clear H'
   try clear c1
   try clear p2
   try clear c3
   try clear c3b0
   try clear c3b1
   obtain ⟨x5_1, x9_1, rfl, rfl, HA, HK1, HB⟩ := hrel
   cases gk with
   | zero => exact absurd HA.out (by simp [impl_tableBy.l0])
   | succ k1 =>
    have H := HA.out
    clear HA
    simp only [impl_tableBy.l0] at H
    by_cases c5 : x9_1 < ji4
    ·rw [if_pos c5] at H
     have c5b0 : decide (x9_1 < ji4) = true := decide_eq_true c5
     clear c5
     replace H := Option.bind_eq_some_iff.mp H
     obtain ⟨t308, A60, H⟩ := H
     replace H : (if t308 = true then (if 0 ≤ x9_1 then (impl_tableBy.l0 F k1 (Go.bits .or .i64 x5_1 (shl .i64 1 x9_1)) ji4 (wrap64 (x9_1 + 1))) else (none)) else (impl_tableBy.l0 F k1 x5_1 ji4 (wrap64 (x9_1 + 1)))) = some r := H
     have A6 := Aside0.mk A60
     clear A60
     by_cases c7 : t308 = true
     ·subst c7
      have H1 : (if 0 ≤ x9_1 then (impl_tableBy.l0 F k1 (Go.bits .or .i64 x5_1 (shl .i64 1 x9_1)) ji4 (wrap64 (x9_1 + 1))) else (none)) = some r := by rw [if_pos rfl] at H; exact H
      clear H
      have H := H1
      clear H1
      by_cases c8 : 0 ≤ x9_1
      ·rw [if_pos c8] at H
       have c8b0 := eq_true c8
       have c8b1 : decide (0 ≤ x9_1) = true := decide_eq_true c8
       clear c8
       obtain ⟨ji9, hji9⟩ : ∃ j_ : Int, (shl .i64 1 x9_1) = j_ := ⟨_, rfl⟩
       replace H : (impl_tableBy.l0 F k1 (Go.bits .or .i64 x5_1 (ji9)) ji4 (wrap64 (x9_1 + 1))) = some r := by first | (rw [hji9] at H; exact H) | (simp only [hji9] at H ⊢; exact H)
       have hji9_ : (IntKind.i64.wrap (1 * 2 ^ min x9_1.toNat 64)) = ji9 := hji9
       have hji9z : x9_1 ≤ 64 → (IntKind.i64.wrap (1 * 2 ^ x9_1.toNat)) = ji9 := shl_small hji9
       have hji9u : (IntKind.i64.wrap (2 ^ min x9_1.toNat 64)) = ji9 := by have h_ := hji9_; rw [Int.one_mul] at h_; exact h_
       have hji9v : x9_1 ≤ 64 → (IntKind.i64.wrap (2 ^ x9_1.toNat)) = ji9 := fun hle_ => by have h_ := hji9z hle_; rw [Int.one_mul] at h_; exact h_
       have hji9y : (wrap64 (1 * 2 ^ min x9_1.toNat 64)) = ji9 := (i64_w _).symm.trans hji9_
       have hji9x : x9_1 ≤ 64 → (wrap64 (1 * 2 ^ x9_1.toNat)) = ji9 := fun h_ => (i64_w _).symm.trans (hji9z h_)
       have H' := Aside0.mk H
       clear H
       go_wp2_with (first | ((with_reducible refine (hF k1 x9_1 true _ ?sideB A6.out).mono ?_); (case sideB => exact (by repeat (first | (with_reducible first | exact HB.out | apply below_alloc | apply pw_below_drewN | apply below_drew1) | exact HB.out))); rintro e w10 ⟨rfl, hb⟩; have n0_ := Aside0.mk (below_step (by repeat (first | (with_reducible first | exact HB.out | apply below_alloc | apply pw_below_drewN | apply below_drew1) | exact HB.out)) hb); clear HB; have HB := n0_; clear n0_; (try clear hb)))
       go_roundg k1
       case measure => have := HK1.out; omega
       case rel => exact ⟨(Go.bits .or .i64 x5_1 (ji9)), (wrap64 (x9_1 + 1)), (by first | rfl | (simp; done) | (simp only [← hji9] <;> (first | rfl | simp)) | (simp [*]; done)), (by first | rfl | (simp; done) | (simp [*]; done)), H', ⟨by have := HK1.out; omega⟩, ⟨(by repeat (first | (with_reducible first | exact HB.out | apply below_alloc | apply pw_below_drewN | apply below_drew1) | exact HB.out))⟩⟩
      ·rw [if_neg c8] at H
       exact absurd H (by simp)
     ·replace c7 := Bool.eq_false_iff.mpr c7
      subst c7
      have H1 : (impl_tableBy.l0 F k1 x5_1 ji4 (wrap64 (x9_1 + 1))) = some r := by rw [if_neg (show ¬ (false = true) by decide)] at H; exact H
      clear H
      have H := H1
      clear H1
      have H' := Aside0.mk H
      clear H
      go_wp2_with (first | ((with_reducible refine (hF k1 x9_1 false _ ?sideB A6.out).mono ?_); (case sideB => exact (by repeat (first | (with_reducible first | exact HB.out | apply below_alloc | apply pw_below_drewN | apply below_drew1) | exact HB.out))); rintro e w10 ⟨rfl, hb⟩; have n0_ := Aside0.mk (below_step (by repeat (first | (with_reducible first | exact HB.out | apply below_alloc | apply pw_below_drewN | apply below_drew1) | exact HB.out)) hb); clear HB; have HB := n0_; clear n0_; (try clear hb)))
      go_roundg k1
      case measure => have := HK1.out; omega
      case rel => exact ⟨(x5_1), (wrap64 (x9_1 + 1)), (by first | rfl | (simp; done) | (simp [*]; done)), (by first | rfl | (simp; done) | (simp [*]; done)), H', ⟨by have := HK1.out; omega⟩, ⟨(by repeat (first | (with_reducible first | exact HB.out | apply below_alloc | apply pw_below_drewN | apply below_drew1) | exact HB.out))⟩⟩
    ·rw [if_neg c5] at H
     have c5b0 : decide (x9_1 < ji4) = false := decide_eq_false c5
     clear c5
     obtain rfl := Option.some.inj H
     go_wp2
     go_ret
     exact ⟨by first | rfl | (simp; done) | (simp only [← hji4]; rfl) | (simp [*]; done), (by repeat (first | (with_reducible first | exact HB.out | apply below_alloc | apply pw_below_drewN | apply below_drew1) | exact HB.out))⟩
 ·rw [if_neg c3] at H
  exact absurd H (by simp)

end Go.Proofs.Ytpampekijfjlkaa.X

-- printed by a program of this session's (xprint)
namespace Go.Proofs.Ytpampekijfjlkaa.X
open Go.RowKit Go.Proofs.YtpampekijfjlkaaW.PrintWords Go.Proofs.YtpampekijfjlkaaW.PrintLast Go.Proofs.YtpampekijfjlkaaW.PrintMore
attribute [local go_sem] max2_int min2_int max_two min_two max_three min_three max_four min_four   -- for this text's walks alone
set_option linter.unusedVariables false
set_option linter.unusedSimpArgs false

/-! ### impl_TableOf: function 48; what it hands to tableBy: function 112 -/
def impl_TableOf.f (k : Nat) (a0 : Int) (l1 : List (S52)) : Option (Int) := (impl_TermOk.f k a0 l1).bind fun t => (if t = true then (impl_tableBy.f (fun k_ x_ => impl_holds.f k_ l1 x_) k a0) else (some (-1)))
theorem impl_TableOf.mono : ∀ a0 l1 k, LeO (impl_TableOf.f k a0 l1) (impl_TableOf.f (k + 1) a0 l1) := by
 intro a0 l1 k
 unfold impl_TableOf.f
 refine LeO.bind (impl_TermOk.mono _ _ _) (fun _ => ?_)
 refine LeO.ite ?_ (LeO.refl _)
 exact impl_tableBy.mono (fun k x => impl_holds.mono _ _ _) _ _
set_option maxHeartbeats 8000000 in
set_option maxRecDepth 100000 in
theorem impl_TableOf.calls_1 (k : Nat) (A1 : Option Addr) (c1 : Nat) (l1 : List (S52)) (gb1 : Nat) (x : Int) (b : Bool) (w : World) (hg : w.heap[gb1]? = some (.cells #[.slice A1 l1.length c1] 34 (0, 0))) (hr1 : Kd.C k52 w A1 l1.length l1) (hc1 : l1.length ≤ c1) (h : impl_holds.f k l1 x = some b) :
  Calls Try.prog 112 #[.int .i64 x, .pointer (some ⟨gb1, 0, none⟩)] w fun e w' => e = .returned (.bool b) ∧ Below w.heap.size w w' := by
 have HR1 := Aside0.mk hr1
 have HC1 := Aside0.mk hc1
 clear hr1 hc1
 have HB := Aside0.mk (Below.refl w.heap.size w)
 have A6 := Aside0.mk h
 clear h
 have hcz0 : w.cell? ⟨gb1, 0, none⟩ = some (.slice A1 l1.length c1) := (blk_cell hg 0).trans rfl
 have hfz0 := blk_frozen hg 0
 clear hg
 go_enter Try.func112, Try.ntmps112
 go_wp2_with (first | ((with_reducible refine gate_callee (f := 102) rfl ?_); refine goesL_ (some 6) rfl rfl Try.func102 (by kernel_rfl) rfl #[.slice A1 l1.length c1, .int .i64 x] rfl (by (try simp only [List.map_toArray, List.map_cons, List.map_nil]); first | done | rfl) ?_; (with_reducible refine (impl_holds.calls k _ _ l1 x b _ ?side1 ?side2 A6.out).mono ?_); (case side1 => repeat (first | exact (Kd.C_below HR1.out HB.out) | (with_reducible refine Kd.C_alloc ?_ _) | (with_reducible refine Kd.C_drewN ?_ _) | (with_reducible refine Kd.C_drew ?_))); (case side2 => exact HC1.out);  rintro e w12 ⟨rfl, hb⟩; refine ⟨_, rfl, ?_⟩; have n0_ := Aside0.mk (below_step (by repeat (first | (with_reducible first | exact HB.out | apply below_alloc | apply pw_below_drewN | apply below_drew1) | exact HB.out)) hb); clear HB; have HB := n0_; clear n0_; (try clear hb)))
 go_ret
 exact ⟨rfl, (by repeat (first | (with_reducible first | exact HB.out | apply below_alloc | apply pw_below_drewN | apply below_drew1) | exact HB.out))⟩
set_option maxHeartbeats 8000000 in
set_option maxRecDepth 100000 in
theorem impl_TableOf.calls (k : Nat) (a0 : Int) (A1 : Option Addr) (c1 : Nat) (l1 : List (S52)) (r : Int) (w : World) (hr1 : Kd.C k52 w A1 l1.length l1) (hc1 : l1.length ≤ c1) (h : impl_TableOf.f k a0 l1 = some r) :
  Calls Try.prog 48 #[.int .i64 a0, .slice A1 l1.length c1] w fun e w' => e = .returned (.int .i64 r) ∧ Below w.heap.size w w' := by
 have HR1 := Aside0.mk hr1
 have HC1 := Aside0.mk hc1
 clear hr1 hc1
 have HB := Aside0.mk (Below.refl w.heap.size w)
 have H : ((impl_TermOk.f k a0 l1).bind fun t => (if t = true then (impl_tableBy.f (fun k_ x_ => impl_holds.f k_ l1 x_) k a0) else (some (-1)))) = some r := h
 clear h
 obtain ⟨t, A10, H⟩ := Option.bind_eq_some_iff.mp H
 have A1_ := Aside0.mk A10
 clear A10
 have hmf : ∀ (fn : Fn) (first cap : Array Value) (w : World), (Instr.makeFunc fn first cap).run Try.prog w = .ok (.func fn first cap) w := fun _ _ _ _ => rfl
 cases t with
 | false =>
  have hr_ : r = -1 := by simpa using H.symm
  subst hr_
  clear H
  go_enter Try.func48, Try.ntmps48
  go_wp2_with (first | ((with_reducible refine gate_dst (N := 3) rfl ?_); refine box_event ?hg (N := 3) ?hd (cs := #[.slice A1 l1.length c1]) (t := 34) ?hr ?_; (case hd => rfl); (case hg => rfl); (case hr => first | (go_simp; done) | (go_simp; rfl)); intro gb1 hg w3 hbox hb; have n0_ := Aside0.mk (below_step (by repeat (first | (with_reducible first | exact HB.out | apply below_alloc | apply pw_below_drewN | apply below_drew1) | exact HB.out)) hb); have n1_ := Aside0.mk (hbox); clear HB; have HB := n0_; have BK1 := n1_; clear n0_ n1_; clear hb hbox hg; have hcz0 : w3.cell? ⟨gb1, 0, none⟩ = some (.slice A1 l1.length c1) := (blk_cell BK1.out 0).trans rfl; have hfz0 := blk_frozen BK1.out 0) | ((with_reducible refine gate_callee (f := 59) rfl ?_); refine goesL_ (some 7) rfl rfl Try.func59 (by kernel_rfl) rfl #[.int .i64 a0, .slice A1 l1.length c1] rfl (by (try simp only [List.map_toArray, List.map_cons, List.map_nil]); first | done | rfl) ?_; (with_reducible refine (impl_TermOk.calls k a0 _ _ l1 false _ ?side1 ?side2 A1_.out).mono ?_); (case side1 => repeat (first | exact (Kd.C_below HR1.out HB.out) | (with_reducible refine Kd.C_alloc ?_ _) | (with_reducible refine Kd.C_drewN ?_ _) | (with_reducible refine Kd.C_drew ?_))); (case side2 => exact HC1.out);  rintro e w12 ⟨rfl, hb⟩; refine ⟨_, rfl, ?_⟩; have m0_ := Aside0.mk (blk_below BK1.out hb); clear BK1; have BK1 := m0_; clear m0_; have n0_ := Aside0.mk (below_step (by repeat (first | (with_reducible first | exact HB.out | apply below_alloc | apply pw_below_drewN | apply below_drew1) | exact HB.out)) hb); clear HB; have HB := n0_; clear n0_; (try clear hb)))
  go_ret
  exact ⟨rfl, (by repeat (first | (with_reducible first | exact HB.out | apply below_alloc | apply pw_below_drewN | apply below_drew1) | exact HB.out))⟩
 | true =>
  replace H := Aside0.mk (show impl_tableBy.f (fun k_ x_ => impl_holds.f k_ l1 x_) k a0 = some r from H)
  go_enter Try.func48, Try.ntmps48
  go_wp2_with (first | ((with_reducible refine gate_dst (N := 3) rfl ?_); refine box_event ?hg (N := 3) ?hd (cs := #[.slice A1 l1.length c1]) (t := 34) ?hr ?_; (case hd => rfl); (case hg => rfl); (case hr => first | (go_simp; done) | (go_simp; rfl)); intro gb1 hg w3 hbox hb; have n0_ := Aside0.mk (below_step (by repeat (first | (with_reducible first | exact HB.out | apply below_alloc | apply pw_below_drewN | apply below_drew1) | exact HB.out)) hb); have n1_ := Aside0.mk (hbox); clear HB; have HB := n0_; have BK1 := n1_; clear n0_ n1_; clear hb hbox hg; have hcz0 : w3.cell? ⟨gb1, 0, none⟩ = some (.slice A1 l1.length c1) := (blk_cell BK1.out 0).trans rfl; have hfz0 := blk_frozen BK1.out 0) | ((with_reducible refine gate_callee (f := 59) rfl ?_); refine goesL_ (some 7) rfl rfl Try.func59 (by kernel_rfl) rfl #[.int .i64 a0, .slice A1 l1.length c1] rfl (by (try simp only [List.map_toArray, List.map_cons, List.map_nil]); first | done | rfl) ?_; (with_reducible refine (impl_TermOk.calls k a0 _ _ l1 true _ ?side1 ?side2 A1_.out).mono ?_); (case side1 => repeat (first | exact (Kd.C_below HR1.out HB.out) | (with_reducible refine Kd.C_alloc ?_ _) | (with_reducible refine Kd.C_drewN ?_ _) | (with_reducible refine Kd.C_drew ?_))); (case side2 => exact HC1.out);  rintro e w12 ⟨rfl, hb⟩; refine ⟨_, rfl, ?_⟩; have m0_ := Aside0.mk (blk_below BK1.out hb); clear BK1; have BK1 := m0_; clear m0_; have n0_ := Aside0.mk (below_step (by repeat (first | (with_reducible first | exact HB.out | apply below_alloc | apply pw_below_drewN | apply below_drew1) | exact HB.out)) hb); clear HB; have HB := n0_; clear n0_; (try clear hb)) | ((with_reducible refine gate_callee (f := 109) rfl ?_); refine goesL_ (some 11) rfl rfl Try.func109 (by kernel_rfl) rfl #[.int .i64 a0, .func (.func 112) #[] #[.pointer (some ⟨gb1, 0, none⟩)]] rfl (by (try simp only [List.map_toArray, List.map_cons, List.map_nil]); first | done | rfl) ?_; (with_reducible refine (impl_tableBy.calls (fun k_ x_ => impl_holds.f k_ l1 x_) Try.func112 (by kernel_rfl) rfl #[.pointer (some ⟨gb1, 0, none⟩)] k a0 r _ ?hF H.out).mono ?_); (case hF => exact fun k x b W hb h => impl_TableOf.calls_1 k _ _ l1 gb1 x b W (blk_below BK1.out hb) (Kd.C_below (Kd.C_below HR1.out HB.out) hb) HC1.out h);  rintro e w12 ⟨rfl, hb⟩; refine ⟨_, rfl, ?_⟩; have n0_ := Aside0.mk (below_step (by repeat (first | (with_reducible first | exact HB.out | apply below_alloc | apply pw_below_drewN | apply below_drew1) | exact HB.out)) hb); clear HB; have HB := n0_; clear n0_; (try clear hb)))
  go_ret
  exact ⟨rfl, (by repeat (first | (with_reducible first | exact HB.out | apply below_alloc | apply pw_below_drewN | apply below_drew1) | exact HB.out))⟩

end Go.Proofs.Ytpampekijfjlkaa.X

-- printed by a program of this session's (xprint)
namespace Go.Proofs.Ytpampekijfjlkaa.X
open Go.RowKit Go.Proofs.YtpampekijfjlkaaW.PrintWords Go.Proofs.YtpampekijfjlkaaW.PrintLast Go.Proofs.YtpampekijfjlkaaW.PrintMore
attribute [local go_sem] max2_int min2_int max_two min_two max_three min_three max_four min_four   -- for this text's walks alone
set_option linter.unusedVariables false
set_option linter.unusedSimpArgs false

/-! ### impl_SameOk: function 62 -/
def impl_SameOk.f (k : Nat) (a0 : Int) (l1 : List (S52)) (l2 : List (S52)) : Option (Bool) := (impl_TermOk.f k a0 l1).bind fun t101 => (if t101 = true then ((impl_TermOk.f k a0 l2).bind fun t102 => (if t102 = true then ((impl_TableOf.f k a0 l1).bind fun t103 => ((impl_TableOf.f k a0 l2).bind fun t104 => (some (t103 == t104)))) else (some false))) else (some false))
theorem impl_SameOk.mono : ∀ a0 a1 a2 k, LeO (impl_SameOk.f k a0 a1 a2) (impl_SameOk.f (k + 1) a0 a1 a2) := by
 intro a0 a1 a2 k
 unfold impl_SameOk.f
 repeat' first
   | (with_reducible exact impl_TableOf.mono _ _ _)
   | (with_reducible exact impl_TermOk.mono _ _ _)
   | (with_reducible exact LeO.refl _)
   | (with_reducible exact LeO.none _)
   | (with_reducible refine LeO.ite ?_ ?_)
   | (with_reducible refine LeO.bind ?_ (fun _ => ?_))
   | exact impl_TableOf.mono _ _ _
   | exact impl_TermOk.mono _ _ _
   | exact LeO.none _
   | refine LeO.ite ?_ ?_
   | refine LeO.bind ?_ (fun _ => ?_)
set_option maxHeartbeats 8000000 in
set_option maxRecDepth 100000 in
theorem impl_SameOk.calls (k : Nat) (a0 : Int) (A1 : Option Addr) (c1 : Nat) (l1 : List (S52)) (A2 : Option Addr) (c2 : Nat) (l2 : List (S52)) (r : Bool) (w : World) (hr1 : Kd.C k52 w A1 l1.length l1) (hc1 : l1.length ≤ c1) (hr2 : Kd.C k52 w A2 l2.length l2) (hc2 : l2.length ≤ c2) (h : impl_SameOk.f k a0 l1 l2 = some r) :
  Calls Try.prog 62 #[.int .i64 a0, .slice A1 l1.length c1, .slice A2 l2.length c2] w fun e w' => e = .returned (.bool r) ∧ Below w.heap.size w w' := by
 have HR1 := Aside0.mk hr1
 have HC1 := Aside0.mk hc1
 clear hr1 hc1
 have HR2 := Aside0.mk hr2
 have HC2 := Aside0.mk hc2
 clear hr2 hc2
 have HB := Aside0.mk (Below.refl w.heap.size w)
 have H : ((impl_TermOk.f k a0 l1).bind fun t101 => (if t101 = true then ((impl_TermOk.f k a0 l2).bind fun t102 => (if t102 = true then ((impl_TableOf.f k a0 l1).bind fun t103 => ((impl_TableOf.f k a0 l2).bind fun t104 => (some (t103 == t104)))) else (some false))) else (some false))) = some r := h
 clear h
 replace H := Option.bind_eq_some_iff.mp H
 obtain ⟨t101, A40, H⟩ := H
 replace H : (if t101 = true then ((impl_TermOk.f k a0 l2).bind fun t102 => (if t102 = true then ((impl_TableOf.f k a0 l1).bind fun t103 => ((impl_TableOf.f k a0 l2).bind fun t104 => (some (t103 == t104)))) else (some false))) else (some false)) = some r := H
 have A4 := Aside0.mk A40
 clear A40
 by_cases c5 : t101 = true
 ·subst c5
  have H1 : ((impl_TermOk.f k a0 l2).bind fun t102 => (if t102 = true then ((impl_TableOf.f k a0 l1).bind fun t103 => ((impl_TableOf.f k a0 l2).bind fun t104 => (some (t103 == t104)))) else (some false))) = some r := by rw [if_pos rfl] at H; exact H
  clear H
  have H := H1
  clear H1
  replace H := Option.bind_eq_some_iff.mp H
  obtain ⟨t102, A60, H⟩ := H
  replace H : (if t102 = true then ((impl_TableOf.f k a0 l1).bind fun t103 => ((impl_TableOf.f k a0 l2).bind fun t104 => (some (t103 == t104)))) else (some false)) = some r := H
  have A6 := Aside0.mk A60
  clear A60
  by_cases c7 : t102 = true
  ·subst c7
   have H1 : ((impl_TableOf.f k a0 l1).bind fun t103 => ((impl_TableOf.f k a0 l2).bind fun t104 => (some (t103 == t104)))) = some r := by rw [if_pos rfl] at H; exact H
   clear H
   have H := H1
   clear H1
   replace H := Option.bind_eq_some_iff.mp H
   obtain ⟨t103, A80, H⟩ := H
   replace H : ((impl_TableOf.f k a0 l2).bind fun t104 => (some (t103 == t104))) = some r := H
   have A8 := Aside0.mk A80
   clear A80
   replace H := Option.bind_eq_some_iff.mp H
   obtain ⟨t104, A90, H⟩ := H
   replace H : (some (t103 == t104)) = some r := H
   have A9 := Aside0.mk A90
   clear A90
   obtain rfl := Option.some.inj H
   go_enter Try.func62, Try.ntmps62
   go_wp2_with (first | ((with_reducible refine gate_callee (f := 59) rfl ?_); refine goesL_ (some 9) rfl rfl Try.func59 (by kernel_rfl) rfl #[.int .i64 a0, .slice A1 l1.length c1] rfl (by (try simp only [List.map_toArray, List.map_cons, List.map_nil]); first | done | rfl | (simp only [List.length_drop, List.length_take]; rfl)) ?_; (with_reducible refine (impl_TermOk.calls k a0 _ _ l1 true _ ?side1 ?side2 A4.out).mono ?_); (case side1 => repeat (first | exact HR1.out | (with_reducible refine Kd.C_alloc ?_ _) | (with_reducible refine Kd.C_drewN ?_ _) | (with_reducible refine Kd.C_drew ?_))); (case side2 => exact HC1.out); rintro e w10 ⟨rfl, hb⟩; refine ⟨_, rfl, ?_⟩; have n0_ := Aside0.mk (below_step (by repeat (first | (with_reducible first | exact HB.out | apply below_alloc | apply pw_below_drewN | apply below_drew1) | exact HB.out)) hb); clear HB; have HB := n0_; clear n0_; (try clear hb); (try clear hb2); (try clear hk); (try clear hi)) | (go_at_call 59; (with_reducible refine (impl_TermOk.calls k a0 _ _ l2 true _ ?side1 ?side2 A6.out).mono ?_); (case side1 => repeat (first | exact (Kd.C_below HR2.out HB.out) | (with_reducible refine Kd.C_alloc ?_ _) | (with_reducible refine Kd.C_drewN ?_ _) | (with_reducible refine Kd.C_drew ?_))); (case side2 => exact HC2.out); rintro e w11 ⟨rfl, hb⟩; have n0_ := Aside0.mk (below_step (by repeat (first | (with_reducible first | exact HB.out | apply below_alloc | apply pw_below_drewN | apply below_drew1) | exact HB.out)) hb); clear HB; have HB := n0_; clear n0_; (try clear hb); (try clear hb2); (try clear hk); (try clear hi)) | (go_at_call 48; (with_reducible refine (impl_TableOf.calls k a0 _ _ l1 t103 _ ?side1 ?side2 A8.out).mono ?_); (case side1 => repeat (first | exact (Kd.C_below HR1.out HB.out) | (with_reducible refine Kd.C_alloc ?_ _) | (with_reducible refine Kd.C_drewN ?_ _) | (with_reducible refine Kd.C_drew ?_))); (case side2 => exact HC1.out); rintro e w12 ⟨rfl, hb⟩; have n0_ := Aside0.mk (below_step (by repeat (first | (with_reducible first | exact HB.out | apply below_alloc | apply pw_below_drewN | apply below_drew1) | exact HB.out)) hb); clear HB; have HB := n0_; clear n0_; (try clear hb); (try clear hb2); (try clear hk); (try clear hi)) | (go_at_call 48; (with_reducible refine (impl_TableOf.calls k a0 _ _ l2 t104 _ ?side1 ?side2 A9.out).mono ?_); (case side1 => repeat (first | exact (Kd.C_below HR2.out HB.out) | (with_reducible refine Kd.C_alloc ?_ _) | (with_reducible refine Kd.C_drewN ?_ _) | (with_reducible refine Kd.C_drew ?_))); (case side2 => exact HC2.out); rintro e w13 ⟨rfl, hb⟩; have n0_ := Aside0.mk (below_step (by repeat (first | (with_reducible first | exact HB.out | apply below_alloc | apply pw_below_drewN | apply below_drew1) | exact HB.out)) hb); clear HB; have HB := n0_; clear n0_; (try clear hb); (try clear hb2); (try clear hk); (try clear hi)))
   go_ret
   exact ⟨by first | rfl | (simp [errW_none, errW_some] <;> rfl) | (simp [*, errW_none, errW_some] <;> rfl), by repeat (first | (with_reducible first | exact HB.out | apply below_alloc | apply pw_below_drewN | apply below_drew1) | exact HB.out)⟩
  ·replace c7 := Bool.eq_false_iff.mpr c7
   subst c7
   have H1 : (some false) = some r := by rw [if_neg (show ¬ (false = true) by decide)] at H; exact H
   clear H
   have H := H1
   clear H1
   obtain rfl := Option.some.inj H
   go_enter Try.func62, Try.ntmps62
   go_wp2_with (first | ((with_reducible refine gate_callee (f := 59) rfl ?_); refine goesL_ (some 9) rfl rfl Try.func59 (by kernel_rfl) rfl #[.int .i64 a0, .slice A1 l1.length c1] rfl (by (try simp only [List.map_toArray, List.map_cons, List.map_nil]); first | done | rfl | (simp only [List.length_drop, List.length_take]; rfl)) ?_; (with_reducible refine (impl_TermOk.calls k a0 _ _ l1 true _ ?side1 ?side2 A4.out).mono ?_); (case side1 => repeat (first | exact HR1.out | (with_reducible refine Kd.C_alloc ?_ _) | (with_reducible refine Kd.C_drewN ?_ _) | (with_reducible refine Kd.C_drew ?_))); (case side2 => exact HC1.out); rintro e w14 ⟨rfl, hb⟩; refine ⟨_, rfl, ?_⟩; have n0_ := Aside0.mk (below_step (by repeat (first | (with_reducible first | exact HB.out | apply below_alloc | apply pw_below_drewN | apply below_drew1) | exact HB.out)) hb); clear HB; have HB := n0_; clear n0_; (try clear hb); (try clear hb2); (try clear hk); (try clear hi)) | (go_at_call 59; (with_reducible refine (impl_TermOk.calls k a0 _ _ l2 false _ ?side1 ?side2 A6.out).mono ?_); (case side1 => repeat (first | exact (Kd.C_below HR2.out HB.out) | (with_reducible refine Kd.C_alloc ?_ _) | (with_reducible refine Kd.C_drewN ?_ _) | (with_reducible refine Kd.C_drew ?_))); (case side2 => exact HC2.out); rintro e w15 ⟨rfl, hb⟩; have n0_ := Aside0.mk (below_step (by repeat (first | (with_reducible first | exact HB.out | apply below_alloc | apply pw_below_drewN | apply below_drew1) | exact HB.out)) hb); clear HB; have HB := n0_; clear n0_; (try clear hb); (try clear hb2); (try clear hk); (try clear hi)))
   go_ret
   exact ⟨by first | rfl | (simp [errW_none, errW_some] <;> rfl) | (simp [*, errW_none, errW_some] <;> rfl), by repeat (first | (with_reducible first | exact HB.out | apply below_alloc | apply pw_below_drewN | apply below_drew1) | exact HB.out)⟩
 ·replace c5 := Bool.eq_false_iff.mpr c5
  subst c5
  have H1 : (some false) = some r := by rw [if_neg (show ¬ (false = true) by decide)] at H; exact H
  clear H
  have H := H1
  clear H1
  obtain rfl := Option.some.inj H
  go_enter Try.func62, Try.ntmps62
  go_wp2_with (first | ((with_reducible refine gate_callee (f := 59) rfl ?_); refine goesL_ (some 9) rfl rfl Try.func59 (by kernel_rfl) rfl #[.int .i64 a0, .slice A1 l1.length c1] rfl (by (try simp only [List.map_toArray, List.map_cons, List.map_nil]); first | done | rfl | (simp only [List.length_drop, List.length_take]; rfl)) ?_; (with_reducible refine (impl_TermOk.calls k a0 _ _ l1 false _ ?side1 ?side2 A4.out).mono ?_); (case side1 => repeat (first | exact HR1.out | (with_reducible refine Kd.C_alloc ?_ _) | (with_reducible refine Kd.C_drewN ?_ _) | (with_reducible refine Kd.C_drew ?_))); (case side2 => exact HC1.out); rintro e w16 ⟨rfl, hb⟩; refine ⟨_, rfl, ?_⟩; have n0_ := Aside0.mk (below_step (by repeat (first | (with_reducible first | exact HB.out | apply below_alloc | apply pw_below_drewN | apply below_drew1) | exact HB.out)) hb); clear HB; have HB := n0_; clear n0_; (try clear hb); (try clear hb2); (try clear hk); (try clear hi)))
  go_ret
  exact ⟨by first | rfl | (simp [errW_none, errW_some] <;> rfl) | (simp [*, errW_none, errW_some] <;> rfl), by repeat (first | (with_reducible first | exact HB.out | apply below_alloc | apply pw_below_drewN | apply below_drew1) | exact HB.out)⟩

end Go.Proofs.Ytpampekijfjlkaa.X

-- printed by a program of this session's (xprint)
namespace Go.Proofs.Ytpampekijfjlkaa.X
open Go.RowKit Go.Proofs.YtpampekijfjlkaaW.PrintWords Go.Proofs.YtpampekijfjlkaaW.PrintLast Go.Proofs.YtpampekijfjlkaaW.PrintMore
attribute [local go_sem] max2_int min2_int max_two min_two max_three min_three max_four min_four   -- for this text's walks alone
set_option linter.unusedVariables false
set_option linter.unusedSimpArgs false

/-! ### impl_MatterIn: function 63 -/
mutual
def impl_MatterIn.l0 : Nat → Int → List (S52) → Int → Int → Int → Option (Int)
 | 0, _, _, _, _, _ => none
 | k + 1, x0, x1, x5, x13, x14 => if x14 < x13 then (impl_MatterIn.l1 k x0 x1 x5 x14 x13 x14 x0 0) else (some x5)
def impl_MatterIn.l1 : Nat → Int → List (S52) → Int → Int → Int → Int → Int → Int → Option (Int)
 | 0, _, _, _, _, _, _, _, _ => none
 | k + 1, x0, x1, x5, x6, x13, x14, x17, x18 => if x18 < x17 then ((impl_holds.f k x1 x6).bind fun t102 => (if 0 ≤ x18 then ((impl_holds.f k x1 (Go.bits .xor .i64 x6 (shl .i64 1 x18))).bind fun t103 => (if (t102 != t103) = true then (impl_MatterIn.l1 k x0 x1 (Go.bits .or .i64 x5 (shl .i64 1 x18)) x6 x13 x14 x17 (wrap64 (x18 + 1))) else (impl_MatterIn.l1 k x0 x1 x5 x6 x13 x14 x17 (wrap64 (x18 + 1))))) else (none))) else (impl_MatterIn.l0 k x0 x1 x5 x13 (wrap64 (x14 + 1)))
end
def impl_MatterIn.f (k : Nat) (a0 : Int) (l1 : List (S52)) : Option (Int) := (impl_TermOk.f k a0 l1).bind fun t101 => (if t101 = true then (if 0 ≤ a0 then (impl_MatterIn.l0 k a0 l1 0 (shl .i64 1 a0) 0) else (none)) else (some (-1)))
theorem impl_MatterIn.mono_l : ∀ k, (∀ y0 y1 y2 y3 y4, LeO (impl_MatterIn.l0 k y0 y1 y2 y3 y4) (impl_MatterIn.l0 (k + 1) y0 y1 y2 y3 y4)) ∧ (∀ y0 y1 y2 y3 y4 y5 y6 y7, LeO (impl_MatterIn.l1 k y0 y1 y2 y3 y4 y5 y6 y7) (impl_MatterIn.l1 (k + 1) y0 y1 y2 y3 y4 y5 y6 y7))
 | 0 => ⟨fun _ _ _ _ _ r h => by simp [impl_MatterIn.l0] at h, fun _ _ _ _ _ _ _ _ r h => by simp [impl_MatterIn.l1] at h⟩
 | k + 1 => by
  obtain ⟨ih0, ih1⟩ := impl_MatterIn.mono_l k
  refine ⟨?_, ?_⟩
  ·intro y0 y1 y2 y3 y4
   unfold impl_MatterIn.l0
   repeat' first
   | (with_reducible exact ih0 _ _ _ _ _)
   | (with_reducible exact ih1 _ _ _ _ _ _ _ _)
   | (with_reducible exact impl_TermOk.mono _ _ _)
   | (with_reducible exact impl_holds.mono _ _ _)
   | (with_reducible exact LeO.refl _)
   | (with_reducible exact LeO.none _)
   | (with_reducible refine LeO.ite ?_ ?_)
   | (with_reducible refine LeO.bind ?_ (fun _ => ?_))
   | exact ih0 _ _ _ _ _
   | exact ih1 _ _ _ _ _ _ _ _
   | exact impl_TermOk.mono _ _ _
   | exact impl_holds.mono _ _ _
   | exact LeO.none _
   | refine LeO.ite ?_ ?_
   | refine LeO.bind ?_ (fun _ => ?_)
  ·intro y0 y1 y2 y3 y4 y5 y6 y7
   unfold impl_MatterIn.l1
   repeat' first
   | (with_reducible exact ih0 _ _ _ _ _)
   | (with_reducible exact ih1 _ _ _ _ _ _ _ _)
   | (with_reducible exact impl_TermOk.mono _ _ _)
   | (with_reducible exact impl_holds.mono _ _ _)
   | (with_reducible exact LeO.refl _)
   | (with_reducible exact LeO.none _)
   | (with_reducible refine LeO.ite ?_ ?_)
   | (with_reducible refine LeO.bind ?_ (fun _ => ?_))
   | exact ih0 _ _ _ _ _
   | exact ih1 _ _ _ _ _ _ _ _
   | exact impl_TermOk.mono _ _ _
   | exact impl_holds.mono _ _ _
   | exact LeO.none _
   | refine LeO.ite ?_ ?_
   | refine LeO.bind ?_ (fun _ => ?_)
theorem impl_MatterIn.mono : ∀ a0 a1 k, LeO (impl_MatterIn.f k a0 a1) (impl_MatterIn.f (k + 1) a0 a1) := by
 intro a0 a1 k
 obtain ⟨ih0, ih1⟩ := impl_MatterIn.mono_l k
 unfold impl_MatterIn.f
 repeat' first
   | (with_reducible exact ih0 _ _ _ _ _)
   | (with_reducible exact ih1 _ _ _ _ _ _ _ _)
   | (with_reducible exact impl_TermOk.mono _ _ _)
   | (with_reducible exact impl_holds.mono _ _ _)
   | (with_reducible exact LeO.refl _)
   | (with_reducible exact LeO.none _)
   | (with_reducible refine LeO.ite ?_ ?_)
   | (with_reducible refine LeO.bind ?_ (fun _ => ?_))
   | exact ih0 _ _ _ _ _
   | exact ih1 _ _ _ _ _ _ _ _
   | exact impl_TermOk.mono _ _ _
   | exact impl_holds.mono _ _ _
   | exact LeO.none _
   | refine LeO.ite ?_ ?_
   | refine LeO.bind ?_ (fun _ => ?_)
def impl_MatterIn.T10 : Bool × List (List Nat × List Nat) := (true, [([], []), ([], []), ([0, 1], [0, 1]), ([], []), ([], []), ([], []), ([5], [5]), ([4, 6], [4, 6]), ([3, 7, 2], [3, 7]), ([2, 8], [2, 8])])
def impl_MatterIn.B10 : List Nat := [0, 0, 3, 0, 0, 0, 32, 112, 255, 511]
theorem impl_MatterIn.tab10 : rtab .any (opsOf Try.f63 10) = impl_MatterIn.T10 := by kernel_rfl
theorem impl_MatterIn.bits10 : waitsOk impl_MatterIn.T10.2 impl_MatterIn.B10 = true := by kernel_rfl
set_option maxHeartbeats 8000000 in
set_option maxRecDepth 100000 in
theorem impl_MatterIn.calls (k : Nat) (a0 : Int) (A1 : Option Addr) (c1 : Nat) (l1 : List (S52)) (r : Int) (w : World) (hr1 : Kd.C k52 w A1 l1.length l1) (hc1 : l1.length ≤ c1) (h : impl_MatterIn.f k a0 l1 = some r) :
  Calls Try.prog 63 #[.int .i64 a0, .slice A1 l1.length c1] w fun e w' => e = .returned (.int .i64 r) ∧ Below w.heap.size w w' := by
 have HR1 := Aside0.mk hr1
 have HC1 := Aside0.mk hc1
 clear hr1 hc1
 have HB := Aside0.mk (Below.refl w.heap.size w)
 have H : ((impl_TermOk.f k a0 l1).bind fun t101 => (if t101 = true then (if 0 ≤ a0 then (impl_MatterIn.l0 k a0 l1 0 (shl .i64 1 a0) 0) else (none)) else (some (-1)))) = some r := h
 clear h
 replace H := Option.bind_eq_some_iff.mp H
 obtain ⟨t101, A30, H⟩ := H
 replace H : (if t101 = true then (if 0 ≤ a0 then (impl_MatterIn.l0 k a0 l1 0 (shl .i64 1 a0) 0) else (none)) else (some (-1))) = some r := H
 have A3 := Aside0.mk A30
 clear A30
 by_cases c4 : t101 = true
 ·subst c4
  have H1 : (if 0 ≤ a0 then (impl_MatterIn.l0 k a0 l1 0 (shl .i64 1 a0) 0) else (none)) = some r := by rw [if_pos rfl] at H; exact H
  clear H
  have H := H1
  clear H1
  by_cases c5 : 0 ≤ a0
  ·rw [if_pos c5] at H
   have c5b0 := eq_true c5
   have c5b1 : decide (0 ≤ a0) = true := decide_eq_true c5
   clear c5
   obtain ⟨ji6, hji6⟩ : ∃ j_ : Int, (shl .i64 1 a0) = j_ := ⟨_, rfl⟩
   replace H : (impl_MatterIn.l0 k a0 l1 0 ji6 0) = some r := by first | (rw [hji6] at H; exact H) | (simp only [hji6] at H ⊢; exact H)
   (try rw [hji6] at A3)
   have hji6_ : (IntKind.i64.wrap (1 * 2 ^ min a0.toNat 64)) = ji6 := hji6
   have hji6z : a0 ≤ 64 → (IntKind.i64.wrap (1 * 2 ^ a0.toNat)) = ji6 := shl_small hji6
   have hji6u : (IntKind.i64.wrap (2 ^ min a0.toNat 64)) = ji6 := by have h_ := hji6_; rw [Int.one_mul] at h_; exact h_
   have hji6v : a0 ≤ 64 → (IntKind.i64.wrap (2 ^ a0.toNat)) = ji6 := fun hle_ => by have h_ := hji6z hle_; rw [Int.one_mul] at h_; exact h_
   have hji6y : (wrap64 (1 * 2 ^ min a0.toNat 64)) = ji6 := (i64_w _).symm.trans hji6_
   have hji6x : a0 ≤ 64 → (wrap64 (1 * 2 ^ a0.toNat)) = ji6 := fun h_ => (i64_w _).symm.trans (hji6z h_)
   have H' := Aside0.mk H
   clear H
   go_enter Try.func63, Try.ntmps63
   go_wp2_with (first | ((with_reducible refine gate_callee (f := 59) rfl ?_); refine goesL_ (some 10) rfl rfl Try.func59 (by kernel_rfl) rfl #[.int .i64 a0, .slice A1 l1.length c1] rfl (by (try simp only [List.map_toArray, List.map_cons, List.map_nil]); first | done | rfl | (simp only [List.length_drop, List.length_take]; rfl)) ?_; (with_reducible refine (impl_TermOk.calls k a0 _ _ l1 true _ ?side1 ?side2 A3.out).mono ?_); (case side1 => repeat (first | exact HR1.out | (with_reducible refine Kd.C_alloc ?_ _) | (with_reducible refine Kd.C_drewN ?_ _) | (with_reducible refine Kd.C_drew ?_))); (case side2 => exact HC1.out); rintro e w7 ⟨rfl, hb⟩; refine ⟨_, rfl, ?_⟩; have n0_ := Aside0.mk (below_step (by repeat (first | (with_reducible first | exact HB.out | apply below_alloc | apply pw_below_drewN | apply below_drew1) | exact HB.out)) hb); clear HB; have HB := n0_; clear n0_; (try clear hb); (try clear hb2); (try clear hk); (try clear hi)))
   go_loopg [5, 14] k (fun kq v5 v14 w' => ∃ (x5_1 : Int) (x14_1 : Int), v5 = .int .i64 x5_1 ∧ v14 = .int .i64 x14_1 ∧ Aside0 (impl_MatterIn.l0 kq a0 l1 x5_1 ji6 x14_1 = some r) ∧ Aside0 (kq ≤ k) ∧ Aside0 (Below w.heap.size w w'))
   case atStart => exact ⟨(0), (0), (by first | rfl | (simp; done) | (simp [*]; done)), (by first | rfl | (simp; done) | (simp [*]; done)), H', ⟨Nat.le_refl _⟩, ⟨by repeat (first | (with_reducible first | exact HB.out | apply below_alloc | apply pw_below_drewN | apply below_drew1) | exact HB.out)⟩⟩
   case round =>
    clear H'
    try clear c1
    try clear p2
    try clear c4
    try clear c5
    try clear c5b0
    try clear c5b1
    try clear c6
    try clear p6
    obtain ⟨x5_1, x14_1, rfl, rfl, HA, HK1, HB⟩ := hrel
    cases gk with
    | zero => exact absurd HA.out (by simp [impl_MatterIn.l0])
    | succ k1 =>
     have H := HA.out
     clear HA
     simp only [impl_MatterIn.l0] at H
     by_cases c8 : x14_1 < ji6
     ·rw [if_pos c8] at H
      have c8b0 : decide (x14_1 < ji6) = true := decide_eq_true c8
      clear c8
      have H' := Aside0.mk H
      clear H
      go_wp2
      go_loopg [5, 18] k1 (fun kq v5 v18 w' => ∃ (x5_2 : Int) (x18_2 : Int), v5 = .int .i64 x5_2 ∧ v18 = .int .i64 x18_2 ∧ Aside0 (impl_MatterIn.l1 kq a0 l1 x5_2 x14_1 ji6 x14_1 a0 x18_2 = some r) ∧ Aside0 (kq ≤ k1) ∧ Aside0 (Below w.heap.size w w'))
      case atStart => exact ⟨(x5_1), (0), (by first | rfl | (simp; done) | (simp [*]; done)), (by first | rfl | (simp; done) | (simp [*]; done)), H', ⟨Nat.le_refl _⟩, ⟨by repeat (first | (with_reducible first | exact HB.out | apply below_alloc | apply pw_below_drewN | apply below_drew1) | exact HB.out)⟩⟩
      case round =>
       clear H'
       try clear c1
       try clear p2
       try clear c4
       try clear c5
       try clear c5b0
       try clear c5b1
       try clear c6
       try clear p6
       try clear c8
       try clear c8b0
       try clear p2
       try clear p6
       obtain ⟨x5_2, x18_2, rfl, rfl, HA, HK2, HB⟩ := hrel
       cases gk with
       | zero => exact absurd HA.out (by simp [impl_MatterIn.l1])
       | succ k2 =>
        have H := HA.out
        clear HA
        simp only [impl_MatterIn.l1] at H
        by_cases c9 : x18_2 < a0
        ·rw [if_pos c9] at H
         have c9b0 : decide (x18_2 < a0) = true := decide_eq_true c9
         clear c9
         replace H := Option.bind_eq_some_iff.mp H
         obtain ⟨t102, A100, H⟩ := H
         replace H : (if 0 ≤ x18_2 then ((impl_holds.f k2 l1 (Go.bits .xor .i64 x14_1 (shl .i64 1 x18_2))).bind fun t103 => (if (t102 != t103) = true then (impl_MatterIn.l1 k2 a0 l1 (Go.bits .or .i64 x5_2 (shl .i64 1 x18_2)) x14_1 ji6 x14_1 a0 (wrap64 (x18_2 + 1))) else (impl_MatterIn.l1 k2 a0 l1 x5_2 x14_1 ji6 x14_1 a0 (wrap64 (x18_2 + 1))))) else (none)) = some r := H
         have A10 := Aside0.mk A100
         clear A100
         by_cases c11 : 0 ≤ x18_2
         ·rw [if_pos c11] at H
          have c11b0 := eq_true c11
          have c11b1 : decide (0 ≤ x18_2) = true := decide_eq_true c11
          clear c11
          obtain ⟨ji12, hji12⟩ : ∃ j_ : Int, (shl .i64 1 x18_2) = j_ := ⟨_, rfl⟩
          replace H : ((impl_holds.f k2 l1 (Go.bits .xor .i64 x14_1 (ji12))).bind fun t103 => (if (t102 != t103) = true then (impl_MatterIn.l1 k2 a0 l1 (Go.bits .or .i64 x5_2 (ji12)) x14_1 ji6 x14_1 a0 (wrap64 (x18_2 + 1))) else (impl_MatterIn.l1 k2 a0 l1 x5_2 x14_1 ji6 x14_1 a0 (wrap64 (x18_2 + 1))))) = some r := by first | (rw [hji12] at H; exact H) | (simp only [hji12] at H ⊢; exact H)
          (try rw [hji12] at A10)
          have hji12_ : (IntKind.i64.wrap (1 * 2 ^ min x18_2.toNat 64)) = ji12 := hji12
          have hji12z : x18_2 ≤ 64 → (IntKind.i64.wrap (1 * 2 ^ x18_2.toNat)) = ji12 := shl_small hji12
          have hji12u : (IntKind.i64.wrap (2 ^ min x18_2.toNat 64)) = ji12 := by have h_ := hji12_; rw [Int.one_mul] at h_; exact h_
          have hji12v : x18_2 ≤ 64 → (IntKind.i64.wrap (2 ^ x18_2.toNat)) = ji12 := fun hle_ => by have h_ := hji12z hle_; rw [Int.one_mul] at h_; exact h_
          have hji12y : (wrap64 (1 * 2 ^ min x18_2.toNat 64)) = ji12 := (i64_w _).symm.trans hji12_
          have hji12x : x18_2 ≤ 64 → (wrap64 (1 * 2 ^ x18_2.toNat)) = ji12 := fun h_ => (i64_w _).symm.trans (hji12z h_)
          replace H := Option.bind_eq_some_iff.mp H
          obtain ⟨t103, A130, H⟩ := H
          replace H : (if (t102 != t103) = true then (impl_MatterIn.l1 k2 a0 l1 (Go.bits .or .i64 x5_2 (ji12)) x14_1 ji6 x14_1 a0 (wrap64 (x18_2 + 1))) else (impl_MatterIn.l1 k2 a0 l1 x5_2 x14_1 ji6 x14_1 a0 (wrap64 (x18_2 + 1)))) = some r := H
          have A13 := Aside0.mk A130
          clear A130
          by_cases c14 : (t102 != t103) = true
          ·rw [if_pos c14] at H
           have c14b0 : (t102 != t103) = true := c14
           (try (have c14b1 : decide (t102 = t103) = false := by simpa using c14))
           (try (have c14b2 : (t102 == t103) = false := by simpa using c14))
           (try (have c14b3 : ¬ (t102 = t103) := by simpa using c14))
           clear c14
           have c15b0 := eq_true (of_decide_eq_true (by first | (with_reducible assumption) | assumption) : 0 ≤ x18_2)
           have H' := Aside0.mk H
           clear H
           try go_wp2
           have n0_ := Aside0.mk (below_drew1 HB.out)
           clear HB
           have HB := n0_
           clear n0_
           refine start_ (n := 10) (S := fun w' => True) (ds := []) #[false, false, false, false, false, false, false, false, false, false] (by kernel_rfl) rfl rfl trivial (fun hHeld => ?_); refine with_tabW impl_MatterIn.tab10 impl_MatterIn.bits10 (fun HT_ HW_ => ?_)
           generalize wr.drew = w17 at HB hHeld ⊢
           refine pure_ (i := 0) (N := some 21) (v := ?_) (a' := ?_) #[true, false, false, false, false, false, false, false, false, false] rfl rfl (any_of HT_.out (by kernel_rfl)) (fun _ _ _ h => h) (Or.inl ⟨by rfl, ?_⟩) ?_ ?_
           rotate_left
           ·intro w'
            go_simp
            with_reducible rfl
           rotate_left
           ·simp only [Act.put, List.setIfInBounds_toArray, List.set_cons_zero, List.set_cons_succ, i64_w, i32_w]
            rfl
           refine pure_ (i := 1) (N := some 22) (v := ?_) (a' := ?_) #[true, true, false, false, false, false, false, false, false, false] rfl rfl (any_of HT_.out (by kernel_rfl)) (fun _ _ _ h => h) (Or.inl ⟨by rfl, ?_⟩) ?_ ?_
           rotate_left
           ·intro w'
            go_simp
            with_reducible rfl
           rotate_left
           ·simp only [Act.put, List.setIfInBounds_toArray, List.set_cons_zero, List.set_cons_succ, i64_w, i32_w]
            rfl
           refine pure_ (i := 3) (N := some 24) (v := ?_) (a' := ?_) #[true, true, false, true, false, false, false, false, false, false] rfl rfl (any_of HT_.out (by kernel_rfl)) (fun _ _ _ h => h) (Or.inl ⟨by rfl, ?_⟩) ?_ ?_
           rotate_left
           ·intro w'
            go_simp
            with_reducible rfl
           rotate_left
           ·simp only [Act.put, List.setIfInBounds_toArray, List.set_cons_zero, List.set_cons_succ, i64_w, i32_w]
            rfl
           refine pure_ (i := 4) (N := some 25) (v := ?_) (a' := ?_) #[true, true, false, true, true, false, false, false, false, false] rfl rfl (any_of HT_.out (by kernel_rfl)) (fun _ _ _ h => h) (Or.inl ⟨by rfl, ?_⟩) ?_ ?_
           rotate_left
           ·intro w'
            go_simp
            with_reducible rfl
           rotate_left
           ·simp only [Act.put, List.setIfInBounds_toArray, List.set_cons_zero, List.set_cons_succ, i64_w, i32_w]
            rfl
           refine pure_ (i := 5) (N := some 26) (v := ?_) (a' := ?_) #[true, true, false, true, true, true, false, false, false, false] rfl rfl (any_of HT_.out (by kernel_rfl)) (fun _ _ _ h => h) (Or.inl ⟨by rfl, ?_⟩) ?_ ?_
           rotate_left
           ·intro w'
            go_simp
            with_reducible rfl
           rotate_left
           ·simp only [Act.put, List.setIfInBounds_toArray, List.set_cons_zero, List.set_cons_succ, i64_w, i32_w]
            rfl
           refine pure_ (i := 6) (N := some 27) (v := ?_) (a' := ?_) #[true, true, false, true, true, true, true, false, false, false] rfl rfl (any_of HT_.out (by kernel_rfl)) (fun _ _ _ h => h) (Or.inl ⟨by rfl, ?_⟩) ?_ ?_
           rotate_left
           ·intro w'
            go_simp
            with_reducible rfl
           rotate_left
           ·simp only [Act.put, List.setIfInBounds_toArray, List.set_cons_zero, List.set_cons_succ, i64_w, i32_w]
            rfl
           refine pure_ (i := 7) (N := some 28) (v := ?_) (a' := ?_) #[true, true, false, true, true, true, true, true, false, false] rfl rfl (any_of HT_.out (by kernel_rfl)) (fun _ _ _ h => h) (Or.inl ⟨by rfl, ?_⟩) ?_ ?_
           rotate_left
           ·intro w'
            go_simp
            with_reducible rfl
           rotate_left
           ·simp only [Act.put, List.setIfInBounds_toArray, List.set_cons_zero, List.set_cons_succ, i64_w, i32_w]
            rfl
           refine one_ (i := 2) (N := some 23) #[true, true, true, true, true, true, true, true, false, false] rfl rfl (one_of HT_.out (by kernel_rfl)) (by decide) (fun K hK => ?_)
           refine goes_ Try.func102 (by kernel_rfl) rfl #[.slice A1 l1.length c1, .int .i64 x14_1] (by rfl) rfl rfl (by (try simp only [List.map_toArray, List.map_cons, List.map_nil]); first | done | rfl | (simp only [List.length_drop, List.length_take]; rfl)) ?_
           with_reducible refine (impl_holds.calls k2 _ _ l1 x14_1 t102 _ ?side1 ?side2 A10.out).mono ?_
           (case side1 => repeat (first | exact (Kd.C_below HR1.out HB.out) | (with_reducible refine Kd.C_alloc ?_ _) | (with_reducible refine Kd.C_drewN ?_ _) | (with_reducible refine Kd.C_drew ?_)))
           (case side2 => exact HC1.out)
           rintro e w18 ⟨rfl, hb⟩
           refine ⟨_, rfl, ?_⟩
           have n0_ := Aside0.mk (below_step (by repeat (first | (with_reducible first | exact HB.out | apply below_alloc | apply pw_below_drewN | apply below_drew1) | exact HB.out)) hb)
           clear HB
           have HB := n0_
           clear n0_
           (try clear hb)
           (try clear hb2)
           (try clear hk)
           (try clear hi)
           refine hK.out _ _ trivial (fun hHeld => ?_)
           clear hK K
           refine norm_ (a' := ?_) ?_ ?_
           rotate_left
           ·show Act.put _ (some 23) _ = _
            simp only [Act.put, List.setIfInBounds_toArray, List.set_cons_zero, List.set_cons_succ, i64_w, i32_w]
            rfl
           refine one_ (i := 8) (N := some 29) #[true, true, true, true, true, true, true, true, true, false] rfl rfl (one_of HT_.out (by kernel_rfl)) (by decide) (fun K hK => ?_)
           refine goes_ Try.func102 (by kernel_rfl) rfl #[.slice A1 l1.length c1, .int .i64 (Go.bits .xor .i64 x14_1 (ji12))] (by rfl) rfl rfl (by (try simp only [List.map_toArray, List.map_cons, List.map_nil]); first | done | (simp only [hji12]; rfl) | rfl | (simp only [List.length_drop, List.length_take]; rfl)) ?_
           with_reducible refine (impl_holds.calls k2 _ _ l1 (Go.bits .xor .i64 x14_1 (ji12)) t103 _ ?side1 ?side2 A13.out).mono ?_
           (case side1 => repeat (first | exact (Kd.C_below HR1.out HB.out) | (with_reducible refine Kd.C_alloc ?_ _) | (with_reducible refine Kd.C_drewN ?_ _) | (with_reducible refine Kd.C_drew ?_)))
           (case side2 => exact HC1.out)
           rintro e w19 ⟨rfl, hb⟩
           refine ⟨_, rfl, ?_⟩
           have n0_ := Aside0.mk (below_step (by repeat (first | (with_reducible first | exact HB.out | apply below_alloc | apply pw_below_drewN | apply below_drew1) | exact HB.out)) hb)
           clear HB
           have HB := n0_
           clear n0_
           (try clear hb)
           (try clear hb2)
           (try clear hk)
           (try clear hi)
           refine hK.out _ _ trivial (fun hHeld => ?_)
           clear hK K
           refine norm_ (a' := ?_) ?_ ?_
           rotate_left
           ·show Act.put _ (some 29) _ = _
            simp only [Act.put, List.setIfInBounds_toArray, List.set_cons_zero, List.set_cons_succ, i64_w, i32_w]
            rfl
           refine pure_ (i := 9) (N := some 30) (v := ?_) (a' := ?_) #[true, true, true, true, true, true, true, true, true, true] rfl rfl (any_of HT_.out (by kernel_rfl)) (fun _ _ _ h => h) (Or.inl ⟨by rfl, ?_⟩) ?_ ?_
           rotate_left
           ·intro w'
            go_simp
            with_reducible rfl
           rotate_left
           ·simp only [Act.put, List.setIfInBounds_toArray, List.set_cons_zero, List.set_cons_succ, i64_w, i32_w]
            rfl
           refine done_ (done_of HT_.out (by kernel_rfl)) ?_
           try go_wp2
           go_roundg k2
           case measure => have := HK1.out; have := HK2.out; omega
           case rel => exact ⟨(Go.bits .or .i64 x5_2 (ji12)), (wrap64 (x18_2 + 1)), (by first | rfl | (simp; done) | (simp only [← hji12] <;> (first | rfl | simp)) | (simp [*]; done)), (by first | rfl | (simp; done) | (simp [*]; done)), H', ⟨by have := HK1.out; have := HK2.out; omega⟩, ⟨by repeat (first | (with_reducible first | exact HB.out | apply below_alloc | apply pw_below_drewN | apply below_drew1) | exact HB.out)⟩⟩
          ·rw [if_neg c14] at H
           have c14b0 : (t102 != t103) = false := by simpa using c14
           (try (have c14b1 : decide (t102 = t103) = true := by simpa using c14))
           (try (have c14b2 : (t102 == t103) = true := by simpa using c14))
           clear c14
           have H' := Aside0.mk H
           clear H
           try go_wp2
           have n0_ := Aside0.mk (below_drew1 HB.out)
           clear HB
           have HB := n0_
           clear n0_
           refine start_ (n := 10) (S := fun w' => True) (ds := []) #[false, false, false, false, false, false, false, false, false, false] (by kernel_rfl) rfl rfl trivial (fun hHeld => ?_); refine with_tabW impl_MatterIn.tab10 impl_MatterIn.bits10 (fun HT_ HW_ => ?_)
           generalize wr.drew = w20 at HB hHeld ⊢
           refine pure_ (i := 0) (N := some 21) (v := ?_) (a' := ?_) #[true, false, false, false, false, false, false, false, false, false] rfl rfl (any_of HT_.out (by kernel_rfl)) (fun _ _ _ h => h) (Or.inl ⟨by rfl, ?_⟩) ?_ ?_
           rotate_left
           ·intro w'
            go_simp
            with_reducible rfl
           rotate_left
           ·simp only [Act.put, List.setIfInBounds_toArray, List.set_cons_zero, List.set_cons_succ, i64_w, i32_w]
            rfl
           refine pure_ (i := 1) (N := some 22) (v := ?_) (a' := ?_) #[true, true, false, false, false, false, false, false, false, false] rfl rfl (any_of HT_.out (by kernel_rfl)) (fun _ _ _ h => h) (Or.inl ⟨by rfl, ?_⟩) ?_ ?_
           rotate_left
           ·intro w'
            go_simp
            with_reducible rfl
           rotate_left
           ·simp only [Act.put, List.setIfInBounds_toArray, List.set_cons_zero, List.set_cons_succ, i64_w, i32_w]
            rfl
           refine pure_ (i := 3) (N := some 24) (v := ?_) (a' := ?_) #[true, true, false, true, false, false, false, false, false, false] rfl rfl (any_of HT_.out (by kernel_rfl)) (fun _ _ _ h => h) (Or.inl ⟨by rfl, ?_⟩) ?_ ?_
           rotate_left
           ·intro w'
            go_simp
            with_reducible rfl
           rotate_left
           ·simp only [Act.put, List.setIfInBounds_toArray, List.set_cons_zero, List.set_cons_succ, i64_w, i32_w]
            rfl
           refine pure_ (i := 4) (N := some 25) (v := ?_) (a' := ?_) #[true, true, false, true, true, false, false, false, false, false] rfl rfl (any_of HT_.out (by kernel_rfl)) (fun _ _ _ h => h) (Or.inl ⟨by rfl, ?_⟩) ?_ ?_
           rotate_left
           ·intro w'
            go_simp
            with_reducible rfl
           rotate_left
           ·simp only [Act.put, List.setIfInBounds_toArray, List.set_cons_zero, List.set_cons_succ, i64_w, i32_w]
            rfl
           refine pure_ (i := 5) (N := some 26) (v := ?_) (a' := ?_) #[true, true, false, true, true, true, false, false, false, false] rfl rfl (any_of HT_.out (by kernel_rfl)) (fun _ _ _ h => h) (Or.inl ⟨by rfl, ?_⟩) ?_ ?_
           rotate_left
           ·intro w'
            go_simp
            with_reducible rfl
           rotate_left
           ·simp only [Act.put, List.setIfInBounds_toArray, List.set_cons_zero, List.set_cons_succ, i64_w, i32_w]
            rfl
           refine pure_ (i := 6) (N := some 27) (v := ?_) (a' := ?_) #[true, true, false, true, true, true, true, false, false, false] rfl rfl (any_of HT_.out (by kernel_rfl)) (fun _ _ _ h => h) (Or.inl ⟨by rfl, ?_⟩) ?_ ?_
           rotate_left
           ·intro w'
            go_simp
            with_reducible rfl
           rotate_left
           ·simp only [Act.put, List.setIfInBounds_toArray, List.set_cons_zero, List.set_cons_succ, i64_w, i32_w]
            rfl
           refine pure_ (i := 7) (N := some 28) (v := ?_) (a' := ?_) #[true, true, false, true, true, true, true, true, false, false] rfl rfl (any_of HT_.out (by kernel_rfl)) (fun _ _ _ h => h) (Or.inl ⟨by rfl, ?_⟩) ?_ ?_
           rotate_left
           ·intro w'
            go_simp
            with_reducible rfl
           rotate_left
           ·simp only [Act.put, List.setIfInBounds_toArray, List.set_cons_zero, List.set_cons_succ, i64_w, i32_w]
            rfl
           refine one_ (i := 2) (N := some 23) #[true, true, true, true, true, true, true, true, false, false] rfl rfl (one_of HT_.out (by kernel_rfl)) (by decide) (fun K hK => ?_)
           refine goes_ Try.func102 (by kernel_rfl) rfl #[.slice A1 l1.length c1, .int .i64 x14_1] (by rfl) rfl rfl (by (try simp only [List.map_toArray, List.map_cons, List.map_nil]); first | done | rfl | (simp only [List.length_drop, List.length_take]; rfl)) ?_
           with_reducible refine (impl_holds.calls k2 _ _ l1 x14_1 t102 _ ?side1 ?side2 A10.out).mono ?_
           (case side1 => repeat (first | exact (Kd.C_below HR1.out HB.out) | (with_reducible refine Kd.C_alloc ?_ _) | (with_reducible refine Kd.C_drewN ?_ _) | (with_reducible refine Kd.C_drew ?_)))
           (case side2 => exact HC1.out)
           rintro e w21 ⟨rfl, hb⟩
           refine ⟨_, rfl, ?_⟩
           have n0_ := Aside0.mk (below_step (by repeat (first | (with_reducible first | exact HB.out | apply below_alloc | apply pw_below_drewN | apply below_drew1) | exact HB.out)) hb)
           clear HB
           have HB := n0_
           clear n0_
           (try clear hb)
           (try clear hb2)
           (try clear hk)
           (try clear hi)
           refine hK.out _ _ trivial (fun hHeld => ?_)
           clear hK K
           refine norm_ (a' := ?_) ?_ ?_
           rotate_left
           ·show Act.put _ (some 23) _ = _
            simp only [Act.put, List.setIfInBounds_toArray, List.set_cons_zero, List.set_cons_succ, i64_w, i32_w]
            rfl
           refine one_ (i := 8) (N := some 29) #[true, true, true, true, true, true, true, true, true, false] rfl rfl (one_of HT_.out (by kernel_rfl)) (by decide) (fun K hK => ?_)
           refine goes_ Try.func102 (by kernel_rfl) rfl #[.slice A1 l1.length c1, .int .i64 (Go.bits .xor .i64 x14_1 (ji12))] (by rfl) rfl rfl (by (try simp only [List.map_toArray, List.map_cons, List.map_nil]); first | done | (simp only [hji12]; rfl) | rfl | (simp only [List.length_drop, List.length_take]; rfl)) ?_
           with_reducible refine (impl_holds.calls k2 _ _ l1 (Go.bits .xor .i64 x14_1 (ji12)) t103 _ ?side1 ?side2 A13.out).mono ?_
           (case side1 => repeat (first | exact (Kd.C_below HR1.out HB.out) | (with_reducible refine Kd.C_alloc ?_ _) | (with_reducible refine Kd.C_drewN ?_ _) | (with_reducible refine Kd.C_drew ?_)))
           (case side2 => exact HC1.out)
           rintro e w22 ⟨rfl, hb⟩
           refine ⟨_, rfl, ?_⟩
           have n0_ := Aside0.mk (below_step (by repeat (first | (with_reducible first | exact HB.out | apply below_alloc | apply pw_below_drewN | apply below_drew1) | exact HB.out)) hb)
           clear HB
           have HB := n0_
           clear n0_
           (try clear hb)
           (try clear hb2)
           (try clear hk)
           (try clear hi)
           refine hK.out _ _ trivial (fun hHeld => ?_)
           clear hK K
           refine norm_ (a' := ?_) ?_ ?_
           rotate_left
           ·show Act.put _ (some 29) _ = _
            simp only [Act.put, List.setIfInBounds_toArray, List.set_cons_zero, List.set_cons_succ, i64_w, i32_w]
            rfl
           refine pure_ (i := 9) (N := some 30) (v := ?_) (a' := ?_) #[true, true, true, true, true, true, true, true, true, true] rfl rfl (any_of HT_.out (by kernel_rfl)) (fun _ _ _ h => h) (Or.inl ⟨by rfl, ?_⟩) ?_ ?_
           rotate_left
           ·intro w'
            go_simp
            with_reducible rfl
           rotate_left
           ·simp only [Act.put, List.setIfInBounds_toArray, List.set_cons_zero, List.set_cons_succ, i64_w, i32_w]
            rfl
           refine done_ (done_of HT_.out (by kernel_rfl)) ?_
           try go_wp2
           go_roundg k2
           case measure => have := HK1.out; have := HK2.out; omega
           case rel => exact ⟨(x5_2), (wrap64 (x18_2 + 1)), (by first | rfl | (simp; done) | (simp [*]; done)), (by first | rfl | (simp; done) | (simp [*]; done)), H', ⟨by have := HK1.out; have := HK2.out; omega⟩, ⟨by repeat (first | (with_reducible first | exact HB.out | apply below_alloc | apply pw_below_drewN | apply below_drew1) | exact HB.out)⟩⟩
         ·rw [if_neg c11] at H
          exact absurd H (by simp)
        ·rw [if_neg c9] at H
         have c9b0 : decide (x18_2 < a0) = false := decide_eq_false c9
         clear c9
         have H' := Aside0.mk H
         clear H
         go_wp2
         go_roundg k2
         case measure => have := HK1.out; have := HK2.out; omega
         case rel => exact ⟨(x5_2), (wrap64 (x14_1 + 1)), (by first | rfl | (simp; done) | (simp [*]; done)), (by first | rfl | (simp; done) | (simp [*]; done)), H', ⟨by have := HK1.out; have := HK2.out; omega⟩, ⟨by repeat (first | (with_reducible first | exact HB.out | apply below_alloc | apply pw_below_drewN | apply below_drew1) | exact HB.out)⟩⟩
     ·rw [if_neg c8] at H
      have c8b0 : decide (x14_1 < ji6) = false := decide_eq_false c8
      clear c8
      obtain rfl := Option.some.inj H
      go_wp2
      go_ret
      exact ⟨by first | rfl | (simp [errW_none, errW_some] <;> rfl) | (simp only [← hji6]; first | rfl | (simp [errW_none, errW_some] <;> rfl)) | (simp [*, errW_none, errW_some] <;> rfl), by repeat (first | (with_reducible first | exact HB.out | apply below_alloc | apply pw_below_drewN | apply below_drew1) | exact HB.out)⟩
  ·rw [if_neg c5] at H
   exact absurd H (by simp)
 ·replace c4 := Bool.eq_false_iff.mpr c4
  subst c4
  have H1 : (some (-1)) = some r := by rw [if_neg (show ¬ (false = true) by decide)] at H; exact H
  clear H
  have H := H1
  clear H1
  obtain rfl := Option.some.inj H
  go_enter Try.func63, Try.ntmps63
  go_wp2_with (first | ((with_reducible refine gate_callee (f := 59) rfl ?_); refine goesL_ (some 10) rfl rfl Try.func59 (by kernel_rfl) rfl #[.int .i64 a0, .slice A1 l1.length c1] rfl (by (try simp only [List.map_toArray, List.map_cons, List.map_nil]); first | done | rfl | (simp only [List.length_drop, List.length_take]; rfl)) ?_; (with_reducible refine (impl_TermOk.calls k a0 _ _ l1 false _ ?side1 ?side2 A3.out).mono ?_); (case side1 => repeat (first | exact HR1.out | (with_reducible refine Kd.C_alloc ?_ _) | (with_reducible refine Kd.C_drewN ?_ _) | (with_reducible refine Kd.C_drew ?_))); (case side2 => exact HC1.out); rintro e w23 ⟨rfl, hb⟩; refine ⟨_, rfl, ?_⟩; have n0_ := Aside0.mk (below_step (by repeat (first | (with_reducible first | exact HB.out | apply below_alloc | apply pw_below_drewN | apply below_drew1) | exact HB.out)) hb); clear HB; have HB := n0_; clear n0_; (try clear hb); (try clear hb2); (try clear hk); (try clear hi)))
  go_ret
  exact ⟨by first | rfl | (simp [errW_none, errW_some] <;> rfl) | (simp [*, errW_none, errW_some] <;> rfl), by repeat (first | (with_reducible first | exact HB.out | apply below_alloc | apply pw_below_drewN | apply below_drew1) | exact HB.out)⟩

end Go.Proofs.Ytpampekijfjlkaa.X

-- printed by a program of this session's (xprint)
namespace Go.Proofs.Ytpampekijfjlkaa.X
open Go.RowKit Go.Proofs.YtpampekijfjlkaaW.PrintWords Go.Proofs.YtpampekijfjlkaaW.PrintLast Go.Proofs.YtpampekijfjlkaaW.PrintMore
attribute [local go_sem] max2_int min2_int max_two min_two max_three min_three max_four min_four   -- for this text's walks alone
set_option linter.unusedVariables false
set_option linter.unusedSimpArgs false

/-! ### laws_FnTrickTwice: function 12 -/
def laws_FnTrickTwice.j0 : Nat → Int → Int → List (S52) → List (S52) → List (S52) → Bool → Option (Bool)
 | 0, _, _, _, _, _, _ => none
 | k + 1, x3, x4, x5, x6, x8, x38 => if x38 = true then ((laws_alive.f).bind fun t114 => (some t114)) else ((laws_alive.f).bind fun t115 => (if t115 = true then ((impl_SameOk.f k x3 x8 x5).bind fun t116 => (if t116 = true then ((impl_AlikeOk.f k x3 x4 x6).bind fun t117 => ((impl_MatterIn.f k x3 x5).bind fun t118 => (if 0 ≤ x4 then (some (t117 == ((Int.tmod (shr .i64 t118 x4) 2) == 0))) else (none)))) else (some false))) else (some false)))
def laws_FnTrickTwice.f (k : Nat) (l0 : List Int) : Option (Bool) := if (l0.length : Int) > 1048576 then (some true) else ((spec_DrawTrickTerm.f k l0).bind fun bt101 => ((impl_TrickTerm.f k bt101.1 bt101.2.1 bt101.2.2).bind fun bt106 => ((impl_TrickTerm.f k bt101.1 bt101.2.1 bt106.1).bind fun bt110 => (if bt106.2 = true then (laws_FnTrickTwice.j0 k bt101.1 bt101.2.1 bt101.2.2 bt106.1 bt110.1 (!bt110.2)) else (laws_FnTrickTwice.j0 k bt101.1 bt101.2.1 bt101.2.2 bt106.1 bt110.1 true)))))
theorem laws_FnTrickTwice.mono_l : ∀ k, (∀ y0 y1 y2 y3 y4 y5, LeO (laws_FnTrickTwice.j0 k y0 y1 y2 y3 y4 y5) (laws_FnTrickTwice.j0 (k + 1) y0 y1 y2 y3 y4 y5))
 | 0 => fun _ _ _ _ _ _ r h => by simp [laws_FnTrickTwice.j0] at h
 | k + 1 => by
  have ih0 := laws_FnTrickTwice.mono_l k
  ·intro y0 y1 y2 y3 y4 y5
   unfold laws_FnTrickTwice.j0
   repeat' first
   | (with_reducible exact ih0 _ _ _ _ _ _)
   | (with_reducible exact impl_AlikeOk.mono _ _ _ _)
   | (with_reducible exact impl_MatterIn.mono _ _ _)
   | (with_reducible exact impl_SameOk.mono _ _ _ _)
   | (with_reducible exact impl_TrickTerm.mono _ _ _ _)
   | (with_reducible exact spec_DrawTrickTerm.mono _ _)
   | (with_reducible exact LeO.refl _)
   | (with_reducible exact LeO.none _)
   | (with_reducible refine LeO.ite ?_ ?_)
   | (with_reducible refine LeO.bind ?_ (fun _ => ?_))
   | exact ih0 _ _ _ _ _ _
   | exact impl_AlikeOk.mono _ _ _ _
   | exact impl_MatterIn.mono _ _ _
   | exact impl_SameOk.mono _ _ _ _
   | exact impl_TrickTerm.mono _ _ _ _
   | exact spec_DrawTrickTerm.mono _ _
   | exact LeO.none _
   | refine LeO.ite ?_ ?_
   | refine LeO.bind ?_ (fun _ => ?_)
theorem laws_FnTrickTwice.mono : ∀ a0 k, LeO (laws_FnTrickTwice.f k a0) (laws_FnTrickTwice.f (k + 1) a0) := by
 intro a0 k
 have ih0 := laws_FnTrickTwice.mono_l k
 unfold laws_FnTrickTwice.f
 repeat' first
   | (with_reducible exact ih0 _ _ _ _ _ _)
   | (with_reducible exact impl_AlikeOk.mono _ _ _ _)
   | (with_reducible exact impl_MatterIn.mono _ _ _)
   | (with_reducible exact impl_SameOk.mono _ _ _ _)
   | (with_reducible exact impl_TrickTerm.mono _ _ _ _)
   | (with_reducible exact spec_DrawTrickTerm.mono _ _)
   | (with_reducible exact LeO.refl _)
   | (with_reducible exact LeO.none _)
   | (with_reducible refine LeO.ite ?_ ?_)
   | (with_reducible refine LeO.bind ?_ (fun _ => ?_))
   | exact ih0 _ _ _ _ _ _
   | exact impl_AlikeOk.mono _ _ _ _
   | exact impl_MatterIn.mono _ _ _
   | exact impl_SameOk.mono _ _ _ _
   | exact impl_TrickTerm.mono _ _ _ _
   | exact spec_DrawTrickTerm.mono _ _
   | exact LeO.none _
   | refine LeO.ite ?_ ?_
   | refine LeO.bind ?_ (fun _ => ?_)
set_option maxHeartbeats 8000000 in
set_option maxRecDepth 100000 in
theorem laws_FnTrickTwice.calls (k : Nat) (A0 : Option Addr) (c0 : Nat) (l0 : List Int) (r : Bool) (w : World) (hr0 : Kd.C (Kd.int .u8) w A0 l0.length l0) (hc0 : l0.length ≤ c0) (hr_ : Aside0 (r = true)) (h : laws_FnTrickTwice.f k l0 = some r) :
  Calls Try.prog 12 #[.slice A0 l0.length c0] w fun e w' => e = .returned (.bool r) ∧ Below w.heap.size w w' := by
 have HR0 := Aside0.mk hr0
 have HC0 := Aside0.mk hc0
 clear hr0 hc0
 have HB := Aside0.mk (Below.refl w.heap.size w)
 have H : (if (l0.length : Int) > 1048576 then (some true) else ((spec_DrawTrickTerm.f k l0).bind fun bt101 => ((impl_TrickTerm.f k bt101.1 bt101.2.1 bt101.2.2).bind fun bt106 => ((impl_TrickTerm.f k bt101.1 bt101.2.1 bt106.1).bind fun bt110 => (if bt106.2 = true then (laws_FnTrickTwice.j0 k bt101.1 bt101.2.1 bt101.2.2 bt106.1 bt110.1 (!bt110.2)) else (laws_FnTrickTwice.j0 k bt101.1 bt101.2.1 bt101.2.2 bt106.1 bt110.1 true)))))) = some r := h
 clear h
 by_cases c2 : (l0.length : Int) > 1048576
 ·rw [if_pos c2] at H
  have c2b0 : decide (1048576 < (l0.length : Int)) = true := decide_eq_true c2
  have c2b1 : decide (1048576 < l0.length) = true := decide_eq_true (by omega)
  clear c2
  obtain rfl := Option.some.inj H
  go_enter Try.func12, Try.ntmps12
  go_wp2
  go_ret
  exact ⟨by first | rfl | (simp [errW_none, errW_some] <;> rfl) | (simp [*, errW_none, errW_some] <;> rfl), by repeat (first | (with_reducible first | exact HB.out | apply below_alloc | apply pw_below_drewN | apply below_drew1) | exact HB.out)⟩
 ·rw [if_neg c2] at H
  have c2b0 : decide (1048576 < (l0.length : Int)) = false := decide_eq_false c2
  have c2b1 : decide (1048576 < l0.length) = false := decide_eq_false (by omega)
  clear c2
  replace H := Option.bind_eq_some_iff.mp H
  obtain ⟨⟨t101, t102, t103⟩, A30, H⟩ := H
  replace H : ((impl_TrickTerm.f k t101 t102 t103).bind fun bt106 => ((impl_TrickTerm.f k t101 t102 bt106.1).bind fun bt110 => (if bt106.2 = true then (laws_FnTrickTwice.j0 k t101 t102 t103 bt106.1 bt110.1 (!bt110.2)) else (laws_FnTrickTwice.j0 k t101 t102 t103 bt106.1 bt110.1 true)))) = some r := H
  have A3 := Aside0.mk A30
  clear A30
  replace H := Option.bind_eq_some_iff.mp H
  obtain ⟨⟨t106, t107⟩, A40, H⟩ := H
  replace H : ((impl_TrickTerm.f k t101 t102 t106).bind fun bt110 => (if t107 = true then (laws_FnTrickTwice.j0 k t101 t102 t103 t106 bt110.1 (!bt110.2)) else (laws_FnTrickTwice.j0 k t101 t102 t103 t106 bt110.1 true))) = some r := H
  have A4 := Aside0.mk A40
  clear A40
  replace H := Option.bind_eq_some_iff.mp H
  obtain ⟨⟨t110, t111⟩, A50, H⟩ := H
  replace H : (if t107 = true then (laws_FnTrickTwice.j0 k t101 t102 t103 t106 t110 (!t111)) else (laws_FnTrickTwice.j0 k t101 t102 t103 t106 t110 true)) = some r := H
  have A5 := Aside0.mk A50
  clear A50
  have HC6 := Aside0.mk H
  clear H
  go_enter Try.func12, Try.ntmps12
  go_upto_region 6 with (first | ((with_reducible refine gate_callee (f := 60) rfl ?_); refine goesL_ (some 15) rfl rfl Try.func60 (by kernel_rfl) rfl #[.slice A0 l0.length c0] rfl (by (try simp only [List.map_toArray, List.map_cons, List.map_nil]); first | done | rfl | (simp only [List.length_drop, List.length_take]; rfl)) ?_; (with_reducible refine (spec_DrawTrickTerm.calls k _ _ l0 t101 t102 t103 _ ?side1 ?side2 A3.out).mono ?_); (case side1 => repeat (first | exact HR0.out | (with_reducible refine Kd.C_alloc ?_ _) | (with_reducible refine Kd.C_drewN ?_ _) | (with_reducible refine Kd.C_drew ?_))); (case side2 => exact HC0.out); rintro e w7 ⟨v104, rfl, ho0, hb⟩; refine ⟨_, rfl, ?_⟩; have n0_ := Aside0.mk (Kd.R_lower ho0 (below_size (by repeat (first | (with_reducible first | exact HB.out | apply below_alloc | apply pw_below_drewN | apply below_drew1) | exact HB.out)))); have n1_ := Aside0.mk (below_step (by repeat (first | (with_reducible first | exact HB.out | apply below_alloc | apply pw_below_drewN | apply below_drew1) | exact HB.out)) hb); clear HB; have HO105 := n0_; have HB := n1_; clear n0_ n1_; (try clear hb); (try clear hb2); (try clear hk); (try clear hi); (try clear ho0); obtain ⟨Ao8, co8, eo8⟩ := Kd.R_slice HO105.out; subst eo8) | ((with_reducible refine gate_callee (f := 38) rfl ?_); refine goesL_ (some 23) rfl rfl Try.func38 (by kernel_rfl) rfl #[.int .i64 t101, .int .i64 t102, .slice Ao8 t103.length co8] rfl (by (try simp only [List.map_toArray, List.map_cons, List.map_nil]); first | done | rfl | (simp only [List.length_drop, List.length_take]; rfl)) ?_; (with_reducible refine (impl_TrickTerm.calls k t101 t102 _ _ t103 t106 t107 _ ?side1 ?side2 A4.out).mono ?_); (case side1 => repeat (first | exact (Kd.R_reads' HO105.out).2.2 | (with_reducible refine Kd.C_alloc ?_ _) | (with_reducible refine Kd.C_drewN ?_ _) | (with_reducible refine Kd.C_drew ?_))); (case side2 => exact (Kd.R_reads' HO105.out).2.1); rintro e w9 ⟨v108, rfl, ho0, hb⟩; refine ⟨_, rfl, ?_⟩; have n0_ := Aside0.mk (Kd.R_elder' (by (with_reducible repeat (first | apply Kd.R_alloc | apply Kd.R_drewN | apply Kd.R_drew)); exact HO105.out) (Kd.R_base ho0) hb); have n1_ := Aside0.mk (Kd.R_lower (Kd.R_new' ho0 (Kd.R_lt (by (with_reducible repeat (first | apply Kd.R_alloc | apply Kd.R_drewN | apply Kd.R_drew)); exact HO105.out))) (below_size (by repeat (first | (with_reducible first | exact HB.out | apply below_alloc | apply pw_below_drewN | apply below_drew1) | exact HB.out)))); have n2_ := Aside0.mk (below_step (by repeat (first | (with_reducible first | exact HB.out | apply below_alloc | apply pw_below_drewN | apply below_drew1) | exact HB.out)) hb); clear HO105; clear HB; have HO105 := n0_; have HO109 := n1_; have HB := n2_; clear n0_ n1_ n2_; (try clear hb); (try clear hb2); (try clear hk); (try clear hi); (try clear ho0); obtain ⟨Ao10, co10, eo10⟩ := Kd.R_slice HO109.out; subst eo10) | ((with_reducible refine gate_callee (f := 38) rfl ?_); refine goesL_ (some 30) rfl rfl Try.func38 (by kernel_rfl) rfl #[.int .i64 t101, .int .i64 t102, .slice Ao10 t106.length co10] rfl (by (try simp only [List.map_toArray, List.map_cons, List.map_nil]); first | done | rfl | (simp only [List.length_drop, List.length_take]; rfl)) ?_; (with_reducible refine (impl_TrickTerm.calls k t101 t102 _ _ t106 t110 t111 _ ?side1 ?side2 A5.out).mono ?_); (case side1 => repeat (first | exact (Kd.R_reads' HO109.out).2.2 | (with_reducible refine Kd.C_alloc ?_ _) | (with_reducible refine Kd.C_drewN ?_ _) | (with_reducible refine Kd.C_drew ?_))); (case side2 => exact (Kd.R_reads' HO109.out).2.1); rintro e w11 ⟨v112, rfl, ho0, hb⟩; refine ⟨_, rfl, ?_⟩; have n0_ := Aside0.mk (Kd.R_elder' (by (with_reducible repeat (first | apply Kd.R_alloc | apply Kd.R_drewN | apply Kd.R_drew)); exact HO105.out) (Kd.R_base ho0) hb); have n1_ := Aside0.mk (Kd.R_elder' (by (with_reducible repeat (first | apply Kd.R_alloc | apply Kd.R_drewN | apply Kd.R_drew)); exact HO109.out) (Kd.R_base ho0) hb); have n2_ := Aside0.mk (Kd.R_lower (Kd.R_new' (Kd.R_new' ho0 (Kd.R_lt (by (with_reducible repeat (first | apply Kd.R_alloc | apply Kd.R_drewN | apply Kd.R_drew)); exact HO105.out))) (Kd.R_lt (by (with_reducible repeat (first | apply Kd.R_alloc | apply Kd.R_drewN | apply Kd.R_drew)); exact HO109.out))) (below_size (by repeat (first | (with_reducible first | exact HB.out | apply below_alloc | apply pw_below_drewN | apply below_drew1) | exact HB.out)))); have n3_ := Aside0.mk (below_step (by repeat (first | (with_reducible first | exact HB.out | apply below_alloc | apply pw_below_drewN | apply below_drew1) | exact HB.out)) hb); clear HO105; clear HO109; clear HB; have HO105 := n0_; have HO109 := n1_; have HO113 := n2_; have HB := n3_; clear n0_ n1_ n2_ n3_; (try clear hb); (try clear hb2); (try clear hk); (try clear hi); (try clear ho0)))
  (try simp only [Act.put, List.setIfInBounds_toArray, List.set_cons_zero, List.set_cons_succ])
  go_cut [38] (fun v38 wc => ∃ (kq : Nat) (x38_5 : Bool), v38 = .bool x38_5 ∧ Aside0 (laws_FnTrickTwice.j0 kq t101 t102 t103 t106 t110 x38_5 = some r) ∧ Aside0 (kq ≤ k) ∧ Aside0 (Kd.R k52 52 wc w.heap.size (fun k_ => some k_ ≠ ((.slice Ao10 t106.length co10) : Value).ownBlock ∧ some k_ ≠ (v112 : Value).ownBlock) (.slice Ao8 t103.length co8) t103) ∧ Aside0 (Kd.R k52 52 wc w.heap.size (fun k_ => some k_ ≠ ((.slice Ao8 t103.length co8) : Value).ownBlock ∧ some k_ ≠ (v112 : Value).ownBlock) (.slice Ao10 t106.length co10) t106) ∧ Aside0 (Kd.R k52 52 wc w.heap.size (fun k_ => some k_ ≠ ((.slice Ao8 t103.length co8) : Value).ownBlock ∧ some k_ ≠ ((.slice Ao10 t106.length co10) : Value).ownBlock) v112 t110) ∧ Aside0 (Below w.heap.size w wc))
  case first =>
   have H := HC6.out
   clear HC6
   by_cases c12 : t107 = true
   ·subst c12
    have H1 : (laws_FnTrickTwice.j0 k t101 t102 t103 t106 t110 (!t111)) = some r := by rw [if_pos rfl] at H; exact H
    clear H
    have H := H1
    clear H1
    have H' := Aside0.mk H
    clear H
    go_wp2
    go_meet
    case rel => exact ⟨_, (!t111), (by first | rfl | (simp; done) | (simp [*]; done)), H', ⟨by first | omega | exact Nat.le_refl _⟩, ⟨by (with_reducible repeat (first | apply Kd.R_alloc | apply Kd.R_drewN | apply Kd.R_drew)); exact Kd.R_mono HO105.out (fun _ hk => ⟨hk.1.2, hk.2⟩)⟩, ⟨by (with_reducible repeat (first | apply Kd.R_alloc | apply Kd.R_drewN | apply Kd.R_drew)); exact Kd.R_mono HO109.out (fun _ hk => ⟨hk.1.2, hk.2⟩)⟩, ⟨by (with_reducible repeat (first | apply Kd.R_alloc | apply Kd.R_drewN | apply Kd.R_drew)); exact Kd.R_mono HO113.out (fun _ hk => ⟨hk.1.2, hk.2⟩)⟩, ⟨by repeat (first | (with_reducible first | exact HB.out | apply below_alloc | apply pw_below_drewN | apply below_drew1) | exact HB.out)⟩⟩
   ·replace c12 := Bool.eq_false_iff.mpr c12
    subst c12
    have H1 : (laws_FnTrickTwice.j0 k t101 t102 t103 t106 t110 true) = some r := by rw [if_neg (show ¬ (false = true) by decide)] at H; exact H
    clear H
    have H := H1
    clear H1
    have H' := Aside0.mk H
    clear H
    go_wp2
    go_meet
    case rel => exact ⟨_, (true), (by first | rfl | (simp; done) | (simp [*]; done)), H', ⟨by first | omega | exact Nat.le_refl _⟩, ⟨by (with_reducible repeat (first | apply Kd.R_alloc | apply Kd.R_drewN | apply Kd.R_drew)); exact Kd.R_mono HO105.out (fun _ hk => ⟨hk.1.2, hk.2⟩)⟩, ⟨by (with_reducible repeat (first | apply Kd.R_alloc | apply Kd.R_drewN | apply Kd.R_drew)); exact Kd.R_mono HO109.out (fun _ hk => ⟨hk.1.2, hk.2⟩)⟩, ⟨by (with_reducible repeat (first | apply Kd.R_alloc | apply Kd.R_drewN | apply Kd.R_drew)); exact Kd.R_mono HO113.out (fun _ hk => ⟨hk.1.2, hk.2⟩)⟩, ⟨by repeat (first | (with_reducible first | exact HB.out | apply below_alloc | apply pw_below_drewN | apply below_drew1) | exact HB.out)⟩⟩
  case rest =>
   clear HC6
   try clear c1
   try clear c2
   try clear c2b0
   try clear c2b1
   try clear p2
   try clear c3
   try clear c6
   try clear c12
   obtain ⟨kq, x38_5, rfl, HA, HJ5, HO_5, HO_6, HO_8, HB⟩ := hcut
   cases kq with
   | zero => exact absurd HA.out (by simp [laws_FnTrickTwice.j0])
   | succ kj5 =>
    have H := HA.out
    clear HA
    simp only [laws_FnTrickTwice.j0] at H
    by_cases c13 : x38_5 = true
    ·subst c13
     have H1 : ((laws_alive.f).bind fun t114 => (some t114)) = some r := by rw [if_pos rfl] at H; exact H
     clear H
     have H := H1
     clear H1
     replace H := Option.bind_eq_some_iff.mp H
     obtain ⟨t114, A140, H⟩ := H
     replace H : (some t114) = some r := H
     have A14 := Aside0.mk A140
     clear A140
     obtain rfl := Option.some.inj H
     go_wp2_with (first | ((with_reducible refine gate_callee (f := 37) rfl ?_); refine goesL_ (some 39) rfl rfl Try.func37 (by kernel_rfl) rfl #[] rfl (by (try simp only [List.map_toArray, List.map_cons, List.map_nil]); first | done | rfl | (simp only [List.length_drop, List.length_take]; rfl)) ?_; (with_reducible refine (laws_alive.calls  t114 _ A14.out).mono ?_); rintro e w' ⟨rfl, ⟨nd, rfl⟩⟩; refine ⟨_, rfl, ?_⟩))
     go_ret
     exact ⟨by first | rfl | (simp [errW_none, errW_some] <;> rfl) | (simp [*, errW_none, errW_some] <;> rfl), by repeat (first | (with_reducible first | exact HB.out | apply below_alloc | apply pw_below_drewN | apply below_drew1) | exact HB.out)⟩
    ·replace c13 := Bool.eq_false_iff.mpr c13
     subst c13
     have H1 : ((laws_alive.f).bind fun t115 => (if t115 = true then ((impl_SameOk.f kj5 t101 t110 t103).bind fun t116 => (if t116 = true then ((impl_AlikeOk.f kj5 t101 t102 t106).bind fun t117 => ((impl_MatterIn.f kj5 t101 t103).bind fun t118 => (if 0 ≤ t102 then (some (t117 == ((Int.tmod (shr .i64 t118 t102) 2) == 0))) else (none)))) else (some false))) else (some false))) = some r := by rw [if_neg (show ¬ (false = true) by decide)] at H; exact H
     clear H
     have H := H1
     clear H1
     replace H := Option.bind_eq_some_iff.mp H
     obtain ⟨t115, A150, H⟩ := H
     replace H : (if t115 = true then ((impl_SameOk.f kj5 t101 t110 t103).bind fun t116 => (if t116 = true then ((impl_AlikeOk.f kj5 t101 t102 t106).bind fun t117 => ((impl_MatterIn.f kj5 t101 t103).bind fun t118 => (if 0 ≤ t102 then (some (t117 == ((Int.tmod (shr .i64 t118 t102) 2) == 0))) else (none)))) else (some false))) else (some false)) = some r := H
     have A15 := Aside0.mk A150
     clear A150
     by_cases c16 : t115 = true
     ·subst c16
      have H1 : ((impl_SameOk.f kj5 t101 t110 t103).bind fun t116 => (if t116 = true then ((impl_AlikeOk.f kj5 t101 t102 t106).bind fun t117 => ((impl_MatterIn.f kj5 t101 t103).bind fun t118 => (if 0 ≤ t102 then (some (t117 == ((Int.tmod (shr .i64 t118 t102) 2) == 0))) else (none)))) else (some false))) = some r := by rw [if_pos rfl] at H; exact H
      clear H
      have H := H1
      clear H1
      replace H := Option.bind_eq_some_iff.mp H
      obtain ⟨t116, A170, H⟩ := H
      replace H : (if t116 = true then ((impl_AlikeOk.f kj5 t101 t102 t106).bind fun t117 => ((impl_MatterIn.f kj5 t101 t103).bind fun t118 => (if 0 ≤ t102 then (some (t117 == ((Int.tmod (shr .i64 t118 t102) 2) == 0))) else (none)))) else (some false)) = some r := H
      have A17 := Aside0.mk A170
      clear A170
      by_cases c18 : t116 = true
      ·subst c18
       have H1 : ((impl_AlikeOk.f kj5 t101 t102 t106).bind fun t117 => ((impl_MatterIn.f kj5 t101 t103).bind fun t118 => (if 0 ≤ t102 then (some (t117 == ((Int.tmod (shr .i64 t118 t102) 2) == 0))) else (none)))) = some r := by rw [if_pos rfl] at H; exact H
       clear H
       have H := H1
       clear H1
       replace H := Option.bind_eq_some_iff.mp H
       obtain ⟨t117, A190, H⟩ := H
       replace H : ((impl_MatterIn.f kj5 t101 t103).bind fun t118 => (if 0 ≤ t102 then (some (t117 == ((Int.tmod (shr .i64 t118 t102) 2) == 0))) else (none))) = some r := H
       have A19 := Aside0.mk A190
       clear A190
       replace H := Option.bind_eq_some_iff.mp H
       obtain ⟨t118, A200, H⟩ := H
       replace H : (if 0 ≤ t102 then (some (t117 == ((Int.tmod (shr .i64 t118 t102) 2) == 0))) else (none)) = some r := H
       have A20 := Aside0.mk A200
       clear A200
       by_cases c21 : 0 ≤ t102
       ·rw [if_pos c21] at H
        have c21b0 := eq_true c21
        have c21b1 : decide (0 ≤ t102) = true := decide_eq_true c21
        clear c21
        obtain ⟨ji22, hji22⟩ : ∃ j_ : Int, (shr .i64 t118 t102) = j_ := ⟨_, rfl⟩
        replace H : (some (t117 == ((Int.tmod (ji22) 2) == 0))) = some r := by first | (rw [hji22] at H; exact H) | (simp only [hji22] at H ⊢; exact H)
        (try rw [hji22] at A15)
        (try rw [hji22] at A17)
        (try rw [hji22] at A19)
        (try rw [hji22] at A20)
        have hji22_ : (t118 / 2 ^ min t102.toNat 64) = ji22 := hji22
        have hji22z : t102 ≤ 64 → (t118 / 2 ^ t102.toNat) = ji22 := shr_small hji22
        obtain rfl := Option.some.inj H
        go_wp2_with (first | ((with_reducible refine gate_callee (f := 37) rfl ?_); refine goesL_ (some 40) rfl rfl Try.func37 (by kernel_rfl) rfl #[] rfl (by (try simp only [List.map_toArray, List.map_cons, List.map_nil]); first | done | rfl | (simp only [List.length_drop, List.length_take]; rfl)) ?_; (with_reducible refine (laws_alive.calls  true _ A15.out).mono ?_); rintro e w' ⟨rfl, ⟨nd, rfl⟩⟩; refine ⟨_, rfl, ?_⟩; obtain ⟨Ao23, co23, eo23⟩ := Kd.R_slice HO_8.out; subst eo23) | (go_at_call 62; (with_reducible refine (impl_SameOk.calls kj5 t101 _ _ t110 _ _ t103 true _ ?side1 ?side2 ?side3 ?side4 A17.out).mono ?_); (case side1 => repeat (first | exact (Kd.R_reads' HO_8.out).2.2 | (with_reducible refine Kd.C_alloc ?_ _) | (with_reducible refine Kd.C_drewN ?_ _) | (with_reducible refine Kd.C_drew ?_))); (case side2 => exact (Kd.R_reads' HO_8.out).2.1); (case side3 => repeat (first | exact (Kd.R_reads' HO_5.out).2.2 | (with_reducible refine Kd.C_alloc ?_ _) | (with_reducible refine Kd.C_drewN ?_ _) | (with_reducible refine Kd.C_drew ?_))); (case side4 => exact (Kd.R_reads' HO_5.out).2.1); rintro e w24 ⟨rfl, hb⟩; have n0_ := Aside0.mk (Kd.R_below (by (with_reducible repeat (first | apply Kd.R_alloc | apply Kd.R_drewN | apply Kd.R_drew)); exact HO_5.out) hb); have n1_ := Aside0.mk (Kd.R_below (by (with_reducible repeat (first | apply Kd.R_alloc | apply Kd.R_drewN | apply Kd.R_drew)); exact HO_6.out) hb); have n2_ := Aside0.mk (Kd.R_below (by (with_reducible repeat (first | apply Kd.R_alloc | apply Kd.R_drewN | apply Kd.R_drew)); exact HO_8.out) hb); have n3_ := Aside0.mk (below_step (by repeat (first | (with_reducible first | exact HB.out | apply below_alloc | apply pw_below_drewN | apply below_drew1) | exact HB.out)) hb); clear HO_5; clear HO_6; clear HO_8; clear HB; have HO_5 := n0_; have HO_6 := n1_; have HO_8 := n2_; have HB := n3_; clear n0_ n1_ n2_ n3_; (try clear hb); (try clear hb2); (try clear hk); (try clear hi)) | (go_at_call 41; (with_reducible refine (impl_AlikeOk.calls kj5 t101 t102 _ _ t106 t117 _ ?side1 ?side2 A19.out).mono ?_); (case side1 => repeat (first | exact (Kd.R_reads' HO_6.out).2.2 | (with_reducible refine Kd.C_alloc ?_ _) | (with_reducible refine Kd.C_drewN ?_ _) | (with_reducible refine Kd.C_drew ?_))); (case side2 => exact (Kd.R_reads' HO_6.out).2.1); rintro e w25 ⟨rfl, hb⟩; have n0_ := Aside0.mk (Kd.R_below (by (with_reducible repeat (first | apply Kd.R_alloc | apply Kd.R_drewN | apply Kd.R_drew)); exact HO_5.out) hb); have n1_ := Aside0.mk (Kd.R_below (by (with_reducible repeat (first | apply Kd.R_alloc | apply Kd.R_drewN | apply Kd.R_drew)); exact HO_6.out) hb); have n2_ := Aside0.mk (Kd.R_below (by (with_reducible repeat (first | apply Kd.R_alloc | apply Kd.R_drewN | apply Kd.R_drew)); exact HO_8.out) hb); have n3_ := Aside0.mk (below_step (by repeat (first | (with_reducible first | exact HB.out | apply below_alloc | apply pw_below_drewN | apply below_drew1) | exact HB.out)) hb); clear HO_5; clear HO_6; clear HO_8; clear HB; have HO_5 := n0_; have HO_6 := n1_; have HO_8 := n2_; have HB := n3_; clear n0_ n1_ n2_ n3_; (try clear hb); (try clear hb2); (try clear hk); (try clear hi)) | (go_at_call 63; (with_reducible refine (impl_MatterIn.calls kj5 t101 _ _ t103 t118 _ ?side1 ?side2 A20.out).mono ?_); (case side1 => repeat (first | exact (Kd.R_reads' HO_5.out).2.2 | (with_reducible refine Kd.C_alloc ?_ _) | (with_reducible refine Kd.C_drewN ?_ _) | (with_reducible refine Kd.C_drew ?_))); (case side2 => exact (Kd.R_reads' HO_5.out).2.1); rintro e w26 ⟨rfl, hb⟩; have n0_ := Aside0.mk (Kd.R_below (by (with_reducible repeat (first | apply Kd.R_alloc | apply Kd.R_drewN | apply Kd.R_drew)); exact HO_5.out) hb); have n1_ := Aside0.mk (Kd.R_below (by (with_reducible repeat (first | apply Kd.R_alloc | apply Kd.R_drewN | apply Kd.R_drew)); exact HO_6.out) hb); have n2_ := Aside0.mk (Kd.R_below (by (with_reducible repeat (first | apply Kd.R_alloc | apply Kd.R_drewN | apply Kd.R_drew)); exact HO_8.out) hb); have n3_ := Aside0.mk (below_step (by repeat (first | (with_reducible first | exact HB.out | apply below_alloc | apply pw_below_drewN | apply below_drew1) | exact HB.out)) hb); clear HO_5; clear HO_6; clear HO_8; clear HB; have HO_5 := n0_; have HO_6 := n1_; have HO_8 := n2_; have HB := n3_; clear n0_ n1_ n2_ n3_; (try clear hb); (try clear hb2); (try clear hk); (try clear hi)))
        go_ret
        exact ⟨by first | rfl | (simp [errW_none, errW_some] <;> rfl) | (simp only [← hji22]; first | rfl | (simp [errW_none, errW_some] <;> rfl)) | (simp [*, errW_none, errW_some] <;> rfl), by repeat (first | (with_reducible first | exact HB.out | apply below_alloc | apply pw_below_drewN | apply below_drew1) | exact HB.out)⟩
       ·rw [if_neg c21] at H
        exact absurd H (by simp)
      ·replace c18 := Bool.eq_false_iff.mpr c18
       subst c18
       have H1 : (some false) = some r := by rw [if_neg (show ¬ (false = true) by decide)] at H; exact H
       clear H
       have H := H1
       clear H1
       exact absurd ((Option.some.inj H).trans hr_.out) (by decide)
     ·replace c16 := Bool.eq_false_iff.mpr c16
      subst c16
      have H1 : (some false) = some r := by rw [if_neg (show ¬ (false = true) by decide)] at H; exact H
      clear H
      have H := H1
      clear H1
      exact absurd ((Option.some.inj H).trans hr_.out) (by decide)

/-- THE ONE PURE STATEMENT of laws_FnTrickTwice: yours. -/
def laws_FnTrickTwice.Pure : Prop := ∀ (l0 : List Int), l0.length ≤ maxLen → l0.length * 1 ≤ 140737488351232 → (∀ x ∈ l0, (Lit.int .u8 x).wf = true) → ∃ k, laws_FnTrickTwice.f k l0 = some true
theorem laws_FnTrickTwice.walk (P : laws_FnTrickTwice.Pure) (a0 : Option Addr) (len0 cap0 : Nat) (z0 : List Int) (w : World) (w0 : (a0 = none ∧ len0 = 0 ∧ cap0 = 0 ∧ z0 = []) ∨ ∃ x, a0 = some x ∧ len0 ≤ cap0 ∧ cap0 ≤ maxLen ∧ z0.length = cap0 ∧ (∀ i, i < z0.length → w.cell? (x.add i) = some (.int .u8 (z0.getD i 0))) ∧ ∀ n ∈ z0, (Lit.int .u8 n).wf = true) (y0 : len0 * 1 ≤ 140737488351232) :
  Calls Try.prog 12 #[.slice a0 len0 cap0] w fun e w' => e = .returned (.bool true) ∧ Below w.heap.size w w' := by
 obtain ⟨l0, rfl, hr0, hm0, hw0, hc0⟩ := ReadsInt.ofRowC w0
 obtain ⟨k, h⟩ := P l0 hm0 y0 hw0
 refine (laws_FnTrickTwice.calls k _ _ l0 true w (Kd.C_of_reads (d := (0 : Int)) (h1 := fun _ => rfl) hr0) hc0 ⟨rfl⟩ h).mono ?_
 rintro e w' ⟨rfl, hd⟩
 exact ⟨rfl, hd⟩

end Go.Proofs.Ytpampekijfjlkaa.X

/- Drawn questions of tricks. -/
namespace Go.Proofs.Ytpampekijfjlkaa.L
open Go.RowKit Go.Proofs.Ytpampekijfjlkaa.X Go.Proofs.YtpampekijfjlkaaW.PrintWords Go.Proofs.YtpampekijfjlkaaW.PrintLast Go.Proofs.YtpampekijfjlkaaW.PrintMore

theorem DrawTrickTerm_ev {l : List Int} (hw : ∀ x ∈ l, (Lit.int .u8 x).wf = true) : ∃ (p i : Int) (t : List M), Ev (fun k => spec_DrawTrickTerm.f k l) (p, i, t) ∧ 1 ≤ p ∧ p ≤ 4 ∧ 0 ≤ i ∧ i ≤ 1000 ∧ t.length ≤ 16 ∧ Sm t := by
 obtain ⟨s, hs, ho⟩ := open_eq hw
 obtain ⟨a, ha, ha0, ha1⟩ := pick_ev hs (p := 0) (by omega) (by omega) 4 (by omega)
 have ha2 := ha1 (by omega)
 obtain ⟨b, hb, hb0, hb1⟩ := pick_ev hs (p := 0 + 1) (by omega) (by omega) (1 + a) (by omega)
 have hb2 := hb1 (by omega)
 obtain ⟨c, hc, hc0, hc1⟩ := pick_ev hs (p := 0 + 1 + 1) (by omega) (by omega) 40 (by omega)
 have hc2 := hc1 (by omega)
 have hd := tdiv39 hc0 hc2
 obtain ⟨t, p', ht, h2, h3, _, _⟩ := l20Term_ev hs (p := 0 + 1 + 1 + 1) (by omega) (by omega) (1 + a) 12 (by omega)
 refine ⟨1 + a, b + Int.tdiv c 39 * 4, t, ?_, by omega, by omega, by omega, by omega, h2, h3⟩
 unfold spec_DrawTrickTerm.f
 rw [ho]
 simp only [Option.bind_some]
 refine Ev.bind ha ?_
 simp only [w64 (x := 1 + a) (by omega) (by omega)]
 refine Ev.bind hb (Ev.bind hc (Ev.bind ht ?_))
 simp only [w64 (x := Int.tdiv c 39) (by omega) (by omega), w64 (x := Int.tdiv c 39 * 4) (by omega) (by omega), w64 (x := b + Int.tdiv c 39 * 4) (by omega) (by omega)]
 exact Ev.some _
end Go.Proofs.Ytpampekijfjlkaa.L

/- Plain law of the trick: a mark of a person ahead, and the mark of sameness behind. -/
namespace Go.Proofs.Ytpampekijfjlkaa.L
open Go.RowKit Go.Proofs.Ytpampekijfjlkaa.X Go.Proofs.YtpampekijfjlkaaW.PrintWords Go.Proofs.YtpampekijfjlkaaW.PrintLast Go.Proofs.YtpampekijfjlkaaW.PrintMore

/-- The trick of a row of marks. -/
def wrapM (i : Int) (t : List M) : List M := ⟨0, i⟩ :: (t ++ [⟨5, 0⟩])
theorem wrapM_length (i : Int) (t : List M) : (wrapM i t).length = t.length + 2 := by simp [wrapM]
theorem trick_eq (i : Int) (t : List M) (ht : t.length ≤ 4611686018427) : impl_trick.f i t = some (wrapM i t) := by
 unfold impl_trick.f
 simp only [Option.bind_some, List.length_cons, List.length_nil, List.length_append]
 rw [if_pos (by omega), if_pos (by omega)]
 rfl
end Go.Proofs.Ytpampekijfjlkaa.L

/- Plain laws of chains: tricks of tricks; the program's chain. -/
namespace Go.Proofs.Ytpampekijfjlkaa.L
open Go.RowKit Go.Proofs.Ytpampekijfjlkaa.X Go.Proofs.YtpampekijfjlkaaW.PrintWords Go.Proofs.YtpampekijfjlkaaW.PrintLast Go.Proofs.YtpampekijfjlkaaW.PrintMore

/-- A term within the tricks of a list. -/
def wrapAll : List Int → List M → List M
 | [], t => t
 | i :: l, t => wrapM i (wrapAll l t)
theorem wrapAll_length : ∀ (l : List Int) (t : List M), (wrapAll l t).length = t.length + 2 * l.length
 | [], t => by simp [wrapAll]
 | i :: l, t => by rw [wrapAll, wrapM_length, wrapAll_length l t, List.length_cons]; omega
theorem wrapAll_form : ∀ (l : List Int) (t : List M), ∃ z : List M, wrapAll l t = l.map (fun i => ⟨0, i⟩) ++ (t ++ z)
 | [], t => ⟨[], by simp [wrapAll]⟩
 | i :: l, t => by
  obtain ⟨z, hz⟩ := wrapAll_form l t
  exact ⟨z ++ [⟨5, 0⟩], by rw [wrapAll, wrapM, hz]; simp⟩
theorem scan_bad {p : Int} : ∀ (l : List Int) (s : List M) (n : Nat), (∃ i ∈ l, ¬ (0 ≤ i ∧ i < p)) → scan p (l.map (fun i => ⟨0, i⟩) ++ s) n = none
 | [], s, n, h => by obtain ⟨i, hi, _⟩ := h; cases hi
 | i :: l, s, n, h => by
  simp only [List.map_cons, List.cons_append, scan, if_true]
  by_cases hi : 0 ≤ i ∧ i < p
  ·rw [if_pos hi]
   refine scan_bad l s _ ?_
   obtain ⟨j, hj, hb⟩ := h
   rcases List.mem_cons.1 hj with rfl | hj
   ·exact absurd hi hb
   ·exact ⟨j, hj, hb⟩
  ·rw [if_neg hi]
theorem tok_bad {p : Int} {l : List Int} {t : List M} (h : ∃ i ∈ l, ¬ (0 ≤ i ∧ i < p)) : tok p (wrapAll l t) ≠ true := by
 intro hk
 obtain ⟨_, _, _, _, hs⟩ := tok_iff.1 hk
 obtain ⟨z, hz⟩ := wrapAll_form l t
 rw [hz, scan_bad l _ 0 h] at hs
 cases hs
theorem tok_long {p : Int} {t : List M} (h : 15 < t.length) : tok p t ≠ true := fun hk => by have := tok_iff.1 hk; omega
/-- What both functions of chains come to. -/
def chainR (p : Int) (l : List Int) (t : List M) : List M × Bool := if tok p t = true ∧ tok p (wrapAll l t) = true then (wrapAll l t, true) else ([], false)
theorem rdI_at' (pre : List Int) (x : Int) (suf : List Int) : rd (pre ++ x :: suf) ((pre.length : Nat) : Int) = x := by
 unfold rd
 simp [List.getD]
theorem impl_Chain_l0 {p : Int} {l : List Int} {t : List M} (hl : l.length ≤ 1048576) (hk : tok p t = true) : ∀ (n : Nat) (pre suf : List Int), l = pre ++ suf → pre.length = n →
  (wrapAll suf t).length ≤ 17 → Ev (fun k => impl_ChainTerm.l0 k p l (wrapAll suf t) ((n : Int) - 1)) (chainR p l t) := by
 intro n
 induction n with
 | zero =>
  intro pre suf he hn hb
  have hp : pre = [] := List.length_eq_zero_iff.1 hn
  subst hp
  rw [List.nil_append] at he
  subst he
  refine Ev.step (fun k => by simp only [impl_ChainTerm.l0]; rfl) ?_
  refine Ev.no (by simp) (Ev.bind (impl_TermOk_ev p _) ?_)
  by_cases hz : tok p (wrapAll l t) = true
  ·exact Ev.yes hz (Ev.cast (Ev.some _) (if_pos ⟨hk, hz⟩).symm)
  ·exact Ev.no hz (Ev.cast (Ev.some _) (if_neg (fun h => hz h.2)).symm)
 | succ n ih =>
  intro pre suf he hn hb
  obtain ⟨pre', x, rfl⟩ : ∃ pre' x, pre = pre' ++ [x] := ⟨pre.dropLast, pre.getLast (by intro h; rw [h] at hn; simp at hn), (List.dropLast_concat_getLast _).symm⟩
  have hn' : pre'.length = n := by simpa using hn
  have he' : l = pre' ++ x :: suf := by rw [he]; simp
  have hx : rd l (((n + 1 : Nat) : Int) - 1) = x := by
   rw [show (((n + 1 : Nat) : Int) - 1) = ((pre'.length : Nat) : Int) by omega, he']
   exact rdI_at' pre' x suf
  have hlen : l.length = n + 1 + suf.length := by rw [he']; simp; omega
  have hmem : x ∈ l := by rw [he']; simp
  have bad : tok p (wrapAll l t) ≠ true → Ev (fun _ : Nat => Option.some (([] : List M), false)) (chainR p l t) := fun h => Ev.cast (Ev.some _) (if_neg (fun h' => h h'.2)).symm
  refine Ev.step (fun k => by simp only [impl_ChainTerm.l0]; rfl) ?_
  rw [hx]
  refine Ev.yes (by omega) (Ev.yes (by omega) (Ev.yes (by omega) ?_))
  by_cases h0 : x < 0
  ·exact Ev.yes h0 (bad (tok_bad ⟨x, hmem, by omega⟩))
  refine Ev.no h0 ?_
  by_cases h1 : x ≥ p
  ·exact Ev.yes h1 (bad (tok_bad ⟨x, hmem, by omega⟩))
  refine Ev.no h1 ?_
  by_cases h2 : ((wrapAll suf t).length : Int) > 15
  ·refine Ev.yes h2 (bad (tok_long ?_))
   rw [wrapAll_length] at h2 ⊢
   rw [hlen]
   omega
  refine Ev.no h2 ?_
  rw [trick_eq _ _ (by omega)]
  simp only [Option.bind_some]
  rw [w64 (by omega) (by omega), show (((n + 1 : Nat) : Int) - 1 - 1) = (n : Int) - 1 by omega]
  exact ih pre' (x :: suf) he' hn' (by rw [wrapAll, wrapM_length]; omega)
theorem clone_eq (t : List M) (ht : t.length ≤ 4611686018427) : impl_Mark.f t = some t := by
 unfold impl_Mark.f
 simp only [Option.bind_some, List.length_nil, List.nil_append]
 rw [if_pos (by omega)]
theorem impl_Chain_ev {p : Int} {l : List Int} {t : List M} (hl : l.length ≤ 1048576) : Ev (fun k => impl_ChainTerm.f k p l t) (chainR p l t) := by
 unfold impl_ChainTerm.f
 refine Ev.bind (impl_TermOk_ev p t) ?_
 by_cases hk : tok p t = true
 ·refine Ev.yes hk ?_
  have h15 := (tok_iff.1 hk).2.2.2.1
  rw [clone_eq t (by omega)]
  simp only [Option.bind_some]
  rw [w64 (by omega) (by omega)]
  exact impl_Chain_l0 hl hk l.length l [] (by simp) rfl (by simp only [wrapAll]; omega)
 ·exact Ev.no hk (Ev.cast (Ev.some _) (if_neg (fun h => hk h.1)).symm)
end Go.Proofs.Ytpampekijfjlkaa.L

-- printed by a program of this session's (xprint)
namespace Go.Proofs.Ytpampekijfjlkaa.X
open Go.RowKit Go.Proofs.YtpampekijfjlkaaW.PrintWords Go.Proofs.YtpampekijfjlkaaW.PrintLast Go.Proofs.YtpampekijfjlkaaW.PrintMore
attribute [local go_sem] max2_int min2_int max_two min_two max_three min_three max_four min_four   -- for this text's walks alone
set_option linter.unusedVariables false
set_option linter.unusedSimpArgs false

/-! ### spec_TrickTerm: function 61 -/
def spec_TrickTerm.f (k : Nat) (a0 : Int) (a1 : Int) (l2 : List (S52)) : Option ((List (S52)) × Bool) := (some (([(⟨0, a1⟩ : S52)] : List (S52)) : List (S52))).bind fun y101 => (if y101.length + l2.length < 8796093022208 then ((some (y101 ++ l2 : List (S52))).bind fun y104 => (if y104.length < 8796093022208 then ((some (y104 ++ [(⟨5, 0⟩ : S52)] : List (S52))).bind fun y107 => ((spec_TermOk.f k a0 l2).bind fun t110 => (if t110 = true then ((spec_TermOk.f k a0 y107).bind fun t111 => (if t111 = true then (some (y107, true)) else (some ((([] : List (S52))), false)))) else (some ((([] : List (S52))), false))))) else (none))) else (none))
theorem spec_TrickTerm.mono : ∀ a0 a1 a2 k, LeO (spec_TrickTerm.f k a0 a1 a2) (spec_TrickTerm.f (k + 1) a0 a1 a2) := by
 intro a0 a1 a2 k
 unfold spec_TrickTerm.f
 repeat' first
   | (with_reducible exact spec_TermOk.mono _ _ _)
   | (with_reducible exact LeO.refl _)
   | (with_reducible exact LeO.none _)
   | (with_reducible refine LeO.ite ?_ ?_)
   | (with_reducible refine LeO.bind ?_ (fun _ => ?_))
   | exact spec_TermOk.mono _ _ _
   | exact LeO.none _
   | refine LeO.ite ?_ ?_
   | refine LeO.bind ?_ (fun _ => ?_)
set_option maxHeartbeats 8000000 in
set_option maxRecDepth 100000 in
theorem spec_TrickTerm.calls (k : Nat) (a0 : Int) (a1 : Int) (A2 : Option Addr) (c2 : Nat) (l2 : List (S52)) (r1 : List (S52)) (r2 : Bool) (w : World) (hr2 : Kd.C k52 w A2 l2.length l2) (hc2 : l2.length ≤ c2) (h : spec_TrickTerm.f k a0 a1 l2 = some (r1, r2)) :
  Calls Try.prog 61 #[.int .i64 a0, .int .i64 a1, .slice A2 l2.length c2] w fun e w' => ∃ v0_ : Value, e = .returned (.tuple #[v0_, .bool r2]) ∧ Kd.R k52 52 w' w.heap.size (fun _ => True) v0_ r1 ∧ Below w.heap.size w w' := by
 have hu52 := Try.underlying52
 have HR2 := Aside0.mk hr2
 have HC2 := Aside0.mk hc2
 clear hr2 hc2
 have HB := Aside0.mk (Below.refl w.heap.size w)
 have H : ((some (([(⟨0, a1⟩ : S52)] : List (S52)) : List (S52))).bind fun y101 => (if y101.length + l2.length < 8796093022208 then ((some (y101 ++ l2 : List (S52))).bind fun y104 => (if y104.length < 8796093022208 then ((some (y104 ++ [(⟨5, 0⟩ : S52)] : List (S52))).bind fun y107 => ((spec_TermOk.f k a0 l2).bind fun t110 => (if t110 = true then ((spec_TermOk.f k a0 y107).bind fun t111 => (if t111 = true then (some (y107, true)) else (some ((([] : List (S52))), false)))) else (some ((([] : List (S52))), false))))) else (none))) else (none))) = some (r1, r2) := h
 clear h
 obtain ⟨y101, hy101⟩ : ∃ y_ : List (S52), y_ = (([(⟨0, a1⟩ : S52)] : List (S52))) := ⟨_, rfl⟩
 replace H : (if y101.length + l2.length < 8796093022208 then ((some (y101 ++ l2 : List (S52))).bind fun y104 => (if y104.length < 8796093022208 then ((some (y104 ++ [(⟨5, 0⟩ : S52)] : List (S52))).bind fun y107 => ((spec_TermOk.f k a0 l2).bind fun t110 => (if t110 = true then ((spec_TermOk.f k a0 y107).bind fun t111 => (if t111 = true then (some (y107, true)) else (some ((([] : List (S52))), false)))) else (some ((([] : List (S52))), false))))) else (none))) else (none)) = some (r1, r2) := by first | (rw [hy101]; with_reducible exact H) | (have H2_ := (Option.bind_some _ _).symm.trans H; rw [hy101]; with_reducible exact H2_) | (have H2_ := (Option.bind_some _ _).symm.trans H; with_reducible exact H2_) | with_reducible exact H | (rw [hy101]; exact H) | exact H
 have Ny101 := Aside0.mk hy101
 clear hy101
 by_cases c4 : y101.length + l2.length < 8796093022208
 ·rw [if_pos c4] at H
  have LMc4 := Aside0.mk c4
  clear c4
  obtain ⟨y104, hy104⟩ : ∃ y_ : List (S52), y_ = (y101 ++ l2) := ⟨_, rfl⟩
  replace H : (if y104.length < 8796093022208 then ((some (y104 ++ [(⟨5, 0⟩ : S52)] : List (S52))).bind fun y107 => ((spec_TermOk.f k a0 l2).bind fun t110 => (if t110 = true then ((spec_TermOk.f k a0 y107).bind fun t111 => (if t111 = true then (some (y107, true)) else (some ((([] : List (S52))), false)))) else (some ((([] : List (S52))), false))))) else (none)) = some (r1, r2) := by first | (rw [hy104]; with_reducible exact H) | (have H2_ := (Option.bind_some _ _).symm.trans H; rw [hy104]; with_reducible exact H2_) | (have H2_ := (Option.bind_some _ _).symm.trans H; with_reducible exact H2_) | with_reducible exact H | (rw [hy104]; exact H) | exact H
  have Ny104 := Aside0.mk hy104
  clear hy104
  by_cases c5 : y104.length < 8796093022208
  ·rw [if_pos c5] at H
   have LMc5 := Aside0.mk c5
   clear c5
   obtain ⟨y107, hy107⟩ : ∃ y_ : List (S52), y_ = (y104 ++ [(⟨5, 0⟩ : S52)]) := ⟨_, rfl⟩
   replace H : ((spec_TermOk.f k a0 l2).bind fun t110 => (if t110 = true then ((spec_TermOk.f k a0 y107).bind fun t111 => (if t111 = true then (some (y107, true)) else (some ((([] : List (S52))), false)))) else (some ((([] : List (S52))), false)))) = some (r1, r2) := by first | (rw [hy107]; with_reducible exact H) | (have H2_ := (Option.bind_some _ _).symm.trans H; rw [hy107]; with_reducible exact H2_) | (have H2_ := (Option.bind_some _ _).symm.trans H; with_reducible exact H2_) | with_reducible exact H | (rw [hy107]; exact H) | exact H
   have Ny107 := Aside0.mk hy107
   clear hy107
   replace H := Option.bind_eq_some_iff.mp H
   obtain ⟨t110, A60, H⟩ := H
   replace H : (if t110 = true then ((spec_TermOk.f k a0 y107).bind fun t111 => (if t111 = true then (some (y107, true)) else (some ((([] : List (S52))), false)))) else (some ((([] : List (S52))), false))) = some (r1, r2) := H
   have A6 := Aside0.mk A60
   clear A60
   by_cases c7 : t110 = true
   ·subst c7
    have H1 : ((spec_TermOk.f k a0 y107).bind fun t111 => (if t111 = true then (some (y107, true)) else (some ((([] : List (S52))), false)))) = some (r1, r2) := by rw [if_pos rfl] at H; exact H
    clear H
    have H := H1
    clear H1
    replace H := Option.bind_eq_some_iff.mp H
    obtain ⟨t111, A80, H⟩ := H
    replace H : (if t111 = true then (some (y107, true)) else (some ((([] : List (S52))), false))) = some (r1, r2) := H
    have A8 := Aside0.mk A80
    clear A80
    by_cases c9 : t111 = true
    ·subst c9
     have H1 : (some (y107, true)) = some (r1, r2) := by rw [if_pos rfl] at H; exact H
     clear H
     have H := H1
     clear H1
     simp only [Option.some.injEq, Prod.mk.injEq] at H
     obtain ⟨rfl, rfl⟩ := H
     go_enter Try.func61, Try.ntmps61
     go_wp2_with (first | ((with_reducible refine gate_dst (N := 11) rfl ?_); refine Kd.R_lit k52 _ 52 ?hg (N := 11) ?hd (xs := ([(⟨0, a1⟩ : S52)] : List (S52))) (inner := [.int .i64 0, .int .i64 a1]) (ok := fun _ => True) (okp := fun _ => True) ?hr ?hp (fun _ hk => hk) trivial (Below.refl _ _) (Nat.le_refl _) (by simp) ?_; (case hd => rfl); (case hg => rfl); (case hr => first | (go_simp; done) | (go_simp; rfl)); (case hp => exact (Reps.c2 (show Kd.M k52 _ _ _ (⟨0, a1⟩ : S52) [.int .i64 0, .int .i64 a1] from (k52_mkM _ _ _ (⟨0, a1⟩ : S52) )) (Reps.none _ _))); intro v102 w10 ho11 hb hg_ hnew_; clear hg_ hnew_; (first | rw [← Ny101.out] at ho11 | (simp only [Int.reduceToNat] at ho11; rw [← Ny101.out] at ho11)); have n0_ := Aside0.mk (Kd.R_lower ho11 (below_size (by repeat (first | (with_reducible first | exact HB.out | apply below_alloc | apply pw_below_drewN | apply below_drew1) | exact HB.out)))); have n1_ := Aside0.mk (below_step (by repeat (first | (with_reducible first | exact HB.out | apply below_alloc | apply pw_below_drewN | apply below_drew1) | exact HB.out)) hb); clear HB; have HO103 := n0_; have HB := n1_; clear n0_ n1_; clear hb ho11) | ((with_reducible refine gate_builtin (b := .append) (xs := #[.tmp 11, .tmp 12]) rfl ?_); at_builtin; refine Kd.R_append_rows k52 (w0 := w) w.heap.size rfl (.tmp 11) (.tmp 12) 34 52 (.agg #[(.int .i64 0), (.int .i64 0)]) 16 rfl Try.underlying34 info52 rfl (by decide) (by omega) v102 y101 l2 _ _ _ (fun _ => True) (fun _ => False) rfl rfl ?aO ?aR (fun _ _ h => h) (fun _ h => h.elim) ?aF ?aB ?aS ?aL ?_; (case aR => repeat (first | exact (Kd.C_below HR2.out HB.out) | (with_reducible refine Kd.C_alloc ?_ _) | (with_reducible refine Kd.C_drewN ?_ _) | (with_reducible refine Kd.C_drew ?_))); (case aB => exact (by repeat (first | (with_reducible first | exact HB.out | apply below_alloc | apply pw_below_drewN | apply below_drew1) | exact HB.out))); (case aF => exact (fun _ _ => trivial)); (case aO => exact (by (with_reducible repeat (first | apply Kd.R_alloc | apply Kd.R_drewN | apply Kd.R_drew)); exact HO103.out)); (case aS => exact (below_size (by repeat (first | (with_reducible first | exact HB.out | apply below_alloc | apply pw_below_drewN | apply below_drew1) | exact HB.out)))); (case aL => have := LMc4.out; omega); intro v105 w12 ho hb hg hat; rw [← Ny104.out] at ho; have n0_ := Aside0.mk (hb); have n1_ := Aside0.mk (ho); clear HB; clear HO103; have HB := n0_; have HO106 := n1_; clear n0_ n1_; clear ho hb hg hat) | ((with_reducible refine gate_builtin (b := .append) (xs := #[.tmp 14, .tmp 16]) rfl ?_); at_builtin; refine Kd.R_append k52 (w0 := w) w.heap.size rfl (.tmp 14) (.tmp 16) 34 52 (.agg #[(.int .i64 0), (.int .i64 0)]) 16 rfl Try.underlying34 info52 rfl (by decide) (by omega) v105 y104 (⟨5, 0⟩ : S52) [.int .i64 5, .int .i64 0] (fun _ => True) (fun _ => False) rfl rfl ?aP (fun _ hk => hk.elim) ?aF ?aO ?aB ?aS ?aL ?_; (case aP => exact k52_mkM _ _ _ (⟨5, 0⟩ : S52)); (case aB => exact (by repeat (first | (with_reducible first | exact HB.out | apply below_alloc | apply pw_below_drewN | apply below_drew1) | exact HB.out))); (case aF => exact (fun _ _ => trivial)); (case aO => exact (by (with_reducible repeat (first | apply Kd.R_alloc | apply Kd.R_drewN | apply Kd.R_drew)); exact HO106.out)); (case aS => exact (below_size (by repeat (first | (with_reducible first | exact HB.out | apply below_alloc | apply pw_below_drewN | apply below_drew1) | exact HB.out)))); (case aL => have := LMc5.out; omega); intro v108 w13 ho hb hg hat; rw [← Ny107.out] at ho; have n0_ := Aside0.mk (hb); have n1_ := Aside0.mk (ho); clear HB; clear HO106; have HB := n0_; have HO109 := n1_; clear n0_ n1_; clear ho hb hg hat) | ((with_reducible refine gate_callee (f := 45) rfl ?_); refine goesL_ (some 20) rfl rfl Try.func45 (by kernel_rfl) rfl #[.int .i64 a0, .slice A2 l2.length c2] rfl (by (try simp only [List.map_toArray, List.map_cons, List.map_nil]); first | done | rfl | (simp only [List.length_drop, List.length_take]; rfl)) ?_; (with_reducible refine (spec_TermOk.calls k a0 _ _ l2 true _ ?side1 ?side2 A6.out).mono ?_); (case side1 => repeat (first | exact (Kd.C_below HR2.out HB.out) | (with_reducible refine Kd.C_alloc ?_ _) | (with_reducible refine Kd.C_drewN ?_ _) | (with_reducible refine Kd.C_drew ?_))); (case side2 => exact HC2.out); rintro e w' ⟨rfl, ⟨nd, rfl⟩⟩; refine ⟨_, rfl, ?_⟩; obtain ⟨Ao14, co14, eo14⟩ := Kd.R_slice HO109.out; subst eo14) | (go_at_call 45; (with_reducible refine (spec_TermOk.calls k a0 _ _ y107 true _ ?side1 ?side2 A8.out).mono ?_); (case side1 => repeat (first | exact (Kd.R_reads' HO109.out).2.2 | (with_reducible refine Kd.C_alloc ?_ _) | (with_reducible refine Kd.C_drewN ?_ _) | (with_reducible refine Kd.C_drew ?_))); (case side2 => exact (Kd.R_reads' HO109.out).2.1); rintro e w' ⟨rfl, ⟨nd, rfl⟩⟩))
     go_ret2
     exact ⟨_, by first | rfl | (simp [errW_none, errW_some] <;> rfl) | (simp [*, errW_none, errW_some] <;> rfl), by (with_reducible repeat (first | apply Kd.R_alloc | apply Kd.R_drewN | apply Kd.R_drew)); exact HO109.out, by repeat (first | (with_reducible first | exact HB.out | apply below_alloc | apply pw_below_drewN | apply below_drew1) | exact HB.out)⟩
    ·replace c9 := Bool.eq_false_iff.mpr c9
     subst c9
     have H1 : (some ((([] : List (S52))), false)) = some (r1, r2) := by rw [if_neg (show ¬ (false = true) by decide)] at H; exact H
     clear H
     have H := H1
     clear H1
     obtain ⟨y112, hy112⟩ : ∃ y_ : List (S52), y_ = (([] : List (S52))) := ⟨_, rfl⟩
     replace H : (some (y112, false)) = some (r1, r2) := by first | (rw [hy112]; with_reducible exact H) | (have H2_ := (Option.bind_some _ _).symm.trans H; rw [hy112]; with_reducible exact H2_) | (have H2_ := (Option.bind_some _ _).symm.trans H; with_reducible exact H2_) | with_reducible exact H | (rw [hy112]; exact H) | exact H
     have Ny112 := Aside0.mk hy112
     clear hy112
     simp only [Option.some.injEq, Prod.mk.injEq] at H
     obtain ⟨rfl, rfl⟩ := H
     go_enter Try.func61, Try.ntmps61
     go_wp2_with (first | ((with_reducible refine gate_dst (N := 11) rfl ?_); refine Kd.R_lit k52 _ 52 ?hg (N := 11) ?hd (xs := ([(⟨0, a1⟩ : S52)] : List (S52))) (inner := [.int .i64 0, .int .i64 a1]) (ok := fun _ => True) (okp := fun _ => True) ?hr ?hp (fun _ hk => hk) trivial (Below.refl _ _) (Nat.le_refl _) (by simp) ?_; (case hd => rfl); (case hg => rfl); (case hr => first | (go_simp; done) | (go_simp; rfl)); (case hp => exact (Reps.c2 (show Kd.M k52 _ _ _ (⟨0, a1⟩ : S52) [.int .i64 0, .int .i64 a1] from (k52_mkM _ _ _ (⟨0, a1⟩ : S52) )) (Reps.none _ _))); intro v102 w15 ho16 hb hg_ hnew_; clear hg_ hnew_; (first | rw [← Ny101.out] at ho16 | (simp only [Int.reduceToNat] at ho16; rw [← Ny101.out] at ho16)); have n0_ := Aside0.mk (Kd.R_lower ho16 (below_size (by repeat (first | (with_reducible first | exact HB.out | apply below_alloc | apply pw_below_drewN | apply below_drew1) | exact HB.out)))); have n1_ := Aside0.mk (below_step (by repeat (first | (with_reducible first | exact HB.out | apply below_alloc | apply pw_below_drewN | apply below_drew1) | exact HB.out)) hb); clear HB; have HO103 := n0_; have HB := n1_; clear n0_ n1_; clear hb ho16) | ((with_reducible refine gate_builtin (b := .append) (xs := #[.tmp 11, .tmp 12]) rfl ?_); at_builtin; refine Kd.R_append_rows k52 (w0 := w) w.heap.size rfl (.tmp 11) (.tmp 12) 34 52 (.agg #[(.int .i64 0), (.int .i64 0)]) 16 rfl Try.underlying34 info52 rfl (by decide) (by omega) v102 y101 l2 _ _ _ (fun _ => True) (fun _ => False) rfl rfl ?aO ?aR (fun _ _ h => h) (fun _ h => h.elim) ?aF ?aB ?aS ?aL ?_; (case aR => repeat (first | exact (Kd.C_below HR2.out HB.out) | (with_reducible refine Kd.C_alloc ?_ _) | (with_reducible refine Kd.C_drewN ?_ _) | (with_reducible refine Kd.C_drew ?_))); (case aB => exact (by repeat (first | (with_reducible first | exact HB.out | apply below_alloc | apply pw_below_drewN | apply below_drew1) | exact HB.out))); (case aF => exact (fun _ _ => trivial)); (case aO => exact (by (with_reducible repeat (first | apply Kd.R_alloc | apply Kd.R_drewN | apply Kd.R_drew)); exact HO103.out)); (case aS => exact (below_size (by repeat (first | (with_reducible first | exact HB.out | apply below_alloc | apply pw_below_drewN | apply below_drew1) | exact HB.out)))); (case aL => have := LMc4.out; omega); intro v105 w17 ho hb hg hat; rw [← Ny104.out] at ho; have n0_ := Aside0.mk (hb); have n1_ := Aside0.mk (ho); clear HB; clear HO103; have HB := n0_; have HO106 := n1_; clear n0_ n1_; clear ho hb hg hat) | ((with_reducible refine gate_builtin (b := .append) (xs := #[.tmp 14, .tmp 16]) rfl ?_); at_builtin; refine Kd.R_append k52 (w0 := w) w.heap.size rfl (.tmp 14) (.tmp 16) 34 52 (.agg #[(.int .i64 0), (.int .i64 0)]) 16 rfl Try.underlying34 info52 rfl (by decide) (by omega) v105 y104 (⟨5, 0⟩ : S52) [.int .i64 5, .int .i64 0] (fun _ => True) (fun _ => False) rfl rfl ?aP (fun _ hk => hk.elim) ?aF ?aO ?aB ?aS ?aL ?_; (case aP => exact k52_mkM _ _ _ (⟨5, 0⟩ : S52)); (case aB => exact (by repeat (first | (with_reducible first | exact HB.out | apply below_alloc | apply pw_below_drewN | apply below_drew1) | exact HB.out))); (case aF => exact (fun _ _ => trivial)); (case aO => exact (by (with_reducible repeat (first | apply Kd.R_alloc | apply Kd.R_drewN | apply Kd.R_drew)); exact HO106.out)); (case aS => exact (below_size (by repeat (first | (with_reducible first | exact HB.out | apply below_alloc | apply pw_below_drewN | apply below_drew1) | exact HB.out)))); (case aL => have := LMc5.out; omega); intro v108 w18 ho hb hg hat; rw [← Ny107.out] at ho; have n0_ := Aside0.mk (hb); have n1_ := Aside0.mk (ho); clear HB; clear HO106; have HB := n0_; have HO109 := n1_; clear n0_ n1_; clear ho hb hg hat) | ((with_reducible refine gate_callee (f := 45) rfl ?_); refine goesL_ (some 20) rfl rfl Try.func45 (by kernel_rfl) rfl #[.int .i64 a0, .slice A2 l2.length c2] rfl (by (try simp only [List.map_toArray, List.map_cons, List.map_nil]); first | done | rfl | (simp only [List.length_drop, List.length_take]; rfl)) ?_; (with_reducible refine (spec_TermOk.calls k a0 _ _ l2 true _ ?side1 ?side2 A6.out).mono ?_); (case side1 => repeat (first | exact (Kd.C_below HR2.out HB.out) | (with_reducible refine Kd.C_alloc ?_ _) | (with_reducible refine Kd.C_drewN ?_ _) | (with_reducible refine Kd.C_drew ?_))); (case side2 => exact HC2.out); rintro e w' ⟨rfl, ⟨nd, rfl⟩⟩; refine ⟨_, rfl, ?_⟩; obtain ⟨Ao19, co19, eo19⟩ := Kd.R_slice HO109.out; subst eo19) | (go_at_call 45; (with_reducible refine (spec_TermOk.calls k a0 _ _ y107 false _ ?side1 ?side2 A8.out).mono ?_); (case side1 => repeat (first | exact (Kd.R_reads' HO109.out).2.2 | (with_reducible refine Kd.C_alloc ?_ _) | (with_reducible refine Kd.C_drewN ?_ _) | (with_reducible refine Kd.C_drew ?_))); (case side2 => exact (Kd.R_reads' HO109.out).2.1); rintro e w' ⟨rfl, ⟨nd, rfl⟩⟩) | ((with_reducible refine gate_dst (N := 28) rfl ?_); refine Kd.R_lit k52 _ 52 ?hg (N := 28) ?hd (xs := ([] : List (S52))) (inner := []) (ok := fun _ => True) (okp := fun _ => True) ?hr ?hp (fun _ hk => hk) trivial (Below.refl _ _) (Nat.le_refl _) (by simp) ?_; (case hd => rfl); (case hg => rfl); (case hr => first | (go_simp; done) | (go_simp; rfl)); (case hp => exact (Reps.none _ _)); intro v113 w20 ho21 hb hg_ hnew_; clear hg_ hnew_; (first | rw [← Ny112.out] at ho21 | (simp only [Int.reduceToNat] at ho21; rw [← Ny112.out] at ho21)); have n0_ := Aside0.mk (Kd.R_elder' (by (with_reducible repeat (first | apply Kd.R_alloc | apply Kd.R_drewN | apply Kd.R_drew)); exact HO109.out) (Kd.R_base ho21) hb); have n1_ := Aside0.mk (Kd.R_lower (Kd.R_new' ho21 (Kd.R_lt (by (with_reducible repeat (first | apply Kd.R_alloc | apply Kd.R_drewN | apply Kd.R_drew)); exact HO109.out))) (below_size (by repeat (first | (with_reducible first | exact HB.out | apply below_alloc | apply pw_below_drewN | apply below_drew1) | exact HB.out)))); have n2_ := Aside0.mk (below_step (by repeat (first | (with_reducible first | exact HB.out | apply below_alloc | apply pw_below_drewN | apply below_drew1) | exact HB.out)) hb); clear HO109; clear HB; have HO109 := n0_; have HO114 := n1_; have HB := n2_; clear n0_ n1_ n2_; clear hb ho21))
     go_ret2
     exact ⟨_, by first | rfl | (simp [errW_none, errW_some] <;> rfl) | (simp [*, errW_none, errW_some] <;> rfl), by (with_reducible repeat (first | apply Kd.R_alloc | apply Kd.R_drewN | apply Kd.R_drew)); exact Kd.R_mono HO114.out (fun _ hk => trivial), by repeat (first | (with_reducible first | exact HB.out | apply below_alloc | apply pw_below_drewN | apply below_drew1) | exact HB.out)⟩
   ·replace c7 := Bool.eq_false_iff.mpr c7
    subst c7
    have H1 : (some ((([] : List (S52))), false)) = some (r1, r2) := by rw [if_neg (show ¬ (false = true) by decide)] at H; exact H
    clear H
    have H := H1
    clear H1
    obtain ⟨y115, hy115⟩ : ∃ y_ : List (S52), y_ = (([] : List (S52))) := ⟨_, rfl⟩
    replace H : (some (y115, false)) = some (r1, r2) := by first | (rw [hy115]; with_reducible exact H) | (have H2_ := (Option.bind_some _ _).symm.trans H; rw [hy115]; with_reducible exact H2_) | (have H2_ := (Option.bind_some _ _).symm.trans H; with_reducible exact H2_) | with_reducible exact H | (rw [hy115]; exact H) | exact H
    have Ny115 := Aside0.mk hy115
    clear hy115
    simp only [Option.some.injEq, Prod.mk.injEq] at H
    obtain ⟨rfl, rfl⟩ := H
    go_enter Try.func61, Try.ntmps61
    go_wp2_with (first | ((with_reducible refine gate_dst (N := 11) rfl ?_); refine Kd.R_lit k52 _ 52 ?hg (N := 11) ?hd (xs := ([(⟨0, a1⟩ : S52)] : List (S52))) (inner := [.int .i64 0, .int .i64 a1]) (ok := fun _ => True) (okp := fun _ => True) ?hr ?hp (fun _ hk => hk) trivial (Below.refl _ _) (Nat.le_refl _) (by simp) ?_; (case hd => rfl); (case hg => rfl); (case hr => first | (go_simp; done) | (go_simp; rfl)); (case hp => exact (Reps.c2 (show Kd.M k52 _ _ _ (⟨0, a1⟩ : S52) [.int .i64 0, .int .i64 a1] from (k52_mkM _ _ _ (⟨0, a1⟩ : S52) )) (Reps.none _ _))); intro v102 w22 ho23 hb hg_ hnew_; clear hg_ hnew_; (first | rw [← Ny101.out] at ho23 | (simp only [Int.reduceToNat] at ho23; rw [← Ny101.out] at ho23)); have n0_ := Aside0.mk (Kd.R_lower ho23 (below_size (by repeat (first | (with_reducible first | exact HB.out | apply below_alloc | apply pw_below_drewN | apply below_drew1) | exact HB.out)))); have n1_ := Aside0.mk (below_step (by repeat (first | (with_reducible first | exact HB.out | apply below_alloc | apply pw_below_drewN | apply below_drew1) | exact HB.out)) hb); clear HB; have HO103 := n0_; have HB := n1_; clear n0_ n1_; clear hb ho23) | ((with_reducible refine gate_builtin (b := .append) (xs := #[.tmp 11, .tmp 12]) rfl ?_); at_builtin; refine Kd.R_append_rows k52 (w0 := w) w.heap.size rfl (.tmp 11) (.tmp 12) 34 52 (.agg #[(.int .i64 0), (.int .i64 0)]) 16 rfl Try.underlying34 info52 rfl (by decide) (by omega) v102 y101 l2 _ _ _ (fun _ => True) (fun _ => False) rfl rfl ?aO ?aR (fun _ _ h => h) (fun _ h => h.elim) ?aF ?aB ?aS ?aL ?_; (case aR => repeat (first | exact (Kd.C_below HR2.out HB.out) | (with_reducible refine Kd.C_alloc ?_ _) | (with_reducible refine Kd.C_drewN ?_ _) | (with_reducible refine Kd.C_drew ?_))); (case aB => exact (by repeat (first | (with_reducible first | exact HB.out | apply below_alloc | apply pw_below_drewN | apply below_drew1) | exact HB.out))); (case aF => exact (fun _ _ => trivial)); (case aO => exact (by (with_reducible repeat (first | apply Kd.R_alloc | apply Kd.R_drewN | apply Kd.R_drew)); exact HO103.out)); (case aS => exact (below_size (by repeat (first | (with_reducible first | exact HB.out | apply below_alloc | apply pw_below_drewN | apply below_drew1) | exact HB.out)))); (case aL => have := LMc4.out; omega); intro v105 w24 ho hb hg hat; rw [← Ny104.out] at ho; have n0_ := Aside0.mk (hb); have n1_ := Aside0.mk (ho); clear HB; clear HO103; have HB := n0_; have HO106 := n1_; clear n0_ n1_; clear ho hb hg hat) | ((with_reducible refine gate_builtin (b := .append) (xs := #[.tmp 14, .tmp 16]) rfl ?_); at_builtin; refine Kd.R_append k52 (w0 := w) w.heap.size rfl (.tmp 14) (.tmp 16) 34 52 (.agg #[(.int .i64 0), (.int .i64 0)]) 16 rfl Try.underlying34 info52 rfl (by decide) (by omega) v105 y104 (⟨5, 0⟩ : S52) [.int .i64 5, .int .i64 0] (fun _ => True) (fun _ => False) rfl rfl ?aP (fun _ hk => hk.elim) ?aF ?aO ?aB ?aS ?aL ?_; (case aP => exact k52_mkM _ _ _ (⟨5, 0⟩ : S52)); (case aB => exact (by repeat (first | (with_reducible first | exact HB.out | apply below_alloc | apply pw_below_drewN | apply below_drew1) | exact HB.out))); (case aF => exact (fun _ _ => trivial)); (case aO => exact (by (with_reducible repeat (first | apply Kd.R_alloc | apply Kd.R_drewN | apply Kd.R_drew)); exact HO106.out)); (case aS => exact (below_size (by repeat (first | (with_reducible first | exact HB.out | apply below_alloc | apply pw_below_drewN | apply below_drew1) | exact HB.out)))); (case aL => have := LMc5.out; omega); intro v108 w25 ho hb hg hat; rw [← Ny107.out] at ho; have n0_ := Aside0.mk (hb); have n1_ := Aside0.mk (ho); clear HB; clear HO106; have HB := n0_; have HO109 := n1_; clear n0_ n1_; clear ho hb hg hat) | ((with_reducible refine gate_callee (f := 45) rfl ?_); refine goesL_ (some 20) rfl rfl Try.func45 (by kernel_rfl) rfl #[.int .i64 a0, .slice A2 l2.length c2] rfl (by (try simp only [List.map_toArray, List.map_cons, List.map_nil]); first | done | rfl | (simp only [List.length_drop, List.length_take]; rfl)) ?_; (with_reducible refine (spec_TermOk.calls k a0 _ _ l2 false _ ?side1 ?side2 A6.out).mono ?_); (case side1 => repeat (first | exact (Kd.C_below HR2.out HB.out) | (with_reducible refine Kd.C_alloc ?_ _) | (with_reducible refine Kd.C_drewN ?_ _) | (with_reducible refine Kd.C_drew ?_))); (case side2 => exact HC2.out); rintro e w' ⟨rfl, ⟨nd, rfl⟩⟩; refine ⟨_, rfl, ?_⟩) | ((with_reducible refine gate_dst (N := 28) rfl ?_); refine Kd.R_lit k52 _ 52 ?hg (N := 28) ?hd (xs := ([] : List (S52))) (inner := []) (ok := fun _ => True) (okp := fun _ => True) ?hr ?hp (fun _ hk => hk) trivial (Below.refl _ _) (Nat.le_refl _) (by simp) ?_; (case hd => rfl); (case hg => rfl); (case hr => first | (go_simp; done) | (go_simp; rfl)); (case hp => exact (Reps.none _ _)); intro v116 w26 ho27 hb hg_ hnew_; clear hg_ hnew_; (first | rw [← Ny115.out] at ho27 | (simp only [Int.reduceToNat] at ho27; rw [← Ny115.out] at ho27)); have n0_ := Aside0.mk (Kd.R_elder' (by (with_reducible repeat (first | apply Kd.R_alloc | apply Kd.R_drewN | apply Kd.R_drew)); exact HO109.out) (Kd.R_base ho27) hb); have n1_ := Aside0.mk (Kd.R_lower (Kd.R_new' ho27 (Kd.R_lt (by (with_reducible repeat (first | apply Kd.R_alloc | apply Kd.R_drewN | apply Kd.R_drew)); exact HO109.out))) (below_size (by repeat (first | (with_reducible first | exact HB.out | apply below_alloc | apply pw_below_drewN | apply below_drew1) | exact HB.out)))); have n2_ := Aside0.mk (below_step (by repeat (first | (with_reducible first | exact HB.out | apply below_alloc | apply pw_below_drewN | apply below_drew1) | exact HB.out)) hb); clear HO109; clear HB; have HO109 := n0_; have HO117 := n1_; have HB := n2_; clear n0_ n1_ n2_; clear hb ho27))
    go_ret2
    exact ⟨_, by first | rfl | (simp [errW_none, errW_some] <;> rfl) | (simp [*, errW_none, errW_some] <;> rfl), by (with_reducible repeat (first | apply Kd.R_alloc | apply Kd.R_drewN | apply Kd.R_drew)); exact Kd.R_mono HO117.out (fun _ hk => trivial), by repeat (first | (with_reducible first | exact HB.out | apply below_alloc | apply pw_below_drewN | apply below_drew1) | exact HB.out)⟩
  ·rw [if_neg c5] at H
   exact absurd H (by simp)
 ·rw [if_neg c4] at H
  exact absurd H (by simp)

end Go.Proofs.Ytpampekijfjlkaa.X

/- Plain laws of tricks: the program's and the reference's. -/
namespace Go.Proofs.Ytpampekijfjlkaa.L
open Go.RowKit Go.Proofs.Ytpampekijfjlkaa.X Go.Proofs.YtpampekijfjlkaaW.PrintWords Go.Proofs.YtpampekijfjlkaaW.PrintLast Go.Proofs.YtpampekijfjlkaaW.PrintMore

theorem impl_Trick_ev {p i : Int} {t : List M} : Ev (fun k => impl_TrickTerm.f k p i t) (chainR p [i] t) := by
 unfold impl_TrickTerm.f
 exact Ev.bind (impl_Chain_ev (by simp)) (Ev.some _)
end Go.Proofs.Ytpampekijfjlkaa.L

/- Plain laws of terms, third text: what a valid row of marks says in a world, as a function of the row alone. -/
namespace Go.Proofs.Ytpampekijfjlkaa.L
open Go.RowKit Go.Proofs.Ytpampekijfjlkaa.X Go.Proofs.YtpampekijfjlkaaW.PrintWords Go.Proofs.YtpampekijfjlkaaW.PrintLast Go.Proofs.YtpampekijfjlkaaW.PrintMore

theorem Tm.good_four {p : Int} (hp : p ≤ 4) : ∀ a : Tm, a.good p → a.good 4
 | .tell i, h => by have h' : (i : Int) < p := h; show (i : Int) < 4; omega
 | .cnt n, h => by have h' : (n : Int) ≤ p + 1 := h; show (n : Int) ≤ 4 + 1; omega
 | .neg a, h => good_four hp a h
 | .bin o a b, h => ⟨h.1, good_four hp a h.2.1, good_four hp b h.2.2⟩
open Classical in
/-- The tree of a row of marks. -/
noncomputable def tree (t : List M) : Tm := if h : ∃ a : Tm, a.good 4 ∧ t = a.post then Classical.choose h else .tell 0
theorem tree_post {a : Tm} (h : a.good 4) : (tree a.post).good 4 ∧ a.post = (tree a.post).post := by
 have h' : ∃ b : Tm, b.good 4 ∧ a.post = b.post := ⟨a, h, rfl⟩
 unfold tree
 rw [dif_pos h']
 exact Classical.choose_spec h'
/-- Whether a row of marks holds in a world. -/
noncomputable def hv (t : List M) (w : Nat) : Bool := (tree t).ev w
theorem hv_post {a : Tm} (h : a.good 4) (hl : a.post.length ≤ 500) {w : Nat} (hw : w < 16) : hv a.post w = a.ev w := by
 obtain ⟨h1, h2⟩ := tree_post h
 have e1 := impl_holds_ev (by decide) hw h hl
 have e2 := impl_holds_ev (by decide) hw h1 (by rw [← h2]; exact hl)
 rw [← h2] at e2
 exact Ev.uniq e2 e1
theorem tok_tree {p : Int} {t : List M} (h : tok p t = true) : ∃ a : Tm, a.good p ∧ t = a.post ∧ a.good 4 ∧ t.length ≤ 15 := by
 obtain ⟨a, h1, h2⟩ := parse h
 obtain ⟨_, h3, _, h4, _⟩ := tok_iff.1 h
 exact ⟨a, h1, h2, a.good_four h3 h1, h4⟩
theorem impl_holds_hv {p : Int} {t : List M} (h : tok p t = true) {w : Nat} (hw : w < 16) : Ev (fun k => impl_holds.f k t (w : Int)) (hv t w) := by
 obtain ⟨a, _, rfl, h4, hl⟩ := tok_tree h
 rw [hv_post h4 (by omega) hw]
 exact impl_holds_ev (by decide) hw h4 (by omega)
/-- Whether a claim may be made in a world. -/
noncomputable def may (i : Int) (t : List M) (w : Nat) : Bool := hv t w == w.testBit i.toNat
end Go.Proofs.Ytpampekijfjlkaa.L

/- What tricks and denials say. -/
namespace Go.Proofs.Ytpampekijfjlkaa.L
open Go.RowKit Go.Proofs.Ytpampekijfjlkaa.X Go.Proofs.YtpampekijfjlkaaW.PrintWords Go.Proofs.YtpampekijfjlkaaW.PrintLast Go.Proofs.YtpampekijfjlkaaW.PrintMore

theorem hv_wrap {p i : Int} {t : List M} (hk : tok p t = true) (h0 : 0 ≤ i) (h1 : i < p) {w : Nat} (hw : w < 16) : hv (wrapM i t) w = (w.testBit i.toNat == hv t w) := by
 obtain ⟨a, hg, rfl, h4, hl⟩ := tok_tree hk
 have hp4 := (tok_iff.1 hk).2.1
 obtain ⟨j, rfl⟩ := Int.eq_ofNat_of_zero_le h0
 have e : wrapM (j : Int) a.post = (Tm.bin 5 (.tell j) a).post := by simp [wrapM, Tm.post]
 rw [e, hv_post (a := .bin 5 (.tell j) a) ⟨by omega, by show (j : Int) < 4; omega, h4⟩ (by rw [← e, wrapM_length]; omega) hw, hv_post h4 (by omega) hw]
 simp [Tm.ev, bop]
theorem may_wrap {p i : Int} {t : List M} (hk : tok p t = true) (h0 : 0 ≤ i) (h1 : i < p) {w : Nat} (hw : w < 16) : may i (wrapM i t) w = hv t w := by
 unfold may
 rw [hv_wrap hk h0 h1 hw]
 cases w.testBit i.toNat <;> cases hv t w <;> rfl
end Go.Proofs.Ytpampekijfjlkaa.L

/- Plain laws of tables: the worlds in which something holds, as the bits of a number. -/
namespace Go.Proofs.Ytpampekijfjlkaa.L
open Go.RowKit Go.Proofs.Ytpampekijfjlkaa.X Go.Proofs.YtpampekijfjlkaaW.PrintWords Go.Proofs.YtpampekijfjlkaaW.PrintLast Go.Proofs.YtpampekijfjlkaaW.PrintMore

/-- The worlds below n in which P holds, as bits. -/
def tabL (P : Nat → Bool) : Nat → Nat
 | 0 => 0
 | n + 1 => tabL P n ||| (if P n = true then 2 ^ n else 0)
theorem tabL_bit (P : Nat → Bool) : ∀ n w, (tabL P n).testBit w = (decide (w < n) && P w)
 | 0, w => by simp [tabL]
 | n + 1, w => by
  rw [tabL, Nat.testBit_or, tabL_bit P n w]
  by_cases e : w = n
  ·subst e
   by_cases h : P w = true
   ·rw [if_pos h, Nat.testBit_two_pow_self, h]; simp
   ·rw [if_neg h, Nat.zero_testBit]; simp at h; simp [h]
  ·have h1 : (if P n = true then 2 ^ n else 0).testBit w = false := by
    by_cases h : P n = true
    ·rw [if_pos h, Nat.testBit_two_pow]; simp; omega
    ·rw [if_neg h, Nat.zero_testBit]
   rw [h1, Bool.or_false]
   congr 1
   exact decide_eq_decide.mpr (by omega)
theorem lt_of_bits {x n : Nat} (h : ∀ w, n ≤ w → x.testBit w = false) : x < 2 ^ n := Nat.lt_pow_two_of_testBit x (fun w hw => h w hw)
theorem tabL_lt (P : Nat → Bool) (n : Nat) : tabL P n < 2 ^ n := lt_of_bits (fun w hw => by rw [tabL_bit]; simp; omega)
theorem tabL_congr {P Q : Nat → Bool} {n : Nat} (h : ∀ w, w < n → P w = Q w) : tabL P n = tabL Q n := by
 apply Nat.eq_of_testBit_eq
 intro w
 rw [tabL_bit, tabL_bit]
 by_cases hw : w < n
 ·rw [h w hw]
 ·simp [hw]
theorem tabL_mono {P : Nat → Bool} {n : Nat} (hn : n ≤ 16) : tabL P n < 65536 := by
 have := tabL_lt P n
 have h : (2 : Nat) ^ n ≤ 2 ^ 16 := Nat.pow_le_pow_right (by decide) hn
 omega
theorem wrap_i64_small (n : Int) (h0 : 0 ≤ n) (h1 : n < 2 ^ 32) : IntKind.i64.wrap n = n := by rw [IntKind.wrap_i64]; omega
theorem or_nat {a b : Nat} (ha : a < 2 ^ 32) (hb : b < 2 ^ 32) : Go.bits .or .i64 (a : Int) (b : Int) = ((a ||| b : Nat) : Int) := (bits_nat .i64 32 (by decide) wrap_i64_small a b ha hb).2
theorem shl_fin : ∀ i : Fin 31, shl .i64 1 ((i.val : Nat) : Int) = ((2 ^ i.val : Nat) : Int) := by decide +kernel
theorem shl_nat {i : Nat} (hi : i < 31) : shl .i64 1 (i : Int) = ((2 ^ i : Nat) : Int) := shl_fin ⟨i, hi⟩
theorem or_step {P : Nat → Bool} {i : Nat} (hi : i < 16) (h : P i = true) : Go.bits .or .i64 ((tabL P i : Nat) : Int) (shl .i64 1 (i : Int)) = ((tabL P (i + 1) : Nat) : Int) := by
 have h1 := tabL_lt P i
 have h2 : (2 : Nat) ^ i < 2 ^ 16 := Nat.pow_lt_pow_right (by decide) hi
 rw [shl_nat (by omega), or_nat (by omega) (by omega), tabL, if_pos h]
theorem not_step {P : Nat → Bool} {i : Nat} (h : ¬ P i = true) : tabL P (i + 1) = tabL P i := by rw [tabL, if_neg h, Nat.or_zero]
theorem people_nat {p : Int} (h0 : 1 ≤ p) (h1 : p ≤ 4) : ∃ q : Nat, p = (q : Int) ∧ 1 ≤ q ∧ q ≤ 4 ∧ 2 ^ q ≤ 16 ∧ p.toNat = q := by
 obtain ⟨q, rfl⟩ := Int.eq_ofNat_of_zero_le (show 0 ≤ p by omega)
 refine ⟨q, rfl, by omega, by omega, ?_, by simp⟩
 have : (2 : Nat) ^ q ≤ 2 ^ 4 := Nat.pow_le_pow_right (by decide) (by omega)
 omega
end Go.Proofs.Ytpampekijfjlkaa.L

/- Plain law of the program's maker of tables. -/
namespace Go.Proofs.Ytpampekijfjlkaa.L
open Go.RowKit Go.Proofs.Ytpampekijfjlkaa.X Go.Proofs.YtpampekijfjlkaaW.PrintWords Go.Proofs.YtpampekijfjlkaaW.PrintLast Go.Proofs.YtpampekijfjlkaaW.PrintMore

theorem tableBy_l0 {F : Nat → Int → Option Bool} {P : Nat → Bool} {n : Nat} (hn : n ≤ 16) (hF : ∀ w : Nat, w < n → Ev (fun k => F k (w : Int)) (P w)) : ∀ d i, d + i = n →
  Ev (fun k => impl_tableBy.l0 F k ((tabL P i : Nat) : Int) (n : Int) (i : Int)) ((tabL P n : Nat) : Int) := by
 intro d
 induction d with
 | zero =>
  intro i hi
  rw [Nat.zero_add] at hi
  subst hi
  exact Ev.step (fun k => by simp only [impl_tableBy.l0]; rfl) (Ev.no (by omega) (Ev.some _))
 | succ d ih =>
  intro i hi
  refine Ev.step (fun k => by simp only [impl_tableBy.l0]; rfl) ?_
  refine Ev.yes (by omega) (Ev.bind (hF i (by omega)) ?_)
  rw [w64 (by omega) (by omega), show ((i : Int) + 1) = ((i + 1 : Nat) : Int) by omega]
  by_cases h : P i = true
  ·refine Ev.yes h (Ev.yes (by omega) ?_)
   rw [or_step (by omega) h]
   exact ih (i + 1) (by omega)
  ·refine Ev.no h ?_
   have := ih (i + 1) (by omega)
   rwa [not_step h] at this
theorem tableBy_ev {F : Nat → Int → Option Bool} {P : Nat → Bool} {q : Nat} (hq : q ≤ 4) (hF : ∀ w : Nat, w < 2 ^ q → Ev (fun k => F k (w : Int)) (P w)) : Ev (fun k => impl_tableBy.f F k (q : Int)) ((tabL P (2 ^ q) : Nat) : Int) := by
 unfold impl_tableBy.f
 refine Ev.yes (by omega) ?_
 rw [shl_nat (by omega)]
 have h16 : (2 : Nat) ^ q ≤ 2 ^ 4 := Nat.pow_le_pow_right (by decide) hq
 exact tableBy_l0 (by omega) hF (2 ^ q) 0 (by omega)
end Go.Proofs.Ytpampekijfjlkaa.L

/- Plain laws of the tables of terms, and of terms with the same table. -/
namespace Go.Proofs.Ytpampekijfjlkaa.L
open Go.RowKit Go.Proofs.Ytpampekijfjlkaa.X Go.Proofs.YtpampekijfjlkaaW.PrintWords Go.Proofs.YtpampekijfjlkaaW.PrintLast Go.Proofs.YtpampekijfjlkaaW.PrintMore

/-- The table of a term. -/
noncomputable def ttab (p : Int) (t : List M) : Nat := tabL (hv t) (2 ^ p.toNat)
theorem impl_TableOf_ev (p : Int) (t : List M) : Ev (fun k => impl_TableOf.f k p t) (if tok p t = true then ((ttab p t : Nat) : Int) else -1) := by
 unfold impl_TableOf.f
 refine Ev.bind (impl_TermOk_ev p t) ?_
 by_cases h : tok p t = true
 ·rw [if_pos h]
  refine Ev.yes h ?_
  obtain ⟨hp0, hp1, _⟩ := tok_iff.1 h
  obtain ⟨q, rfl, _, hq, hq2, _⟩ := people_nat hp0 hp1
  exact tableBy_ev hq (fun w hw => impl_holds_hv h (by omega))
 ·rw [if_neg h]
  exact Ev.no h (Ev.some _)
end Go.Proofs.Ytpampekijfjlkaa.L

/- Plain law of terms with the same table. -/
namespace Go.Proofs.Ytpampekijfjlkaa.L
open Go.RowKit Go.Proofs.Ytpampekijfjlkaa.X Go.Proofs.YtpampekijfjlkaaW.PrintWords Go.Proofs.YtpampekijfjlkaaW.PrintLast Go.Proofs.YtpampekijfjlkaaW.PrintMore

noncomputable def sameT (p : Int) (a b : List M) : Bool := if tok p a = true ∧ tok p b = true then decide (ttab p a = ttab p b) else false
theorem impl_SameOk_ev (p : Int) (a b : List M) : Ev (fun k => impl_SameOk.f k p a b) (sameT p a b) := by
 unfold impl_SameOk.f
 refine Ev.bind (impl_TermOk_ev p a) ?_
 by_cases ha : tok p a = true
 ·refine Ev.yes ha (Ev.bind (impl_TermOk_ev p b) ?_)
  by_cases hb : tok p b = true
  ·refine Ev.yes hb (Ev.bind (impl_TableOf_ev p a) (Ev.bind (impl_TableOf_ev p b) (Ev.cast (Ev.some _) ?_)))
   rw [if_pos ha, if_pos hb, sameT, if_pos ⟨ha, hb⟩]
   by_cases e : ttab p a = ttab p b
   ·rw [e]; simp
   ·rw [decide_eq_false e]
    exact beq_eq_false_iff_ne.2 (by omega)
  ·exact Ev.no hb (Ev.cast (Ev.some _) (if_neg (fun h => hb h.2)).symm)
 ·exact Ev.no ha (Ev.cast (Ev.some _) (if_neg (fun h => ha h.1)).symm)
end Go.Proofs.Ytpampekijfjlkaa.L

-- printed by a program of this session's (xprint)
namespace Go.Proofs.Ytpampekijfjlkaa.X
open Go.RowKit Go.Proofs.YtpampekijfjlkaaW.PrintWords Go.Proofs.YtpampekijfjlkaaW.PrintLast Go.Proofs.YtpampekijfjlkaaW.PrintMore
attribute [local go_sem] max2_int min2_int max_two min_two max_three min_three max_four min_four   -- for this text's walks alone
set_option linter.unusedVariables false
set_option linter.unusedSimpArgs false

/-! ### spec_WorldOk: function 97 -/
def spec_WorldOk.f (a0 : Int) (a1 : Int) : Option (Bool) := (spec_l1In.f a0 1 4).bind fun t101 => (if t101 = true then (if 0 ≤ a0 then ((spec_l1In.f a1 0 (wrap64 ((shl .i64 1 a0) - 1))).bind fun t102 => (some t102)) else (none)) else (some false))
set_option maxHeartbeats 8000000 in
set_option maxRecDepth 100000 in
theorem spec_WorldOk.calls (a0 : Int) (a1 : Int) (r : Bool) (w : World) (h : spec_WorldOk.f a0 a1 = some r) :
  Calls Try.prog 97 #[.int .i64 a0, .int .i64 a1] w fun e w' => e = .returned (.bool r) ∧ Drawn0 w w' := by
 have H : ((spec_l1In.f a0 1 4).bind fun t101 => (if t101 = true then (if 0 ≤ a0 then ((spec_l1In.f a1 0 (wrap64 ((shl .i64 1 a0) - 1))).bind fun t102 => (some t102)) else (none)) else (some false))) = some r := h
 clear h
 replace H := Option.bind_eq_some_iff.mp H
 obtain ⟨t101, A30, H⟩ := H
 replace H : (if t101 = true then (if 0 ≤ a0 then ((spec_l1In.f a1 0 (wrap64 ((shl .i64 1 a0) - 1))).bind fun t102 => (some t102)) else (none)) else (some false)) = some r := H
 have A3 := Aside0.mk A30
 clear A30
 by_cases c4 : t101 = true
 ·subst c4
  have H1 : (if 0 ≤ a0 then ((spec_l1In.f a1 0 (wrap64 ((shl .i64 1 a0) - 1))).bind fun t102 => (some t102)) else (none)) = some r := by rw [if_pos rfl] at H; exact H
  clear H
  have H := H1
  clear H1
  by_cases c5 : 0 ≤ a0
  ·rw [if_pos c5] at H
   have c5b0 := eq_true c5
   have c5b1 : decide (0 ≤ a0) = true := decide_eq_true c5
   clear c5
   obtain ⟨ji6, hji6⟩ : ∃ j_ : Int, (shl .i64 1 a0) = j_ := ⟨_, rfl⟩
   replace H : ((spec_l1In.f a1 0 (wrap64 ((ji6) - 1))).bind fun t102 => (some t102)) = some r := by first | (rw [hji6] at H; exact H) | (simp only [hji6] at H ⊢; exact H)
   (try rw [hji6] at A3)
   have hji6_ : (IntKind.i64.wrap (1 * 2 ^ min a0.toNat 64)) = ji6 := hji6
   have hji6z : a0 ≤ 64 → (IntKind.i64.wrap (1 * 2 ^ a0.toNat)) = ji6 := shl_small hji6
   have hji6u : (IntKind.i64.wrap (2 ^ min a0.toNat 64)) = ji6 := by have h_ := hji6_; rw [Int.one_mul] at h_; exact h_
   have hji6v : a0 ≤ 64 → (IntKind.i64.wrap (2 ^ a0.toNat)) = ji6 := fun hle_ => by have h_ := hji6z hle_; rw [Int.one_mul] at h_; exact h_
   have hji6y : (wrap64 (1 * 2 ^ min a0.toNat 64)) = ji6 := (i64_w _).symm.trans hji6_
   have hji6x : a0 ≤ 64 → (wrap64 (1 * 2 ^ a0.toNat)) = ji6 := fun h_ => (i64_w _).symm.trans (hji6z h_)
   replace H := Option.bind_eq_some_iff.mp H
   obtain ⟨t102, A70, H⟩ := H
   replace H : (some t102) = some r := H
   have A7 := Aside0.mk A70
   clear A70
   obtain rfl := Option.some.inj H
   go_enter Try.func97, Try.ntmps97
   go_wp2_with (first | ((with_reducible refine gate_callee (f := 98) rfl ?_); refine goesL_ (some 6) rfl rfl Try.func98 (by kernel_rfl) rfl #[.int .i64 a0, .int .i64 1, .int .i64 4] rfl (by (try simp only [List.map_toArray, List.map_cons, List.map_nil]); first | done | rfl | (simp only [List.length_drop, List.length_take]; rfl)) ?_; (with_reducible refine (spec_l1In.calls a0 1 4 true _ A3.out).mono ?_); rintro e w' ⟨rfl, ⟨nd, rfl⟩⟩; refine ⟨_, rfl, ?_⟩) | (go_at_call 98; (with_reducible refine (spec_l1In.calls a1 0 (wrap64 ((ji6) - 1)) t102 _ A7.out).mono ?_); rintro e w' ⟨rfl, ⟨nd, rfl⟩⟩))
   go_ret
   exact ⟨by first | rfl | (simp; done) | (simp only [← hji6] <;> (first | rfl | simp)) | (simp [*]; done), by repeat (first | exact Drawn0.refl _ | apply Drawn0.step)⟩
  ·rw [if_neg c5] at H
   exact absurd H (by simp)
 ·replace c4 := Bool.eq_false_iff.mpr c4
  subst c4
  have H1 : (some false) = some r := by rw [if_neg (show ¬ (false = true) by decide)] at H; exact H
  clear H
  have H := H1
  clear H1
  obtain rfl := Option.some.inj H
  go_enter Try.func97, Try.ntmps97
  go_wp2_with (first | ((with_reducible refine gate_callee (f := 98) rfl ?_); refine goesL_ (some 6) rfl rfl Try.func98 (by kernel_rfl) rfl #[.int .i64 a0, .int .i64 1, .int .i64 4] rfl (by (try simp only [List.map_toArray, List.map_cons, List.map_nil]); first | done | rfl | (simp only [List.length_drop, List.length_take]; rfl)) ?_; (with_reducible refine (spec_l1In.calls a0 1 4 false _ A3.out).mono ?_); rintro e w' ⟨rfl, ⟨nd, rfl⟩⟩; refine ⟨_, rfl, ?_⟩))
  go_ret
  exact ⟨by first | rfl | (simp; done) | (simp [*]; done), by repeat (first | exact Drawn0.refl _ | apply Drawn0.step)⟩

end Go.Proofs.Ytpampekijfjlkaa.X

/- Plain laws of worlds: which are ones. -/
namespace Go.Proofs.Ytpampekijfjlkaa.L
open Go.RowKit Go.Proofs.Ytpampekijfjlkaa.X Go.Proofs.YtpampekijfjlkaaW.PrintWords Go.Proofs.YtpampekijfjlkaaW.PrintLast Go.Proofs.YtpampekijfjlkaaW.PrintMore

/-- A world of so many people. -/
def wok (p w : Int) : Bool := decide (1 ≤ p ∧ p ≤ 4 ∧ 0 ≤ w ∧ w < ((2 ^ p.toNat : Nat) : Int))
theorem wok_iff {p w : Int} : wok p w = true ↔ 1 ≤ p ∧ p ≤ 4 ∧ 0 ≤ w ∧ w < ((2 ^ p.toNat : Nat) : Int) := by unfold wok; simp
theorem wok_nat {p w : Int} (h : wok p w = true) : ∃ v : Nat, w = (v : Int) ∧ v < 16 ∧ v < 2 ^ p.toNat := by
 obtain ⟨h0, h1, h2, h3⟩ := wok_iff.1 h
 obtain ⟨q, rfl, _, _, hq, e⟩ := people_nat h0 h1
 obtain ⟨v, rfl⟩ := Int.eq_ofNat_of_zero_le h2
 rw [e] at h3 ⊢
 exact ⟨v, rfl, by omega, by omega⟩
theorem impl_WorldOk_eq (p w : Int) : impl_WorldOk.f p w = some (wok p w) := by
 unfold impl_WorldOk.f
 simp only [peopleOk_eq, Option.bind_some]
 by_cases h : 1 ≤ p ∧ p ≤ 4
 ·obtain ⟨q, rfl, _, hq4, hq, e⟩ := people_nat h.1 h.2
  rw [if_pos (decide_eq_true h)]
  by_cases h0 : w ≥ 0
  ·rw [if_pos h0, if_pos (by omega), shl_nat (by omega)]
   congr 1
   unfold wok
   rw [e]
   exact decide_eq_decide.mpr ⟨fun hw => ⟨h.1, h.2, h0, hw⟩, fun hw => hw.2.2.2⟩
  ·rw [if_neg h0]
   congr 1
   exact (decide_eq_false (fun hw => h0 hw.2.2.1)).symm
 ·rw [if_neg (by simpa using h)]
  congr 1
  exact (decide_eq_false (fun hw => h ⟨hw.1, hw.2.1⟩)).symm
end Go.Proofs.Ytpampekijfjlkaa.L
