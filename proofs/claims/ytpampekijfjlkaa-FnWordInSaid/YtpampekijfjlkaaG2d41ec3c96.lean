/- Joined by a program of this session's: X96, X55, X131, X132, LDS, LH, LTB, LDW, LW, LSM, X48, LAN, LWI. -/
import Derived.Test.YtpampekijfjlkaaG68f3bf9e92
import Derived.Test.YtpampekijfjlkaaG0bca883aa5
import Derived.Test.YtpampekijfjlkaaGdf36ccccb3
import Derived.Test.YtpampekijfjlkaaGca1770bd67
import Derived.Test.YtpampekijfjlkaaGfcdb371bd6
import Derived.Test.YtpampekijfjlkaaG3ebdca1db0
import Derived.Test.YtpampekijfjlkaaGf6e658723c
import Derived.Laws.BitsLemmas

-- printed by a program of this session's (xprint)
namespace Go.Proofs.Ytpampekijfjlkaa.X
open Go.RowKit Go.Proofs.YtpampekijfjlkaaW.PrintWords Go.Proofs.YtpampekijfjlkaaW.PrintLast Go.Proofs.YtpampekijfjlkaaW.PrintMore
attribute [local go_sem] max2_int min2_int max_two min_two max_three min_three max_four min_four   -- for this text's walks alone
set_option linter.unusedVariables false
set_option linter.unusedSimpArgs false

/-! ### impl_MatterIn: function 63 -/
mutual
def impl_MatterIn.l0 : Nat → Int → List (S52) → Int → Int → Int → Option (Int)
 | 0, _, _, _, _, _ => none
 | k + 1, x0, x1, x5, x13, x14 => if x14 < x13 then (impl_MatterIn.l1 k x0 x1 x5 x14 x13 x14 x0 0) else (some x5)
def impl_MatterIn.l1 : Nat → Int → List (S52) → Int → Int → Int → Int → Int → Int → Option (Int)
 | 0, _, _, _, _, _, _, _, _ => none
 | k + 1, x0, x1, x5, x6, x13, x14, x17, x18 => if x18 < x17 then ((impl_holds.f k x1 x6).bind fun t906 => (if 0 ≤ x18 then ((impl_holds.f k x1 (Go.bits .xor .i64 x6 (shl .i64 1 x18))).bind fun t907 => (if (t906 != t907) = true then (impl_MatterIn.l1 k x0 x1 (Go.bits .or .i64 x5 (shl .i64 1 x18)) x6 x13 x14 x17 (wrap64 (x18 + 1))) else (impl_MatterIn.l1 k x0 x1 x5 x6 x13 x14 x17 (wrap64 (x18 + 1))))) else (none))) else (impl_MatterIn.l0 k x0 x1 x5 x13 (wrap64 (x14 + 1)))
end
def impl_MatterIn.f (k : Nat) (a0 : Int) (l1 : List (S52)) : Option (Int) := (impl_TermOk.f k a0 l1).bind fun t905 => (if t905 = true then (if 0 ≤ a0 then (impl_MatterIn.l0 k a0 l1 0 (shl .i64 1 a0) 0) else (none)) else (some (-1)))
theorem impl_MatterIn.mono_l : ∀ k, (∀ y0 y1 y2 y3 y4, LeO (impl_MatterIn.l0 k y0 y1 y2 y3 y4) (impl_MatterIn.l0 (k + 1) y0 y1 y2 y3 y4)) ∧ (∀ y0 y1 y2 y3 y4 y5 y6 y7, LeO (impl_MatterIn.l1 k y0 y1 y2 y3 y4 y5 y6 y7) (impl_MatterIn.l1 (k + 1) y0 y1 y2 y3 y4 y5 y6 y7))
 | 0 => ⟨fun _ _ _ _ _ r h => by simp [impl_MatterIn.l0] at h, fun _ _ _ _ _ _ _ _ r h => by simp [impl_MatterIn.l1] at h⟩
 | k + 1 => by
  obtain ⟨ih0, ih1⟩ := impl_MatterIn.mono_l k
  refine ⟨?_, ?_⟩
  ·intro y0 y1 y2 y3 y4
   unfold impl_MatterIn.l0
   repeat' first
   | (with_reducible exact ih0 _ _ _ _ _)
   | (with_reducible exact ih1 _ _ _ _ _ _ _ _)
   | (with_reducible exact impl_TermOk.mono _ _ _)
   | (with_reducible exact impl_holds.mono _ _ _)
   | (with_reducible exact LeO.refl _)
   | (with_reducible exact LeO.none _)
   | (with_reducible refine LeO.ite ?_ ?_)
   | (with_reducible refine LeO.bind ?_ (fun _ => ?_))
   | exact ih0 _ _ _ _ _
   | exact ih1 _ _ _ _ _ _ _ _
   | exact impl_TermOk.mono _ _ _
   | exact impl_holds.mono _ _ _
   | exact LeO.none _
   | refine LeO.ite ?_ ?_
   | refine LeO.bind ?_ (fun _ => ?_)
  ·intro y0 y1 y2 y3 y4 y5 y6 y7
   unfold impl_MatterIn.l1
   repeat' first
   | (with_reducible exact ih0 _ _ _ _ _)
   | (with_reducible exact ih1 _ _ _ _ _ _ _ _)
   | (with_reducible exact impl_TermOk.mono _ _ _)
   | (with_reducible exact impl_holds.mono _ _ _)
   | (with_reducible exact LeO.refl _)
   | (with_reducible exact LeO.none _)
   | (with_reducible refine LeO.ite ?_ ?_)
   | (with_reducible refine LeO.bind ?_ (fun _ => ?_))
   | exact ih0 _ _ _ _ _
   | exact ih1 _ _ _ _ _ _ _ _
   | exact impl_TermOk.mono _ _ _
   | exact impl_holds.mono _ _ _
   | exact LeO.none _
   | refine LeO.ite ?_ ?_
   | refine LeO.bind ?_ (fun _ => ?_)
theorem impl_MatterIn.mono : ∀ a0 a1 k, LeO (impl_MatterIn.f k a0 a1) (impl_MatterIn.f (k + 1) a0 a1) := by
 intro a0 a1 k
 obtain ⟨ih0, ih1⟩ := impl_MatterIn.mono_l k
 unfold impl_MatterIn.f
 repeat' first
   | (with_reducible exact ih0 _ _ _ _ _)
   | (with_reducible exact ih1 _ _ _ _ _ _ _ _)
   | (with_reducible exact impl_TermOk.mono _ _ _)
   | (with_reducible exact impl_holds.mono _ _ _)
   | (with_reducible exact LeO.refl _)
   | (with_reducible exact LeO.none _)
   | (with_reducible refine LeO.ite ?_ ?_)
   | (with_reducible refine LeO.bind ?_ (fun _ => ?_))
   | exact ih0 _ _ _ _ _
   | exact ih1 _ _ _ _ _ _ _ _
   | exact impl_TermOk.mono _ _ _
   | exact impl_holds.mono _ _ _
   | exact LeO.none _
   | refine LeO.ite ?_ ?_
   | refine LeO.bind ?_ (fun _ => ?_)
def impl_MatterIn.T10 : Bool × List (List Nat × List Nat) := (true, [([], []), ([], []), ([0, 1], [0, 1]), ([], []), ([], []), ([], []), ([5], [5]), ([4, 6], [4, 6]), ([3, 7, 2], [3, 7]), ([2, 8], [2, 8])])
def impl_MatterIn.B10 : List Nat := [0, 0, 3, 0, 0, 0, 32, 112, 255, 511]
theorem impl_MatterIn.tab10 : rtab .any (opsOf Try.f63 10) = impl_MatterIn.T10 := by kernel_rfl
theorem impl_MatterIn.bits10 : waitsOk impl_MatterIn.T10.2 impl_MatterIn.B10 = true := by kernel_rfl
set_option maxHeartbeats 8000000 in
set_option maxRecDepth 100000 in
theorem impl_MatterIn.calls (k : Nat) (a0 : Int) (A1 : Option Addr) (c1 : Nat) (l1 : List (S52)) (r : Int) (w : World) (hr1 : Kd.C k52 w A1 l1.length l1) (hc1 : l1.length ≤ c1) (h : impl_MatterIn.f k a0 l1 = some r) :
  Calls Try.prog 63 #[.int .i64 a0, .slice A1 l1.length c1] w fun e w' => e = .returned (.int .i64 r) ∧ Below w.heap.size w w' := by
 have HR1 := Aside0.mk hr1
 have HC1 := Aside0.mk hc1
 clear hr1 hc1
 have HB := Aside0.mk (Below.refl w.heap.size w)
 have H : ((impl_TermOk.f k a0 l1).bind fun t905 => (if t905 = true then (if 0 ≤ a0 then (impl_MatterIn.l0 k a0 l1 0 (shl .i64 1 a0) 0) else (none)) else (some (-1)))) = some r := h
 clear h
 replace H := Option.bind_eq_some_iff.mp H
 obtain ⟨t905, A30, H⟩ := H
 replace H : (if t905 = true then (if 0 ≤ a0 then (impl_MatterIn.l0 k a0 l1 0 (shl .i64 1 a0) 0) else (none)) else (some (-1))) = some r := H
 have A3 := Aside0.mk A30
 clear A30
 by_cases c4 : t905 = true
 ·subst c4
  have H1 : (if 0 ≤ a0 then (impl_MatterIn.l0 k a0 l1 0 (shl .i64 1 a0) 0) else (none)) = some r := by rw [if_pos rfl] at H; exact H
  clear H
  have H := H1
  clear H1
  by_cases c5 : 0 ≤ a0
  ·rw [if_pos c5] at H
   have c5b0 := eq_true c5
   have c5b1 : decide (0 ≤ a0) = true := decide_eq_true c5
   clear c5
   obtain ⟨ji6, hji6⟩ : ∃ j_ : Int, (shl .i64 1 a0) = j_ := ⟨_, rfl⟩
   replace H : (impl_MatterIn.l0 k a0 l1 0 ji6 0) = some r := by first | (rw [hji6] at H; exact H) | (simp only [hji6] at H ⊢; exact H)
   (try rw [hji6] at A3)
   have hji6_ : (IntKind.i64.wrap (1 * 2 ^ min a0.toNat 64)) = ji6 := hji6
   have hji6z : a0 ≤ 64 → (IntKind.i64.wrap (1 * 2 ^ a0.toNat)) = ji6 := shl_small hji6
   have hji6u : (IntKind.i64.wrap (2 ^ min a0.toNat 64)) = ji6 := by have h_ := hji6_; rw [Int.one_mul] at h_; exact h_
   have hji6v : a0 ≤ 64 → (IntKind.i64.wrap (2 ^ a0.toNat)) = ji6 := fun hle_ => by have h_ := hji6z hle_; rw [Int.one_mul] at h_; exact h_
   have hji6y : (wrap64 (1 * 2 ^ min a0.toNat 64)) = ji6 := (i64_w _).symm.trans hji6_
   have hji6x : a0 ≤ 64 → (wrap64 (1 * 2 ^ a0.toNat)) = ji6 := fun h_ => (i64_w _).symm.trans (hji6z h_)
   have H' := Aside0.mk H
   clear H
   go_enter Try.func63, Try.ntmps63
   go_wp2_with (first | ((with_reducible refine gate_callee (f := 59) rfl ?_); refine goesL_ (some 10) rfl rfl Try.func59 (by kernel_rfl) rfl #[.int .i64 a0, .slice A1 l1.length c1] rfl (by (try simp only [List.map_toArray, List.map_cons, List.map_nil]); first | done | rfl | (simp only [List.length_drop, List.length_take]; rfl)) ?_; (with_reducible refine (impl_TermOk.calls k a0 _ _ l1 true _ ?side1 ?side2 A3.out).mono ?_); (case side1 => repeat (first | exact HR1.out | (with_reducible refine Kd.C_alloc ?_ _) | (with_reducible refine Kd.C_drewN ?_ _) | (with_reducible refine Kd.C_drew ?_))); (case side2 => exact HC1.out); rintro e w7 ⟨rfl, hb⟩; refine ⟨_, rfl, ?_⟩; have n0_ := Aside0.mk (below_step (by repeat (first | (with_reducible first | exact HB.out | apply below_alloc | apply pw_below_drewN | apply below_drew1) | exact HB.out)) hb); clear HB; have HB := n0_; clear n0_; (try clear hb); (try clear hb2); (try clear hk); (try clear hi)))
   go_loopg [5, 14] k (fun kq v5 v14 w' => ∃ (x5_1 : Int) (x14_1 : Int), v5 = .int .i64 x5_1 ∧ v14 = .int .i64 x14_1 ∧ Aside0 (impl_MatterIn.l0 kq a0 l1 x5_1 ji6 x14_1 = some r) ∧ Aside0 (kq ≤ k) ∧ Aside0 (Below w.heap.size w w'))
   case atStart => exact ⟨(0), (0), (by first | rfl | (simp; done) | (simp [*]; done)), (by first | rfl | (simp; done) | (simp [*]; done)), H', ⟨Nat.le_refl _⟩, ⟨by repeat (first | (with_reducible first | exact HB.out | apply below_alloc | apply pw_below_drewN | apply below_drew1) | exact HB.out)⟩⟩
   case round =>
    clear H'
    try clear c1
    try clear p2
    try clear c4
    try clear c5
    try clear c5b0
    try clear c5b1
    try clear c6
    try clear p6
    obtain ⟨x5_1, x14_1, rfl, rfl, HA, HK1, HB⟩ := hrel
    cases gk with
    | zero => exact absurd HA.out (by simp [impl_MatterIn.l0])
    | succ k1 =>
     have H := HA.out
     clear HA
     simp only [impl_MatterIn.l0] at H
     by_cases c8 : x14_1 < ji6
     ·rw [if_pos c8] at H
      have c8b0 : decide (x14_1 < ji6) = true := decide_eq_true c8
      clear c8
      have H' := Aside0.mk H
      clear H
      go_wp2
      go_loopg [5, 18] k1 (fun kq v5 v18 w' => ∃ (x5_2 : Int) (x18_2 : Int), v5 = .int .i64 x5_2 ∧ v18 = .int .i64 x18_2 ∧ Aside0 (impl_MatterIn.l1 kq a0 l1 x5_2 x14_1 ji6 x14_1 a0 x18_2 = some r) ∧ Aside0 (kq ≤ k1) ∧ Aside0 (Below w.heap.size w w'))
      case atStart => exact ⟨(x5_1), (0), (by first | rfl | (simp; done) | (simp [*]; done)), (by first | rfl | (simp; done) | (simp [*]; done)), H', ⟨Nat.le_refl _⟩, ⟨by repeat (first | (with_reducible first | exact HB.out | apply below_alloc | apply pw_below_drewN | apply below_drew1) | exact HB.out)⟩⟩
      case round =>
       clear H'
       try clear c1
       try clear p2
       try clear c4
       try clear c5
       try clear c5b0
       try clear c5b1
       try clear c6
       try clear p6
       try clear c8
       try clear c8b0
       try clear p2
       try clear p6
       obtain ⟨x5_2, x18_2, rfl, rfl, HA, HK2, HB⟩ := hrel
       cases gk with
       | zero => exact absurd HA.out (by simp [impl_MatterIn.l1])
       | succ k2 =>
        have H := HA.out
        clear HA
        simp only [impl_MatterIn.l1] at H
        by_cases c9 : x18_2 < a0
        ·rw [if_pos c9] at H
         have c9b0 : decide (x18_2 < a0) = true := decide_eq_true c9
         clear c9
         replace H := Option.bind_eq_some_iff.mp H
         obtain ⟨t906, A100, H⟩ := H
         replace H : (if 0 ≤ x18_2 then ((impl_holds.f k2 l1 (Go.bits .xor .i64 x14_1 (shl .i64 1 x18_2))).bind fun t907 => (if (t906 != t907) = true then (impl_MatterIn.l1 k2 a0 l1 (Go.bits .or .i64 x5_2 (shl .i64 1 x18_2)) x14_1 ji6 x14_1 a0 (wrap64 (x18_2 + 1))) else (impl_MatterIn.l1 k2 a0 l1 x5_2 x14_1 ji6 x14_1 a0 (wrap64 (x18_2 + 1))))) else (none)) = some r := H
         have A10 := Aside0.mk A100
         clear A100
         by_cases c11 : 0 ≤ x18_2
         ·rw [if_pos c11] at H
          have c11b0 := eq_true c11
          have c11b1 : decide (0 ≤ x18_2) = true := decide_eq_true c11
          clear c11
          obtain ⟨ji12, hji12⟩ : ∃ j_ : Int, (shl .i64 1 x18_2) = j_ := ⟨_, rfl⟩
          replace H : ((impl_holds.f k2 l1 (Go.bits .xor .i64 x14_1 (ji12))).bind fun t907 => (if (t906 != t907) = true then (impl_MatterIn.l1 k2 a0 l1 (Go.bits .or .i64 x5_2 (ji12)) x14_1 ji6 x14_1 a0 (wrap64 (x18_2 + 1))) else (impl_MatterIn.l1 k2 a0 l1 x5_2 x14_1 ji6 x14_1 a0 (wrap64 (x18_2 + 1))))) = some r := by first | (rw [hji12] at H; exact H) | (simp only [hji12] at H ⊢; exact H)
          (try rw [hji12] at A10)
          have hji12_ : (IntKind.i64.wrap (1 * 2 ^ min x18_2.toNat 64)) = ji12 := hji12
          have hji12z : x18_2 ≤ 64 → (IntKind.i64.wrap (1 * 2 ^ x18_2.toNat)) = ji12 := shl_small hji12
          have hji12u : (IntKind.i64.wrap (2 ^ min x18_2.toNat 64)) = ji12 := by have h_ := hji12_; rw [Int.one_mul] at h_; exact h_
          have hji12v : x18_2 ≤ 64 → (IntKind.i64.wrap (2 ^ x18_2.toNat)) = ji12 := fun hle_ => by have h_ := hji12z hle_; rw [Int.one_mul] at h_; exact h_
          have hji12y : (wrap64 (1 * 2 ^ min x18_2.toNat 64)) = ji12 := (i64_w _).symm.trans hji12_
          have hji12x : x18_2 ≤ 64 → (wrap64 (1 * 2 ^ x18_2.toNat)) = ji12 := fun h_ => (i64_w _).symm.trans (hji12z h_)
          replace H := Option.bind_eq_some_iff.mp H
          obtain ⟨t907, A130, H⟩ := H
          replace H : (if (t906 != t907) = true then (impl_MatterIn.l1 k2 a0 l1 (Go.bits .or .i64 x5_2 (ji12)) x14_1 ji6 x14_1 a0 (wrap64 (x18_2 + 1))) else (impl_MatterIn.l1 k2 a0 l1 x5_2 x14_1 ji6 x14_1 a0 (wrap64 (x18_2 + 1)))) = some r := H
          have A13 := Aside0.mk A130
          clear A130
          by_cases c14 : (t906 != t907) = true
          ·rw [if_pos c14] at H
           have c14b0 : (t906 != t907) = true := c14
           (try (have c14b1 : decide (t906 = t907) = false := by simpa using c14))
           (try (have c14b2 : (t906 == t907) = false := by simpa using c14))
           (try (have c14b3 : ¬ (t906 = t907) := by simpa using c14))
           clear c14
           have c15b0 := eq_true (of_decide_eq_true (by first | (with_reducible assumption) | assumption) : 0 ≤ x18_2)
           have H' := Aside0.mk H
           clear H
           try go_wp2
           have n0_ := Aside0.mk (below_drew1 HB.out)
           clear HB
           have HB := n0_
           clear n0_
           refine start_ (n := 10) (S := fun w' => True) (ds := []) #[false, false, false, false, false, false, false, false, false, false] (by kernel_rfl) rfl rfl trivial (fun hHeld => ?_); refine with_tabW impl_MatterIn.tab10 impl_MatterIn.bits10 (fun HT_ HW_ => ?_)
           generalize wr.drew = w17 at HB hHeld ⊢
           refine pure_ (i := 0) (N := some 21) (v := ?_) (a' := ?_) #[true, false, false, false, false, false, false, false, false, false] rfl rfl (any_of HT_.out (by kernel_rfl)) (fun _ _ _ h => h) (Or.inl ⟨by rfl, ?_⟩) ?_ ?_
           rotate_left
           ·intro w'
            go_simp
            with_reducible rfl
           rotate_left
           ·simp only [Act.put, List.setIfInBounds_toArray, List.set_cons_zero, List.set_cons_succ, i64_w, i32_w]
            rfl
           refine pure_ (i := 1) (N := some 22) (v := ?_) (a' := ?_) #[true, true, false, false, false, false, false, false, false, false] rfl rfl (any_of HT_.out (by kernel_rfl)) (fun _ _ _ h => h) (Or.inl ⟨by rfl, ?_⟩) ?_ ?_
           rotate_left
           ·intro w'
            go_simp
            with_reducible rfl
           rotate_left
           ·simp only [Act.put, List.setIfInBounds_toArray, List.set_cons_zero, List.set_cons_succ, i64_w, i32_w]
            rfl
           refine pure_ (i := 3) (N := some 24) (v := ?_) (a' := ?_) #[true, true, false, true, false, false, false, false, false, false] rfl rfl (any_of HT_.out (by kernel_rfl)) (fun _ _ _ h => h) (Or.inl ⟨by rfl, ?_⟩) ?_ ?_
           rotate_left
           ·intro w'
            go_simp
            with_reducible rfl
           rotate_left
           ·simp only [Act.put, List.setIfInBounds_toArray, List.set_cons_zero, List.set_cons_succ, i64_w, i32_w]
            rfl
           refine pure_ (i := 4) (N := some 25) (v := ?_) (a' := ?_) #[true, true, false, true, true, false, false, false, false, false] rfl rfl (any_of HT_.out (by kernel_rfl)) (fun _ _ _ h => h) (Or.inl ⟨by rfl, ?_⟩) ?_ ?_
           rotate_left
           ·intro w'
            go_simp
            with_reducible rfl
           rotate_left
           ·simp only [Act.put, List.setIfInBounds_toArray, List.set_cons_zero, List.set_cons_succ, i64_w, i32_w]
            rfl
           refine pure_ (i := 5) (N := some 26) (v := ?_) (a' := ?_) #[true, true, false, true, true, true, false, false, false, false] rfl rfl (any_of HT_.out (by kernel_rfl)) (fun _ _ _ h => h) (Or.inl ⟨by rfl, ?_⟩) ?_ ?_
           rotate_left
           ·intro w'
            go_simp
            with_reducible rfl
           rotate_left
           ·simp only [Act.put, List.setIfInBounds_toArray, List.set_cons_zero, List.set_cons_succ, i64_w, i32_w]
            rfl
           refine pure_ (i := 6) (N := some 27) (v := ?_) (a' := ?_) #[true, true, false, true, true, true, true, false, false, false] rfl rfl (any_of HT_.out (by kernel_rfl)) (fun _ _ _ h => h) (Or.inl ⟨by rfl, ?_⟩) ?_ ?_
           rotate_left
           ·intro w'
            go_simp
            with_reducible rfl
           rotate_left
           ·simp only [Act.put, List.setIfInBounds_toArray, List.set_cons_zero, List.set_cons_succ, i64_w, i32_w]
            rfl
           refine pure_ (i := 7) (N := some 28) (v := ?_) (a' := ?_) #[true, true, false, true, true, true, true, true, false, false] rfl rfl (any_of HT_.out (by kernel_rfl)) (fun _ _ _ h => h) (Or.inl ⟨by rfl, ?_⟩) ?_ ?_
           rotate_left
           ·intro w'
            go_simp
            with_reducible rfl
           rotate_left
           ·simp only [Act.put, List.setIfInBounds_toArray, List.set_cons_zero, List.set_cons_succ, i64_w, i32_w]
            rfl
           refine one_ (i := 2) (N := some 23) #[true, true, true, true, true, true, true, true, false, false] rfl rfl (one_of HT_.out (by kernel_rfl)) (by decide) (fun K hK => ?_)
           refine goes_ Try.func102 (by kernel_rfl) rfl #[.slice A1 l1.length c1, .int .i64 x14_1] (by rfl) rfl rfl (by (try simp only [List.map_toArray, List.map_cons, List.map_nil]); first | done | rfl | (simp only [List.length_drop, List.length_take]; rfl)) ?_
           with_reducible refine (impl_holds.calls k2 _ _ l1 x14_1 t906 _ ?side1 ?side2 A10.out).mono ?_
           (case side1 => repeat (first | exact (Kd.C_below HR1.out HB.out) | (with_reducible refine Kd.C_alloc ?_ _) | (with_reducible refine Kd.C_drewN ?_ _) | (with_reducible refine Kd.C_drew ?_)))
           (case side2 => exact HC1.out)
           rintro e w18 ⟨rfl, hb⟩
           refine ⟨_, rfl, ?_⟩
           have n0_ := Aside0.mk (below_step (by repeat (first | (with_reducible first | exact HB.out | apply below_alloc | apply pw_below_drewN | apply below_drew1) | exact HB.out)) hb)
           clear HB
           have HB := n0_
           clear n0_
           (try clear hb)
           (try clear hb2)
           (try clear hk)
           (try clear hi)
           refine hK.out _ _ trivial (fun hHeld => ?_)
           clear hK K
           refine norm_ (a' := ?_) ?_ ?_
           rotate_left
           ·show Act.put _ (some 23) _ = _
            simp only [Act.put, List.setIfInBounds_toArray, List.set_cons_zero, List.set_cons_succ, i64_w, i32_w]
            rfl
           refine one_ (i := 8) (N := some 29) #[true, true, true, true, true, true, true, true, true, false] rfl rfl (one_of HT_.out (by kernel_rfl)) (by decide) (fun K hK => ?_)
           refine goes_ Try.func102 (by kernel_rfl) rfl #[.slice A1 l1.length c1, .int .i64 (Go.bits .xor .i64 x14_1 (ji12))] (by rfl) rfl rfl (by (try simp only [List.map_toArray, List.map_cons, List.map_nil]); first | done | (simp only [hji12]; rfl) | rfl | (simp only [List.length_drop, List.length_take]; rfl)) ?_
           with_reducible refine (impl_holds.calls k2 _ _ l1 (Go.bits .xor .i64 x14_1 (ji12)) t907 _ ?side1 ?side2 A13.out).mono ?_
           (case side1 => repeat (first | exact (Kd.C_below HR1.out HB.out) | (with_reducible refine Kd.C_alloc ?_ _) | (with_reducible refine Kd.C_drewN ?_ _) | (with_reducible refine Kd.C_drew ?_)))
           (case side2 => exact HC1.out)
           rintro e w19 ⟨rfl, hb⟩
           refine ⟨_, rfl, ?_⟩
           have n0_ := Aside0.mk (below_step (by repeat (first | (with_reducible first | exact HB.out | apply below_alloc | apply pw_below_drewN | apply below_drew1) | exact HB.out)) hb)
           clear HB
           have HB := n0_
           clear n0_
           (try clear hb)
           (try clear hb2)
           (try clear hk)
           (try clear hi)
           refine hK.out _ _ trivial (fun hHeld => ?_)
           clear hK K
           refine norm_ (a' := ?_) ?_ ?_
           rotate_left
           ·show Act.put _ (some 29) _ = _
            simp only [Act.put, List.setIfInBounds_toArray, List.set_cons_zero, List.set_cons_succ, i64_w, i32_w]
            rfl
           refine pure_ (i := 9) (N := some 30) (v := ?_) (a' := ?_) #[true, true, true, true, true, true, true, true, true, true] rfl rfl (any_of HT_.out (by kernel_rfl)) (fun _ _ _ h => h) (Or.inl ⟨by rfl, ?_⟩) ?_ ?_
           rotate_left
           ·intro w'
            go_simp
            with_reducible rfl
           rotate_left
           ·simp only [Act.put, List.setIfInBounds_toArray, List.set_cons_zero, List.set_cons_succ, i64_w, i32_w]
            rfl
           refine done_ (done_of HT_.out (by kernel_rfl)) ?_
           try go_wp2
           go_roundg k2
           case measure => have := HK1.out; have := HK2.out; omega
           case rel => exact ⟨(Go.bits .or .i64 x5_2 (ji12)), (wrap64 (x18_2 + 1)), (by first | rfl | (simp; done) | (simp only [← hji12] <;> (first | rfl | simp)) | (simp [*]; done)), (by first | rfl | (simp; done) | (simp [*]; done)), H', ⟨by have := HK1.out; have := HK2.out; omega⟩, ⟨by repeat (first | (with_reducible first | exact HB.out | apply below_alloc | apply pw_below_drewN | apply below_drew1) | exact HB.out)⟩⟩
          ·rw [if_neg c14] at H
           have c14b0 : (t906 != t907) = false := by simpa using c14
           (try (have c14b1 : decide (t906 = t907) = true := by simpa using c14))
           (try (have c14b2 : (t906 == t907) = true := by simpa using c14))
           clear c14
           have H' := Aside0.mk H
           clear H
           try go_wp2
           have n0_ := Aside0.mk (below_drew1 HB.out)
           clear HB
           have HB := n0_
           clear n0_
           refine start_ (n := 10) (S := fun w' => True) (ds := []) #[false, false, false, false, false, false, false, false, false, false] (by kernel_rfl) rfl rfl trivial (fun hHeld => ?_); refine with_tabW impl_MatterIn.tab10 impl_MatterIn.bits10 (fun HT_ HW_ => ?_)
           generalize wr.drew = w20 at HB hHeld ⊢
           refine pure_ (i := 0) (N := some 21) (v := ?_) (a' := ?_) #[true, false, false, false, false, false, false, false, false, false] rfl rfl (any_of HT_.out (by kernel_rfl)) (fun _ _ _ h => h) (Or.inl ⟨by rfl, ?_⟩) ?_ ?_
           rotate_left
           ·intro w'
            go_simp
            with_reducible rfl
           rotate_left
           ·simp only [Act.put, List.setIfInBounds_toArray, List.set_cons_zero, List.set_cons_succ, i64_w, i32_w]
            rfl
           refine pure_ (i := 1) (N := some 22) (v := ?_) (a' := ?_) #[true, true, false, false, false, false, false, false, false, false] rfl rfl (any_of HT_.out (by kernel_rfl)) (fun _ _ _ h => h) (Or.inl ⟨by rfl, ?_⟩) ?_ ?_
           rotate_left
           ·intro w'
            go_simp
            with_reducible rfl
           rotate_left
           ·simp only [Act.put, List.setIfInBounds_toArray, List.set_cons_zero, List.set_cons_succ, i64_w, i32_w]
            rfl
           refine pure_ (i := 3) (N := some 24) (v := ?_) (a' := ?_) #[true, true, false, true, false, false, false, false, false, false] rfl rfl (any_of HT_.out (by kernel_rfl)) (fun _ _ _ h => h) (Or.inl ⟨by rfl, ?_⟩) ?_ ?_
           rotate_left
           ·intro w'
            go_simp
            with_reducible rfl
           rotate_left
           ·simp only [Act.put, List.setIfInBounds_toArray, List.set_cons_zero, List.set_cons_succ, i64_w, i32_w]
            rfl
           refine pure_ (i := 4) (N := some 25) (v := ?_) (a' := ?_) #[true, true, false, true, true, false, false, false, false, false] rfl rfl (any_of HT_.out (by kernel_rfl)) (fun _ _ _ h => h) (Or.inl ⟨by rfl, ?_⟩) ?_ ?_
           rotate_left
           ·intro w'
            go_simp
            with_reducible rfl
           rotate_left
           ·simp only [Act.put, List.setIfInBounds_toArray, List.set_cons_zero, List.set_cons_succ, i64_w, i32_w]
            rfl
           refine pure_ (i := 5) (N := some 26) (v := ?_) (a' := ?_) #[true, true, false, true, true, true, false, false, false, false] rfl rfl (any_of HT_.out (by kernel_rfl)) (fun _ _ _ h => h) (Or.inl ⟨by rfl, ?_⟩) ?_ ?_
           rotate_left
           ·intro w'
            go_simp
            with_reducible rfl
           rotate_left
           ·simp only [Act.put, List.setIfInBounds_toArray, List.set_cons_zero, List.set_cons_succ, i64_w, i32_w]
            rfl
           refine pure_ (i := 6) (N := some 27) (v := ?_) (a' := ?_) #[true, true, false, true, true, true, true, false, false, false] rfl rfl (any_of HT_.out (by kernel_rfl)) (fun _ _ _ h => h) (Or.inl ⟨by rfl, ?_⟩) ?_ ?_
           rotate_left
           ·intro w'
            go_simp
            with_reducible rfl
           rotate_left
           ·simp only [Act.put, List.setIfInBounds_toArray, List.set_cons_zero, List.set_cons_succ, i64_w, i32_w]
            rfl
           refine pure_ (i := 7) (N := some 28) (v := ?_) (a' := ?_) #[true, true, false, true, true, true, true, true, false, false] rfl rfl (any_of HT_.out (by kernel_rfl)) (fun _ _ _ h => h) (Or.inl ⟨by rfl, ?_⟩) ?_ ?_
           rotate_left
           ·intro w'
            go_simp
            with_reducible rfl
           rotate_left
           ·simp only [Act.put, List.setIfInBounds_toArray, List.set_cons_zero, List.set_cons_succ, i64_w, i32_w]
            rfl
           refine one_ (i := 2) (N := some 23) #[true, true, true, true, true, true, true, true, false, false] rfl rfl (one_of HT_.out (by kernel_rfl)) (by decide) (fun K hK => ?_)
           refine goes_ Try.func102 (by kernel_rfl) rfl #[.slice A1 l1.length c1, .int .i64 x14_1] (by rfl) rfl rfl (by (try simp only [List.map_toArray, List.map_cons, List.map_nil]); first | done | rfl | (simp only [List.length_drop, List.length_take]; rfl)) ?_
           with_reducible refine (impl_holds.calls k2 _ _ l1 x14_1 t906 _ ?side1 ?side2 A10.out).mono ?_
           (case side1 => repeat (first | exact (Kd.C_below HR1.out HB.out) | (with_reducible refine Kd.C_alloc ?_ _) | (with_reducible refine Kd.C_drewN ?_ _) | (with_reducible refine Kd.C_drew ?_)))
           (case side2 => exact HC1.out)
           rintro e w21 ⟨rfl, hb⟩
           refine ⟨_, rfl, ?_⟩
           have n0_ := Aside0.mk (below_step (by repeat (first | (with_reducible first | exact HB.out | apply below_alloc | apply pw_below_drewN | apply below_drew1) | exact HB.out)) hb)
           clear HB
           have HB := n0_
           clear n0_
           (try clear hb)
           (try clear hb2)
           (try clear hk)
           (try clear hi)
           refine hK.out _ _ trivial (fun hHeld => ?_)
           clear hK K
           refine norm_ (a' := ?_) ?_ ?_
           rotate_left
           ·show Act.put _ (some 23) _ = _
            simp only [Act.put, List.setIfInBounds_toArray, List.set_cons_zero, List.set_cons_succ, i64_w, i32_w]
            rfl
           refine one_ (i := 8) (N := some 29) #[true, true, true, true, true, true, true, true, true, false] rfl rfl (one_of HT_.out (by kernel_rfl)) (by decide) (fun K hK => ?_)
           refine goes_ Try.func102 (by kernel_rfl) rfl #[.slice A1 l1.length c1, .int .i64 (Go.bits .xor .i64 x14_1 (ji12))] (by rfl) rfl rfl (by (try simp only [List.map_toArray, List.map_cons, List.map_nil]); first | done | (simp only [hji12]; rfl) | rfl | (simp only [List.length_drop, List.length_take]; rfl)) ?_
           with_reducible refine (impl_holds.calls k2 _ _ l1 (Go.bits .xor .i64 x14_1 (ji12)) t907 _ ?side1 ?side2 A13.out).mono ?_
           (case side1 => repeat (first | exact (Kd.C_below HR1.out HB.out) | (with_reducible refine Kd.C_alloc ?_ _) | (with_reducible refine Kd.C_drewN ?_ _) | (with_reducible refine Kd.C_drew ?_)))
           (case side2 => exact HC1.out)
           rintro e w22 ⟨rfl, hb⟩
           refine ⟨_, rfl, ?_⟩
           have n0_ := Aside0.mk (below_step (by repeat (first | (with_reducible first | exact HB.out | apply below_alloc | apply pw_below_drewN | apply below_drew1) | exact HB.out)) hb)
           clear HB
           have HB := n0_
           clear n0_
           (try clear hb)
           (try clear hb2)
           (try clear hk)
           (try clear hi)
           refine hK.out _ _ trivial (fun hHeld => ?_)
           clear hK K
           refine norm_ (a' := ?_) ?_ ?_
           rotate_left
           ·show Act.put _ (some 29) _ = _
            simp only [Act.put, List.setIfInBounds_toArray, List.set_cons_zero, List.set_cons_succ, i64_w, i32_w]
            rfl
           refine pure_ (i := 9) (N := some 30) (v := ?_) (a' := ?_) #[true, true, true, true, true, true, true, true, true, true] rfl rfl (any_of HT_.out (by kernel_rfl)) (fun _ _ _ h => h) (Or.inl ⟨by rfl, ?_⟩) ?_ ?_
           rotate_left
           ·intro w'
            go_simp
            with_reducible rfl
           rotate_left
           ·simp only [Act.put, List.setIfInBounds_toArray, List.set_cons_zero, List.set_cons_succ, i64_w, i32_w]
            rfl
           refine done_ (done_of HT_.out (by kernel_rfl)) ?_
           try go_wp2
           go_roundg k2
           case measure => have := HK1.out; have := HK2.out; omega
           case rel => exact ⟨(x5_2), (wrap64 (x18_2 + 1)), (by first | rfl | (simp; done) | (simp [*]; done)), (by first | rfl | (simp; done) | (simp [*]; done)), H', ⟨by have := HK1.out; have := HK2.out; omega⟩, ⟨by repeat (first | (with_reducible first | exact HB.out | apply below_alloc | apply pw_below_drewN | apply below_drew1) | exact HB.out)⟩⟩
         ·rw [if_neg c11] at H
          exact absurd H (by simp)
        ·rw [if_neg c9] at H
         have c9b0 : decide (x18_2 < a0) = false := decide_eq_false c9
         clear c9
         have H' := Aside0.mk H
         clear H
         go_wp2
         go_roundg k2
         case measure => have := HK1.out; have := HK2.out; omega
         case rel => exact ⟨(x5_2), (wrap64 (x14_1 + 1)), (by first | rfl | (simp; done) | (simp [*]; done)), (by first | rfl | (simp; done) | (simp [*]; done)), H', ⟨by have := HK1.out; have := HK2.out; omega⟩, ⟨by repeat (first | (with_reducible first | exact HB.out | apply below_alloc | apply pw_below_drewN | apply below_drew1) | exact HB.out)⟩⟩
     ·rw [if_neg c8] at H
      have c8b0 : decide (x14_1 < ji6) = false := decide_eq_false c8
      clear c8
      obtain rfl := Option.some.inj H
      go_wp2
      go_ret
      exact ⟨by first | rfl | (simp [errW_none, errW_some] <;> rfl) | (simp only [← hji6]; first | rfl | (simp [errW_none, errW_some] <;> rfl)) | (simp [*, errW_none, errW_some] <;> rfl), by repeat (first | (with_reducible first | exact HB.out | apply below_alloc | apply pw_below_drewN | apply below_drew1) | exact HB.out)⟩
  ·rw [if_neg c5] at H
   exact absurd H (by simp)
 ·replace c4 := Bool.eq_false_iff.mpr c4
  subst c4
  have H1 : (some (-1)) = some r := by rw [if_neg (show ¬ (false = true) by decide)] at H; exact H
  clear H
  have H := H1
  clear H1
  obtain rfl := Option.some.inj H
  go_enter Try.func63, Try.ntmps63
  go_wp2_with (first | ((with_reducible refine gate_callee (f := 59) rfl ?_); refine goesL_ (some 10) rfl rfl Try.func59 (by kernel_rfl) rfl #[.int .i64 a0, .slice A1 l1.length c1] rfl (by (try simp only [List.map_toArray, List.map_cons, List.map_nil]); first | done | rfl | (simp only [List.length_drop, List.length_take]; rfl)) ?_; (with_reducible refine (impl_TermOk.calls k a0 _ _ l1 false _ ?side1 ?side2 A3.out).mono ?_); (case side1 => repeat (first | exact HR1.out | (with_reducible refine Kd.C_alloc ?_ _) | (with_reducible refine Kd.C_drewN ?_ _) | (with_reducible refine Kd.C_drew ?_))); (case side2 => exact HC1.out); rintro e w23 ⟨rfl, hb⟩; refine ⟨_, rfl, ?_⟩; have n0_ := Aside0.mk (below_step (by repeat (first | (with_reducible first | exact HB.out | apply below_alloc | apply pw_below_drewN | apply below_drew1) | exact HB.out)) hb); clear HB; have HB := n0_; clear n0_; (try clear hb); (try clear hb2); (try clear hk); (try clear hi)))
  go_ret
  exact ⟨by first | rfl | (simp [errW_none, errW_some] <;> rfl) | (simp [*, errW_none, errW_some] <;> rfl), by repeat (first | (with_reducible first | exact HB.out | apply below_alloc | apply pw_below_drewN | apply below_drew1) | exact HB.out)⟩

end Go.Proofs.Ytpampekijfjlkaa.X

-- printed by a program of this session's (xprint)
namespace Go.Proofs.Ytpampekijfjlkaa.X
open Go.RowKit Go.Proofs.YtpampekijfjlkaaW.PrintWords Go.Proofs.YtpampekijfjlkaaW.PrintLast Go.Proofs.YtpampekijfjlkaaW.PrintMore
attribute [local go_sem] max2_int min2_int max_two min_two max_three min_three max_four min_four   -- for this text's walks alone
set_option linter.unusedVariables false
set_option linter.unusedSimpArgs false

/-! ### spec_l20Strange: function 104 -/
def spec_l20Strange.f (k : Nat) (s0_0 : List Int) (s0_1 : Int) : Option (Int × Int × (List (S52)) × Int) := (spec_l20Rd_pick.f k s0_0 s0_1 3).bind fun bt506 => ((spec_l20Rd_pick.f k s0_0 bt506.2 40).bind fun bt508 => ((spec_l20Rd_pick.f k s0_0 bt508.2 (wrap64 ((wrap64 (2 + bt506.1)) - 1))).bind fun bt510 => ((spec_l20Rd_pick.f k s0_0 bt510.2 40).bind fun bt512 => ((spec_l20Term.f k s0_0 bt512.2 (wrap64 (2 + bt506.1)) 14).bind fun bt514 => (some (wrap64 ((wrap64 (2 + bt506.1)) - (wrap64 (Int.tdiv bt508.1 39))), wrap64 (bt510.1 + (wrap64 ((wrap64 (Int.tdiv bt512.1 39)) * 3))), bt514.1, bt514.2))))))
theorem spec_l20Strange.mono : ∀ a0 a1 k, LeO (spec_l20Strange.f k a0 a1) (spec_l20Strange.f (k + 1) a0 a1) := by
 intro a0 a1 k
 unfold spec_l20Strange.f
 repeat' first
   | (with_reducible exact spec_l20Rd_pick.mono _ _ _ _)
   | (with_reducible exact spec_l20Term.mono _ _ _ _ _)
   | (with_reducible exact LeO.refl _)
   | (with_reducible exact LeO.none _)
   | (with_reducible refine LeO.ite ?_ ?_)
   | (with_reducible refine LeO.bind ?_ (fun _ => ?_))
   | exact spec_l20Rd_pick.mono _ _ _ _
   | exact spec_l20Term.mono _ _ _ _ _
   | exact LeO.none _
   | refine LeO.ite ?_ ?_
   | refine LeO.bind ?_ (fun _ => ?_)
set_option maxHeartbeats 8000000 in
set_option maxRecDepth 100000 in
theorem spec_l20Strange.calls (k : Nat) (g : Nat) (s0_0 : List Int) (s0_1 : Int) (r1 : Int) (r2 : Int) (r3 : List (S52)) (r4 : Int) (w0 w : World) (hI : IsS115 w0 w g s0_0 s0_1) (hB : Below w0.heap.size w0 w) (h : spec_l20Strange.f k s0_0 s0_1 = some (r1, r2, r3, r4)) :
  Calls Try.prog 104 #[.pointer (some ⟨g, 0, none⟩)] w fun e w' => ∃ v2_ : Value, e = .returned (.tuple #[.int .i64 r1, .int .i64 r2, v2_]) ∧ Kd.R k52 52 w' w.heap.size (fun _ => True) v2_ r3 ∧ IsS115 w0 w' g s0_0 r4 ∧ Below w0.heap.size w0 w' ∧ KeepBut w w' g none := by
 have HI0 := Aside0.mk hI
 have HK := Aside0.mk (KeepBut.refl w g none)
 have HL := Aside0.mk hB.size
 clear hI
 have HW0 := Aside0.mk hB.size
 have HB := Aside0.mk hB
 clear hB
 have H : ((spec_l20Rd_pick.f k s0_0 s0_1 3).bind fun bt506 => ((spec_l20Rd_pick.f k s0_0 bt506.2 40).bind fun bt508 => ((spec_l20Rd_pick.f k s0_0 bt508.2 (wrap64 ((wrap64 (2 + bt506.1)) - 1))).bind fun bt510 => ((spec_l20Rd_pick.f k s0_0 bt510.2 40).bind fun bt512 => ((spec_l20Term.f k s0_0 bt512.2 (wrap64 (2 + bt506.1)) 14).bind fun bt514 => (some (wrap64 ((wrap64 (2 + bt506.1)) - (wrap64 (Int.tdiv bt508.1 39))), wrap64 (bt510.1 + (wrap64 ((wrap64 (Int.tdiv bt512.1 39)) * 3))), bt514.1, bt514.2))))))) = some (r1, r2, r3, r4) := h
 clear h
 replace H := Option.bind_eq_some_iff.mp H
 obtain ⟨⟨t506, t507⟩, A20, H⟩ := H
 replace H : ((spec_l20Rd_pick.f k s0_0 t507 40).bind fun bt508 => ((spec_l20Rd_pick.f k s0_0 bt508.2 (wrap64 ((wrap64 (2 + t506)) - 1))).bind fun bt510 => ((spec_l20Rd_pick.f k s0_0 bt510.2 40).bind fun bt512 => ((spec_l20Term.f k s0_0 bt512.2 (wrap64 (2 + t506)) 14).bind fun bt514 => (some (wrap64 ((wrap64 (2 + t506)) - (wrap64 (Int.tdiv bt508.1 39))), wrap64 (bt510.1 + (wrap64 ((wrap64 (Int.tdiv bt512.1 39)) * 3))), bt514.1, bt514.2)))))) = some (r1, r2, r3, r4) := H
 have A2 := Aside0.mk A20
 clear A20
 replace H := Option.bind_eq_some_iff.mp H
 obtain ⟨⟨t508, t509⟩, A30, H⟩ := H
 replace H : ((spec_l20Rd_pick.f k s0_0 t509 (wrap64 ((wrap64 (2 + t506)) - 1))).bind fun bt510 => ((spec_l20Rd_pick.f k s0_0 bt510.2 40).bind fun bt512 => ((spec_l20Term.f k s0_0 bt512.2 (wrap64 (2 + t506)) 14).bind fun bt514 => (some (wrap64 ((wrap64 (2 + t506)) - (wrap64 (Int.tdiv t508 39))), wrap64 (bt510.1 + (wrap64 ((wrap64 (Int.tdiv bt512.1 39)) * 3))), bt514.1, bt514.2))))) = some (r1, r2, r3, r4) := H
 have A3 := Aside0.mk A30
 clear A30
 replace H := Option.bind_eq_some_iff.mp H
 obtain ⟨⟨t510, t511⟩, A40, H⟩ := H
 replace H : ((spec_l20Rd_pick.f k s0_0 t511 40).bind fun bt512 => ((spec_l20Term.f k s0_0 bt512.2 (wrap64 (2 + t506)) 14).bind fun bt514 => (some (wrap64 ((wrap64 (2 + t506)) - (wrap64 (Int.tdiv t508 39))), wrap64 (t510 + (wrap64 ((wrap64 (Int.tdiv bt512.1 39)) * 3))), bt514.1, bt514.2)))) = some (r1, r2, r3, r4) := H
 have A4 := Aside0.mk A40
 clear A40
 replace H := Option.bind_eq_some_iff.mp H
 obtain ⟨⟨t512, t513⟩, A50, H⟩ := H
 replace H : ((spec_l20Term.f k s0_0 t513 (wrap64 (2 + t506)) 14).bind fun bt514 => (some (wrap64 ((wrap64 (2 + t506)) - (wrap64 (Int.tdiv t508 39))), wrap64 (t510 + (wrap64 ((wrap64 (Int.tdiv t512 39)) * 3))), bt514.1, bt514.2))) = some (r1, r2, r3, r4) := H
 have A5 := Aside0.mk A50
 clear A50
 replace H := Option.bind_eq_some_iff.mp H
 obtain ⟨⟨t514, t517⟩, A60, H⟩ := H
 replace H : (some (wrap64 ((wrap64 (2 + t506)) - (wrap64 (Int.tdiv t508 39))), wrap64 (t510 + (wrap64 ((wrap64 (Int.tdiv t512 39)) * 3))), t514, t517)) = some (r1, r2, r3, r4) := H
 have A6 := Aside0.mk A60
 clear A60
 simp only [Option.some.injEq, Prod.mk.injEq] at H
 obtain ⟨rfl, rfl, rfl, rfl⟩ := H
 go_enter Try.func104, Try.ntmps104
 go_wp2_with (first | ((with_reducible refine gate_callee (f := 116) rfl ?_); refine goesL_ (some 7) rfl rfl Try.func116 (by kernel_rfl) rfl #[.pointer (some ⟨g, 0, none⟩), .int .i64 3] rfl (by (try simp only [List.map_toArray, List.map_cons, List.map_nil]); first | done | rfl | (simp only [List.length_drop, List.length_take]; rfl)) ?_; (with_reducible refine (spec_l20Rd_pick.calls k g s0_0 s0_1 3 t506 t507 w0 _ ?side1 ?side2 A2.out).mono ?_); (case side1 => repeat (first | (with_reducible first | exact HI0.out | apply IsS115.alloc | apply IsS115.drewN | apply IsS115.drew | apply IsS115.set_1) | exact HI0.out)); (case side2 => repeat (first | (with_reducible first | exact HB.out | apply below_alloc | apply pw_below_drewN | apply below_drew1 | refine below_set ?_ (IsS115.ge HI0.out)) | exact HB.out)); rintro e w7 ⟨rfl, hi, hb, hk⟩; refine ⟨_, rfl, ?_⟩; have n0_ := Aside0.mk (KeepBut.trans (by repeat (first | (with_reducible first | exact HK.out | apply KeepBut.set_ | apply keep_drewN | apply keep_drew | apply keep_alloc) | exact HK.out)) hk (.inl rfl)); have n1_ := Aside0.mk (hb); have n2_ := Aside0.mk (hi); clear HK; clear HB; clear HI0; have HK := n0_; have HB := n1_; have HI0 := n2_; clear n0_ n1_ n2_; (try clear hb); (try clear hb2); (try clear hk); (try clear hi)) | ((with_reducible refine gate_callee (f := 116) rfl ?_); refine goesL_ (some 11) rfl rfl Try.func116 (by kernel_rfl) rfl #[.pointer (some ⟨g, 0, none⟩), .int .i64 40] rfl (by (try simp only [List.map_toArray, List.map_cons, List.map_nil]); first | done | rfl | (simp only [List.length_drop, List.length_take]; rfl)) ?_; (with_reducible refine (spec_l20Rd_pick.calls k g s0_0 t507 40 t508 t509 w0 _ ?side1 ?side2 A3.out).mono ?_); (case side1 => repeat (first | (with_reducible first | exact HI0.out | apply IsS115.alloc | apply IsS115.drewN | apply IsS115.drew | apply IsS115.set_1) | exact HI0.out)); (case side2 => repeat (first | (with_reducible first | exact HB.out | apply below_alloc | apply pw_below_drewN | apply below_drew1 | refine below_set ?_ (IsS115.ge HI0.out)) | exact HB.out)); rintro e w8 ⟨rfl, hi, hb, hk⟩; refine ⟨_, rfl, ?_⟩; have n0_ := Aside0.mk (KeepBut.trans (by repeat (first | (with_reducible first | exact HK.out | apply KeepBut.set_ | apply keep_drewN | apply keep_drew | apply keep_alloc) | exact HK.out)) hk (.inl rfl)); have n1_ := Aside0.mk (hb); have n2_ := Aside0.mk (hi); clear HK; clear HB; clear HI0; have HK := n0_; have HB := n1_; have HI0 := n2_; clear n0_ n1_ n2_; (try clear hb); (try clear hb2); (try clear hk); (try clear hi)) | ((with_reducible refine gate_callee (f := 116) rfl ?_); refine goesL_ (some 17) rfl rfl Try.func116 (by kernel_rfl) rfl #[.pointer (some ⟨g, 0, none⟩), .int .i64 (wrap64 ((wrap64 (2 + t506)) - 1))] rfl (by (try simp only [List.map_toArray, List.map_cons, List.map_nil]); first | done | rfl | (simp only [List.length_drop, List.length_take]; rfl)) ?_; (with_reducible refine (spec_l20Rd_pick.calls k g s0_0 t509 (wrap64 ((wrap64 (2 + t506)) - 1)) t510 t511 w0 _ ?side1 ?side2 A4.out).mono ?_); (case side1 => repeat (first | (with_reducible first | exact HI0.out | apply IsS115.alloc | apply IsS115.drewN | apply IsS115.drew | apply IsS115.set_1) | exact HI0.out)); (case side2 => repeat (first | (with_reducible first | exact HB.out | apply below_alloc | apply pw_below_drewN | apply below_drew1 | refine below_set ?_ (IsS115.ge HI0.out)) | exact HB.out)); rintro e w9 ⟨rfl, hi, hb, hk⟩; refine ⟨_, rfl, ?_⟩; have n0_ := Aside0.mk (KeepBut.trans (by repeat (first | (with_reducible first | exact HK.out | apply KeepBut.set_ | apply keep_drewN | apply keep_drew | apply keep_alloc) | exact HK.out)) hk (.inl rfl)); have n1_ := Aside0.mk (hb); have n2_ := Aside0.mk (hi); clear HK; clear HB; clear HI0; have HK := n0_; have HB := n1_; have HI0 := n2_; clear n0_ n1_ n2_; (try clear hb); (try clear hb2); (try clear hk); (try clear hi)) | ((with_reducible refine gate_callee (f := 116) rfl ?_); refine goesL_ (some 19) rfl rfl Try.func116 (by kernel_rfl) rfl #[.pointer (some ⟨g, 0, none⟩), .int .i64 40] rfl (by (try simp only [List.map_toArray, List.map_cons, List.map_nil]); first | done | rfl | (simp only [List.length_drop, List.length_take]; rfl)) ?_; (with_reducible refine (spec_l20Rd_pick.calls k g s0_0 t511 40 t512 t513 w0 _ ?side1 ?side2 A5.out).mono ?_); (case side1 => repeat (first | (with_reducible first | exact HI0.out | apply IsS115.alloc | apply IsS115.drewN | apply IsS115.drew | apply IsS115.set_1) | exact HI0.out)); (case side2 => repeat (first | (with_reducible first | exact HB.out | apply below_alloc | apply pw_below_drewN | apply below_drew1 | refine below_set ?_ (IsS115.ge HI0.out)) | exact HB.out)); rintro e w10 ⟨rfl, hi, hb, hk⟩; refine ⟨_, rfl, ?_⟩; have n0_ := Aside0.mk (KeepBut.trans (by repeat (first | (with_reducible first | exact HK.out | apply KeepBut.set_ | apply keep_drewN | apply keep_drew | apply keep_alloc) | exact HK.out)) hk (.inl rfl)); have n1_ := Aside0.mk (hb); have n2_ := Aside0.mk (hi); clear HK; clear HB; clear HI0; have HK := n0_; have HB := n1_; have HI0 := n2_; clear n0_ n1_ n2_; (try clear hb); (try clear hb2); (try clear hk); (try clear hi)) | ((with_reducible refine gate_callee (f := 117) rfl ?_); refine goesL_ (some 25) rfl rfl Try.func117 (by kernel_rfl) rfl #[.pointer (some ⟨g, 0, none⟩), .int .i64 (wrap64 (2 + t506)), .int .i64 14] rfl (by (try simp only [List.map_toArray, List.map_cons, List.map_nil]); first | done | rfl | (simp only [List.length_drop, List.length_take]; rfl)) ?_; (with_reducible refine (spec_l20Term.calls k g s0_0 t513 (wrap64 (2 + t506)) 14 t514 t517 w0 _ ?side1 ?side2 A6.out).mono ?_); (case side1 => repeat (first | (with_reducible first | exact HI0.out | apply IsS115.alloc | apply IsS115.drewN | apply IsS115.drew | apply IsS115.set_1) | exact HI0.out)); (case side2 => repeat (first | (with_reducible first | exact HB.out | apply below_alloc | apply pw_below_drewN | apply below_drew1 | refine below_set ?_ (IsS115.ge HI0.out)) | exact HB.out)); rintro e w11 ⟨v515, rfl, ho0, hi, hb, hk⟩; refine ⟨_, rfl, ?_⟩; have n0_ := Aside0.mk (Kd.R_lower ho0 (keep_size (w := w) (g := g) (row := none) (by repeat (first | (with_reducible first | exact HK.out | apply KeepBut.set_ | apply keep_drewN | apply keep_drew | apply keep_alloc) | exact HK.out)))); have n1_ := Aside0.mk (KeepBut.trans (by repeat (first | (with_reducible first | exact HK.out | apply KeepBut.set_ | apply keep_drewN | apply keep_drew | apply keep_alloc) | exact HK.out)) hk (.inl rfl)); have n2_ := Aside0.mk (hb); have n3_ := Aside0.mk (hi); clear HK; clear HB; clear HI0; have HO516 := n0_; have HK := n1_; have HB := n2_; have HI0 := n3_; clear n0_ n1_ n2_ n3_; (try clear hb); (try clear hb2); (try clear hk); (try clear hi); (try clear ho0)))
 go_ret3
 exact ⟨_, by first | rfl | (simp [errW_none, errW_some] <;> rfl) | (simp [*, errW_none, errW_some] <;> rfl), by (with_reducible repeat (first | apply Kd.R_alloc | apply Kd.R_drewN | apply Kd.R_drew)); exact HO516.out, by repeat (first | (with_reducible first | exact HI0.out | apply IsS115.alloc | apply IsS115.drewN | apply IsS115.drew | apply IsS115.set_1) | exact HI0.out), by repeat (first | (with_reducible first | exact HB.out | apply below_alloc | apply pw_below_drewN | apply below_drew1 | refine below_set ?_ (IsS115.ge HI0.out)) | exact HB.out), by repeat (first | (with_reducible first | exact HK.out | apply KeepBut.set_ | apply keep_drewN | apply keep_drew | apply keep_alloc) | exact HK.out)⟩

end Go.Proofs.Ytpampekijfjlkaa.X

-- printed by a program of this session's (xprint)
namespace Go.Proofs.Ytpampekijfjlkaa.X
open Go.RowKit Go.Proofs.YtpampekijfjlkaaW.PrintWords Go.Proofs.YtpampekijfjlkaaW.PrintLast Go.Proofs.YtpampekijfjlkaaW.PrintMore
attribute [local go_sem] max2_int min2_int max_two min_two max_three min_three max_four min_four   -- for this text's walks alone
set_option linter.unusedVariables false
set_option linter.unusedSimpArgs false

/-! ### spec_DrawWordIn: function 87 -/
def spec_DrawWordIn.f (k : Nat) (l0 : List Int) : Option (Int × Int × (List (S52)) × Int) := (spec_l20Open.f l0).bind fun bt1270 => ((spec_l20Strange.f k bt1270.1 bt1270.2).bind fun bt1273 => (if 0 ≤ bt1273.1 then ((spec_l20Rd_pick.f k bt1270.1 bt1273.2.2.2 (shl .i64 1 bt1273.1)).bind fun bt1279 => ((spec_l20Rd_pick.f k bt1270.1 bt1279.2 40).bind fun bt1281 => (some (bt1273.1, bt1273.2.1, bt1273.2.2.1, wrap64 (bt1279.1 + (wrap64 ((wrap64 (Int.tdiv bt1281.1 39)) * 16))))))) else (none)))
theorem spec_DrawWordIn.mono : ∀ a0 k, LeO (spec_DrawWordIn.f k a0) (spec_DrawWordIn.f (k + 1) a0) := by
 intro a0 k
 unfold spec_DrawWordIn.f
 repeat' first
   | (with_reducible exact spec_l20Rd_pick.mono _ _ _ _)
   | (with_reducible exact spec_l20Strange.mono _ _ _)
   | (with_reducible exact LeO.refl _)
   | (with_reducible exact LeO.none _)
   | (with_reducible refine LeO.ite ?_ ?_)
   | (with_reducible refine LeO.bind ?_ (fun _ => ?_))
   | exact spec_l20Rd_pick.mono _ _ _ _
   | exact spec_l20Strange.mono _ _ _
   | exact LeO.none _
   | refine LeO.ite ?_ ?_
   | refine LeO.bind ?_ (fun _ => ?_)
set_option maxHeartbeats 8000000 in
set_option maxRecDepth 100000 in
theorem spec_DrawWordIn.calls (k : Nat) (A0 : Option Addr) (c0 : Nat) (l0 : List Int) (r1 : Int) (r2 : Int) (r3 : List (S52)) (r4 : Int) (w : World) (hr0 : Kd.C (Kd.int .u8) w A0 l0.length l0) (hc0 : l0.length ≤ c0) (h : spec_DrawWordIn.f k l0 = some (r1, r2, r3, r4)) :
  Calls Try.prog 87 #[.slice A0 l0.length c0] w fun e w' => ∃ v2_ : Value, e = .returned (.tuple #[.int .i64 r1, .int .i64 r2, v2_, .int .i64 r4]) ∧ Kd.R k52 52 w' w.heap.size (fun _ => True) v2_ r3 ∧ Below w.heap.size w w' := by
 have HR0 := Aside0.mk hr0
 have HC0 := Aside0.mk hc0
 clear hr0 hc0
 have HB := Aside0.mk (Below.refl w.heap.size w)
 have H : ((spec_l20Open.f l0).bind fun bt1270 => ((spec_l20Strange.f k bt1270.1 bt1270.2).bind fun bt1273 => (if 0 ≤ bt1273.1 then ((spec_l20Rd_pick.f k bt1270.1 bt1273.2.2.2 (shl .i64 1 bt1273.1)).bind fun bt1279 => ((spec_l20Rd_pick.f k bt1270.1 bt1279.2 40).bind fun bt1281 => (some (bt1273.1, bt1273.2.1, bt1273.2.2.1, wrap64 (bt1279.1 + (wrap64 ((wrap64 (Int.tdiv bt1281.1 39)) * 16))))))) else (none)))) = some (r1, r2, r3, r4) := h
 clear h
 replace H := Option.bind_eq_some_iff.mp H
 obtain ⟨⟨t1270, t1271⟩, A20, H⟩ := H
 replace H : ((spec_l20Strange.f k t1270 t1271).bind fun bt1273 => (if 0 ≤ bt1273.1 then ((spec_l20Rd_pick.f k t1270 bt1273.2.2.2 (shl .i64 1 bt1273.1)).bind fun bt1279 => ((spec_l20Rd_pick.f k t1270 bt1279.2 40).bind fun bt1281 => (some (bt1273.1, bt1273.2.1, bt1273.2.2.1, wrap64 (bt1279.1 + (wrap64 ((wrap64 (Int.tdiv bt1281.1 39)) * 16))))))) else (none))) = some (r1, r2, r3, r4) := H
 have A2 := Aside0.mk A20
 clear A20
 replace H := Option.bind_eq_some_iff.mp H
 obtain ⟨⟨t1273, t1274, t1275, t1278⟩, A30, H⟩ := H
 replace H : (if 0 ≤ t1273 then ((spec_l20Rd_pick.f k t1270 t1278 (shl .i64 1 t1273)).bind fun bt1279 => ((spec_l20Rd_pick.f k t1270 bt1279.2 40).bind fun bt1281 => (some (t1273, t1274, t1275, wrap64 (bt1279.1 + (wrap64 ((wrap64 (Int.tdiv bt1281.1 39)) * 16))))))) else (none)) = some (r1, r2, r3, r4) := H
 have A3 := Aside0.mk A30
 clear A30
 by_cases c4 : 0 ≤ t1273
 ·rw [if_pos c4] at H
  have c4b0 := eq_true c4
  have c4b1 : decide (0 ≤ t1273) = true := decide_eq_true c4
  clear c4
  obtain ⟨ji5, hji5⟩ : ∃ j_ : Int, (shl .i64 1 t1273) = j_ := ⟨_, rfl⟩
  replace H : ((spec_l20Rd_pick.f k t1270 t1278 (ji5)).bind fun bt1279 => ((spec_l20Rd_pick.f k t1270 bt1279.2 40).bind fun bt1281 => (some (t1273, t1274, t1275, wrap64 (bt1279.1 + (wrap64 ((wrap64 (Int.tdiv bt1281.1 39)) * 16))))))) = some (r1, r2, r3, r4) := by first | (rw [hji5] at H; exact H) | (simp only [hji5] at H ⊢; exact H)
  (try rw [hji5] at A2)
  (try rw [hji5] at A3)
  have hji5_ : (IntKind.i64.wrap (1 * 2 ^ min t1273.toNat 64)) = ji5 := hji5
  have hji5z : t1273 ≤ 64 → (IntKind.i64.wrap (1 * 2 ^ t1273.toNat)) = ji5 := shl_small hji5
  have hji5u : (IntKind.i64.wrap (2 ^ min t1273.toNat 64)) = ji5 := by have h_ := hji5_; rw [Int.one_mul] at h_; exact h_
  have hji5v : t1273 ≤ 64 → (IntKind.i64.wrap (2 ^ t1273.toNat)) = ji5 := fun hle_ => by have h_ := hji5z hle_; rw [Int.one_mul] at h_; exact h_
  have hji5y : (wrap64 (1 * 2 ^ min t1273.toNat 64)) = ji5 := (i64_w _).symm.trans hji5_
  have hji5x : t1273 ≤ 64 → (wrap64 (1 * 2 ^ t1273.toNat)) = ji5 := fun h_ => (i64_w _).symm.trans (hji5z h_)
  replace H := Option.bind_eq_some_iff.mp H
  obtain ⟨⟨t1279, t1280⟩, A60, H⟩ := H
  replace H : ((spec_l20Rd_pick.f k t1270 t1280 40).bind fun bt1281 => (some (t1273, t1274, t1275, wrap64 (t1279 + (wrap64 ((wrap64 (Int.tdiv bt1281.1 39)) * 16)))))) = some (r1, r2, r3, r4) := H
  have A6 := Aside0.mk A60
  clear A60
  replace H := Option.bind_eq_some_iff.mp H
  obtain ⟨⟨t1281, t1282⟩, A70, H⟩ := H
  replace H : (some (t1273, t1274, t1275, wrap64 (t1279 + (wrap64 ((wrap64 (Int.tdiv t1281 39)) * 16))))) = some (r1, r2, r3, r4) := H
  have A7 := Aside0.mk A70
  clear A70
  simp only [Option.some.injEq, Prod.mk.injEq] at H
  obtain ⟨rfl, rfl, rfl, rfl⟩ := H
  go_enter Try.func87, Try.ntmps87
  go_wp2_with (first | ((with_reducible refine gate_callee (f := 105) rfl ?_); refine goesL_ (some 11) rfl rfl Try.func105 (by kernel_rfl) rfl #[.slice A0 l0.length c0] rfl (by (try simp only [List.map_toArray, List.map_cons, List.map_nil]); first | done | rfl | (simp only [List.length_drop, List.length_take]; rfl)) ?_; (with_reducible refine (spec_l20Open.calls _ _ l0 t1270 t1271 w _ ?side1 ?side2 ?side3 A2.out).mono ?_); (case side1 => repeat (first | (with_reducible first | exact HB.out | apply below_alloc | apply pw_below_drewN | apply below_drew1) | exact HB.out)); (case side2 => exact HR0.out); (case side3 => exact HC0.out); rintro e w8 ⟨g1272, rfl, hi, hb, hb2⟩; refine ⟨_, rfl, ?_⟩; have n0_ := Aside0.mk (hb); have n1_ := Aside0.mk (hi); clear HB; have HB := n0_; have HI1272 := n1_; clear n0_ n1_; (try clear hb); (try clear hb2); (try clear hk); (try clear hi)) | ((with_reducible refine gate_callee (f := 104) rfl ?_); refine goesL_ (some 14) rfl rfl Try.func104 (by kernel_rfl) rfl #[.pointer (some ⟨g1272, 0, none⟩)] rfl (by (try simp only [List.map_toArray, List.map_cons, List.map_nil]); first | done | rfl | (simp only [List.length_drop, List.length_take]; rfl)) ?_; (with_reducible refine (spec_l20Strange.calls k g1272 t1270 t1271 t1273 t1274 t1275 t1278 w _ ?side1 ?side2 A3.out).mono ?_); (case side1 => repeat (first | (with_reducible first | exact HI1272.out | apply IsS115.alloc | apply IsS115.drewN | apply IsS115.drew | apply IsS115.set_1) | exact HI1272.out)); (case side2 => repeat (first | (with_reducible first | exact HB.out | apply below_alloc | apply pw_below_drewN | apply below_drew1 | refine below_set ?_ (IsS115.ge HI1272.out)) | exact HB.out)); rintro e w9 ⟨v1276, rfl, ho0, hi, hb, hk⟩; refine ⟨_, rfl, ?_⟩; have n0_ := Aside0.mk (Kd.R_lower ho0 (below_size (by repeat (first | (with_reducible first | exact HB.out | apply below_alloc | apply pw_below_drewN | apply below_drew1 | refine below_set ?_ (IsS115.ge HI1272.out)) | exact HB.out)))); have n1_ := Aside0.mk (hb); have n2_ := Aside0.mk (hi); clear HB; clear HI1272; have HO1277 := n0_; have HB := n1_; have HI1272 := n2_; clear n0_ n1_ n2_; (try clear hb); (try clear hb2); (try clear hk); (try clear hi); (try clear ho0)) | ((with_reducible refine gate_callee (f := 116) rfl ?_); refine goesL_ (some 24) rfl rfl Try.func116 (by kernel_rfl) rfl #[.pointer (some ⟨g1272, 0, none⟩), .int .i64 ji5] rfl (by (try simp only [List.map_toArray, List.map_cons, List.map_nil]); first | done | (simp only [hji5]; rfl) | rfl | (simp only [List.length_drop, List.length_take]; rfl)) ?_; (with_reducible refine (spec_l20Rd_pick.calls k g1272 t1270 t1278 ji5 t1279 t1280 w _ ?side1 ?side2 A6.out).mono ?_); (case side1 => repeat (first | (with_reducible first | exact HI1272.out | apply IsS115.alloc | apply IsS115.drewN | apply IsS115.drew | apply IsS115.set_1) | exact HI1272.out)); (case side2 => repeat (first | (with_reducible first | exact HB.out | apply below_alloc | apply pw_below_drewN | apply below_drew1 | refine below_set ?_ (IsS115.ge HI1272.out)) | exact HB.out)); rintro e w10 ⟨rfl, hi, hb, hk⟩; refine ⟨_, rfl, ?_⟩; have n0_ := Aside0.mk (Kd.R_mono (Kd.R_keep (IsS115.apart (show IsS115 w _ g1272 t1270 t1278 from by repeat (first | (with_reducible first | exact HI1272.out | apply IsS115.alloc | apply IsS115.drewN | apply IsS115.drew | apply IsS115.set_1) | exact HI1272.out)) (by (with_reducible repeat (first | apply Kd.R_alloc | apply Kd.R_drewN | apply Kd.R_drew)); exact HO1277.out) (by decide)) hk (fun _ h => h.2)) (fun _ h => h.1)); have n1_ := Aside0.mk (hb); have n2_ := Aside0.mk (hi); clear HO1277; clear HB; clear HI1272; have HO1277 := n0_; have HB := n1_; have HI1272 := n2_; clear n0_ n1_ n2_; (try clear hb); (try clear hb2); (try clear hk); (try clear hi)) | ((with_reducible refine gate_callee (f := 116) rfl ?_); refine goesL_ (some 26) rfl rfl Try.func116 (by kernel_rfl) rfl #[.pointer (some ⟨g1272, 0, none⟩), .int .i64 40] rfl (by (try simp only [List.map_toArray, List.map_cons, List.map_nil]); first | done | rfl | (simp only [List.length_drop, List.length_take]; rfl)) ?_; (with_reducible refine (spec_l20Rd_pick.calls k g1272 t1270 t1280 40 t1281 t1282 w _ ?side1 ?side2 A7.out).mono ?_); (case side1 => repeat (first | (with_reducible first | exact HI1272.out | apply IsS115.alloc | apply IsS115.drewN | apply IsS115.drew | apply IsS115.set_1) | exact HI1272.out)); (case side2 => repeat (first | (with_reducible first | exact HB.out | apply below_alloc | apply pw_below_drewN | apply below_drew1 | refine below_set ?_ (IsS115.ge HI1272.out)) | exact HB.out)); rintro e w11 ⟨rfl, hi, hb, hk⟩; refine ⟨_, rfl, ?_⟩; have n0_ := Aside0.mk (Kd.R_mono (Kd.R_keep (IsS115.apart (show IsS115 w _ g1272 t1270 t1280 from by repeat (first | (with_reducible first | exact HI1272.out | apply IsS115.alloc | apply IsS115.drewN | apply IsS115.drew | apply IsS115.set_1) | exact HI1272.out)) (by (with_reducible repeat (first | apply Kd.R_alloc | apply Kd.R_drewN | apply Kd.R_drew)); exact HO1277.out) (by decide)) hk (fun _ h => h.2)) (fun _ h => h.1)); have n1_ := Aside0.mk (hb); have n2_ := Aside0.mk (hi); clear HO1277; clear HB; clear HI1272; have HO1277 := n0_; have HB := n1_; have HI1272 := n2_; clear n0_ n1_ n2_; (try clear hb); (try clear hb2); (try clear hk); (try clear hi)))
  refine bodyPost_ret (results_list (rs := [.tmp 2, .tmp 3, .tmp 4, .tmp 5]) rfl (by simp) (.tmp (.tmp (.tmp (.tmp .nil))))) rfl ?_
  exact ⟨_, by first | rfl | (simp [errW_none, errW_some] <;> rfl) | (simp only [← hji5]; first | rfl | (simp [errW_none, errW_some] <;> rfl)) | (simp [*, errW_none, errW_some] <;> rfl), by (with_reducible repeat (first | apply Kd.R_alloc | apply Kd.R_drewN | apply Kd.R_drew)); exact HO1277.out, by repeat (first | (with_reducible first | exact HB.out | apply below_alloc | apply pw_below_drewN | apply below_drew1 | refine below_set ?_ (IsS115.ge HI1272.out)) | exact HB.out)⟩
 ·rw [if_neg c4] at H
  exact absurd H (by simp)

end Go.Proofs.Ytpampekijfjlkaa.X

-- printed by a program of this session's (xprint)
namespace Go.Proofs.Ytpampekijfjlkaa.X
open Go.RowKit Go.Proofs.YtpampekijfjlkaaW.PrintWords Go.Proofs.YtpampekijfjlkaaW.PrintLast Go.Proofs.YtpampekijfjlkaaW.PrintMore
attribute [local go_sem] max2_int min2_int max_two min_two max_three min_three max_four min_four   -- for this text's walks alone
set_option linter.unusedVariables false
set_option linter.unusedSimpArgs false

/-! ### laws_FnWordIn: function 22 -/
def laws_FnWordIn.f (k : Nat) (l0 : List Int) : Option (Bool) := if (l0.length : Int) > 1048576 then (some true) else ((spec_DrawWordIn.f k l0).bind fun bt1283 => ((impl_WordIn.f k bt1283.1 bt1283.2.1 bt1283.2.2.1 bt1283.2.2.2).bind fun t1289 => ((spec_WordIn.f k bt1283.1 bt1283.2.1 bt1283.2.2.1 bt1283.2.2.2).bind fun t1290 => (if t1289 = t1290 then (if t1289 < 0 then (if t1289 = (-1) then ((laws_alive.f).bind fun t1291 => (some t1291)) else (some false)) else (if 0 ≤ (wrap64 (bt1283.1 - 1)) then ((impl_MatterIn.f k bt1283.1 bt1283.2.2.1).bind fun t1292 => (if t1289 ≤ 1 then (if (Go.bits .and .i64 t1292 (shl .i64 1 (wrap64 (bt1283.1 - 1)))) = 0 then ((impl_WordIn.f k bt1283.1 bt1283.2.1 bt1283.2.2.1 (Go.bits .xor .i64 bt1283.2.2.2 (shl .i64 1 (wrap64 (bt1283.1 - 1))))).bind fun t1293 => (if t1293 = (wrap64 (1 - t1289)) then ((impl_AnswerIn.f k bt1283.1 bt1283.2.1 bt1283.2.2.1 bt1283.2.2.2).bind fun t1294 => (some (((Go.bits .and .i64 bt1283.2.2.2 (shl .i64 1 (wrap64 (bt1283.1 - 1)))) != 0) == (t1294 == t1289)))) else (some false))) else ((impl_AnswerIn.f k bt1283.1 bt1283.2.1 bt1283.2.2.1 bt1283.2.2.2).bind fun t1295 => (some (((Go.bits .and .i64 bt1283.2.2.2 (shl .i64 1 (wrap64 (bt1283.1 - 1)))) != 0) == (t1295 == t1289))))) else (some false))) else (none))) else (some false)))))
theorem laws_FnWordIn.mono : ∀ a0 k, LeO (laws_FnWordIn.f k a0) (laws_FnWordIn.f (k + 1) a0) := by
 intro a0 k
 unfold laws_FnWordIn.f
 repeat' first
   | (with_reducible exact impl_AnswerIn.mono _ _ _ _ _)
   | (with_reducible exact impl_MatterIn.mono _ _ _)
   | (with_reducible exact impl_WordIn.mono _ _ _ _ _)
   | (with_reducible exact spec_DrawWordIn.mono _ _)
   | (with_reducible exact spec_WordIn.mono _ _ _ _ _)
   | (with_reducible exact LeO.refl _)
   | (with_reducible exact LeO.none _)
   | (with_reducible refine LeO.ite ?_ ?_)
   | (with_reducible refine LeO.bind ?_ (fun _ => ?_))
   | exact impl_AnswerIn.mono _ _ _ _ _
   | exact impl_MatterIn.mono _ _ _
   | exact impl_WordIn.mono _ _ _ _ _
   | exact spec_DrawWordIn.mono _ _
   | exact spec_WordIn.mono _ _ _ _ _
   | exact LeO.none _
   | refine LeO.ite ?_ ?_
   | refine LeO.bind ?_ (fun _ => ?_)
set_option maxHeartbeats 8000000 in
set_option maxRecDepth 100000 in
theorem laws_FnWordIn.calls (k : Nat) (A0 : Option Addr) (c0 : Nat) (l0 : List Int) (r : Bool) (w : World) (hr0 : Kd.C (Kd.int .u8) w A0 l0.length l0) (hc0 : l0.length ≤ c0) (h : laws_FnWordIn.f k l0 = some r) :
  Calls Try.prog 22 #[.slice A0 l0.length c0] w fun e w' => e = .returned (.bool r) ∧ Below w.heap.size w w' := by
 have HR0 := Aside0.mk hr0
 have HC0 := Aside0.mk hc0
 clear hr0 hc0
 have HB := Aside0.mk (Below.refl w.heap.size w)
 have H : (if (l0.length : Int) > 1048576 then (some true) else ((spec_DrawWordIn.f k l0).bind fun bt1283 => ((impl_WordIn.f k bt1283.1 bt1283.2.1 bt1283.2.2.1 bt1283.2.2.2).bind fun t1289 => ((spec_WordIn.f k bt1283.1 bt1283.2.1 bt1283.2.2.1 bt1283.2.2.2).bind fun t1290 => (if t1289 = t1290 then (if t1289 < 0 then (if t1289 = (-1) then ((laws_alive.f).bind fun t1291 => (some t1291)) else (some false)) else (if 0 ≤ (wrap64 (bt1283.1 - 1)) then ((impl_MatterIn.f k bt1283.1 bt1283.2.2.1).bind fun t1292 => (if t1289 ≤ 1 then (if (Go.bits .and .i64 t1292 (shl .i64 1 (wrap64 (bt1283.1 - 1)))) = 0 then ((impl_WordIn.f k bt1283.1 bt1283.2.1 bt1283.2.2.1 (Go.bits .xor .i64 bt1283.2.2.2 (shl .i64 1 (wrap64 (bt1283.1 - 1))))).bind fun t1293 => (if t1293 = (wrap64 (1 - t1289)) then ((impl_AnswerIn.f k bt1283.1 bt1283.2.1 bt1283.2.2.1 bt1283.2.2.2).bind fun t1294 => (some (((Go.bits .and .i64 bt1283.2.2.2 (shl .i64 1 (wrap64 (bt1283.1 - 1)))) != 0) == (t1294 == t1289)))) else (some false))) else ((impl_AnswerIn.f k bt1283.1 bt1283.2.1 bt1283.2.2.1 bt1283.2.2.2).bind fun t1295 => (some (((Go.bits .and .i64 bt1283.2.2.2 (shl .i64 1 (wrap64 (bt1283.1 - 1)))) != 0) == (t1295 == t1289))))) else (some false))) else (none))) else (some false)))))) = some r := h
 clear h
 by_cases c2 : (l0.length : Int) > 1048576
 ·rw [if_pos c2] at H
  have c2b0 : decide (1048576 < (l0.length : Int)) = true := decide_eq_true c2
  have c2b1 : decide (1048576 < l0.length) = true := decide_eq_true (by omega)
  clear c2
  obtain rfl := Option.some.inj H
  go_enter Try.func22, Try.ntmps22
  go_wp2
  go_ret
  exact ⟨by first | rfl | (simp [errW_none, errW_some] <;> rfl) | (simp [*, errW_none, errW_some] <;> rfl), by repeat (first | (with_reducible first | exact HB.out | apply below_alloc | apply pw_below_drewN | apply below_drew1) | exact HB.out)⟩
 ·rw [if_neg c2] at H
  have c2b0 : decide (1048576 < (l0.length : Int)) = false := decide_eq_false c2
  have c2b1 : decide (1048576 < l0.length) = false := decide_eq_false (by omega)
  clear c2
  replace H := Option.bind_eq_some_iff.mp H
  obtain ⟨⟨t1283, t1284, t1285, t1286⟩, A30, H⟩ := H
  replace H : ((impl_WordIn.f k t1283 t1284 t1285 t1286).bind fun t1289 => ((spec_WordIn.f k t1283 t1284 t1285 t1286).bind fun t1290 => (if t1289 = t1290 then (if t1289 < 0 then (if t1289 = (-1) then ((laws_alive.f).bind fun t1291 => (some t1291)) else (some false)) else (if 0 ≤ (wrap64 (t1283 - 1)) then ((impl_MatterIn.f k t1283 t1285).bind fun t1292 => (if t1289 ≤ 1 then (if (Go.bits .and .i64 t1292 (shl .i64 1 (wrap64 (t1283 - 1)))) = 0 then ((impl_WordIn.f k t1283 t1284 t1285 (Go.bits .xor .i64 t1286 (shl .i64 1 (wrap64 (t1283 - 1))))).bind fun t1293 => (if t1293 = (wrap64 (1 - t1289)) then ((impl_AnswerIn.f k t1283 t1284 t1285 t1286).bind fun t1294 => (some (((Go.bits .and .i64 t1286 (shl .i64 1 (wrap64 (t1283 - 1)))) != 0) == (t1294 == t1289)))) else (some false))) else ((impl_AnswerIn.f k t1283 t1284 t1285 t1286).bind fun t1295 => (some (((Go.bits .and .i64 t1286 (shl .i64 1 (wrap64 (t1283 - 1)))) != 0) == (t1295 == t1289))))) else (some false))) else (none))) else (some false)))) = some r := H
  have A3 := Aside0.mk A30
  clear A30
  replace H := Option.bind_eq_some_iff.mp H
  obtain ⟨t1289, A40, H⟩ := H
  replace H : ((spec_WordIn.f k t1283 t1284 t1285 t1286).bind fun t1290 => (if t1289 = t1290 then (if t1289 < 0 then (if t1289 = (-1) then ((laws_alive.f).bind fun t1291 => (some t1291)) else (some false)) else (if 0 ≤ (wrap64 (t1283 - 1)) then ((impl_MatterIn.f k t1283 t1285).bind fun t1292 => (if t1289 ≤ 1 then (if (Go.bits .and .i64 t1292 (shl .i64 1 (wrap64 (t1283 - 1)))) = 0 then ((impl_WordIn.f k t1283 t1284 t1285 (Go.bits .xor .i64 t1286 (shl .i64 1 (wrap64 (t1283 - 1))))).bind fun t1293 => (if t1293 = (wrap64 (1 - t1289)) then ((impl_AnswerIn.f k t1283 t1284 t1285 t1286).bind fun t1294 => (some (((Go.bits .and .i64 t1286 (shl .i64 1 (wrap64 (t1283 - 1)))) != 0) == (t1294 == t1289)))) else (some false))) else ((impl_AnswerIn.f k t1283 t1284 t1285 t1286).bind fun t1295 => (some (((Go.bits .and .i64 t1286 (shl .i64 1 (wrap64 (t1283 - 1)))) != 0) == (t1295 == t1289))))) else (some false))) else (none))) else (some false))) = some r := H
  have A4 := Aside0.mk A40
  clear A40
  replace H := Option.bind_eq_some_iff.mp H
  obtain ⟨t1290, A50, H⟩ := H
  replace H : (if t1289 = t1290 then (if t1289 < 0 then (if t1289 = (-1) then ((laws_alive.f).bind fun t1291 => (some t1291)) else (some false)) else (if 0 ≤ (wrap64 (t1283 - 1)) then ((impl_MatterIn.f k t1283 t1285).bind fun t1292 => (if t1289 ≤ 1 then (if (Go.bits .and .i64 t1292 (shl .i64 1 (wrap64 (t1283 - 1)))) = 0 then ((impl_WordIn.f k t1283 t1284 t1285 (Go.bits .xor .i64 t1286 (shl .i64 1 (wrap64 (t1283 - 1))))).bind fun t1293 => (if t1293 = (wrap64 (1 - t1289)) then ((impl_AnswerIn.f k t1283 t1284 t1285 t1286).bind fun t1294 => (some (((Go.bits .and .i64 t1286 (shl .i64 1 (wrap64 (t1283 - 1)))) != 0) == (t1294 == t1289)))) else (some false))) else ((impl_AnswerIn.f k t1283 t1284 t1285 t1286).bind fun t1295 => (some (((Go.bits .and .i64 t1286 (shl .i64 1 (wrap64 (t1283 - 1)))) != 0) == (t1295 == t1289))))) else (some false))) else (none))) else (some false)) = some r := H
  have A5 := Aside0.mk A50
  clear A50
  by_cases c6 : t1289 = t1290
  ·rw [if_pos c6] at H
   have c6b0 : (t1289 == t1290) = true := beq_iff_eq.mpr c6
   have c6b1 : (t1289 != t1290) = false := bne_eq_false_iff_eq.mpr c6
   clear c6
   by_cases c7 : t1289 < 0
   ·rw [if_pos c7] at H
    have c7b0 : decide (t1289 < 0) = true := decide_eq_true c7
    clear c7
    by_cases c8 : t1289 = (-1)
    ·rw [if_pos c8] at H
     have c8b0 : (t1289 == (-1)) = true := beq_iff_eq.mpr c8
     have c8b1 : (t1289 != (-1)) = false := bne_eq_false_iff_eq.mpr c8
     clear c8
     replace H := Option.bind_eq_some_iff.mp H
     obtain ⟨t1291, A90, H⟩ := H
     replace H : (some t1291) = some r := H
     have A9 := Aside0.mk A90
     clear A90
     obtain rfl := Option.some.inj H
     go_enter Try.func22, Try.ntmps22
     go_wp2_with (first | ((with_reducible refine gate_callee (f := 87) rfl ?_); refine goesL_ (some 15) rfl rfl Try.func87 (by kernel_rfl) rfl #[.slice A0 l0.length c0] rfl (by (try simp only [List.map_toArray, List.map_cons, List.map_nil]); first | done | rfl | (simp only [List.length_drop, List.length_take]; rfl)) ?_; (with_reducible refine (spec_DrawWordIn.calls k _ _ l0 t1283 t1284 t1285 t1286 _ ?side1 ?side2 A3.out).mono ?_); (case side1 => repeat (first | exact HR0.out | (with_reducible refine Kd.C_alloc ?_ _) | (with_reducible refine Kd.C_drewN ?_ _) | (with_reducible refine Kd.C_drew ?_))); (case side2 => exact HC0.out); rintro e w10 ⟨v1287, rfl, ho0, hb⟩; refine ⟨_, rfl, ?_⟩; have n0_ := Aside0.mk (Kd.R_lower ho0 (below_size (by repeat (first | (with_reducible first | exact HB.out | apply below_alloc | apply pw_below_drewN | apply below_drew1) | exact HB.out)))); have n1_ := Aside0.mk (below_step (by repeat (first | (with_reducible first | exact HB.out | apply below_alloc | apply pw_below_drewN | apply below_drew1) | exact HB.out)) hb); clear HB; have HO1288 := n0_; have HB := n1_; clear n0_ n1_; (try clear hb); (try clear hb2); (try clear hk); (try clear hi); (try clear ho0); obtain ⟨Ao11, co11, eo11⟩ := Kd.R_slice HO1288.out; subst eo11) | ((with_reducible refine gate_callee (f := 39) rfl ?_); refine goesL_ (some 24) rfl rfl Try.func39 (by kernel_rfl) rfl #[.int .i64 t1283, .int .i64 t1284, .slice Ao11 t1285.length co11, .int .i64 t1286] rfl (by (try simp only [List.map_toArray, List.map_cons, List.map_nil]); first | done | rfl | (simp only [List.length_drop, List.length_take]; rfl)) ?_; (with_reducible refine (impl_WordIn.calls k t1283 t1284 _ _ t1285 t1286 t1289 _ ?side1 ?side2 A4.out).mono ?_); (case side1 => repeat (first | exact (Kd.R_reads' HO1288.out).2.2 | (with_reducible refine Kd.C_alloc ?_ _) | (with_reducible refine Kd.C_drewN ?_ _) | (with_reducible refine Kd.C_drew ?_))); (case side2 => exact (Kd.R_reads' HO1288.out).2.1); rintro e w12 ⟨rfl, hb⟩; refine ⟨_, rfl, ?_⟩; have n0_ := Aside0.mk (Kd.R_below (by (with_reducible repeat (first | apply Kd.R_alloc | apply Kd.R_drewN | apply Kd.R_drew)); exact HO1288.out) hb); have n1_ := Aside0.mk (below_step (by repeat (first | (with_reducible first | exact HB.out | apply below_alloc | apply pw_below_drewN | apply below_drew1) | exact HB.out)) hb); clear HO1288; clear HB; have HO1288 := n0_; have HB := n1_; clear n0_ n1_; (try clear hb); (try clear hb2); (try clear hk); (try clear hi)) | ((with_reducible refine gate_callee (f := 42) rfl ?_); refine goesL_ (some 30) rfl rfl Try.func42 (by kernel_rfl) rfl #[.int .i64 t1283, .int .i64 t1284, .slice Ao11 t1285.length co11, .int .i64 t1286] rfl (by (try simp only [List.map_toArray, List.map_cons, List.map_nil]); first | done | rfl | (simp only [List.length_drop, List.length_take]; rfl)) ?_; (with_reducible refine (spec_WordIn.calls k t1283 t1284 _ _ t1285 t1286 t1290 _ ?side1 ?side2 A5.out).mono ?_); (case side1 => repeat (first | exact (Kd.R_reads' HO1288.out).2.2 | (with_reducible refine Kd.C_alloc ?_ _) | (with_reducible refine Kd.C_drewN ?_ _) | (with_reducible refine Kd.C_drew ?_))); (case side2 => exact (Kd.R_reads' HO1288.out).2.1); rintro e w13 ⟨rfl, hb⟩; refine ⟨_, rfl, ?_⟩; have n0_ := Aside0.mk (Kd.R_below (by (with_reducible repeat (first | apply Kd.R_alloc | apply Kd.R_drewN | apply Kd.R_drew)); exact HO1288.out) hb); have n1_ := Aside0.mk (below_step (by repeat (first | (with_reducible first | exact HB.out | apply below_alloc | apply pw_below_drewN | apply below_drew1) | exact HB.out)) hb); clear HO1288; clear HB; have HO1288 := n0_; have HB := n1_; clear n0_ n1_; (try clear hb); (try clear hb2); (try clear hk); (try clear hi)) | (go_at_call 37; (with_reducible refine (laws_alive.calls  t1291 _ A9.out).mono ?_); rintro e w' ⟨rfl, ⟨nd, rfl⟩⟩))
     go_ret
     exact ⟨by first | rfl | (simp [errW_none, errW_some] <;> rfl) | (simp [*, errW_none, errW_some] <;> rfl), by repeat (first | (with_reducible first | exact HB.out | apply below_alloc | apply pw_below_drewN | apply below_drew1) | exact HB.out)⟩
    ·rw [if_neg c8] at H
     have c8b0 : (t1289 == (-1)) = false := beq_eq_false_iff_ne.mpr c8
     have c8b1 : (t1289 != (-1)) = true := bne_iff_ne.mpr c8
     obtain rfl := Option.some.inj H
     go_enter Try.func22, Try.ntmps22
     go_wp2_with (first | ((with_reducible refine gate_callee (f := 87) rfl ?_); refine goesL_ (some 15) rfl rfl Try.func87 (by kernel_rfl) rfl #[.slice A0 l0.length c0] rfl (by (try simp only [List.map_toArray, List.map_cons, List.map_nil]); first | done | rfl | (simp only [List.length_drop, List.length_take]; rfl)) ?_; (with_reducible refine (spec_DrawWordIn.calls k _ _ l0 t1283 t1284 t1285 t1286 _ ?side1 ?side2 A3.out).mono ?_); (case side1 => repeat (first | exact HR0.out | (with_reducible refine Kd.C_alloc ?_ _) | (with_reducible refine Kd.C_drewN ?_ _) | (with_reducible refine Kd.C_drew ?_))); (case side2 => exact HC0.out); rintro e w14 ⟨v1287, rfl, ho0, hb⟩; refine ⟨_, rfl, ?_⟩; have n0_ := Aside0.mk (Kd.R_lower ho0 (below_size (by repeat (first | (with_reducible first | exact HB.out | apply below_alloc | apply pw_below_drewN | apply below_drew1) | exact HB.out)))); have n1_ := Aside0.mk (below_step (by repeat (first | (with_reducible first | exact HB.out | apply below_alloc | apply pw_below_drewN | apply below_drew1) | exact HB.out)) hb); clear HB; have HO1288 := n0_; have HB := n1_; clear n0_ n1_; (try clear hb); (try clear hb2); (try clear hk); (try clear hi); (try clear ho0); obtain ⟨Ao15, co15, eo15⟩ := Kd.R_slice HO1288.out; subst eo15) | ((with_reducible refine gate_callee (f := 39) rfl ?_); refine goesL_ (some 24) rfl rfl Try.func39 (by kernel_rfl) rfl #[.int .i64 t1283, .int .i64 t1284, .slice Ao15 t1285.length co15, .int .i64 t1286] rfl (by (try simp only [List.map_toArray, List.map_cons, List.map_nil]); first | done | rfl | (simp only [List.length_drop, List.length_take]; rfl)) ?_; (with_reducible refine (impl_WordIn.calls k t1283 t1284 _ _ t1285 t1286 t1289 _ ?side1 ?side2 A4.out).mono ?_); (case side1 => repeat (first | exact (Kd.R_reads' HO1288.out).2.2 | (with_reducible refine Kd.C_alloc ?_ _) | (with_reducible refine Kd.C_drewN ?_ _) | (with_reducible refine Kd.C_drew ?_))); (case side2 => exact (Kd.R_reads' HO1288.out).2.1); rintro e w16 ⟨rfl, hb⟩; refine ⟨_, rfl, ?_⟩; have n0_ := Aside0.mk (Kd.R_below (by (with_reducible repeat (first | apply Kd.R_alloc | apply Kd.R_drewN | apply Kd.R_drew)); exact HO1288.out) hb); have n1_ := Aside0.mk (below_step (by repeat (first | (with_reducible first | exact HB.out | apply below_alloc | apply pw_below_drewN | apply below_drew1) | exact HB.out)) hb); clear HO1288; clear HB; have HO1288 := n0_; have HB := n1_; clear n0_ n1_; (try clear hb); (try clear hb2); (try clear hk); (try clear hi)) | ((with_reducible refine gate_callee (f := 42) rfl ?_); refine goesL_ (some 30) rfl rfl Try.func42 (by kernel_rfl) rfl #[.int .i64 t1283, .int .i64 t1284, .slice Ao15 t1285.length co15, .int .i64 t1286] rfl (by (try simp only [List.map_toArray, List.map_cons, List.map_nil]); first | done | rfl | (simp only [List.length_drop, List.length_take]; rfl)) ?_; (with_reducible refine (spec_WordIn.calls k t1283 t1284 _ _ t1285 t1286 t1290 _ ?side1 ?side2 A5.out).mono ?_); (case side1 => repeat (first | exact (Kd.R_reads' HO1288.out).2.2 | (with_reducible refine Kd.C_alloc ?_ _) | (with_reducible refine Kd.C_drewN ?_ _) | (with_reducible refine Kd.C_drew ?_))); (case side2 => exact (Kd.R_reads' HO1288.out).2.1); rintro e w17 ⟨rfl, hb⟩; refine ⟨_, rfl, ?_⟩; have n0_ := Aside0.mk (Kd.R_below (by (with_reducible repeat (first | apply Kd.R_alloc | apply Kd.R_drewN | apply Kd.R_drew)); exact HO1288.out) hb); have n1_ := Aside0.mk (below_step (by repeat (first | (with_reducible first | exact HB.out | apply below_alloc | apply pw_below_drewN | apply below_drew1) | exact HB.out)) hb); clear HO1288; clear HB; have HO1288 := n0_; have HB := n1_; clear n0_ n1_; (try clear hb); (try clear hb2); (try clear hk); (try clear hi)))
     go_ret
     exact ⟨by first | rfl | (simp [errW_none, errW_some] <;> rfl) | (simp [*, errW_none, errW_some] <;> rfl), by repeat (first | (with_reducible first | exact HB.out | apply below_alloc | apply pw_below_drewN | apply below_drew1) | exact HB.out)⟩
   ·rw [if_neg c7] at H
    have c7b0 : decide (t1289 < 0) = false := decide_eq_false c7
    clear c7
    obtain ⟨ji18, hji18⟩ : ∃ j_ : Int, (wrap64 (t1283 - 1)) = j_ := ⟨_, rfl⟩
    replace H : (if 0 ≤ (ji18) then ((impl_MatterIn.f k t1283 t1285).bind fun t1292 => (if t1289 ≤ 1 then (if (Go.bits .and .i64 t1292 (shl .i64 1 (ji18))) = 0 then ((impl_WordIn.f k t1283 t1284 t1285 (Go.bits .xor .i64 t1286 (shl .i64 1 (ji18)))).bind fun t1293 => (if t1293 = (wrap64 (1 - t1289)) then ((impl_AnswerIn.f k t1283 t1284 t1285 t1286).bind fun t1294 => (some (((Go.bits .and .i64 t1286 (shl .i64 1 (ji18))) != 0) == (t1294 == t1289)))) else (some false))) else ((impl_AnswerIn.f k t1283 t1284 t1285 t1286).bind fun t1295 => (some (((Go.bits .and .i64 t1286 (shl .i64 1 (ji18))) != 0) == (t1295 == t1289))))) else (some false))) else (none)) = some r := by first | (rw [hji18] at H; exact H) | (simp only [hji18] at H ⊢; exact H)
    (try rw [hji18] at A3)
    (try rw [hji18] at A4)
    (try rw [hji18] at A5)
    have hji18w : (IntKind.i64.wrap (t1283 - 1)) = ji18 := (i64_w _).trans hji18
    by_cases c19 : 0 ≤ (ji18)
    ·rw [if_pos c19] at H
     have c19b0 := eq_true c19
     have c19b1 : decide (0 ≤ (ji18)) = true := decide_eq_true c19
     clear c19
     obtain ⟨ji20, hji20⟩ : ∃ j_ : Int, (shl .i64 1 (ji18)) = j_ := ⟨_, rfl⟩
     replace H : ((impl_MatterIn.f k t1283 t1285).bind fun t1292 => (if t1289 ≤ 1 then (if (Go.bits .and .i64 t1292 (ji20)) = 0 then ((impl_WordIn.f k t1283 t1284 t1285 (Go.bits .xor .i64 t1286 (ji20))).bind fun t1293 => (if t1293 = (wrap64 (1 - t1289)) then ((impl_AnswerIn.f k t1283 t1284 t1285 t1286).bind fun t1294 => (some (((Go.bits .and .i64 t1286 (ji20)) != 0) == (t1294 == t1289)))) else (some false))) else ((impl_AnswerIn.f k t1283 t1284 t1285 t1286).bind fun t1295 => (some (((Go.bits .and .i64 t1286 (ji20)) != 0) == (t1295 == t1289))))) else (some false))) = some r := by first | (rw [hji20] at H; exact H) | (simp only [hji20] at H ⊢; exact H)
     (try rw [hji20] at A3)
     (try rw [hji20] at A4)
     (try rw [hji20] at A5)
     have hji20_ : (IntKind.i64.wrap (1 * 2 ^ min (ji18).toNat 64)) = ji20 := hji20
     have hji20z : (ji18) ≤ 64 → (IntKind.i64.wrap (1 * 2 ^ (ji18).toNat)) = ji20 := shl_small hji20
     have hji20u : (IntKind.i64.wrap (2 ^ min (ji18).toNat 64)) = ji20 := by have h_ := hji20_; rw [Int.one_mul] at h_; exact h_
     have hji20v : (ji18) ≤ 64 → (IntKind.i64.wrap (2 ^ (ji18).toNat)) = ji20 := fun hle_ => by have h_ := hji20z hle_; rw [Int.one_mul] at h_; exact h_
     have hji20y : (wrap64 (1 * 2 ^ min (ji18).toNat 64)) = ji20 := (i64_w _).symm.trans hji20_
     have hji20x : (ji18) ≤ 64 → (wrap64 (1 * 2 ^ (ji18).toNat)) = ji20 := fun h_ => (i64_w _).symm.trans (hji20z h_)
     replace H := Option.bind_eq_some_iff.mp H
     obtain ⟨t1292, A210, H⟩ := H
     replace H : (if t1289 ≤ 1 then (if (Go.bits .and .i64 t1292 (ji20)) = 0 then ((impl_WordIn.f k t1283 t1284 t1285 (Go.bits .xor .i64 t1286 (ji20))).bind fun t1293 => (if t1293 = (wrap64 (1 - t1289)) then ((impl_AnswerIn.f k t1283 t1284 t1285 t1286).bind fun t1294 => (some (((Go.bits .and .i64 t1286 (ji20)) != 0) == (t1294 == t1289)))) else (some false))) else ((impl_AnswerIn.f k t1283 t1284 t1285 t1286).bind fun t1295 => (some (((Go.bits .and .i64 t1286 (ji20)) != 0) == (t1295 == t1289))))) else (some false)) = some r := H
     have A21 := Aside0.mk A210
     clear A210
     by_cases c22 : t1289 ≤ 1
     ·rw [if_pos c22] at H
      have c22b0 : decide (t1289 ≤ 1) = true := decide_eq_true c22
      clear c22
      by_cases c23 : (Go.bits .and .i64 t1292 (ji20)) = 0
      ·rw [if_pos c23] at H
       have c23b0 : ((Go.bits .and .i64 t1292 (ji20)) == 0) = true := beq_iff_eq.mpr c23
       have c23b1 : ((Go.bits .and .i64 t1292 (ji20)) != 0) = false := bne_eq_false_iff_eq.mpr c23
       clear c23
       replace H := Option.bind_eq_some_iff.mp H
       obtain ⟨t1293, A240, H⟩ := H
       replace H : (if t1293 = (wrap64 (1 - t1289)) then ((impl_AnswerIn.f k t1283 t1284 t1285 t1286).bind fun t1294 => (some (((Go.bits .and .i64 t1286 (ji20)) != 0) == (t1294 == t1289)))) else (some false)) = some r := H
       have A24 := Aside0.mk A240
       clear A240
       by_cases c25 : t1293 = (wrap64 (1 - t1289))
       ·rw [if_pos c25] at H
        have c25b0 : (t1293 == (wrap64 (1 - t1289))) = true := beq_iff_eq.mpr c25
        have c25b1 : (t1293 != (wrap64 (1 - t1289))) = false := bne_eq_false_iff_eq.mpr c25
        clear c25
        replace H := Option.bind_eq_some_iff.mp H
        obtain ⟨t1294, A260, H⟩ := H
        replace H : (some (((Go.bits .and .i64 t1286 (ji20)) != 0) == (t1294 == t1289))) = some r := H
        have A26 := Aside0.mk A260
        clear A260
        obtain rfl := Option.some.inj H
        go_enter Try.func22, Try.ntmps22
        go_wp2_with (first | ((with_reducible refine gate_callee (f := 87) rfl ?_); refine goesL_ (some 15) rfl rfl Try.func87 (by kernel_rfl) rfl #[.slice A0 l0.length c0] rfl (by (try simp only [List.map_toArray, List.map_cons, List.map_nil]); first | done | rfl | (simp only [List.length_drop, List.length_take]; rfl)) ?_; (with_reducible refine (spec_DrawWordIn.calls k _ _ l0 t1283 t1284 t1285 t1286 _ ?side1 ?side2 A3.out).mono ?_); (case side1 => repeat (first | exact HR0.out | (with_reducible refine Kd.C_alloc ?_ _) | (with_reducible refine Kd.C_drewN ?_ _) | (with_reducible refine Kd.C_drew ?_))); (case side2 => exact HC0.out); rintro e w27 ⟨v1287, rfl, ho0, hb⟩; refine ⟨_, rfl, ?_⟩; have n0_ := Aside0.mk (Kd.R_lower ho0 (below_size (by repeat (first | (with_reducible first | exact HB.out | apply below_alloc | apply pw_below_drewN | apply below_drew1) | exact HB.out)))); have n1_ := Aside0.mk (below_step (by repeat (first | (with_reducible first | exact HB.out | apply below_alloc | apply pw_below_drewN | apply below_drew1) | exact HB.out)) hb); clear HB; have HO1288 := n0_; have HB := n1_; clear n0_ n1_; (try clear hb); (try clear hb2); (try clear hk); (try clear hi); (try clear ho0); obtain ⟨Ao28, co28, eo28⟩ := Kd.R_slice HO1288.out; subst eo28) | ((with_reducible refine gate_callee (f := 39) rfl ?_); refine goesL_ (some 24) rfl rfl Try.func39 (by kernel_rfl) rfl #[.int .i64 t1283, .int .i64 t1284, .slice Ao28 t1285.length co28, .int .i64 t1286] rfl (by (try simp only [List.map_toArray, List.map_cons, List.map_nil]); first | done | rfl | (simp only [List.length_drop, List.length_take]; rfl)) ?_; (with_reducible refine (impl_WordIn.calls k t1283 t1284 _ _ t1285 t1286 t1289 _ ?side1 ?side2 A4.out).mono ?_); (case side1 => repeat (first | exact (Kd.R_reads' HO1288.out).2.2 | (with_reducible refine Kd.C_alloc ?_ _) | (with_reducible refine Kd.C_drewN ?_ _) | (with_reducible refine Kd.C_drew ?_))); (case side2 => exact (Kd.R_reads' HO1288.out).2.1); rintro e w29 ⟨rfl, hb⟩; refine ⟨_, rfl, ?_⟩; have n0_ := Aside0.mk (Kd.R_below (by (with_reducible repeat (first | apply Kd.R_alloc | apply Kd.R_drewN | apply Kd.R_drew)); exact HO1288.out) hb); have n1_ := Aside0.mk (below_step (by repeat (first | (with_reducible first | exact HB.out | apply below_alloc | apply pw_below_drewN | apply below_drew1) | exact HB.out)) hb); clear HO1288; clear HB; have HO1288 := n0_; have HB := n1_; clear n0_ n1_; (try clear hb); (try clear hb2); (try clear hk); (try clear hi)) | ((with_reducible refine gate_callee (f := 42) rfl ?_); refine goesL_ (some 30) rfl rfl Try.func42 (by kernel_rfl) rfl #[.int .i64 t1283, .int .i64 t1284, .slice Ao28 t1285.length co28, .int .i64 t1286] rfl (by (try simp only [List.map_toArray, List.map_cons, List.map_nil]); first | done | rfl | (simp only [List.length_drop, List.length_take]; rfl)) ?_; (with_reducible refine (spec_WordIn.calls k t1283 t1284 _ _ t1285 t1286 t1290 _ ?side1 ?side2 A5.out).mono ?_); (case side1 => repeat (first | exact (Kd.R_reads' HO1288.out).2.2 | (with_reducible refine Kd.C_alloc ?_ _) | (with_reducible refine Kd.C_drewN ?_ _) | (with_reducible refine Kd.C_drew ?_))); (case side2 => exact (Kd.R_reads' HO1288.out).2.1); rintro e w30 ⟨rfl, hb⟩; refine ⟨_, rfl, ?_⟩; have n0_ := Aside0.mk (Kd.R_below (by (with_reducible repeat (first | apply Kd.R_alloc | apply Kd.R_drewN | apply Kd.R_drew)); exact HO1288.out) hb); have n1_ := Aside0.mk (below_step (by repeat (first | (with_reducible first | exact HB.out | apply below_alloc | apply pw_below_drewN | apply below_drew1) | exact HB.out)) hb); clear HO1288; clear HB; have HO1288 := n0_; have HB := n1_; clear n0_ n1_; (try clear hb); (try clear hb2); (try clear hk); (try clear hi)) | ((with_reducible refine gate_callee (f := 63) rfl ?_); refine goesL_ (some 44) rfl rfl Try.func63 (by kernel_rfl) rfl #[.int .i64 t1283, .slice Ao28 t1285.length co28] rfl (by (try simp only [List.map_toArray, List.map_cons, List.map_nil]); first | done | rfl | (simp only [List.length_drop, List.length_take]; rfl)) ?_; (with_reducible refine (impl_MatterIn.calls k t1283 _ _ t1285 t1292 _ ?side1 ?side2 A21.out).mono ?_); (case side1 => repeat (first | exact (Kd.R_reads' HO1288.out).2.2 | (with_reducible refine Kd.C_alloc ?_ _) | (with_reducible refine Kd.C_drewN ?_ _) | (with_reducible refine Kd.C_drew ?_))); (case side2 => exact (Kd.R_reads' HO1288.out).2.1); rintro e w31 ⟨rfl, hb⟩; refine ⟨_, rfl, ?_⟩; have n0_ := Aside0.mk (Kd.R_below (by (with_reducible repeat (first | apply Kd.R_alloc | apply Kd.R_drewN | apply Kd.R_drew)); exact HO1288.out) hb); have n1_ := Aside0.mk (below_step (by repeat (first | (with_reducible first | exact HB.out | apply below_alloc | apply pw_below_drewN | apply below_drew1) | exact HB.out)) hb); clear HO1288; clear HB; have HO1288 := n0_; have HB := n1_; clear n0_ n1_; (try clear hb); (try clear hb2); (try clear hk); (try clear hi)) | (go_at_call 39; (with_reducible refine (impl_WordIn.calls k t1283 t1284 _ _ t1285 (Go.bits .xor .i64 t1286 (ji20)) t1293 _ ?side1 ?side2 A24.out).mono ?_); (case side1 => repeat (first | exact (Kd.R_reads' HO1288.out).2.2 | (with_reducible refine Kd.C_alloc ?_ _) | (with_reducible refine Kd.C_drewN ?_ _) | (with_reducible refine Kd.C_drew ?_))); (case side2 => exact (Kd.R_reads' HO1288.out).2.1); rintro e w32 ⟨rfl, hb⟩; have n0_ := Aside0.mk (Kd.R_below (by (with_reducible repeat (first | apply Kd.R_alloc | apply Kd.R_drewN | apply Kd.R_drew)); exact HO1288.out) hb); have n1_ := Aside0.mk (below_step (by repeat (first | (with_reducible first | exact HB.out | apply below_alloc | apply pw_below_drewN | apply below_drew1) | exact HB.out)) hb); clear HO1288; clear HB; have HO1288 := n0_; have HB := n1_; clear n0_ n1_; (try clear hb); (try clear hb2); (try clear hk); (try clear hi)) | (go_at_call 33; (with_reducible refine (impl_AnswerIn.calls k t1283 t1284 _ _ t1285 t1286 t1294 _ ?side1 ?side2 A26.out).mono ?_); (case side1 => repeat (first | exact (Kd.R_reads' HO1288.out).2.2 | (with_reducible refine Kd.C_alloc ?_ _) | (with_reducible refine Kd.C_drewN ?_ _) | (with_reducible refine Kd.C_drew ?_))); (case side2 => exact (Kd.R_reads' HO1288.out).2.1); rintro e w33 ⟨rfl, hb⟩; have n0_ := Aside0.mk (Kd.R_below (by (with_reducible repeat (first | apply Kd.R_alloc | apply Kd.R_drewN | apply Kd.R_drew)); exact HO1288.out) hb); have n1_ := Aside0.mk (below_step (by repeat (first | (with_reducible first | exact HB.out | apply below_alloc | apply pw_below_drewN | apply below_drew1) | exact HB.out)) hb); clear HO1288; clear HB; have HO1288 := n0_; have HB := n1_; clear n0_ n1_; (try clear hb); (try clear hb2); (try clear hk); (try clear hi)))
        go_ret
        exact ⟨by first | rfl | (simp [errW_none, errW_some] <;> rfl) | (simp only [← hji18, ← hji20]; first | rfl | (simp [errW_none, errW_some] <;> rfl)) | (simp [*, errW_none, errW_some] <;> rfl), by repeat (first | (with_reducible first | exact HB.out | apply below_alloc | apply pw_below_drewN | apply below_drew1) | exact HB.out)⟩
       ·rw [if_neg c25] at H
        have c25b0 : (t1293 == (wrap64 (1 - t1289))) = false := beq_eq_false_iff_ne.mpr c25
        have c25b1 : (t1293 != (wrap64 (1 - t1289))) = true := bne_iff_ne.mpr c25
        obtain rfl := Option.some.inj H
        go_enter Try.func22, Try.ntmps22
        go_wp2_with (first | ((with_reducible refine gate_callee (f := 87) rfl ?_); refine goesL_ (some 15) rfl rfl Try.func87 (by kernel_rfl) rfl #[.slice A0 l0.length c0] rfl (by (try simp only [List.map_toArray, List.map_cons, List.map_nil]); first | done | rfl | (simp only [List.length_drop, List.length_take]; rfl)) ?_; (with_reducible refine (spec_DrawWordIn.calls k _ _ l0 t1283 t1284 t1285 t1286 _ ?side1 ?side2 A3.out).mono ?_); (case side1 => repeat (first | exact HR0.out | (with_reducible refine Kd.C_alloc ?_ _) | (with_reducible refine Kd.C_drewN ?_ _) | (with_reducible refine Kd.C_drew ?_))); (case side2 => exact HC0.out); rintro e w34 ⟨v1287, rfl, ho0, hb⟩; refine ⟨_, rfl, ?_⟩; have n0_ := Aside0.mk (Kd.R_lower ho0 (below_size (by repeat (first | (with_reducible first | exact HB.out | apply below_alloc | apply pw_below_drewN | apply below_drew1) | exact HB.out)))); have n1_ := Aside0.mk (below_step (by repeat (first | (with_reducible first | exact HB.out | apply below_alloc | apply pw_below_drewN | apply below_drew1) | exact HB.out)) hb); clear HB; have HO1288 := n0_; have HB := n1_; clear n0_ n1_; (try clear hb); (try clear hb2); (try clear hk); (try clear hi); (try clear ho0); obtain ⟨Ao35, co35, eo35⟩ := Kd.R_slice HO1288.out; subst eo35) | ((with_reducible refine gate_callee (f := 39) rfl ?_); refine goesL_ (some 24) rfl rfl Try.func39 (by kernel_rfl) rfl #[.int .i64 t1283, .int .i64 t1284, .slice Ao35 t1285.length co35, .int .i64 t1286] rfl (by (try simp only [List.map_toArray, List.map_cons, List.map_nil]); first | done | rfl | (simp only [List.length_drop, List.length_take]; rfl)) ?_; (with_reducible refine (impl_WordIn.calls k t1283 t1284 _ _ t1285 t1286 t1289 _ ?side1 ?side2 A4.out).mono ?_); (case side1 => repeat (first | exact (Kd.R_reads' HO1288.out).2.2 | (with_reducible refine Kd.C_alloc ?_ _) | (with_reducible refine Kd.C_drewN ?_ _) | (with_reducible refine Kd.C_drew ?_))); (case side2 => exact (Kd.R_reads' HO1288.out).2.1); rintro e w36 ⟨rfl, hb⟩; refine ⟨_, rfl, ?_⟩; have n0_ := Aside0.mk (Kd.R_below (by (with_reducible repeat (first | apply Kd.R_alloc | apply Kd.R_drewN | apply Kd.R_drew)); exact HO1288.out) hb); have n1_ := Aside0.mk (below_step (by repeat (first | (with_reducible first | exact HB.out | apply below_alloc | apply pw_below_drewN | apply below_drew1) | exact HB.out)) hb); clear HO1288; clear HB; have HO1288 := n0_; have HB := n1_; clear n0_ n1_; (try clear hb); (try clear hb2); (try clear hk); (try clear hi)) | ((with_reducible refine gate_callee (f := 42) rfl ?_); refine goesL_ (some 30) rfl rfl Try.func42 (by kernel_rfl) rfl #[.int .i64 t1283, .int .i64 t1284, .slice Ao35 t1285.length co35, .int .i64 t1286] rfl (by (try simp only [List.map_toArray, List.map_cons, List.map_nil]); first | done | rfl | (simp only [List.length_drop, List.length_take]; rfl)) ?_; (with_reducible refine (spec_WordIn.calls k t1283 t1284 _ _ t1285 t1286 t1290 _ ?side1 ?side2 A5.out).mono ?_); (case side1 => repeat (first | exact (Kd.R_reads' HO1288.out).2.2 | (with_reducible refine Kd.C_alloc ?_ _) | (with_reducible refine Kd.C_drewN ?_ _) | (with_reducible refine Kd.C_drew ?_))); (case side2 => exact (Kd.R_reads' HO1288.out).2.1); rintro e w37 ⟨rfl, hb⟩; refine ⟨_, rfl, ?_⟩; have n0_ := Aside0.mk (Kd.R_below (by (with_reducible repeat (first | apply Kd.R_alloc | apply Kd.R_drewN | apply Kd.R_drew)); exact HO1288.out) hb); have n1_ := Aside0.mk (below_step (by repeat (first | (with_reducible first | exact HB.out | apply below_alloc | apply pw_below_drewN | apply below_drew1) | exact HB.out)) hb); clear HO1288; clear HB; have HO1288 := n0_; have HB := n1_; clear n0_ n1_; (try clear hb); (try clear hb2); (try clear hk); (try clear hi)) | ((with_reducible refine gate_callee (f := 63) rfl ?_); refine goesL_ (some 44) rfl rfl Try.func63 (by kernel_rfl) rfl #[.int .i64 t1283, .slice Ao35 t1285.length co35] rfl (by (try simp only [List.map_toArray, List.map_cons, List.map_nil]); first | done | rfl | (simp only [List.length_drop, List.length_take]; rfl)) ?_; (with_reducible refine (impl_MatterIn.calls k t1283 _ _ t1285 t1292 _ ?side1 ?side2 A21.out).mono ?_); (case side1 => repeat (first | exact (Kd.R_reads' HO1288.out).2.2 | (with_reducible refine Kd.C_alloc ?_ _) | (with_reducible refine Kd.C_drewN ?_ _) | (with_reducible refine Kd.C_drew ?_))); (case side2 => exact (Kd.R_reads' HO1288.out).2.1); rintro e w38 ⟨rfl, hb⟩; refine ⟨_, rfl, ?_⟩; have n0_ := Aside0.mk (Kd.R_below (by (with_reducible repeat (first | apply Kd.R_alloc | apply Kd.R_drewN | apply Kd.R_drew)); exact HO1288.out) hb); have n1_ := Aside0.mk (below_step (by repeat (first | (with_reducible first | exact HB.out | apply below_alloc | apply pw_below_drewN | apply below_drew1) | exact HB.out)) hb); clear HO1288; clear HB; have HO1288 := n0_; have HB := n1_; clear n0_ n1_; (try clear hb); (try clear hb2); (try clear hk); (try clear hi)) | (go_at_call 39; (with_reducible refine (impl_WordIn.calls k t1283 t1284 _ _ t1285 (Go.bits .xor .i64 t1286 (ji20)) t1293 _ ?side1 ?side2 A24.out).mono ?_); (case side1 => repeat (first | exact (Kd.R_reads' HO1288.out).2.2 | (with_reducible refine Kd.C_alloc ?_ _) | (with_reducible refine Kd.C_drewN ?_ _) | (with_reducible refine Kd.C_drew ?_))); (case side2 => exact (Kd.R_reads' HO1288.out).2.1); rintro e w39 ⟨rfl, hb⟩; have n0_ := Aside0.mk (Kd.R_below (by (with_reducible repeat (first | apply Kd.R_alloc | apply Kd.R_drewN | apply Kd.R_drew)); exact HO1288.out) hb); have n1_ := Aside0.mk (below_step (by repeat (first | (with_reducible first | exact HB.out | apply below_alloc | apply pw_below_drewN | apply below_drew1) | exact HB.out)) hb); clear HO1288; clear HB; have HO1288 := n0_; have HB := n1_; clear n0_ n1_; (try clear hb); (try clear hb2); (try clear hk); (try clear hi)))
        go_ret
        exact ⟨by first | rfl | (simp [errW_none, errW_some] <;> rfl) | (simp only [← hji18, ← hji20]; first | rfl | (simp [errW_none, errW_some] <;> rfl)) | (simp [*, errW_none, errW_some] <;> rfl), by repeat (first | (with_reducible first | exact HB.out | apply below_alloc | apply pw_below_drewN | apply below_drew1) | exact HB.out)⟩
      ·rw [if_neg c23] at H
       have c23b0 : ((Go.bits .and .i64 t1292 (ji20)) == 0) = false := beq_eq_false_iff_ne.mpr c23
       have c23b1 : ((Go.bits .and .i64 t1292 (ji20)) != 0) = true := bne_iff_ne.mpr c23
       replace H := Option.bind_eq_some_iff.mp H
       obtain ⟨t1295, A400, H⟩ := H
       replace H : (some (((Go.bits .and .i64 t1286 (ji20)) != 0) == (t1295 == t1289))) = some r := H
       have A40 := Aside0.mk A400
       clear A400
       obtain rfl := Option.some.inj H
       go_enter Try.func22, Try.ntmps22
       go_wp2_with (first | ((with_reducible refine gate_callee (f := 87) rfl ?_); refine goesL_ (some 15) rfl rfl Try.func87 (by kernel_rfl) rfl #[.slice A0 l0.length c0] rfl (by (try simp only [List.map_toArray, List.map_cons, List.map_nil]); first | done | rfl | (simp only [List.length_drop, List.length_take]; rfl)) ?_; (with_reducible refine (spec_DrawWordIn.calls k _ _ l0 t1283 t1284 t1285 t1286 _ ?side1 ?side2 A3.out).mono ?_); (case side1 => repeat (first | exact HR0.out | (with_reducible refine Kd.C_alloc ?_ _) | (with_reducible refine Kd.C_drewN ?_ _) | (with_reducible refine Kd.C_drew ?_))); (case side2 => exact HC0.out); rintro e w41 ⟨v1287, rfl, ho0, hb⟩; refine ⟨_, rfl, ?_⟩; have n0_ := Aside0.mk (Kd.R_lower ho0 (below_size (by repeat (first | (with_reducible first | exact HB.out | apply below_alloc | apply pw_below_drewN | apply below_drew1) | exact HB.out)))); have n1_ := Aside0.mk (below_step (by repeat (first | (with_reducible first | exact HB.out | apply below_alloc | apply pw_below_drewN | apply below_drew1) | exact HB.out)) hb); clear HB; have HO1288 := n0_; have HB := n1_; clear n0_ n1_; (try clear hb); (try clear hb2); (try clear hk); (try clear hi); (try clear ho0); obtain ⟨Ao42, co42, eo42⟩ := Kd.R_slice HO1288.out; subst eo42) | ((with_reducible refine gate_callee (f := 39) rfl ?_); refine goesL_ (some 24) rfl rfl Try.func39 (by kernel_rfl) rfl #[.int .i64 t1283, .int .i64 t1284, .slice Ao42 t1285.length co42, .int .i64 t1286] rfl (by (try simp only [List.map_toArray, List.map_cons, List.map_nil]); first | done | rfl | (simp only [List.length_drop, List.length_take]; rfl)) ?_; (with_reducible refine (impl_WordIn.calls k t1283 t1284 _ _ t1285 t1286 t1289 _ ?side1 ?side2 A4.out).mono ?_); (case side1 => repeat (first | exact (Kd.R_reads' HO1288.out).2.2 | (with_reducible refine Kd.C_alloc ?_ _) | (with_reducible refine Kd.C_drewN ?_ _) | (with_reducible refine Kd.C_drew ?_))); (case side2 => exact (Kd.R_reads' HO1288.out).2.1); rintro e w43 ⟨rfl, hb⟩; refine ⟨_, rfl, ?_⟩; have n0_ := Aside0.mk (Kd.R_below (by (with_reducible repeat (first | apply Kd.R_alloc | apply Kd.R_drewN | apply Kd.R_drew)); exact HO1288.out) hb); have n1_ := Aside0.mk (below_step (by repeat (first | (with_reducible first | exact HB.out | apply below_alloc | apply pw_below_drewN | apply below_drew1) | exact HB.out)) hb); clear HO1288; clear HB; have HO1288 := n0_; have HB := n1_; clear n0_ n1_; (try clear hb); (try clear hb2); (try clear hk); (try clear hi)) | ((with_reducible refine gate_callee (f := 42) rfl ?_); refine goesL_ (some 30) rfl rfl Try.func42 (by kernel_rfl) rfl #[.int .i64 t1283, .int .i64 t1284, .slice Ao42 t1285.length co42, .int .i64 t1286] rfl (by (try simp only [List.map_toArray, List.map_cons, List.map_nil]); first | done | rfl | (simp only [List.length_drop, List.length_take]; rfl)) ?_; (with_reducible refine (spec_WordIn.calls k t1283 t1284 _ _ t1285 t1286 t1290 _ ?side1 ?side2 A5.out).mono ?_); (case side1 => repeat (first | exact (Kd.R_reads' HO1288.out).2.2 | (with_reducible refine Kd.C_alloc ?_ _) | (with_reducible refine Kd.C_drewN ?_ _) | (with_reducible refine Kd.C_drew ?_))); (case side2 => exact (Kd.R_reads' HO1288.out).2.1); rintro e w44 ⟨rfl, hb⟩; refine ⟨_, rfl, ?_⟩; have n0_ := Aside0.mk (Kd.R_below (by (with_reducible repeat (first | apply Kd.R_alloc | apply Kd.R_drewN | apply Kd.R_drew)); exact HO1288.out) hb); have n1_ := Aside0.mk (below_step (by repeat (first | (with_reducible first | exact HB.out | apply below_alloc | apply pw_below_drewN | apply below_drew1) | exact HB.out)) hb); clear HO1288; clear HB; have HO1288 := n0_; have HB := n1_; clear n0_ n1_; (try clear hb); (try clear hb2); (try clear hk); (try clear hi)) | ((with_reducible refine gate_callee (f := 63) rfl ?_); refine goesL_ (some 44) rfl rfl Try.func63 (by kernel_rfl) rfl #[.int .i64 t1283, .slice Ao42 t1285.length co42] rfl (by (try simp only [List.map_toArray, List.map_cons, List.map_nil]); first | done | rfl | (simp only [List.length_drop, List.length_take]; rfl)) ?_; (with_reducible refine (impl_MatterIn.calls k t1283 _ _ t1285 t1292 _ ?side1 ?side2 A21.out).mono ?_); (case side1 => repeat (first | exact (Kd.R_reads' HO1288.out).2.2 | (with_reducible refine Kd.C_alloc ?_ _) | (with_reducible refine Kd.C_drewN ?_ _) | (with_reducible refine Kd.C_drew ?_))); (case side2 => exact (Kd.R_reads' HO1288.out).2.1); rintro e w45 ⟨rfl, hb⟩; refine ⟨_, rfl, ?_⟩; have n0_ := Aside0.mk (Kd.R_below (by (with_reducible repeat (first | apply Kd.R_alloc | apply Kd.R_drewN | apply Kd.R_drew)); exact HO1288.out) hb); have n1_ := Aside0.mk (below_step (by repeat (first | (with_reducible first | exact HB.out | apply below_alloc | apply pw_below_drewN | apply below_drew1) | exact HB.out)) hb); clear HO1288; clear HB; have HO1288 := n0_; have HB := n1_; clear n0_ n1_; (try clear hb); (try clear hb2); (try clear hk); (try clear hi)) | (go_at_call 33; (with_reducible refine (impl_AnswerIn.calls k t1283 t1284 _ _ t1285 t1286 t1295 _ ?side1 ?side2 A40.out).mono ?_); (case side1 => repeat (first | exact (Kd.R_reads' HO1288.out).2.2 | (with_reducible refine Kd.C_alloc ?_ _) | (with_reducible refine Kd.C_drewN ?_ _) | (with_reducible refine Kd.C_drew ?_))); (case side2 => exact (Kd.R_reads' HO1288.out).2.1); rintro e w46 ⟨rfl, hb⟩; have n0_ := Aside0.mk (Kd.R_below (by (with_reducible repeat (first | apply Kd.R_alloc | apply Kd.R_drewN | apply Kd.R_drew)); exact HO1288.out) hb); have n1_ := Aside0.mk (below_step (by repeat (first | (with_reducible first | exact HB.out | apply below_alloc | apply pw_below_drewN | apply below_drew1) | exact HB.out)) hb); clear HO1288; clear HB; have HO1288 := n0_; have HB := n1_; clear n0_ n1_; (try clear hb); (try clear hb2); (try clear hk); (try clear hi)))
       go_ret
       exact ⟨by first | rfl | (simp [errW_none, errW_some] <;> rfl) | (simp only [← hji18, ← hji20]; first | rfl | (simp [errW_none, errW_some] <;> rfl)) | (simp [*, errW_none, errW_some] <;> rfl), by repeat (first | (with_reducible first | exact HB.out | apply below_alloc | apply pw_below_drewN | apply below_drew1) | exact HB.out)⟩
     ·rw [if_neg c22] at H
      have c22b0 : decide (t1289 ≤ 1) = false := decide_eq_false c22
      clear c22
      obtain rfl := Option.some.inj H
      go_enter Try.func22, Try.ntmps22
      go_wp2_with (first | ((with_reducible refine gate_callee (f := 87) rfl ?_); refine goesL_ (some 15) rfl rfl Try.func87 (by kernel_rfl) rfl #[.slice A0 l0.length c0] rfl (by (try simp only [List.map_toArray, List.map_cons, List.map_nil]); first | done | rfl | (simp only [List.length_drop, List.length_take]; rfl)) ?_; (with_reducible refine (spec_DrawWordIn.calls k _ _ l0 t1283 t1284 t1285 t1286 _ ?side1 ?side2 A3.out).mono ?_); (case side1 => repeat (first | exact HR0.out | (with_reducible refine Kd.C_alloc ?_ _) | (with_reducible refine Kd.C_drewN ?_ _) | (with_reducible refine Kd.C_drew ?_))); (case side2 => exact HC0.out); rintro e w47 ⟨v1287, rfl, ho0, hb⟩; refine ⟨_, rfl, ?_⟩; have n0_ := Aside0.mk (Kd.R_lower ho0 (below_size (by repeat (first | (with_reducible first | exact HB.out | apply below_alloc | apply pw_below_drewN | apply below_drew1) | exact HB.out)))); have n1_ := Aside0.mk (below_step (by repeat (first | (with_reducible first | exact HB.out | apply below_alloc | apply pw_below_drewN | apply below_drew1) | exact HB.out)) hb); clear HB; have HO1288 := n0_; have HB := n1_; clear n0_ n1_; (try clear hb); (try clear hb2); (try clear hk); (try clear hi); (try clear ho0); obtain ⟨Ao48, co48, eo48⟩ := Kd.R_slice HO1288.out; subst eo48) | ((with_reducible refine gate_callee (f := 39) rfl ?_); refine goesL_ (some 24) rfl rfl Try.func39 (by kernel_rfl) rfl #[.int .i64 t1283, .int .i64 t1284, .slice Ao48 t1285.length co48, .int .i64 t1286] rfl (by (try simp only [List.map_toArray, List.map_cons, List.map_nil]); first | done | rfl | (simp only [List.length_drop, List.length_take]; rfl)) ?_; (with_reducible refine (impl_WordIn.calls k t1283 t1284 _ _ t1285 t1286 t1289 _ ?side1 ?side2 A4.out).mono ?_); (case side1 => repeat (first | exact (Kd.R_reads' HO1288.out).2.2 | (with_reducible refine Kd.C_alloc ?_ _) | (with_reducible refine Kd.C_drewN ?_ _) | (with_reducible refine Kd.C_drew ?_))); (case side2 => exact (Kd.R_reads' HO1288.out).2.1); rintro e w49 ⟨rfl, hb⟩; refine ⟨_, rfl, ?_⟩; have n0_ := Aside0.mk (Kd.R_below (by (with_reducible repeat (first | apply Kd.R_alloc | apply Kd.R_drewN | apply Kd.R_drew)); exact HO1288.out) hb); have n1_ := Aside0.mk (below_step (by repeat (first | (with_reducible first | exact HB.out | apply below_alloc | apply pw_below_drewN | apply below_drew1) | exact HB.out)) hb); clear HO1288; clear HB; have HO1288 := n0_; have HB := n1_; clear n0_ n1_; (try clear hb); (try clear hb2); (try clear hk); (try clear hi)) | ((with_reducible refine gate_callee (f := 42) rfl ?_); refine goesL_ (some 30) rfl rfl Try.func42 (by kernel_rfl) rfl #[.int .i64 t1283, .int .i64 t1284, .slice Ao48 t1285.length co48, .int .i64 t1286] rfl (by (try simp only [List.map_toArray, List.map_cons, List.map_nil]); first | done | rfl | (simp only [List.length_drop, List.length_take]; rfl)) ?_; (with_reducible refine (spec_WordIn.calls k t1283 t1284 _ _ t1285 t1286 t1290 _ ?side1 ?side2 A5.out).mono ?_); (case side1 => repeat (first | exact (Kd.R_reads' HO1288.out).2.2 | (with_reducible refine Kd.C_alloc ?_ _) | (with_reducible refine Kd.C_drewN ?_ _) | (with_reducible refine Kd.C_drew ?_))); (case side2 => exact (Kd.R_reads' HO1288.out).2.1); rintro e w50 ⟨rfl, hb⟩; refine ⟨_, rfl, ?_⟩; have n0_ := Aside0.mk (Kd.R_below (by (with_reducible repeat (first | apply Kd.R_alloc | apply Kd.R_drewN | apply Kd.R_drew)); exact HO1288.out) hb); have n1_ := Aside0.mk (below_step (by repeat (first | (with_reducible first | exact HB.out | apply below_alloc | apply pw_below_drewN | apply below_drew1) | exact HB.out)) hb); clear HO1288; clear HB; have HO1288 := n0_; have HB := n1_; clear n0_ n1_; (try clear hb); (try clear hb2); (try clear hk); (try clear hi)) | ((with_reducible refine gate_callee (f := 63) rfl ?_); refine goesL_ (some 44) rfl rfl Try.func63 (by kernel_rfl) rfl #[.int .i64 t1283, .slice Ao48 t1285.length co48] rfl (by (try simp only [List.map_toArray, List.map_cons, List.map_nil]); first | done | rfl | (simp only [List.length_drop, List.length_take]; rfl)) ?_; (with_reducible refine (impl_MatterIn.calls k t1283 _ _ t1285 t1292 _ ?side1 ?side2 A21.out).mono ?_); (case side1 => repeat (first | exact (Kd.R_reads' HO1288.out).2.2 | (with_reducible refine Kd.C_alloc ?_ _) | (with_reducible refine Kd.C_drewN ?_ _) | (with_reducible refine Kd.C_drew ?_))); (case side2 => exact (Kd.R_reads' HO1288.out).2.1); rintro e w51 ⟨rfl, hb⟩; refine ⟨_, rfl, ?_⟩; have n0_ := Aside0.mk (Kd.R_below (by (with_reducible repeat (first | apply Kd.R_alloc | apply Kd.R_drewN | apply Kd.R_drew)); exact HO1288.out) hb); have n1_ := Aside0.mk (below_step (by repeat (first | (with_reducible first | exact HB.out | apply below_alloc | apply pw_below_drewN | apply below_drew1) | exact HB.out)) hb); clear HO1288; clear HB; have HO1288 := n0_; have HB := n1_; clear n0_ n1_; (try clear hb); (try clear hb2); (try clear hk); (try clear hi)))
      go_ret
      exact ⟨by first | rfl | (simp [errW_none, errW_some] <;> rfl) | (simp only [← hji18, ← hji20]; first | rfl | (simp [errW_none, errW_some] <;> rfl)) | (simp [*, errW_none, errW_some] <;> rfl), by repeat (first | (with_reducible first | exact HB.out | apply below_alloc | apply pw_below_drewN | apply below_drew1) | exact HB.out)⟩
    ·rw [if_neg c19] at H
     exact absurd H (by simp)
  ·rw [if_neg c6] at H
   have c6b0 : (t1289 == t1290) = false := beq_eq_false_iff_ne.mpr c6
   have c6b1 : (t1289 != t1290) = true := bne_iff_ne.mpr c6
   obtain rfl := Option.some.inj H
   go_enter Try.func22, Try.ntmps22
   go_wp2_with (first | ((with_reducible refine gate_callee (f := 87) rfl ?_); refine goesL_ (some 15) rfl rfl Try.func87 (by kernel_rfl) rfl #[.slice A0 l0.length c0] rfl (by (try simp only [List.map_toArray, List.map_cons, List.map_nil]); first | done | rfl | (simp only [List.length_drop, List.length_take]; rfl)) ?_; (with_reducible refine (spec_DrawWordIn.calls k _ _ l0 t1283 t1284 t1285 t1286 _ ?side1 ?side2 A3.out).mono ?_); (case side1 => repeat (first | exact HR0.out | (with_reducible refine Kd.C_alloc ?_ _) | (with_reducible refine Kd.C_drewN ?_ _) | (with_reducible refine Kd.C_drew ?_))); (case side2 => exact HC0.out); rintro e w52 ⟨v1287, rfl, ho0, hb⟩; refine ⟨_, rfl, ?_⟩; have n0_ := Aside0.mk (Kd.R_lower ho0 (below_size (by repeat (first | (with_reducible first | exact HB.out | apply below_alloc | apply pw_below_drewN | apply below_drew1) | exact HB.out)))); have n1_ := Aside0.mk (below_step (by repeat (first | (with_reducible first | exact HB.out | apply below_alloc | apply pw_below_drewN | apply below_drew1) | exact HB.out)) hb); clear HB; have HO1288 := n0_; have HB := n1_; clear n0_ n1_; (try clear hb); (try clear hb2); (try clear hk); (try clear hi); (try clear ho0); obtain ⟨Ao53, co53, eo53⟩ := Kd.R_slice HO1288.out; subst eo53) | ((with_reducible refine gate_callee (f := 39) rfl ?_); refine goesL_ (some 24) rfl rfl Try.func39 (by kernel_rfl) rfl #[.int .i64 t1283, .int .i64 t1284, .slice Ao53 t1285.length co53, .int .i64 t1286] rfl (by (try simp only [List.map_toArray, List.map_cons, List.map_nil]); first | done | rfl | (simp only [List.length_drop, List.length_take]; rfl)) ?_; (with_reducible refine (impl_WordIn.calls k t1283 t1284 _ _ t1285 t1286 t1289 _ ?side1 ?side2 A4.out).mono ?_); (case side1 => repeat (first | exact (Kd.R_reads' HO1288.out).2.2 | (with_reducible refine Kd.C_alloc ?_ _) | (with_reducible refine Kd.C_drewN ?_ _) | (with_reducible refine Kd.C_drew ?_))); (case side2 => exact (Kd.R_reads' HO1288.out).2.1); rintro e w54 ⟨rfl, hb⟩; refine ⟨_, rfl, ?_⟩; have n0_ := Aside0.mk (Kd.R_below (by (with_reducible repeat (first | apply Kd.R_alloc | apply Kd.R_drewN | apply Kd.R_drew)); exact HO1288.out) hb); have n1_ := Aside0.mk (below_step (by repeat (first | (with_reducible first | exact HB.out | apply below_alloc | apply pw_below_drewN | apply below_drew1) | exact HB.out)) hb); clear HO1288; clear HB; have HO1288 := n0_; have HB := n1_; clear n0_ n1_; (try clear hb); (try clear hb2); (try clear hk); (try clear hi)) | ((with_reducible refine gate_callee (f := 42) rfl ?_); refine goesL_ (some 30) rfl rfl Try.func42 (by kernel_rfl) rfl #[.int .i64 t1283, .int .i64 t1284, .slice Ao53 t1285.length co53, .int .i64 t1286] rfl (by (try simp only [List.map_toArray, List.map_cons, List.map_nil]); first | done | rfl | (simp only [List.length_drop, List.length_take]; rfl)) ?_; (with_reducible refine (spec_WordIn.calls k t1283 t1284 _ _ t1285 t1286 t1290 _ ?side1 ?side2 A5.out).mono ?_); (case side1 => repeat (first | exact (Kd.R_reads' HO1288.out).2.2 | (with_reducible refine Kd.C_alloc ?_ _) | (with_reducible refine Kd.C_drewN ?_ _) | (with_reducible refine Kd.C_drew ?_))); (case side2 => exact (Kd.R_reads' HO1288.out).2.1); rintro e w55 ⟨rfl, hb⟩; refine ⟨_, rfl, ?_⟩; have n0_ := Aside0.mk (Kd.R_below (by (with_reducible repeat (first | apply Kd.R_alloc | apply Kd.R_drewN | apply Kd.R_drew)); exact HO1288.out) hb); have n1_ := Aside0.mk (below_step (by repeat (first | (with_reducible first | exact HB.out | apply below_alloc | apply pw_below_drewN | apply below_drew1) | exact HB.out)) hb); clear HO1288; clear HB; have HO1288 := n0_; have HB := n1_; clear n0_ n1_; (try clear hb); (try clear hb2); (try clear hk); (try clear hi)))
   go_ret
   exact ⟨by first | rfl | (simp [errW_none, errW_some] <;> rfl) | (simp [*, errW_none, errW_some] <;> rfl), by repeat (first | (with_reducible first | exact HB.out | apply below_alloc | apply pw_below_drewN | apply below_drew1) | exact HB.out)⟩

/-- THE ONE PURE STATEMENT of laws_FnWordIn: yours. -/
def laws_FnWordIn.Pure : Prop := ∀ (l0 : List Int), l0.length ≤ maxLen → l0.length * 1 ≤ 140737488351232 → (∀ x ∈ l0, (Lit.int .u8 x).wf = true) → ∃ k, laws_FnWordIn.f k l0 = some true
theorem laws_FnWordIn.walk (P : laws_FnWordIn.Pure) (a0 : Option Addr) (len0 cap0 : Nat) (z0 : List Int) (w : World) (w0 : (a0 = none ∧ len0 = 0 ∧ cap0 = 0 ∧ z0 = []) ∨ ∃ x, a0 = some x ∧ len0 ≤ cap0 ∧ cap0 ≤ maxLen ∧ z0.length = cap0 ∧ (∀ i, i < z0.length → w.cell? (x.add i) = some (.int .u8 (z0.getD i 0))) ∧ ∀ n ∈ z0, (Lit.int .u8 n).wf = true) (y0 : len0 * 1 ≤ 140737488351232) :
  Calls Try.prog 22 #[.slice a0 len0 cap0] w fun e w' => e = .returned (.bool true) ∧ Below w.heap.size w w' := by
 obtain ⟨l0, rfl, hr0, hm0, hw0, hc0⟩ := ReadsInt.ofRowC w0
 obtain ⟨k, h⟩ := P l0 hm0 y0 hw0
 refine (laws_FnWordIn.calls k _ _ l0 true w (Kd.C_of_reads (d := (0 : Int)) (h1 := fun _ => rfl) hr0) hc0 h).mono ?_
 rintro e w' ⟨rfl, hd⟩
 exact ⟨rfl, hd⟩

end Go.Proofs.Ytpampekijfjlkaa.X

/- Drawn questions in a strange language. -/
namespace Go.Proofs.Ytpampekijfjlkaa.L
open Go.RowKit Go.Proofs.Ytpampekijfjlkaa.X Go.Proofs.YtpampekijfjlkaaW.PrintWords Go.Proofs.YtpampekijfjlkaaW.PrintLast Go.Proofs.YtpampekijfjlkaaW.PrintMore

theorem l20Strange_ev {s : List Int} (hs : Rd s) : ∃ (p i : Int) (t : List M) (n : Int), Ev (fun k => spec_l20Strange.f k s 0) (p, i, t, n) ∧ 1 ≤ p ∧ p ≤ 4 ∧ 0 ≤ i ∧ i ≤ 1000 ∧ t.length ≤ 16 ∧ Sm t ∧ 0 ≤ n ∧ n ≤ 1000 := by
 obtain ⟨a, ha, ha0, ha1⟩ := pick_ev hs (p := 0) (by omega) (by omega) 3 (by omega)
 have ha2 := ha1 (by omega)
 obtain ⟨b, hb, hb0, hb1⟩ := pick_ev hs (p := 0 + 1) (by omega) (by omega) 40 (by omega)
 have hb2 := tdiv39 hb0 (hb1 (by omega))
 obtain ⟨c, hc, hc0, hc1⟩ := pick_ev hs (p := 0 + 1 + 1) (by omega) (by omega) (2 + a - 1) (by omega)
 have hc2 := hc1 (by omega)
 obtain ⟨d, hd, hd0, hd1⟩ := pick_ev hs (p := 0 + 1 + 1 + 1) (by omega) (by omega) 40 (by omega)
 have hd2 := tdiv39 hd0 (hd1 (by omega))
 obtain ⟨t, p', ht, h2, h3, h4, h5⟩ := l20Term_ev hs (p := 0 + 1 + 1 + 1 + 1) (by omega) (by omega) (2 + a) 14 (by omega)
 refine ⟨2 + a - Int.tdiv b 39, c + Int.tdiv d 39 * 3, t, p', ?_, by omega, by omega, by omega, by omega, h2, h3, by omega, by omega⟩
 unfold spec_l20Strange.f
 refine Ev.bind ha (Ev.bind hb ?_)
 simp only [w64 (x := 2 + a) (by omega) (by omega), w64 (x := 2 + a - 1) (by omega) (by omega)]
 refine Ev.bind hc (Ev.bind hd (Ev.bind ht ?_))
 simp only [w64 (x := Int.tdiv b 39) (by omega) (by omega), w64 (x := 2 + a - Int.tdiv b 39) (by omega) (by omega), w64 (x := Int.tdiv d 39) (by omega) (by omega), w64 (x := Int.tdiv d 39 * 3) (by omega) (by omega), w64 (x := c + Int.tdiv d 39 * 3) (by omega) (by omega)]
 exact Ev.some _
end Go.Proofs.Ytpampekijfjlkaa.L

/- Plain laws of terms, third text: what a valid row of marks says in a world, as a function of the row alone. -/
namespace Go.Proofs.Ytpampekijfjlkaa.L
open Go.RowKit Go.Proofs.Ytpampekijfjlkaa.X Go.Proofs.YtpampekijfjlkaaW.PrintWords Go.Proofs.YtpampekijfjlkaaW.PrintLast Go.Proofs.YtpampekijfjlkaaW.PrintMore

theorem Tm.good_four {p : Int} (hp : p ≤ 4) : ∀ a : Tm, a.good p → a.good 4
 | .tell i, h => by have h' : (i : Int) < p := h; show (i : Int) < 4; omega
 | .cnt n, h => by have h' : (n : Int) ≤ p + 1 := h; show (n : Int) ≤ 4 + 1; omega
 | .neg a, h => good_four hp a h
 | .bin o a b, h => ⟨h.1, good_four hp a h.2.1, good_four hp b h.2.2⟩
open Classical in
/-- The tree of a row of marks. -/
noncomputable def tree (t : List M) : Tm := if h : ∃ a : Tm, a.good 4 ∧ t = a.post then Classical.choose h else .tell 0
theorem tree_post {a : Tm} (h : a.good 4) : (tree a.post).good 4 ∧ a.post = (tree a.post).post := by
 have h' : ∃ b : Tm, b.good 4 ∧ a.post = b.post := ⟨a, h, rfl⟩
 unfold tree
 rw [dif_pos h']
 exact Classical.choose_spec h'
/-- Whether a row of marks holds in a world. -/
noncomputable def hv (t : List M) (w : Nat) : Bool := (tree t).ev w
theorem hv_post {a : Tm} (h : a.good 4) (hl : a.post.length ≤ 500) {w : Nat} (hw : w < 16) : hv a.post w = a.ev w := by
 obtain ⟨h1, h2⟩ := tree_post h
 have e1 := impl_holds_ev (by decide) hw h hl
 have e2 := impl_holds_ev (by decide) hw h1 (by rw [← h2]; exact hl)
 rw [← h2] at e2
 exact Ev.uniq e2 e1
theorem tok_tree {p : Int} {t : List M} (h : tok p t = true) : ∃ a : Tm, a.good p ∧ t = a.post ∧ a.good 4 ∧ t.length ≤ 15 := by
 obtain ⟨a, h1, h2⟩ := parse h
 obtain ⟨_, h3, _, h4, _⟩ := tok_iff.1 h
 exact ⟨a, h1, h2, a.good_four h3 h1, h4⟩
theorem impl_holds_hv {p : Int} {t : List M} (h : tok p t = true) {w : Nat} (hw : w < 16) : Ev (fun k => impl_holds.f k t (w : Int)) (hv t w) := by
 obtain ⟨a, _, rfl, h4, hl⟩ := tok_tree h
 rw [hv_post h4 (by omega) hw]
 exact impl_holds_ev (by decide) hw h4 (by omega)
theorem spec_holds_hv {p : Int} {t : List M} (h : tok p t = true) {w : Nat} (hw : w < 16) : Ev (fun k => spec_l3Holds.f k t (w : Int)) (hv t w) := by
 obtain ⟨a, _, rfl, h4, hl⟩ := tok_tree h
 rw [hv_post h4 (by omega) hw]
 exact l3Holds_ev (by decide) hw a h4 (by omega)
/-- Whether a claim may be made in a world. -/
noncomputable def may (i : Int) (t : List M) (w : Nat) : Bool := hv t w == w.testBit i.toNat
end Go.Proofs.Ytpampekijfjlkaa.L

/- Plain laws of tables: the worlds in which something holds, as the bits of a number. -/
namespace Go.Proofs.Ytpampekijfjlkaa.L
open Go.RowKit Go.Proofs.Ytpampekijfjlkaa.X Go.Proofs.YtpampekijfjlkaaW.PrintWords Go.Proofs.YtpampekijfjlkaaW.PrintLast Go.Proofs.YtpampekijfjlkaaW.PrintMore

/-- The worlds below n in which P holds, as bits. -/
def tabL (P : Nat → Bool) : Nat → Nat
 | 0 => 0
 | n + 1 => tabL P n ||| (if P n = true then 2 ^ n else 0)
theorem tabL_bit (P : Nat → Bool) : ∀ n w, (tabL P n).testBit w = (decide (w < n) && P w)
 | 0, w => by simp [tabL]
 | n + 1, w => by
  rw [tabL, Nat.testBit_or, tabL_bit P n w]
  by_cases e : w = n
  ·subst e
   by_cases h : P w = true
   ·rw [if_pos h, Nat.testBit_two_pow_self, h]; simp
   ·rw [if_neg h, Nat.zero_testBit]; simp at h; simp [h]
  ·have h1 : (if P n = true then 2 ^ n else 0).testBit w = false := by
    by_cases h : P n = true
    ·rw [if_pos h, Nat.testBit_two_pow]; simp; omega
    ·rw [if_neg h, Nat.zero_testBit]
   rw [h1, Bool.or_false]
   congr 1
   exact decide_eq_decide.mpr (by omega)
theorem lt_of_bits {x n : Nat} (h : ∀ w, n ≤ w → x.testBit w = false) : x < 2 ^ n := Nat.lt_pow_two_of_testBit x (fun w hw => h w hw)
theorem tabL_lt (P : Nat → Bool) (n : Nat) : tabL P n < 2 ^ n := lt_of_bits (fun w hw => by rw [tabL_bit]; simp; omega)
theorem tabL_congr {P Q : Nat → Bool} {n : Nat} (h : ∀ w, w < n → P w = Q w) : tabL P n = tabL Q n := by
 apply Nat.eq_of_testBit_eq
 intro w
 rw [tabL_bit, tabL_bit]
 by_cases hw : w < n
 ·rw [h w hw]
 ·simp [hw]
theorem tabL_mono {P : Nat → Bool} {n : Nat} (hn : n ≤ 16) : tabL P n < 65536 := by
 have := tabL_lt P n
 have h : (2 : Nat) ^ n ≤ 2 ^ 16 := Nat.pow_le_pow_right (by decide) hn
 omega
theorem wrap_i64_small (n : Int) (h0 : 0 ≤ n) (h1 : n < 2 ^ 32) : IntKind.i64.wrap n = n := by rw [IntKind.wrap_i64]; omega
theorem or_nat {a b : Nat} (ha : a < 2 ^ 32) (hb : b < 2 ^ 32) : Go.bits .or .i64 (a : Int) (b : Int) = ((a ||| b : Nat) : Int) := (bits_nat .i64 32 (by decide) wrap_i64_small a b ha hb).2
theorem shl_fin : ∀ i : Fin 31, shl .i64 1 ((i.val : Nat) : Int) = ((2 ^ i.val : Nat) : Int) := by decide +kernel
theorem shl_nat {i : Nat} (hi : i < 31) : shl .i64 1 (i : Int) = ((2 ^ i : Nat) : Int) := shl_fin ⟨i, hi⟩
theorem people_nat {p : Int} (h0 : 1 ≤ p) (h1 : p ≤ 4) : ∃ q : Nat, p = (q : Int) ∧ 1 ≤ q ∧ q ≤ 4 ∧ 2 ^ q ≤ 16 ∧ p.toNat = q := by
 obtain ⟨q, rfl⟩ := Int.eq_ofNat_of_zero_le (show 0 ≤ p by omega)
 refine ⟨q, rfl, by omega, by omega, ?_, by simp⟩
 have : (2 : Nat) ^ q ≤ 2 ^ 4 := Nat.pow_le_pow_right (by decide) (by omega)
 omega
end Go.Proofs.Ytpampekijfjlkaa.L

/- Drawn questions in a strange language with a world. -/
namespace Go.Proofs.Ytpampekijfjlkaa.L
open Go.RowKit Go.Proofs.Ytpampekijfjlkaa.X Go.Proofs.YtpampekijfjlkaaW.PrintWords Go.Proofs.YtpampekijfjlkaaW.PrintLast Go.Proofs.YtpampekijfjlkaaW.PrintMore

theorem DrawWordIn_ev {l : List Int} (hw : ∀ x ∈ l, (Lit.int .u8 x).wf = true) : ∃ (p i : Int) (t : List M) (w : Int), Ev (fun k => spec_DrawWordIn.f k l) (p, i, t, w) ∧ 1 ≤ p ∧ p ≤ 4 ∧ 0 ≤ i ∧ i ≤ 1000 ∧ t.length ≤ 16 ∧ Sm t ∧ 0 ≤ w ∧ w ≤ 1000 := by
 obtain ⟨s, hs, ho⟩ := open_eq hw
 obtain ⟨p, i, t, n, h, h1, h2, h3, h4, h5, h6, h7, h8⟩ := l20Strange_ev hs
 obtain ⟨q, rfl, hq1, hq4, hq2, _⟩ := people_nat h1 h2
 have hpos := Nat.one_le_two_pow (n := q)
 obtain ⟨a, ha, ha0, ha1⟩ := pick_ev hs (p := n) (by omega) (by omega) ((2 ^ q : Nat) : Int) (by omega)
 have ha2 := ha1 (by omega)
 obtain ⟨b, hb, hb0, hb1⟩ := pick_ev hs (p := n + 1) (by omega) (by omega) 40 (by omega)
 have hb2 := tdiv39 hb0 (hb1 (by omega))
 refine ⟨(q : Int), i, t, a + Int.tdiv b 39 * 16, ?_, h1, h2, h3, h4, h5, h6, by omega, by omega⟩
 unfold spec_DrawWordIn.f
 rw [ho]
 simp only [Option.bind_some]
 refine Ev.bind h (Ev.yes (by omega) ?_)
 simp only [shl_nat (i := q) (by omega)]
 refine Ev.bind ha (Ev.bind hb ?_)
 simp only [w64 (x := Int.tdiv b 39) (by omega) (by omega), w64 (x := Int.tdiv b 39 * 16) (by omega) (by omega), w64 (x := a + Int.tdiv b 39 * 16) (by omega) (by omega)]
 exact Ev.some _
end Go.Proofs.Ytpampekijfjlkaa.L

/- Plain laws of worlds: which are ones. -/
namespace Go.Proofs.Ytpampekijfjlkaa.L
open Go.RowKit Go.Proofs.Ytpampekijfjlkaa.X Go.Proofs.YtpampekijfjlkaaW.PrintWords Go.Proofs.YtpampekijfjlkaaW.PrintLast Go.Proofs.YtpampekijfjlkaaW.PrintMore

/-- A world of so many people. -/
def wok (p w : Int) : Bool := decide (1 ≤ p ∧ p ≤ 4 ∧ 0 ≤ w ∧ w < ((2 ^ p.toNat : Nat) : Int))
theorem wok_iff {p w : Int} : wok p w = true ↔ 1 ≤ p ∧ p ≤ 4 ∧ 0 ≤ w ∧ w < ((2 ^ p.toNat : Nat) : Int) := by unfold wok; simp
theorem wok_nat {p w : Int} (h : wok p w = true) : ∃ v : Nat, w = (v : Int) ∧ v < 16 ∧ v < 2 ^ p.toNat := by
 obtain ⟨h0, h1, h2, h3⟩ := wok_iff.1 h
 obtain ⟨q, rfl, _, _, hq, e⟩ := people_nat h0 h1
 obtain ⟨v, rfl⟩ := Int.eq_ofNat_of_zero_le h2
 rw [e] at h3 ⊢
 exact ⟨v, rfl, by omega, by omega⟩
theorem impl_WorldOk_eq (p w : Int) : impl_WorldOk.f p w = some (wok p w) := by
 unfold impl_WorldOk.f
 simp only [peopleOk_eq, Option.bind_some]
 by_cases h : 1 ≤ p ∧ p ≤ 4
 ·obtain ⟨q, rfl, _, hq4, hq, e⟩ := people_nat h.1 h.2
  rw [if_pos (decide_eq_true h)]
  by_cases h0 : w ≥ 0
  ·rw [if_pos h0, if_pos (by omega), shl_nat (by omega)]
   congr 1
   unfold wok
   rw [e]
   exact decide_eq_decide.mpr ⟨fun hw => ⟨h.1, h.2, h0, hw⟩, fun hw => hw.2.2.2⟩
  ·rw [if_neg h0]
   congr 1
   exact (decide_eq_false (fun hw => h0 hw.2.2.1)).symm
 ·rw [if_neg (by simpa using h)]
  congr 1
  exact (decide_eq_false (fun hw => h ⟨hw.1, hw.2.1⟩)).symm
theorem spec_WorldOk_eq (p w : Int) : spec_WorldOk.f p w = some (wok p w) := by
 unfold spec_WorldOk.f
 simp only [l1In_eq, Option.bind_some]
 by_cases h : 1 ≤ p ∧ p ≤ 4
 ·obtain ⟨q, rfl, _, hq4, hq, e⟩ := people_nat h.1 h.2
  have hpos : 1 ≤ 2 ^ q := Nat.one_le_two_pow
  rw [if_pos (decide_eq_true h), if_pos (by omega), shl_nat (by omega), w64 (by omega) (by omega)]
  congr 1
  unfold wok
  rw [e]
  exact decide_eq_decide.mpr ⟨fun hw => ⟨h.1, h.2, hw.1, by omega⟩, fun hw => ⟨hw.2.2.1, by omega⟩⟩
 ·rw [if_neg (by simpa using h)]
  congr 1
  exact (decide_eq_false (fun hw => h ⟨hw.1, hw.2.1⟩)).symm
end Go.Proofs.Ytpampekijfjlkaa.L

/- Plain law of the reference's test whether a claim may be made. -/
namespace Go.Proofs.Ytpampekijfjlkaa.L
open Go.RowKit Go.Proofs.Ytpampekijfjlkaa.X Go.Proofs.YtpampekijfjlkaaW.PrintWords Go.Proofs.YtpampekijfjlkaaW.PrintLast Go.Proofs.YtpampekijfjlkaaW.PrintMore

theorem spec_may_ev {p i : Int} {t : List M} (h2 : tok p t = true) (h0 : 0 ≤ i) (h1 : i < p) {w : Nat} (hw : w < 16) : Ev (fun k => spec_l4May.f k i t (w : Int)) (may i t w) := by
 have h4 := (tok_iff.1 h2).2.1
 obtain ⟨j, rfl⟩ := Int.eq_ofNat_of_zero_le h0
 unfold spec_l4May.f
 refine Ev.yes h0 (Ev.bind (spec_holds_hv h2 hw) (Ev.cast (Ev.some _) ?_))
 rw [bit_mod' hw (show j < 4 by omega)]
 unfold may
 exact Bool.beq_comm
end Go.Proofs.Ytpampekijfjlkaa.L

-- printed by a program of this session's (xprint)
namespace Go.Proofs.Ytpampekijfjlkaa.X
open Go.RowKit Go.Proofs.YtpampekijfjlkaaW.PrintWords Go.Proofs.YtpampekijfjlkaaW.PrintLast Go.Proofs.YtpampekijfjlkaaW.PrintMore
attribute [local go_sem] max2_int min2_int max_two min_two max_three min_three max_four min_four   -- for this text's walks alone
set_option linter.unusedVariables false
set_option linter.unusedSimpArgs false

/-! ### spec_AnswerIn: function 31 -/
def spec_AnswerIn.j0 : Nat → Int → List (S52) → Int → Bool → Option (Int)
 | 0, _, _, _, _ => none
 | k + 1, x1, x2, x3, x25 => if x25 = true then (some (-1)) else ((spec_l4May.f k x1 x2 x3).bind fun t353 => (if t353 = true then (some 1) else (some 0)))
def spec_AnswerIn.f (k : Nat) (a0 : Int) (a1 : Int) (l2 : List (S52)) (a3 : Int) : Option (Int) := (spec_TermOk.f k a0 l2).bind fun t350 => (if t350 = true then ((spec_WorldOk.f a0 a3).bind fun t351 => (if t351 = true then ((spec_l1In.f a1 0 (wrap64 (a0 - 1))).bind fun t352 => (spec_AnswerIn.j0 k a1 l2 a3 (!t352))) else (spec_AnswerIn.j0 k a1 l2 a3 true))) else (spec_AnswerIn.j0 k a1 l2 a3 true))
theorem spec_AnswerIn.mono_l : ∀ k, (∀ y0 y1 y2 y3, LeO (spec_AnswerIn.j0 k y0 y1 y2 y3) (spec_AnswerIn.j0 (k + 1) y0 y1 y2 y3))
 | 0 => fun _ _ _ _ r h => by simp [spec_AnswerIn.j0] at h
 | k + 1 => by
  have ih0 := spec_AnswerIn.mono_l k
  ·intro y0 y1 y2 y3
   unfold spec_AnswerIn.j0
   repeat' first
   | (with_reducible exact ih0 _ _ _ _)
   | (with_reducible exact spec_TermOk.mono _ _ _)
   | (with_reducible exact spec_l4May.mono _ _ _ _)
   | (with_reducible exact LeO.refl _)
   | (with_reducible exact LeO.none _)
   | (with_reducible refine LeO.ite ?_ ?_)
   | (with_reducible refine LeO.bind ?_ (fun _ => ?_))
   | exact ih0 _ _ _ _
   | exact spec_TermOk.mono _ _ _
   | exact spec_l4May.mono _ _ _ _
   | exact LeO.none _
   | refine LeO.ite ?_ ?_
   | refine LeO.bind ?_ (fun _ => ?_)
theorem spec_AnswerIn.mono : ∀ a0 a1 a2 a3 k, LeO (spec_AnswerIn.f k a0 a1 a2 a3) (spec_AnswerIn.f (k + 1) a0 a1 a2 a3) := by
 intro a0 a1 a2 a3 k
 have ih0 := spec_AnswerIn.mono_l k
 unfold spec_AnswerIn.f
 repeat' first
   | (with_reducible exact ih0 _ _ _ _)
   | (with_reducible exact spec_TermOk.mono _ _ _)
   | (with_reducible exact spec_l4May.mono _ _ _ _)
   | (with_reducible exact LeO.refl _)
   | (with_reducible exact LeO.none _)
   | (with_reducible refine LeO.ite ?_ ?_)
   | (with_reducible refine LeO.bind ?_ (fun _ => ?_))
   | exact ih0 _ _ _ _
   | exact spec_TermOk.mono _ _ _
   | exact spec_l4May.mono _ _ _ _
   | exact LeO.none _
   | refine LeO.ite ?_ ?_
   | refine LeO.bind ?_ (fun _ => ?_)
set_option maxHeartbeats 8000000 in
set_option maxRecDepth 100000 in
theorem spec_AnswerIn.calls (k : Nat) (a0 : Int) (a1 : Int) (A2 : Option Addr) (c2 : Nat) (l2 : List (S52)) (a3 : Int) (r : Int) (w : World) (hr2 : Kd.C k52 w A2 l2.length l2) (hc2 : l2.length ≤ c2) (h : spec_AnswerIn.f k a0 a1 l2 a3 = some r) :
  Calls Try.prog 31 #[.int .i64 a0, .int .i64 a1, .slice A2 l2.length c2, .int .i64 a3] w fun e w' => e = .returned (.int .i64 r) ∧ Below w.heap.size w w' := by
 have hu50 := Try.underlying50
 have HR2 := Aside0.mk hr2
 have HC2 := Aside0.mk hc2
 clear hr2 hc2
 have HB := Aside0.mk (Below.refl w.heap.size w)
 have H : ((spec_TermOk.f k a0 l2).bind fun t350 => (if t350 = true then ((spec_WorldOk.f a0 a3).bind fun t351 => (if t351 = true then ((spec_l1In.f a1 0 (wrap64 (a0 - 1))).bind fun t352 => (spec_AnswerIn.j0 k a1 l2 a3 (!t352))) else (spec_AnswerIn.j0 k a1 l2 a3 true))) else (spec_AnswerIn.j0 k a1 l2 a3 true))) = some r := h
 clear h
 have HC5 := Aside0.mk H
 clear H
 go_enter Try.func31, Try.ntmps31
 go_upto_region 1 with (fail)
 go_cut [25] (fun v25 wc => ∃ (kq : Nat) (x25_4 : Bool), v25 = .bool x25_4 ∧ Aside0 (spec_AnswerIn.j0 kq a1 l2 a3 x25_4 = some r) ∧ Aside0 (kq ≤ k) ∧ Aside0 (Below w.heap.size w wc))
 case first =>
  have H := HC5.out
  clear HC5
  replace H := Option.bind_eq_some_iff.mp H
  obtain ⟨t350, A60, H⟩ := H
  replace H : (if t350 = true then ((spec_WorldOk.f a0 a3).bind fun t351 => (if t351 = true then ((spec_l1In.f a1 0 (wrap64 (a0 - 1))).bind fun t352 => (spec_AnswerIn.j0 k a1 l2 a3 (!t352))) else (spec_AnswerIn.j0 k a1 l2 a3 true))) else (spec_AnswerIn.j0 k a1 l2 a3 true)) = some r := H
  have A6 := Aside0.mk A60
  clear A60
  by_cases c7 : t350 = true
  ·subst c7
   have H1 : ((spec_WorldOk.f a0 a3).bind fun t351 => (if t351 = true then ((spec_l1In.f a1 0 (wrap64 (a0 - 1))).bind fun t352 => (spec_AnswerIn.j0 k a1 l2 a3 (!t352))) else (spec_AnswerIn.j0 k a1 l2 a3 true))) = some r := by rw [if_pos rfl] at H; exact H
   clear H
   have H := H1
   clear H1
   replace H := Option.bind_eq_some_iff.mp H
   obtain ⟨t351, A80, H⟩ := H
   replace H : (if t351 = true then ((spec_l1In.f a1 0 (wrap64 (a0 - 1))).bind fun t352 => (spec_AnswerIn.j0 k a1 l2 a3 (!t352))) else (spec_AnswerIn.j0 k a1 l2 a3 true)) = some r := H
   have A8 := Aside0.mk A80
   clear A80
   by_cases c9 : t351 = true
   ·subst c9
    have H1 : ((spec_l1In.f a1 0 (wrap64 (a0 - 1))).bind fun t352 => (spec_AnswerIn.j0 k a1 l2 a3 (!t352))) = some r := by rw [if_pos rfl] at H; exact H
    clear H
    have H := H1
    clear H1
    replace H := Option.bind_eq_some_iff.mp H
    obtain ⟨t352, A100, H⟩ := H
    replace H : (spec_AnswerIn.j0 k a1 l2 a3 (!t352)) = some r := H
    have A10 := Aside0.mk A100
    clear A100
    have H' := Aside0.mk H
    clear H
    go_wp2_with (first | ((with_reducible refine gate_callee (f := 45) rfl ?_); refine goesL_ (some 11) rfl rfl Try.func45 (by kernel_rfl) rfl #[.int .i64 a0, .slice A2 l2.length c2] rfl (by (try simp only [List.map_toArray, List.map_cons, List.map_nil]); first | done | rfl | (simp only [List.length_drop, List.length_take]; rfl)) ?_; (with_reducible refine (spec_TermOk.calls k a0 _ _ l2 true _ ?side1 ?side2 A6.out).mono ?_); (case side1 => repeat (first | exact (Kd.C_below HR2.out HB.out) | (with_reducible refine Kd.C_alloc ?_ _) | (with_reducible refine Kd.C_drewN ?_ _) | (with_reducible refine Kd.C_drew ?_))); (case side2 => exact HC2.out); rintro e w' ⟨rfl, ⟨nd, rfl⟩⟩; refine ⟨_, rfl, ?_⟩) | (go_at_call 97; (with_reducible refine (spec_WorldOk.calls a0 a3 true _ A8.out).mono ?_); rintro e w' ⟨rfl, ⟨nd, rfl⟩⟩) | (go_at_call 98; (with_reducible refine (spec_l1In.calls a1 0 (wrap64 (a0 - 1)) t352 _ A10.out).mono ?_); rintro e w' ⟨rfl, ⟨nd, rfl⟩⟩))
    go_meet
    case rel => exact ⟨_, (!t352), (by first | rfl | (simp; done) | (simp [*]; done)), H', ⟨by first | omega | exact Nat.le_refl _⟩, ⟨by repeat (first | (with_reducible first | exact HB.out | apply below_alloc | apply pw_below_drewN | apply below_drew1) | exact HB.out)⟩⟩
   ·replace c9 := Bool.eq_false_iff.mpr c9
    subst c9
    have H1 : (spec_AnswerIn.j0 k a1 l2 a3 true) = some r := by rw [if_neg (show ¬ (false = true) by decide)] at H; exact H
    clear H
    have H := H1
    clear H1
    have H' := Aside0.mk H
    clear H
    go_wp2_with (first | ((with_reducible refine gate_callee (f := 45) rfl ?_); refine goesL_ (some 11) rfl rfl Try.func45 (by kernel_rfl) rfl #[.int .i64 a0, .slice A2 l2.length c2] rfl (by (try simp only [List.map_toArray, List.map_cons, List.map_nil]); first | done | rfl | (simp only [List.length_drop, List.length_take]; rfl)) ?_; (with_reducible refine (spec_TermOk.calls k a0 _ _ l2 true _ ?side1 ?side2 A6.out).mono ?_); (case side1 => repeat (first | exact (Kd.C_below HR2.out HB.out) | (with_reducible refine Kd.C_alloc ?_ _) | (with_reducible refine Kd.C_drewN ?_ _) | (with_reducible refine Kd.C_drew ?_))); (case side2 => exact HC2.out); rintro e w' ⟨rfl, ⟨nd, rfl⟩⟩; refine ⟨_, rfl, ?_⟩) | (go_at_call 97; (with_reducible refine (spec_WorldOk.calls a0 a3 false _ A8.out).mono ?_); rintro e w' ⟨rfl, ⟨nd, rfl⟩⟩))
    go_meet
    case rel => exact ⟨_, (true), (by first | rfl | (simp; done) | (simp [*]; done)), H', ⟨by first | omega | exact Nat.le_refl _⟩, ⟨by repeat (first | (with_reducible first | exact HB.out | apply below_alloc | apply pw_below_drewN | apply below_drew1) | exact HB.out)⟩⟩
  ·replace c7 := Bool.eq_false_iff.mpr c7
   subst c7
   have H1 : (spec_AnswerIn.j0 k a1 l2 a3 true) = some r := by rw [if_neg (show ¬ (false = true) by decide)] at H; exact H
   clear H
   have H := H1
   clear H1
   have H' := Aside0.mk H
   clear H
   go_wp2_with (first | ((with_reducible refine gate_callee (f := 45) rfl ?_); refine goesL_ (some 11) rfl rfl Try.func45 (by kernel_rfl) rfl #[.int .i64 a0, .slice A2 l2.length c2] rfl (by (try simp only [List.map_toArray, List.map_cons, List.map_nil]); first | done | rfl | (simp only [List.length_drop, List.length_take]; rfl)) ?_; (with_reducible refine (spec_TermOk.calls k a0 _ _ l2 false _ ?side1 ?side2 A6.out).mono ?_); (case side1 => repeat (first | exact (Kd.C_below HR2.out HB.out) | (with_reducible refine Kd.C_alloc ?_ _) | (with_reducible refine Kd.C_drewN ?_ _) | (with_reducible refine Kd.C_drew ?_))); (case side2 => exact HC2.out); rintro e w' ⟨rfl, ⟨nd, rfl⟩⟩; refine ⟨_, rfl, ?_⟩))
   go_meet
   case rel => exact ⟨_, (true), (by first | rfl | (simp; done) | (simp [*]; done)), H', ⟨by first | omega | exact Nat.le_refl _⟩, ⟨by repeat (first | (with_reducible first | exact HB.out | apply below_alloc | apply pw_below_drewN | apply below_drew1) | exact HB.out)⟩⟩
 case rest =>
  clear HC5
  try clear c2
  try clear p2
  try clear c3
  try clear c4
  try clear p6
  try clear c7
  try clear c9
  obtain ⟨kq, x25_4, rfl, HA, HJ4, HB⟩ := hcut
  cases kq with
  | zero => exact absurd HA.out (by simp [spec_AnswerIn.j0])
  | succ kj4 =>
   have H := HA.out
   clear HA
   simp only [spec_AnswerIn.j0] at H
   by_cases c11 : x25_4 = true
   ·subst c11
    have H1 : (some (-1)) = some r := by rw [if_pos rfl] at H; exact H
    clear H
    have H := H1
    clear H1
    obtain rfl := Option.some.inj H
    go_wp2
    go_ret
    exact ⟨by first | rfl | (simp [errW_none, errW_some] <;> rfl) | (simp [*, errW_none, errW_some] <;> rfl), by repeat (first | (with_reducible first | exact HB.out | apply below_alloc | apply pw_below_drewN | apply below_drew1) | exact HB.out)⟩
   ·replace c11 := Bool.eq_false_iff.mpr c11
    subst c11
    have H1 : ((spec_l4May.f kj4 a1 l2 a3).bind fun t353 => (if t353 = true then (some 1) else (some 0))) = some r := by rw [if_neg (show ¬ (false = true) by decide)] at H; exact H
    clear H
    have H := H1
    clear H1
    replace H := Option.bind_eq_some_iff.mp H
    obtain ⟨t353, A120, H⟩ := H
    replace H : (if t353 = true then (some 1) else (some 0)) = some r := H
    have A12 := Aside0.mk A120
    clear A120
    by_cases c13 : t353 = true
    ·subst c13
     have H1 : (some 1) = some r := by rw [if_pos rfl] at H; exact H
     clear H
     have H := H1
     clear H1
     obtain rfl := Option.some.inj H
     go_wp2_with (first | ((with_reducible refine gate_callee (f := 99) rfl ?_); refine goesL_ (some 30) rfl rfl Try.func99 (by kernel_rfl) rfl #[.agg #[.int .i64 a1, .slice A2 l2.length c2], .int .i64 a3] rfl (by (try simp only [List.map_toArray, List.map_cons, List.map_nil]); first | done | rfl | (simp only [List.length_drop, List.length_take]; rfl)) ?_; (with_reducible refine (spec_l4May.calls kj4 a1 _ _ l2 a3 true _ ?side1 ?side2 A12.out).mono ?_); (case side1 => repeat (first | exact (Kd.C_below HR2.out HB.out) | (with_reducible refine Kd.C_alloc ?_ _) | (with_reducible refine Kd.C_drewN ?_ _) | (with_reducible refine Kd.C_drew ?_))); (case side2 => exact HC2.out); rintro e w14 ⟨rfl, hb⟩; refine ⟨_, rfl, ?_⟩; have n0_ := Aside0.mk (below_step (by repeat (first | (with_reducible first | exact HB.out | apply below_alloc | apply pw_below_drewN | apply below_drew1) | exact HB.out)) hb); clear HB; have HB := n0_; clear n0_; (try clear hb); (try clear hb2); (try clear hk); (try clear hi)))
     go_ret
     exact ⟨by first | rfl | (simp [errW_none, errW_some] <;> rfl) | (simp [*, errW_none, errW_some] <;> rfl), by repeat (first | (with_reducible first | exact HB.out | apply below_alloc | apply pw_below_drewN | apply below_drew1) | exact HB.out)⟩
    ·replace c13 := Bool.eq_false_iff.mpr c13
     subst c13
     have H1 : (some 0) = some r := by rw [if_neg (show ¬ (false = true) by decide)] at H; exact H
     clear H
     have H := H1
     clear H1
     obtain rfl := Option.some.inj H
     go_wp2_with (first | ((with_reducible refine gate_callee (f := 99) rfl ?_); refine goesL_ (some 30) rfl rfl Try.func99 (by kernel_rfl) rfl #[.agg #[.int .i64 a1, .slice A2 l2.length c2], .int .i64 a3] rfl (by (try simp only [List.map_toArray, List.map_cons, List.map_nil]); first | done | rfl | (simp only [List.length_drop, List.length_take]; rfl)) ?_; (with_reducible refine (spec_l4May.calls kj4 a1 _ _ l2 a3 false _ ?side1 ?side2 A12.out).mono ?_); (case side1 => repeat (first | exact (Kd.C_below HR2.out HB.out) | (with_reducible refine Kd.C_alloc ?_ _) | (with_reducible refine Kd.C_drewN ?_ _) | (with_reducible refine Kd.C_drew ?_))); (case side2 => exact HC2.out); rintro e w15 ⟨rfl, hb⟩; refine ⟨_, rfl, ?_⟩; have n0_ := Aside0.mk (below_step (by repeat (first | (with_reducible first | exact HB.out | apply below_alloc | apply pw_below_drewN | apply below_drew1) | exact HB.out)) hb); clear HB; have HB := n0_; clear n0_; (try clear hb); (try clear hb2); (try clear hk); (try clear hi)))
     go_ret
     exact ⟨by first | rfl | (simp [errW_none, errW_some] <;> rfl) | (simp [*, errW_none, errW_some] <;> rfl), by repeat (first | (with_reducible first | exact HB.out | apply below_alloc | apply pw_below_drewN | apply below_drew1) | exact HB.out)⟩

end Go.Proofs.Ytpampekijfjlkaa.X

/- Plain laws of answers. -/
namespace Go.Proofs.Ytpampekijfjlkaa.L
open Go.RowKit Go.Proofs.Ytpampekijfjlkaa.X Go.Proofs.YtpampekijfjlkaaW.PrintWords Go.Proofs.YtpampekijfjlkaaW.PrintLast Go.Proofs.YtpampekijfjlkaaW.PrintMore

/-- What a person answers. -/
noncomputable def answer (p i : Int) (t : List M) (w : Int) : Int := if wok p w = true ∧ tok p t = true ∧ 0 ≤ i ∧ i < p then (if may i t w.toNat = true then 1 else 0) else -1
theorem answer_in {p i w : Int} {t : List M} (h : wok p w = true ∧ tok p t = true ∧ 0 ≤ i ∧ i < p) : answer p i t w = if may i t w.toNat = true then 1 else 0 := if_pos h
theorem answer_out {p i w : Int} {t : List M} (h : ¬ (wok p w = true ∧ tok p t = true ∧ 0 ≤ i ∧ i < p)) : answer p i t w = -1 := if_neg h
theorem impl_Answer_ev (p i : Int) (t : List M) (w : Int) : Ev (fun k => impl_AnswerIn.f k p i t w) (answer p i t w) := by
 unfold impl_AnswerIn.f
 have no : ¬ (wok p w = true ∧ tok p t = true ∧ 0 ≤ i ∧ i < p) → Ev (fun k => impl_AnswerIn.j0 k i t w true) (answer p i t w) := by
  intro h
  rw [answer_out h]
  refine Ev.step (fun k => by simp only [impl_AnswerIn.j0]; rfl) ?_
  exact Ev.yes (by simp) (Ev.some _)
 rw [impl_WorldOk_eq]
 simp only [Option.bind_some]
 by_cases hw : wok p w = true
 ·refine Ev.yes hw (Ev.bind (impl_TermOk_ev p t) ?_)
  by_cases hk : tok p t = true
  ·refine Ev.yes hk ?_
   by_cases h0 : i < 0
   ·exact Ev.yes h0 (no (by omega))
   refine Ev.no h0 ?_
   by_cases h1 : i ≥ p
   ·rw [decide_eq_true h1]; exact no (by omega)
   rw [decide_eq_false h1, answer_in ⟨hw, hk, by omega, by omega⟩]
   obtain ⟨v, rfl, hv, _⟩ := wok_nat hw
   have h4 := (tok_iff.1 hk).2.1
   obtain ⟨j, rfl⟩ := Int.eq_ofNat_of_zero_le (show 0 ≤ i by omega)
   refine Ev.step (fun k => by simp only [impl_AnswerIn.j0]; rfl) ?_
   refine Ev.no (by simp) (Ev.bind (impl_holds_hv hk hv) (Ev.yes (by omega) ?_))
   rw [bit_and' hv (show j < 4 by omega)]
   by_cases hm : may (j : Int) t v = true
   ·exact Ev.yes hm (Ev.cast (Ev.some _) (if_pos hm).symm)
   ·exact Ev.no hm (Ev.cast (Ev.some _) (if_neg hm).symm)
  ·exact Ev.no hk (no (fun h => hk h.2.1))
 ·exact Ev.no hw (no (fun h => hw h.1))
end Go.Proofs.Ytpampekijfjlkaa.L

/- Plain laws of words in a strange language. -/
namespace Go.Proofs.Ytpampekijfjlkaa.L
open Go.RowKit Go.Proofs.Ytpampekijfjlkaa.X Go.Proofs.YtpampekijfjlkaaW.PrintWords Go.Proofs.YtpampekijfjlkaaW.PrintLast Go.Proofs.YtpampekijfjlkaaW.PrintMore

/-- What the word means, and whether it is said. -/
noncomputable def word (p i : Int) (t : List M) (w : Int) : Int :=
 if 2 ≤ p ∧ i < p - 1 ∧ 0 ≤ i ∧ wok p w = true ∧ tok p t = true then (if (may i t w.toNat == w.toNat.testBit (p.toNat - 1)) = true then 1 else 0) else -1
theorem top_fin : ∀ w : Fin 16, ∀ q : Fin 4, w.val < 2 ^ (q.val + 1) → (shr .i64 ((w.val : Nat) : Int) ((q.val : Nat) : Int) == 1) = w.val.testBit q.val := by decide +kernel
theorem bitI_fin : ∀ w : Fin 16, ∀ q : Fin 4, Go.bits .and .i64 (shr .i64 ((w.val : Nat) : Int) ((q.val : Nat) : Int)) 1 = if w.val.testBit q.val = true then 1 else 0 := by decide +kernel
theorem impl_Word_ev (p i : Int) (t : List M) (w : Int) (hp : -9223372036854775808 ≤ p ∧ p ≤ 9223372036854775807) : Ev (fun k => impl_WordIn.f k p i t w) (word p i t w) := by
 unfold impl_WordIn.f
 have no : ¬ (2 ≤ p ∧ i < p - 1 ∧ 0 ≤ i ∧ wok p w = true ∧ tok p t = true) → Ev (fun k => impl_WordIn.j0 k p i t w true) (word p i t w) := by
  intro h
  rw [show word p i t w = -1 from if_neg h]
  refine Ev.step (fun k => by simp only [impl_WordIn.j0]; rfl) ?_
  exact Ev.yes (by simp) (Ev.some _)
 by_cases h2 : p < 2
 ·exact Ev.yes h2 (no (by omega))
 refine Ev.no h2 ?_
 rw [w64 (by omega) (by omega)]
 by_cases h1 : i = p - 1
 ·rw [show (i == p - 1) = true from beq_iff_eq.2 h1]
  exact no (by omega)
 rw [show (i == p - 1) = false from beq_eq_false_iff_ne.2 h1]
 refine Ev.step (fun k => by simp only [impl_WordIn.j0]; rfl) ?_
 refine Ev.no (by simp) (Ev.bind (impl_Answer_ev p i t w) ?_)
 by_cases ha : wok p w = true ∧ tok p t = true ∧ 0 ≤ i ∧ i < p
 ·rw [answer_in ha]
  obtain ⟨v, rfl, hv, hv2⟩ := wok_nat ha.1
  obtain ⟨hp0, hp1, _⟩ := tok_iff.1 ha.2.1
  obtain ⟨q, rfl, hq1, hq, hq2, e⟩ := people_nat hp0 hp1
  rw [w64 (by omega) (by omega), show ((q : Int) - 1) = ((q - 1 : Nat) : Int) by omega, bitI_fin ⟨v, hv⟩ ⟨q - 1, by omega⟩]
  rw [show word (q : Int) i t (v : Int) = if (may i t (v : Int).toNat == (v : Int).toNat.testBit ((q : Int).toNat - 1)) = true then 1 else 0 from if_pos ⟨by omega, by omega, by omega, ha.1, ha.2.1⟩]
  simp only [Int.toNat_natCast]
  by_cases e1 : may i t v = true <;> by_cases e2 : v.testBit (q - 1) = true
  ·simp only [e1, e2, if_true]
   exact Ev.no (by simp) (Ev.yes (by omega) (Ev.cast (Ev.some _) (by simp)))
  ·rw [Bool.not_eq_true] at e2
   simp only [e1, e2, if_true, Bool.false_eq_true, if_false]
   exact Ev.no (by simp) (Ev.yes (by omega) (Ev.cast (Ev.some _) (by simp)))
  ·rw [Bool.not_eq_true] at e1
   simp only [e1, e2, if_true, Bool.false_eq_true, if_false]
   exact Ev.no (by simp) (Ev.yes (by omega) (Ev.cast (Ev.some _) (by simp)))
  ·rw [Bool.not_eq_true] at e1 e2
   simp only [e1, e2, Bool.false_eq_true, if_false]
   exact Ev.no (by simp) (Ev.yes (by omega) (Ev.cast (Ev.some _) (by simp)))
 ·rw [answer_out ha]
  exact Ev.yes (by omega) (Ev.cast (Ev.some _) (if_neg (fun h => ha ⟨h.2.2.2.1, h.2.2.2.2, h.2.2.1, by omega⟩)).symm)
theorem spec_Word_ev (p i : Int) (t : List M) (w : Int) (hp : -9223372036854775808 ≤ p ∧ p ≤ 9223372036854775807) (hl : t.length ≤ 4611686018427387904) (htw : ∀ m ∈ t, m.f1 ≤ 9223372036854775807) : Ev (fun k => spec_WordIn.f k p i t w) (word p i t w) := by
 unfold spec_WordIn.f spec_l8Ok.f
 have no : ¬ (2 ≤ p ∧ i < p - 1 ∧ 0 ≤ i ∧ wok p w = true ∧ tok p t = true) → Ev (fun k => spec_WordIn.j0 k p i t w true) (word p i t w) := by
  intro h
  rw [show word p i t w = -1 from if_neg h]
  refine Ev.step (fun k => by simp only [spec_WordIn.j0]; rfl) ?_
  exact Ev.yes (by simp) (Ev.some _)
 simp only [l1In_eq, spec_WorldOk_eq, Option.bind_some]
 by_cases h2 : 2 ≤ p ∧ p ≤ 4
 ·rw [decide_eq_true h2, w64 (by omega) (by omega)]
  simp only [if_true, Option.bind_some]
  by_cases h1 : 0 ≤ i ∧ i ≤ p - 2
  ·refine Ev.yes (decide_eq_true h1) (Ev.bind (spec_TermOk_ev p t hl htw) ?_)
   by_cases hk : tok p t = true
   ·refine Ev.yes hk ?_
    by_cases hw : wok p w = true
    ·rw [hw]
     obtain ⟨v, rfl, hv, hv2⟩ := wok_nat hw
     obtain ⟨q, rfl, hq1, hq, hq2, e⟩ := people_nat (p := p) (by omega) h2.2
     refine Ev.step (fun k => by simp only [spec_WordIn.j0]; rfl) ?_
     rw [w64 (by omega) (by omega), show ((q : Int) - 1) = ((q - 1 : Nat) : Int) by omega]
     refine Ev.no (by simp) (Ev.bind (spec_may_ev hk h1.1 (by omega) hv) (Ev.yes (by omega) ?_))
     rw [top_fin ⟨v, hv⟩ ⟨q - 1, by omega⟩ (by rw [e] at hv2; rw [Nat.sub_add_cancel hq1]; exact hv2)]
     rw [show word (q : Int) i t (v : Int) = if (may i t (v : Int).toNat == (v : Int).toNat.testBit ((q : Int).toNat - 1)) = true then 1 else 0 from if_pos ⟨by omega, by omega, by omega, hw, hk⟩]
     simp only [Int.toNat_natCast]
     by_cases hm : (may i t v == v.testBit (q - 1)) = true
     ·exact Ev.yes hm (Ev.cast (Ev.some _) (if_pos hm).symm)
     ·exact Ev.no hm (Ev.cast (Ev.some _) (if_neg hm).symm)
    ·rw [Bool.not_eq_true] at hw
     rw [hw]
     exact no (fun h => by rw [hw] at h; exact absurd h.2.2.2.1 (by simp))
   ·exact Ev.no hk (no (fun h => hk h.2.2.2.2))
  ·exact Ev.no (by simpa using h1) (no (by omega))
 ·rw [decide_eq_false h2]
  refine no (fun h => ?_)
  have := tok_iff.1 h.2.2.2.2
  omega
end Go.Proofs.Ytpampekijfjlkaa.L
