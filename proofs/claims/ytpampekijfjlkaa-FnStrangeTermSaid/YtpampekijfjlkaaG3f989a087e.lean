/- Joined by a program of this session's: X69, LWI, LSA. -/
import Derived.Test.YtpampekijfjlkaaG2f71888243
import Derived.Test.YtpampekijfjlkaaGbfef5b14b1
import Derived.Test.YtpampekijfjlkaaGf3b4ea1890
import Derived.Test.YtpampekijfjlkaaG3b2731fd70

-- printed by a program of this session's (xprint)
namespace Go.Proofs.Ytpampekijfjlkaa.X
open Go.RowKit Go.Proofs.YtpampekijfjlkaaW.PrintWords Go.Proofs.YtpampekijfjlkaaW.PrintLast Go.Proofs.YtpampekijfjlkaaW.PrintMore
attribute [local go_sem] max2_int min2_int max_two min_two max_three min_three max_four min_four   -- for this text's walks alone
set_option linter.unusedVariables false
set_option linter.unusedSimpArgs false

/-! ### spec_WordIn: function 42 -/
def spec_WordIn.j0 : Nat → Int → Int → List (S52) → Int → Bool → Option (Int)
 | 0, _, _, _, _, _ => none
 | k + 1, x0, x1, x2, x3, x24 => if x24 = true then (some (-1)) else ((spec_l4May.f k x1 x2 x3).bind fun t613 => (if 0 ≤ (wrap64 (x0 - 1)) then (if (t613 == ((shr .i64 x3 (wrap64 (x0 - 1))) == 1)) = true then (some 1) else (some 0)) else (none)))
def spec_WordIn.f (k : Nat) (a0 : Int) (a1 : Int) (l2 : List (S52)) (a3 : Int) : Option (Int) := (spec_l8Ok.f a0 a1).bind fun t610 => (if t610 = true then ((spec_TermOk.f k a0 l2).bind fun t611 => (if t611 = true then ((spec_WorldOk.f a0 a3).bind fun t612 => (spec_WordIn.j0 k a0 a1 l2 a3 (!t612))) else (spec_WordIn.j0 k a0 a1 l2 a3 true))) else (spec_WordIn.j0 k a0 a1 l2 a3 true))
theorem spec_WordIn.mono_l : ∀ k, (∀ y0 y1 y2 y3 y4, LeO (spec_WordIn.j0 k y0 y1 y2 y3 y4) (spec_WordIn.j0 (k + 1) y0 y1 y2 y3 y4))
 | 0 => fun _ _ _ _ _ r h => by simp [spec_WordIn.j0] at h
 | k + 1 => by
  have ih0 := spec_WordIn.mono_l k
  ·intro y0 y1 y2 y3 y4
   unfold spec_WordIn.j0
   repeat' first
   | (with_reducible exact ih0 _ _ _ _ _)
   | (with_reducible exact spec_TermOk.mono _ _ _)
   | (with_reducible exact spec_l4May.mono _ _ _ _)
   | (with_reducible exact LeO.refl _)
   | (with_reducible exact LeO.none _)
   | (with_reducible refine LeO.ite ?_ ?_)
   | (with_reducible refine LeO.bind ?_ (fun _ => ?_))
   | exact ih0 _ _ _ _ _
   | exact spec_TermOk.mono _ _ _
   | exact spec_l4May.mono _ _ _ _
   | exact LeO.none _
   | refine LeO.ite ?_ ?_
   | refine LeO.bind ?_ (fun _ => ?_)
theorem spec_WordIn.mono : ∀ a0 a1 a2 a3 k, LeO (spec_WordIn.f k a0 a1 a2 a3) (spec_WordIn.f (k + 1) a0 a1 a2 a3) := by
 intro a0 a1 a2 a3 k
 have ih0 := spec_WordIn.mono_l k
 unfold spec_WordIn.f
 repeat' first
   | (with_reducible exact ih0 _ _ _ _ _)
   | (with_reducible exact spec_TermOk.mono _ _ _)
   | (with_reducible exact spec_l4May.mono _ _ _ _)
   | (with_reducible exact LeO.refl _)
   | (with_reducible exact LeO.none _)
   | (with_reducible refine LeO.ite ?_ ?_)
   | (with_reducible refine LeO.bind ?_ (fun _ => ?_))
   | exact ih0 _ _ _ _ _
   | exact spec_TermOk.mono _ _ _
   | exact spec_l4May.mono _ _ _ _
   | exact LeO.none _
   | refine LeO.ite ?_ ?_
   | refine LeO.bind ?_ (fun _ => ?_)
def spec_WordIn.T3 : Bool × List (List Nat × List Nat) := (true, [([], []), ([], []), ([0, 1], [0, 1]), ([], []), ([2, 3], [2, 3]), ([], []), ([], []), ([6], [6]), ([5, 7], [5, 7]), ([8], [8]), ([4, 9], [4, 9])])
def spec_WordIn.B3 : List Nat := [0, 0, 3, 0, 15, 0, 0, 64, 224, 480, 1023]
theorem spec_WordIn.tab3 : rtab .any (opsOf Try.f42 3) = spec_WordIn.T3 := by kernel_rfl
theorem spec_WordIn.bits3 : waitsOk spec_WordIn.T3.2 spec_WordIn.B3 = true := by kernel_rfl
set_option maxHeartbeats 8000000 in
set_option maxRecDepth 100000 in
theorem spec_WordIn.calls (k : Nat) (a0 : Int) (a1 : Int) (A2 : Option Addr) (c2 : Nat) (l2 : List (S52)) (a3 : Int) (r : Int) (w : World) (hr2 : Kd.C k52 w A2 l2.length l2) (hc2 : l2.length ≤ c2) (h : spec_WordIn.f k a0 a1 l2 a3 = some r) :
  Calls Try.prog 42 #[.int .i64 a0, .int .i64 a1, .slice A2 l2.length c2, .int .i64 a3] w fun e w' => e = .returned (.int .i64 r) ∧ Below w.heap.size w w' := by
 have hu50 := Try.underlying50
 have HR2 := Aside0.mk hr2
 have HC2 := Aside0.mk hc2
 clear hr2 hc2
 have HB := Aside0.mk (Below.refl w.heap.size w)
 have H : ((spec_l8Ok.f a0 a1).bind fun t610 => (if t610 = true then ((spec_TermOk.f k a0 l2).bind fun t611 => (if t611 = true then ((spec_WorldOk.f a0 a3).bind fun t612 => (spec_WordIn.j0 k a0 a1 l2 a3 (!t612))) else (spec_WordIn.j0 k a0 a1 l2 a3 true))) else (spec_WordIn.j0 k a0 a1 l2 a3 true))) = some r := h
 clear h
 have HC5 := Aside0.mk H
 clear H
 go_enter Try.func42, Try.ntmps42
 go_upto_region 1 with (fail)
 go_cut [24] (fun v24 wc => ∃ (kq : Nat) (x24_4 : Bool), v24 = .bool x24_4 ∧ Aside0 (spec_WordIn.j0 kq a0 a1 l2 a3 x24_4 = some r) ∧ Aside0 (kq ≤ k) ∧ Aside0 (Below w.heap.size w wc))
 case first =>
  have H := HC5.out
  clear HC5
  replace H := Option.bind_eq_some_iff.mp H
  obtain ⟨t610, A60, H⟩ := H
  replace H : (if t610 = true then ((spec_TermOk.f k a0 l2).bind fun t611 => (if t611 = true then ((spec_WorldOk.f a0 a3).bind fun t612 => (spec_WordIn.j0 k a0 a1 l2 a3 (!t612))) else (spec_WordIn.j0 k a0 a1 l2 a3 true))) else (spec_WordIn.j0 k a0 a1 l2 a3 true)) = some r := H
  have A6 := Aside0.mk A60
  clear A60
  by_cases c7 : t610 = true
  ·subst c7
   have H1 : ((spec_TermOk.f k a0 l2).bind fun t611 => (if t611 = true then ((spec_WorldOk.f a0 a3).bind fun t612 => (spec_WordIn.j0 k a0 a1 l2 a3 (!t612))) else (spec_WordIn.j0 k a0 a1 l2 a3 true))) = some r := by rw [if_pos rfl] at H; exact H
   clear H
   have H := H1
   clear H1
   replace H := Option.bind_eq_some_iff.mp H
   obtain ⟨t611, A80, H⟩ := H
   replace H : (if t611 = true then ((spec_WorldOk.f a0 a3).bind fun t612 => (spec_WordIn.j0 k a0 a1 l2 a3 (!t612))) else (spec_WordIn.j0 k a0 a1 l2 a3 true)) = some r := H
   have A8 := Aside0.mk A80
   clear A80
   by_cases c9 : t611 = true
   ·subst c9
    have H1 : ((spec_WorldOk.f a0 a3).bind fun t612 => (spec_WordIn.j0 k a0 a1 l2 a3 (!t612))) = some r := by rw [if_pos rfl] at H; exact H
    clear H
    have H := H1
    clear H1
    replace H := Option.bind_eq_some_iff.mp H
    obtain ⟨t612, A100, H⟩ := H
    replace H : (spec_WordIn.j0 k a0 a1 l2 a3 (!t612)) = some r := H
    have A10 := Aside0.mk A100
    clear A100
    have H' := Aside0.mk H
    clear H
    go_wp2_with (first | ((with_reducible refine gate_callee (f := 107) rfl ?_); refine goesL_ (some 11) rfl rfl Try.func107 (by kernel_rfl) rfl #[.int .i64 a0, .int .i64 a1] rfl (by (try simp only [List.map_toArray, List.map_cons, List.map_nil]); first | done | rfl | (simp only [List.length_drop, List.length_take]; rfl)) ?_; (with_reducible refine (spec_l8Ok.calls a0 a1 true _ A6.out).mono ?_); rintro e w' ⟨rfl, ⟨nd, rfl⟩⟩; refine ⟨_, rfl, ?_⟩) | (go_at_call 45; (with_reducible refine (spec_TermOk.calls k a0 _ _ l2 true _ ?side1 ?side2 A8.out).mono ?_); (case side1 => repeat (first | exact (Kd.C_below HR2.out (by repeat (first | (with_reducible first | exact HB.out | apply below_alloc | apply pw_below_drewN | apply below_drew1) | exact HB.out))) | (with_reducible refine Kd.C_alloc ?_ _) | (with_reducible refine Kd.C_drewN ?_ _) | (with_reducible refine Kd.C_drew ?_))); (case side2 => exact HC2.out); rintro e w' ⟨rfl, ⟨nd, rfl⟩⟩) | (go_at_call 97; (with_reducible refine (spec_WorldOk.calls a0 a3 t612 _ A10.out).mono ?_); rintro e w' ⟨rfl, ⟨nd, rfl⟩⟩))
    go_meet
    case rel => exact ⟨_, (!t612), (by first | rfl | (simp; done) | (simp [*]; done)), H', ⟨by first | omega | exact Nat.le_refl _⟩, ⟨by repeat (first | (with_reducible first | exact HB.out | apply below_alloc | apply pw_below_drewN | apply below_drew1) | exact HB.out)⟩⟩
   ·replace c9 := Bool.eq_false_iff.mpr c9
    subst c9
    have H1 : (spec_WordIn.j0 k a0 a1 l2 a3 true) = some r := by rw [if_neg (show ¬ (false = true) by decide)] at H; exact H
    clear H
    have H := H1
    clear H1
    have H' := Aside0.mk H
    clear H
    go_wp2_with (first | ((with_reducible refine gate_callee (f := 107) rfl ?_); refine goesL_ (some 11) rfl rfl Try.func107 (by kernel_rfl) rfl #[.int .i64 a0, .int .i64 a1] rfl (by (try simp only [List.map_toArray, List.map_cons, List.map_nil]); first | done | rfl | (simp only [List.length_drop, List.length_take]; rfl)) ?_; (with_reducible refine (spec_l8Ok.calls a0 a1 true _ A6.out).mono ?_); rintro e w' ⟨rfl, ⟨nd, rfl⟩⟩; refine ⟨_, rfl, ?_⟩) | (go_at_call 45; (with_reducible refine (spec_TermOk.calls k a0 _ _ l2 false _ ?side1 ?side2 A8.out).mono ?_); (case side1 => repeat (first | exact (Kd.C_below HR2.out (by repeat (first | (with_reducible first | exact HB.out | apply below_alloc | apply pw_below_drewN | apply below_drew1) | exact HB.out))) | (with_reducible refine Kd.C_alloc ?_ _) | (with_reducible refine Kd.C_drewN ?_ _) | (with_reducible refine Kd.C_drew ?_))); (case side2 => exact HC2.out); rintro e w' ⟨rfl, ⟨nd, rfl⟩⟩))
    go_meet
    case rel => exact ⟨_, (true), (by first | rfl | (simp; done) | (simp [*]; done)), H', ⟨by first | omega | exact Nat.le_refl _⟩, ⟨by repeat (first | (with_reducible first | exact HB.out | apply below_alloc | apply pw_below_drewN | apply below_drew1) | exact HB.out)⟩⟩
  ·replace c7 := Bool.eq_false_iff.mpr c7
   subst c7
   have H1 : (spec_WordIn.j0 k a0 a1 l2 a3 true) = some r := by rw [if_neg (show ¬ (false = true) by decide)] at H; exact H
   clear H
   have H := H1
   clear H1
   have H' := Aside0.mk H
   clear H
   go_wp2_with (first | ((with_reducible refine gate_callee (f := 107) rfl ?_); refine goesL_ (some 11) rfl rfl Try.func107 (by kernel_rfl) rfl #[.int .i64 a0, .int .i64 a1] rfl (by (try simp only [List.map_toArray, List.map_cons, List.map_nil]); first | done | rfl | (simp only [List.length_drop, List.length_take]; rfl)) ?_; (with_reducible refine (spec_l8Ok.calls a0 a1 false _ A6.out).mono ?_); rintro e w' ⟨rfl, ⟨nd, rfl⟩⟩; refine ⟨_, rfl, ?_⟩))
   go_meet
   case rel => exact ⟨_, (true), (by first | rfl | (simp; done) | (simp [*]; done)), H', ⟨by first | omega | exact Nat.le_refl _⟩, ⟨by repeat (first | (with_reducible first | exact HB.out | apply below_alloc | apply pw_below_drewN | apply below_drew1) | exact HB.out)⟩⟩
 case rest =>
  clear HC5
  try clear c1
  try clear c2
  try clear p2
  try clear c4
  try clear c7
  try clear c9
  try clear c10
  obtain ⟨kq, x24_4, rfl, HA, HJ4, HB⟩ := hcut
  cases kq with
  | zero => exact absurd HA.out (by simp [spec_WordIn.j0])
  | succ kj4 =>
   have H := HA.out
   clear HA
   simp only [spec_WordIn.j0] at H
   by_cases c11 : x24_4 = true
   ·subst c11
    have H1 : (some (-1)) = some r := by rw [if_pos rfl] at H; exact H
    clear H
    have H := H1
    clear H1
    obtain rfl := Option.some.inj H
    go_wp2
    go_ret
    exact ⟨by first | rfl | (simp [errW_none, errW_some] <;> rfl) | (simp [*, errW_none, errW_some] <;> rfl), by repeat (first | (with_reducible first | exact HB.out | apply below_alloc | apply pw_below_drewN | apply below_drew1) | exact HB.out)⟩
   ·replace c11 := Bool.eq_false_iff.mpr c11
    subst c11
    have H1 : ((spec_l4May.f kj4 a1 l2 a3).bind fun t613 => (if 0 ≤ (wrap64 (a0 - 1)) then (if (t613 == ((shr .i64 a3 (wrap64 (a0 - 1))) == 1)) = true then (some 1) else (some 0)) else (none))) = some r := by rw [if_neg (show ¬ (false = true) by decide)] at H; exact H
    clear H
    have H := H1
    clear H1
    replace H := Option.bind_eq_some_iff.mp H
    obtain ⟨t613, A120, H⟩ := H
    replace H : (if 0 ≤ (wrap64 (a0 - 1)) then (if (t613 == ((shr .i64 a3 (wrap64 (a0 - 1))) == 1)) = true then (some 1) else (some 0)) else (none)) = some r := H
    have A12 := Aside0.mk A120
    clear A120
    obtain ⟨ji13, hji13⟩ : ∃ j_ : Int, (wrap64 (a0 - 1)) = j_ := ⟨_, rfl⟩
    replace H : (if 0 ≤ (ji13) then (if (t613 == ((shr .i64 a3 (ji13)) == 1)) = true then (some 1) else (some 0)) else (none)) = some r := by first | (rw [hji13] at H; exact H) | (simp only [hji13] at H ⊢; exact H)
    (try rw [hji13] at A12)
    have hji13w : (IntKind.i64.wrap (a0 - 1)) = ji13 := (i64_w _).trans hji13
    by_cases c14 : 0 ≤ (ji13)
    ·rw [if_pos c14] at H
     have c14b0 := eq_true c14
     have c14b1 : decide (0 ≤ (ji13)) = true := decide_eq_true c14
     clear c14
     obtain ⟨ji15, hji15⟩ : ∃ j_ : Int, (shr .i64 a3 (ji13)) = j_ := ⟨_, rfl⟩
     replace H : (if (t613 == ((ji15) == 1)) = true then (some 1) else (some 0)) = some r := by first | (rw [hji15] at H; exact H) | (simp only [hji15] at H ⊢; exact H)
     (try rw [hji15] at A12)
     have hji15_ : (a3 / 2 ^ min (ji13).toNat 64) = ji15 := hji15
     have hji15z : (ji13) ≤ 64 → (a3 / 2 ^ (ji13).toNat) = ji15 := shr_small hji15
     by_cases c16 : (t613 == ((ji15) == 1)) = true
     ·rw [if_pos c16] at H
      have c16b0 : (t613 == ((ji15) == 1)) = true := c16
      (try (have c16b1 : decide (t613 = ((ji15) == 1)) = true := by simpa using c16))
      (try (have c16b2 : (t613 == ((ji15) == 1)) = true := by simpa using c16))
      clear c16
      obtain rfl := Option.some.inj H
      try go_wp2
      have n0_ := Aside0.mk (below_drew1 HB.out)
      clear HB
      have HB := n0_
      clear n0_
      refine start_ (n := 11) (S := fun w' => True) (ds := []) #[false, false, false, false, false, false, false, false, false, false, false] (by kernel_rfl) rfl rfl trivial (fun hHeld => ?_); refine with_tabW spec_WordIn.tab3 spec_WordIn.bits3 (fun HT_ HW_ => ?_)
      generalize wc.drew = w17 at HB hHeld ⊢
      refine pure_ (i := 0) (N := some 25) (v := ?_) (a' := ?_) #[true, false, false, false, false, false, false, false, false, false, false] rfl rfl (any_of HT_.out (by kernel_rfl)) (fun _ _ _ h => h) (Or.inl ⟨by rfl, ?_⟩) ?_ ?_
      rotate_left
      ·intro w'
       go_simp
       with_reducible rfl
      rotate_left
      ·simp only [Act.put, List.setIfInBounds_toArray, List.set_cons_zero, List.set_cons_succ, i64_w, i32_w]
       rfl
      refine pure_ (i := 1) (N := some 26) (v := ?_) (a' := ?_) #[true, true, false, false, false, false, false, false, false, false, false] rfl rfl (any_of HT_.out (by kernel_rfl)) (fun _ _ _ h => h) (Or.inl ⟨by rfl, ?_⟩) ?_ ?_
      rotate_left
      ·intro w'
       go_simp
       with_reducible rfl
      rotate_left
      ·simp only [Act.put, List.setIfInBounds_toArray, List.set_cons_zero, List.set_cons_succ, i64_w, i32_w]
       rfl
      refine pure_ (i := 2) (N := some 27) (v := ?_) (a' := ?_) #[true, true, true, false, false, false, false, false, false, false, false] rfl rfl (any_of HT_.out (by kernel_rfl)) (fun _ _ _ h => h) (Or.inl ⟨by rfl, ?_⟩) ?_ ?_
      rotate_left
      ·intro w'
       go_simp
       with_reducible rfl
      rotate_left
      ·simp only [Act.put, List.setIfInBounds_toArray, List.set_cons_zero, List.set_cons_succ, i64_w, i32_w]
       rfl
      refine pure_ (i := 3) (N := some 28) (v := ?_) (a' := ?_) #[true, true, true, true, false, false, false, false, false, false, false] rfl rfl (any_of HT_.out (by kernel_rfl)) (fun _ _ _ h => h) (Or.inl ⟨by rfl, ?_⟩) ?_ ?_
      rotate_left
      ·intro w'
       go_simp
       with_reducible rfl
      rotate_left
      ·simp only [Act.put, List.setIfInBounds_toArray, List.set_cons_zero, List.set_cons_succ, i64_w, i32_w]
       rfl
      refine pure_ (i := 5) (N := some 30) (v := ?_) (a' := ?_) #[true, true, true, true, false, true, false, false, false, false, false] rfl rfl (any_of HT_.out (by kernel_rfl)) (fun _ _ _ h => h) (Or.inl ⟨by rfl, ?_⟩) ?_ ?_
      rotate_left
      ·intro w'
       go_simp
       with_reducible rfl
      rotate_left
      ·simp only [Act.put, List.setIfInBounds_toArray, List.set_cons_zero, List.set_cons_succ, i64_w, i32_w]
       rfl
      refine pure_ (i := 6) (N := some 31) (v := ?_) (a' := ?_) #[true, true, true, true, false, true, true, false, false, false, false] rfl rfl (any_of HT_.out (by kernel_rfl)) (fun _ _ _ h => h) (Or.inl ⟨by rfl, ?_⟩) ?_ ?_
      rotate_left
      ·intro w'
       go_simp
       with_reducible rfl
      rotate_left
      ·simp only [Act.put, List.setIfInBounds_toArray, List.set_cons_zero, List.set_cons_succ, i64_w, i32_w]
       rfl
      refine pure_ (i := 7) (N := some 32) (v := ?_) (a' := ?_) #[true, true, true, true, false, true, true, true, false, false, false] rfl rfl (any_of HT_.out (by kernel_rfl)) (fun _ _ _ h => h) (Or.inl ⟨by rfl, ?_⟩) ?_ ?_
      rotate_left
      ·intro w'
       go_simp
       with_reducible rfl
      rotate_left
      ·simp only [Act.put, List.setIfInBounds_toArray, List.set_cons_zero, List.set_cons_succ, i64_w, i32_w]
       rfl
      refine pure_ (i := 8) (N := some 33) (v := ?_) (a' := ?_) #[true, true, true, true, false, true, true, true, true, false, false] rfl rfl (any_of HT_.out (by kernel_rfl)) (fun _ _ _ h => h) (Or.inl ⟨by rfl, ?_⟩) ?_ ?_
      rotate_left
      ·intro w'
       go_simp
       with_reducible rfl
      rotate_left
      ·simp only [Act.put, List.setIfInBounds_toArray, List.set_cons_zero, List.set_cons_succ, i64_w, i32_w]
       rfl
      refine pure_ (i := 9) (N := some 34) (v := ?_) (a' := ?_) #[true, true, true, true, false, true, true, true, true, true, false] rfl rfl (any_of HT_.out (by kernel_rfl)) (fun _ _ _ h => h) (Or.inl ⟨by rfl, ?_⟩) ?_ ?_
      rotate_left
      ·intro w'
       go_simp
       with_reducible rfl
      rotate_left
      ·simp only [Act.put, List.setIfInBounds_toArray, List.set_cons_zero, List.set_cons_succ, i64_w, i32_w]
       rfl
      refine one_ (i := 4) (N := some 29) #[true, true, true, true, true, true, true, true, true, true, false] rfl rfl (one_of HT_.out (by kernel_rfl)) (by decide) (fun K hK => ?_)
      refine goes_ Try.func99 (by kernel_rfl) rfl #[.agg #[.int .i64 a1, .slice A2 l2.length c2], .int .i64 a3] (by rfl) rfl rfl (by (try simp only [List.map_toArray, List.map_cons, List.map_nil]); first | done | rfl | (simp only [List.length_drop, List.length_take]; rfl)) ?_
      with_reducible refine (spec_l4May.calls kj4 a1 _ _ l2 a3 t613 _ ?side1 ?side2 A12.out).mono ?_
      (case side1 => repeat (first | exact (Kd.C_below HR2.out HB.out) | (with_reducible refine Kd.C_alloc ?_ _) | (with_reducible refine Kd.C_drewN ?_ _) | (with_reducible refine Kd.C_drew ?_)))
      (case side2 => exact HC2.out)
      rintro e w18 ⟨rfl, hb⟩
      refine ⟨_, rfl, ?_⟩
      have n0_ := Aside0.mk (below_step (by repeat (first | (with_reducible first | exact HB.out | apply below_alloc | apply pw_below_drewN | apply below_drew1) | exact HB.out)) hb)
      clear HB
      have HB := n0_
      clear n0_
      (try clear hb)
      (try clear hb2)
      (try clear hk)
      (try clear hi)
      refine hK.out _ _ trivial (fun hHeld => ?_)
      clear hK K
      refine norm_ (a' := ?_) ?_ ?_
      rotate_left
      ·show Act.put _ (some 29) _ = _
       simp only [Act.put, List.setIfInBounds_toArray, List.set_cons_zero, List.set_cons_succ, i64_w, i32_w]
       rfl
      refine pure_ (i := 10) (N := some 35) (v := ?_) (a' := ?_) #[true, true, true, true, true, true, true, true, true, true, true] rfl rfl (any_of HT_.out (by kernel_rfl)) (fun _ _ _ h => h) (Or.inl ⟨by rfl, ?_⟩) ?_ ?_
      rotate_left
      ·intro w'
       go_simp
       with_reducible rfl
      rotate_left
      ·simp only [Act.put, List.setIfInBounds_toArray, List.set_cons_zero, List.set_cons_succ, i64_w, i32_w]
       rfl
      refine done_ (done_of HT_.out (by kernel_rfl)) ?_
      try go_wp2
      go_ret
      exact ⟨by first | rfl | (simp [errW_none, errW_some] <;> rfl) | (simp only [← hji13, ← hji15]; first | rfl | (simp [errW_none, errW_some] <;> rfl)) | (simp [*, errW_none, errW_some] <;> rfl), by repeat (first | (with_reducible first | exact HB.out | apply below_alloc | apply pw_below_drewN | apply below_drew1) | exact HB.out)⟩
     ·rw [if_neg c16] at H
      have c16b0 : (t613 == ((ji15) == 1)) = false := by simpa using c16
      (try (have c16b1 : decide (t613 = ((ji15) == 1)) = false := by simpa using c16))
      (try (have c16b2 : (t613 == ((ji15) == 1)) = false := by simpa using c16))
      (try (have c16b3 : ¬ (t613 = ((ji15) == 1)) := by simpa using c16))
      clear c16
      obtain rfl := Option.some.inj H
      try go_wp2
      have n0_ := Aside0.mk (below_drew1 HB.out)
      clear HB
      have HB := n0_
      clear n0_
      refine start_ (n := 11) (S := fun w' => True) (ds := []) #[false, false, false, false, false, false, false, false, false, false, false] (by kernel_rfl) rfl rfl trivial (fun hHeld => ?_); refine with_tabW spec_WordIn.tab3 spec_WordIn.bits3 (fun HT_ HW_ => ?_)
      generalize wc.drew = w19 at HB hHeld ⊢
      refine pure_ (i := 0) (N := some 25) (v := ?_) (a' := ?_) #[true, false, false, false, false, false, false, false, false, false, false] rfl rfl (any_of HT_.out (by kernel_rfl)) (fun _ _ _ h => h) (Or.inl ⟨by rfl, ?_⟩) ?_ ?_
      rotate_left
      ·intro w'
       go_simp
       with_reducible rfl
      rotate_left
      ·simp only [Act.put, List.setIfInBounds_toArray, List.set_cons_zero, List.set_cons_succ, i64_w, i32_w]
       rfl
      refine pure_ (i := 1) (N := some 26) (v := ?_) (a' := ?_) #[true, true, false, false, false, false, false, false, false, false, false] rfl rfl (any_of HT_.out (by kernel_rfl)) (fun _ _ _ h => h) (Or.inl ⟨by rfl, ?_⟩) ?_ ?_
      rotate_left
      ·intro w'
       go_simp
       with_reducible rfl
      rotate_left
      ·simp only [Act.put, List.setIfInBounds_toArray, List.set_cons_zero, List.set_cons_succ, i64_w, i32_w]
       rfl
      refine pure_ (i := 2) (N := some 27) (v := ?_) (a' := ?_) #[true, true, true, false, false, false, false, false, false, false, false] rfl rfl (any_of HT_.out (by kernel_rfl)) (fun _ _ _ h => h) (Or.inl ⟨by rfl, ?_⟩) ?_ ?_
      rotate_left
      ·intro w'
       go_simp
       with_reducible rfl
      rotate_left
      ·simp only [Act.put, List.setIfInBounds_toArray, List.set_cons_zero, List.set_cons_succ, i64_w, i32_w]
       rfl
      refine pure_ (i := 3) (N := some 28) (v := ?_) (a' := ?_) #[true, true, true, true, false, false, false, false, false, false, false] rfl rfl (any_of HT_.out (by kernel_rfl)) (fun _ _ _ h => h) (Or.inl ⟨by rfl, ?_⟩) ?_ ?_
      rotate_left
      ·intro w'
       go_simp
       with_reducible rfl
      rotate_left
      ·simp only [Act.put, List.setIfInBounds_toArray, List.set_cons_zero, List.set_cons_succ, i64_w, i32_w]
       rfl
      refine pure_ (i := 5) (N := some 30) (v := ?_) (a' := ?_) #[true, true, true, true, false, true, false, false, false, false, false] rfl rfl (any_of HT_.out (by kernel_rfl)) (fun _ _ _ h => h) (Or.inl ⟨by rfl, ?_⟩) ?_ ?_
      rotate_left
      ·intro w'
       go_simp
       with_reducible rfl
      rotate_left
      ·simp only [Act.put, List.setIfInBounds_toArray, List.set_cons_zero, List.set_cons_succ, i64_w, i32_w]
       rfl
      refine pure_ (i := 6) (N := some 31) (v := ?_) (a' := ?_) #[true, true, true, true, false, true, true, false, false, false, false] rfl rfl (any_of HT_.out (by kernel_rfl)) (fun _ _ _ h => h) (Or.inl ⟨by rfl, ?_⟩) ?_ ?_
      rotate_left
      ·intro w'
       go_simp
       with_reducible rfl
      rotate_left
      ·simp only [Act.put, List.setIfInBounds_toArray, List.set_cons_zero, List.set_cons_succ, i64_w, i32_w]
       rfl
      refine pure_ (i := 7) (N := some 32) (v := ?_) (a' := ?_) #[true, true, true, true, false, true, true, true, false, false, false] rfl rfl (any_of HT_.out (by kernel_rfl)) (fun _ _ _ h => h) (Or.inl ⟨by rfl, ?_⟩) ?_ ?_
      rotate_left
      ·intro w'
       go_simp
       with_reducible rfl
      rotate_left
      ·simp only [Act.put, List.setIfInBounds_toArray, List.set_cons_zero, List.set_cons_succ, i64_w, i32_w]
       rfl
      refine pure_ (i := 8) (N := some 33) (v := ?_) (a' := ?_) #[true, true, true, true, false, true, true, true, true, false, false] rfl rfl (any_of HT_.out (by kernel_rfl)) (fun _ _ _ h => h) (Or.inl ⟨by rfl, ?_⟩) ?_ ?_
      rotate_left
      ·intro w'
       go_simp
       with_reducible rfl
      rotate_left
      ·simp only [Act.put, List.setIfInBounds_toArray, List.set_cons_zero, List.set_cons_succ, i64_w, i32_w]
       rfl
      refine pure_ (i := 9) (N := some 34) (v := ?_) (a' := ?_) #[true, true, true, true, false, true, true, true, true, true, false] rfl rfl (any_of HT_.out (by kernel_rfl)) (fun _ _ _ h => h) (Or.inl ⟨by rfl, ?_⟩) ?_ ?_
      rotate_left
      ·intro w'
       go_simp
       with_reducible rfl
      rotate_left
      ·simp only [Act.put, List.setIfInBounds_toArray, List.set_cons_zero, List.set_cons_succ, i64_w, i32_w]
       rfl
      refine one_ (i := 4) (N := some 29) #[true, true, true, true, true, true, true, true, true, true, false] rfl rfl (one_of HT_.out (by kernel_rfl)) (by decide) (fun K hK => ?_)
      refine goes_ Try.func99 (by kernel_rfl) rfl #[.agg #[.int .i64 a1, .slice A2 l2.length c2], .int .i64 a3] (by rfl) rfl rfl (by (try simp only [List.map_toArray, List.map_cons, List.map_nil]); first | done | rfl | (simp only [List.length_drop, List.length_take]; rfl)) ?_
      with_reducible refine (spec_l4May.calls kj4 a1 _ _ l2 a3 t613 _ ?side1 ?side2 A12.out).mono ?_
      (case side1 => repeat (first | exact (Kd.C_below HR2.out HB.out) | (with_reducible refine Kd.C_alloc ?_ _) | (with_reducible refine Kd.C_drewN ?_ _) | (with_reducible refine Kd.C_drew ?_)))
      (case side2 => exact HC2.out)
      rintro e w20 ⟨rfl, hb⟩
      refine ⟨_, rfl, ?_⟩
      have n0_ := Aside0.mk (below_step (by repeat (first | (with_reducible first | exact HB.out | apply below_alloc | apply pw_below_drewN | apply below_drew1) | exact HB.out)) hb)
      clear HB
      have HB := n0_
      clear n0_
      (try clear hb)
      (try clear hb2)
      (try clear hk)
      (try clear hi)
      refine hK.out _ _ trivial (fun hHeld => ?_)
      clear hK K
      refine norm_ (a' := ?_) ?_ ?_
      rotate_left
      ·show Act.put _ (some 29) _ = _
       simp only [Act.put, List.setIfInBounds_toArray, List.set_cons_zero, List.set_cons_succ, i64_w, i32_w]
       rfl
      refine pure_ (i := 10) (N := some 35) (v := ?_) (a' := ?_) #[true, true, true, true, true, true, true, true, true, true, true] rfl rfl (any_of HT_.out (by kernel_rfl)) (fun _ _ _ h => h) (Or.inl ⟨by rfl, ?_⟩) ?_ ?_
      rotate_left
      ·intro w'
       go_simp
       with_reducible rfl
      rotate_left
      ·simp only [Act.put, List.setIfInBounds_toArray, List.set_cons_zero, List.set_cons_succ, i64_w, i32_w]
       rfl
      refine done_ (done_of HT_.out (by kernel_rfl)) ?_
      try go_wp2
      go_ret
      exact ⟨by first | rfl | (simp [errW_none, errW_some] <;> rfl) | (simp only [← hji13, ← hji15]; first | rfl | (simp [errW_none, errW_some] <;> rfl)) | (simp [*, errW_none, errW_some] <;> rfl), by repeat (first | (with_reducible first | exact HB.out | apply below_alloc | apply pw_below_drewN | apply below_drew1) | exact HB.out)⟩
    ·rw [if_neg c14] at H
     exact absurd H (by simp)

end Go.Proofs.Ytpampekijfjlkaa.X

/- Plain laws of words in a strange language. -/
namespace Go.Proofs.Ytpampekijfjlkaa.L
open Go.RowKit Go.Proofs.Ytpampekijfjlkaa.X Go.Proofs.YtpampekijfjlkaaW.PrintWords Go.Proofs.YtpampekijfjlkaaW.PrintLast Go.Proofs.YtpampekijfjlkaaW.PrintMore

/-- What the word means, and whether it is said. -/
noncomputable def word (p i : Int) (t : List M) (w : Int) : Int :=
 if 2 ≤ p ∧ i < p - 1 ∧ 0 ≤ i ∧ wok p w = true ∧ tok p t = true then (if (may i t w.toNat == w.toNat.testBit (p.toNat - 1)) = true then 1 else 0) else -1
theorem top_fin : ∀ w : Fin 16, ∀ q : Fin 4, w.val < 2 ^ (q.val + 1) → (shr .i64 ((w.val : Nat) : Int) ((q.val : Nat) : Int) == 1) = w.val.testBit q.val := by decide +kernel
theorem bitI_fin : ∀ w : Fin 16, ∀ q : Fin 4, Go.bits .and .i64 (shr .i64 ((w.val : Nat) : Int) ((q.val : Nat) : Int)) 1 = if w.val.testBit q.val = true then 1 else 0 := by decide +kernel
theorem impl_Word_ev (p i : Int) (t : List M) (w : Int) (hp : -9223372036854775808 ≤ p ∧ p ≤ 9223372036854775807) : Ev (fun k => impl_WordIn.f k p i t w) (word p i t w) := by
 unfold impl_WordIn.f
 have no : ¬ (2 ≤ p ∧ i < p - 1 ∧ 0 ≤ i ∧ wok p w = true ∧ tok p t = true) → Ev (fun k => impl_WordIn.j0 k p i t w true) (word p i t w) := by
  intro h
  rw [show word p i t w = -1 from if_neg h]
  refine Ev.step (fun k => by simp only [impl_WordIn.j0]; rfl) ?_
  exact Ev.yes (by simp) (Ev.some _)
 by_cases h2 : p < 2
 ·exact Ev.yes h2 (no (by omega))
 refine Ev.no h2 ?_
 rw [w64 (by omega) (by omega)]
 by_cases h1 : i = p - 1
 ·rw [show (i == p - 1) = true from beq_iff_eq.2 h1]
  exact no (by omega)
 rw [show (i == p - 1) = false from beq_eq_false_iff_ne.2 h1]
 refine Ev.step (fun k => by simp only [impl_WordIn.j0]; rfl) ?_
 refine Ev.no (by simp) (Ev.bind (impl_Answer_ev p i t w) ?_)
 by_cases ha : wok p w = true ∧ tok p t = true ∧ 0 ≤ i ∧ i < p
 ·rw [answer_in ha]
  obtain ⟨v, rfl, hv, hv2⟩ := wok_nat ha.1
  obtain ⟨hp0, hp1, _⟩ := tok_iff.1 ha.2.1
  obtain ⟨q, rfl, hq1, hq, hq2, e⟩ := people_nat hp0 hp1
  rw [w64 (by omega) (by omega), show ((q : Int) - 1) = ((q - 1 : Nat) : Int) by omega, bitI_fin ⟨v, hv⟩ ⟨q - 1, by omega⟩]
  rw [show word (q : Int) i t (v : Int) = if (may i t (v : Int).toNat == (v : Int).toNat.testBit ((q : Int).toNat - 1)) = true then 1 else 0 from if_pos ⟨by omega, by omega, by omega, ha.1, ha.2.1⟩]
  simp only [Int.toNat_natCast]
  by_cases e1 : may i t v = true <;> by_cases e2 : v.testBit (q - 1) = true
  ·simp only [e1, e2, if_true]
   exact Ev.no (by simp) (Ev.yes (by omega) (Ev.cast (Ev.some _) (by simp)))
  ·rw [Bool.not_eq_true] at e2
   simp only [e1, e2, if_true, Bool.false_eq_true, if_false]
   exact Ev.no (by simp) (Ev.yes (by omega) (Ev.cast (Ev.some _) (by simp)))
  ·rw [Bool.not_eq_true] at e1
   simp only [e1, e2, if_true, Bool.false_eq_true, if_false]
   exact Ev.no (by simp) (Ev.yes (by omega) (Ev.cast (Ev.some _) (by simp)))
  ·rw [Bool.not_eq_true] at e1 e2
   simp only [e1, e2, Bool.false_eq_true, if_false]
   exact Ev.no (by simp) (Ev.yes (by omega) (Ev.cast (Ev.some _) (by simp)))
 ·rw [answer_out ha]
  exact Ev.yes (by omega) (Ev.cast (Ev.some _) (if_neg (fun h => ha ⟨h.2.2.2.1, h.2.2.2.2, h.2.2.1, by omega⟩)).symm)
theorem spec_Word_ev (p i : Int) (t : List M) (w : Int) (hp : -9223372036854775808 ≤ p ∧ p ≤ 9223372036854775807) (hl : t.length ≤ 4611686018427387904) (htw : ∀ m ∈ t, m.f1 ≤ 9223372036854775807) : Ev (fun k => spec_WordIn.f k p i t w) (word p i t w) := by
 unfold spec_WordIn.f spec_l8Ok.f
 have no : ¬ (2 ≤ p ∧ i < p - 1 ∧ 0 ≤ i ∧ wok p w = true ∧ tok p t = true) → Ev (fun k => spec_WordIn.j0 k p i t w true) (word p i t w) := by
  intro h
  rw [show word p i t w = -1 from if_neg h]
  refine Ev.step (fun k => by simp only [spec_WordIn.j0]; rfl) ?_
  exact Ev.yes (by simp) (Ev.some _)
 simp only [l1In_eq, spec_WorldOk_eq, Option.bind_some]
 by_cases h2 : 2 ≤ p ∧ p ≤ 4
 ·rw [decide_eq_true h2, w64 (by omega) (by omega)]
  simp only [if_true, Option.bind_some]
  by_cases h1 : 0 ≤ i ∧ i ≤ p - 2
  ·refine Ev.yes (decide_eq_true h1) (Ev.bind (spec_TermOk_ev p t hl htw) ?_)
   by_cases hk : tok p t = true
   ·refine Ev.yes hk ?_
    by_cases hw : wok p w = true
    ·rw [hw]
     obtain ⟨v, rfl, hv, hv2⟩ := wok_nat hw
     obtain ⟨q, rfl, hq1, hq, hq2, e⟩ := people_nat (p := p) (by omega) h2.2
     refine Ev.step (fun k => by simp only [spec_WordIn.j0]; rfl) ?_
     rw [w64 (by omega) (by omega), show ((q : Int) - 1) = ((q - 1 : Nat) : Int) by omega]
     refine Ev.no (by simp) (Ev.bind (spec_may_ev hk h1.1 (by omega) hv) (Ev.yes (by omega) ?_))
     rw [top_fin ⟨v, hv⟩ ⟨q - 1, by omega⟩ (by rw [e] at hv2; rw [Nat.sub_add_cancel hq1]; exact hv2)]
     rw [show word (q : Int) i t (v : Int) = if (may i t (v : Int).toNat == (v : Int).toNat.testBit ((q : Int).toNat - 1)) = true then 1 else 0 from if_pos ⟨by omega, by omega, by omega, hw, hk⟩]
     simp only [Int.toNat_natCast]
     by_cases hm : (may i t v == v.testBit (q - 1)) = true
     ·exact Ev.yes hm (Ev.cast (Ev.some _) (if_pos hm).symm)
     ·exact Ev.no hm (Ev.cast (Ev.some _) (if_neg hm).symm)
    ·rw [Bool.not_eq_true] at hw
     rw [hw]
     exact no (fun h => by rw [hw] at h; exact absurd h.2.2.2.1 (by simp))
   ·exact Ev.no hk (no (fun h => hk h.2.2.2.2))
  ·exact Ev.no (by simpa using h1) (no (by omega))
 ·rw [decide_eq_false h2]
  refine no (fun h => ?_)
  have := tok_iff.1 h.2.2.2.2
  omega
end Go.Proofs.Ytpampekijfjlkaa.L

/- Plain laws of the laws' own comparing of rows of marks, and that the program lives. -/
namespace Go.Proofs.Ytpampekijfjlkaa.L
open Go.RowKit Go.Proofs.Ytpampekijfjlkaa.X Go.Proofs.YtpampekijfjlkaaW.PrintWords Go.Proofs.YtpampekijfjlkaaW.PrintLast Go.Proofs.YtpampekijfjlkaaW.PrintMore

theorem sameMarks_l0 (l : List M) (hl : l.length ≤ 4611686018427387904) : ∀ (suf pre : List M), l = pre ++ suf → Ev (fun k => laws_sameMarks.l0 k l l ((pre.length : Nat) : Int)) true := by
 intro suf
 induction suf with
 | nil =>
  intro pre he
  have hle : l.length = pre.length := by rw [he]; simp
  refine Ev.step (fun k => by simp only [laws_sameMarks.l0]; rfl) ?_
  exact Ev.no (by omega) (Ev.some _)
 | cons m t ih =>
  intro pre he
  have hle : l.length = pre.length + (t.length + 1) := by rw [he]; simp
  have hnext : wrap64 (((pre.length : Nat) : Int) + 1) = (((pre ++ [m]).length : Nat) : Int) := by rw [w64 (by omega) (by omega)]; simp
  refine Ev.step (fun k => by simp only [laws_sameMarks.l0]; rfl) ?_
  refine Ev.yes (by omega) (Ev.yes (by omega) (Ev.yes (by omega) (Ev.no (by simp) ?_)))
  rw [hnext]
  exact ih (pre ++ [m]) (by rw [he]; simp)
theorem sameMarks_ev (l : List M) (hl : l.length ≤ 4611686018427387904) : Ev (fun k => laws_sameMarks.f k l l) true := by
 unfold laws_sameMarks.f
 exact Ev.yes rfl (sameMarks_l0 l hl l [] rfl)
theorem alive_eq : laws_alive.f = some true := by decide +kernel
end Go.Proofs.Ytpampekijfjlkaa.L
