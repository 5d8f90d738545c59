/- Joined by a program of this session's: X36, X37, X38. -/
import Derived.Test.YtpampekijfjlkabG03dc10d352

-- printed by a program of this session's (xprint)
namespace Go.Proofs.Ytpampekijfjlkab.X
open Go.RowKit Go.Proofs.YtpampekijfjlkabW.PrintWords Go.Proofs.YtpampekijfjlkabW.PrintLast Go.Proofs.YtpampekijfjlkabW.PrintMore
attribute [local go_sem] max2_int min2_int max_two min_two max_three min_three max_four min_four   -- for this text's walks alone
set_option linter.unusedVariables false
set_option linter.unusedSimpArgs false

/-! ### spec_l1Heads: function 113 -/
def spec_l1Heads.l0 : Nat → Int → Int → Option (Int)
 | 0, _, _ => none
 | k + 1, x0, x3 => if x0 > 0 then (spec_l1Heads.l0 k (wrap64 (Int.tdiv x0 2)) (wrap64 (x3 + (Int.tmod x0 2)))) else (some x3)
def spec_l1Heads.f (k : Nat) (a0 : Int) : Option (Int) := spec_l1Heads.l0 k a0 0
theorem spec_l1Heads.mono_l : ∀ k, (∀ y0 y1, LeO (spec_l1Heads.l0 k y0 y1) (spec_l1Heads.l0 (k + 1) y0 y1))
 | 0 => fun _ _ r h => by simp [spec_l1Heads.l0] at h
 | k + 1 => by
  have ih0 := spec_l1Heads.mono_l k
  ·intro y0 y1
   unfold spec_l1Heads.l0
   repeat' first
   | (with_reducible exact ih0 _ _)
   | (with_reducible exact LeO.refl _)
   | (with_reducible exact LeO.none _)
   | (with_reducible refine LeO.ite ?_ ?_)
   | (with_reducible refine LeO.bind ?_ (fun _ => ?_))
   | exact ih0 _ _
   | exact LeO.none _
   | refine LeO.ite ?_ ?_
   | refine LeO.bind ?_ (fun _ => ?_)
theorem spec_l1Heads.mono : ∀ a0 k, LeO (spec_l1Heads.f k a0) (spec_l1Heads.f (k + 1) a0) := by
 intro a0 k
 have ih0 := spec_l1Heads.mono_l k
 unfold spec_l1Heads.f
 repeat' first
   | (with_reducible exact ih0 _ _)
   | (with_reducible exact LeO.refl _)
   | (with_reducible exact LeO.none _)
   | (with_reducible refine LeO.ite ?_ ?_)
   | (with_reducible refine LeO.bind ?_ (fun _ => ?_))
   | exact ih0 _ _
   | exact LeO.none _
   | refine LeO.ite ?_ ?_
   | refine LeO.bind ?_ (fun _ => ?_)
set_option maxHeartbeats 8000000 in
set_option maxRecDepth 100000 in
theorem spec_l1Heads.calls (k : Nat) (a0 : Int) (r : Int) (w : World) (h : spec_l1Heads.f k a0 = some r) :
  Calls Try.prog 113 #[.int .i64 a0] w fun e w' => e = .returned (.int .i64 r) ∧ Drawn0 w w' := by
 have H : (spec_l1Heads.l0 k a0 0) = some r := h
 clear h
 have H' := Aside0.mk H
 clear H
 go_enter Try.func113, Try.ntmps113
 go_wp2
 go_loopg [0, 3] k (fun kq v0 v3 w' => ∃ (x0_1 : Int) (x3_1 : Int), v0 = .int .i64 x0_1 ∧ v3 = .int .i64 x3_1 ∧ Aside0 (spec_l1Heads.l0 kq x0_1 x3_1 = some r) ∧ Aside0 (kq ≤ k) ∧ Drawn0 w w')
 case atStart => exact ⟨(a0), (0), (by first | rfl | (simp; done) | (simp [*]; done)), (by first | rfl | (simp; done) | (simp [*]; done)), H', ⟨Nat.le_refl _⟩, by repeat (first | exact Drawn0.refl _ | apply Drawn0.step)⟩
 case round =>
  clear H'
  try clear c1
  obtain ⟨x0_1, x3_1, rfl, rfl, HA, HK1, ⟨m1, rfl⟩⟩ := hrel
  cases gk with
  | zero => exact absurd HA.out (by simp [spec_l1Heads.l0])
  | succ k1 =>
   have H := HA.out
   clear HA
   simp only [spec_l1Heads.l0] at H
   by_cases c2 : x0_1 > 0
   ·rw [if_pos c2] at H
    have c2b0 : decide (0 < x0_1) = true := decide_eq_true c2
    clear c2
    have H' := Aside0.mk H
    clear H
    go_wp2
    go_roundg k1
    case measure => have := HK1.out; omega
    case rel => exact ⟨(wrap64 (Int.tdiv x0_1 2)), (wrap64 (x3_1 + (Int.tmod x0_1 2))), (by first | rfl | (simp; done) | (simp [*]; done)), (by first | rfl | (simp; done) | (simp [*]; done)), H', ⟨by have := HK1.out; omega⟩, by repeat (first | exact Drawn0.refl _ | apply Drawn0.step)⟩
   ·rw [if_neg c2] at H
    have c2b0 : decide (0 < x0_1) = false := decide_eq_false c2
    clear c2
    obtain rfl := Option.some.inj H
    go_wp2
    go_ret
    exact ⟨by first | rfl | (simp; done) | (simp [*]; done), by repeat (first | exact Drawn0.refl _ | apply Drawn0.step)⟩

end Go.Proofs.Ytpampekijfjlkab.X

-- printed by a program of this session's (xprint)
namespace Go.Proofs.Ytpampekijfjlkab.X
open Go.RowKit Go.Proofs.YtpampekijfjlkabW.PrintWords Go.Proofs.YtpampekijfjlkabW.PrintLast Go.Proofs.YtpampekijfjlkabW.PrintMore
attribute [local go_sem] max2_int min2_int max_two min_two max_three min_three max_four min_four   -- for this text's walks alone
set_option linter.unusedVariables false
set_option linter.unusedSimpArgs false

/-! ### spec_l2Starts: function 148 -/
def spec_l2Starts.l0 : Nat → List (S33) → Int → Int → Option (Int)
 | 0, _, _, _ => none
 | k + 1, x0, x5, x6 => if x5 > 0 then (if 0 ≤ x6 then (if x6 < (x0.length : Int) then (if ((rd_T33 x0 x6).f0) ≤ 1 then (spec_l2Starts.l0 k x0 (wrap64 (x5 - 1)) (wrap64 (x6 - 1))) else (if ((rd_T33 x0 x6).f0) > 2 then (spec_l2Starts.l0 k x0 (wrap64 (x5 + 1)) (wrap64 (x6 - 1))) else (spec_l2Starts.l0 k x0 x5 (wrap64 (x6 - 1))))) else (none)) else (none)) else (some (wrap64 (x6 + 1)))
def spec_l2Starts.f (k : Nat) (l0 : List (S33)) (a1 : Int) : Option (Int) := spec_l2Starts.l0 k l0 1 a1
theorem spec_l2Starts.mono_l : ∀ k, (∀ y0 y1 y2, LeO (spec_l2Starts.l0 k y0 y1 y2) (spec_l2Starts.l0 (k + 1) y0 y1 y2))
 | 0 => fun _ _ _ r h => by simp [spec_l2Starts.l0] at h
 | k + 1 => by
  have ih0 := spec_l2Starts.mono_l k
  ·intro y0 y1 y2
   unfold spec_l2Starts.l0
   repeat' first
   | (with_reducible exact ih0 _ _ _)
   | (with_reducible exact LeO.refl _)
   | (with_reducible exact LeO.none _)
   | (with_reducible refine LeO.ite ?_ ?_)
   | (with_reducible refine LeO.bind ?_ (fun _ => ?_))
   | exact ih0 _ _ _
   | exact LeO.none _
   | refine LeO.ite ?_ ?_
   | refine LeO.bind ?_ (fun _ => ?_)
theorem spec_l2Starts.mono : ∀ a0 a1 k, LeO (spec_l2Starts.f k a0 a1) (spec_l2Starts.f (k + 1) a0 a1) := by
 intro a0 a1 k
 have ih0 := spec_l2Starts.mono_l k
 unfold spec_l2Starts.f
 repeat' first
   | (with_reducible exact ih0 _ _ _)
   | (with_reducible exact LeO.refl _)
   | (with_reducible exact LeO.none _)
   | (with_reducible refine LeO.ite ?_ ?_)
   | (with_reducible refine LeO.bind ?_ (fun _ => ?_))
   | exact ih0 _ _ _
   | exact LeO.none _
   | refine LeO.ite ?_ ?_
   | refine LeO.bind ?_ (fun _ => ?_)
set_option maxHeartbeats 8000000 in
set_option maxRecDepth 100000 in
theorem spec_l2Starts.calls (k : Nat) (A0 : Option Addr) (c0 : Nat) (l0 : List (S33)) (a1 : Int) (r : Int) (w : World) (hr0 : Kd.C k33 w A0 l0.length l0) (hc0 : l0.length ≤ c0) (h : spec_l2Starts.f k l0 a1 = some r) :
  Calls Try.prog 148 #[.slice A0 l0.length c0, .int .i64 a1] w fun e w' => e = .returned (.int .i64 r) ∧ Drawn0 w w' := by
 have HR0 := Aside0.mk hr0
 have HC0 := Aside0.mk hc0
 clear hr0 hc0
 have H : (spec_l2Starts.l0 k l0 1 a1) = some r := h
 clear h
 have H' := Aside0.mk H
 clear H
 go_enter Try.func148, Try.ntmps148
 go_wp2
 go_loopg [5, 6] k (fun kq v5 v6 w' => ∃ (x5_1 : Int) (x6_1 : Int), v5 = .int .i64 x5_1 ∧ v6 = .int .i64 x6_1 ∧ Aside0 (spec_l2Starts.l0 kq l0 x5_1 x6_1 = some r) ∧ Aside0 (kq ≤ k) ∧ Drawn0 w w')
 case atStart => exact ⟨(1), (a1), (by first | rfl | (simp; done) | (simp [*]; done)), (by first | rfl | (simp; done) | (simp [*]; done)), H', ⟨Nat.le_refl _⟩, by repeat (first | exact Drawn0.refl _ | apply Drawn0.step)⟩
 case round =>
  clear H'
  try clear c1
  try clear p2
  obtain ⟨x5_1, x6_1, rfl, rfl, HA, HK1, ⟨m1, rfl⟩⟩ := hrel
  cases gk with
  | zero => exact absurd HA.out (by simp [spec_l2Starts.l0])
  | succ k1 =>
   have H := HA.out
   clear HA
   simp only [spec_l2Starts.l0] at H
   by_cases c3 : x5_1 > 0
   ·rw [if_pos c3] at H
    have c3b0 : decide (0 < x5_1) = true := decide_eq_true c3
    clear c3
    by_cases c4 : 0 ≤ x6_1
    ·rw [if_pos c4] at H
     have c4b0 : decide (0 ≤ x6_1) = true := decide_eq_true c4
     clear c4
     by_cases c5 : x6_1 < (l0.length : Int)
     ·rw [if_pos c5] at H
      have c5b0 : decide (x6_1 < (l0.length : Int)) = true := decide_eq_true c5
      clear c5
      by_cases c6 : ((rd_T33 l0 x6_1).f0) ≤ 1
      ·rw [if_pos c6] at H
       have c6b0 : decide (((rd_T33 l0 x6_1).f0) ≤ 1) = true := decide_eq_true c6
       clear c6
       have H' := Aside0.mk H
       clear H
       have p413 : 0 ≤ (x6_1 : Int) := of_decide_eq_true (by first | (with_reducible assumption) | assumption)
       have q413 : x6_1 < (l0.length : Int) := of_decide_eq_true (by first | (with_reducible assumption) | assumption)
       obtain ⟨ad413, e413, hx413_0, hx413_1⟩ := at_T33 HR0.out x6_1 p413 q413
       cases e413
       replace p413 := eq_true p413
       replace q413 := eq_true q413
       go_wp2
       go_roundg k1
       case measure => have := HK1.out; omega
       case rel => exact ⟨(wrap64 (x5_1 - 1)), (wrap64 (x6_1 - 1)), (by first | rfl | (simp; done) | (simp [*]; done)), (by first | rfl | (simp; done) | (simp [*]; done)), H', ⟨by have := HK1.out; omega⟩, by repeat (first | exact Drawn0.refl _ | apply Drawn0.step)⟩
      ·rw [if_neg c6] at H
       have c6b0 : decide (((rd_T33 l0 x6_1).f0) ≤ 1) = false := decide_eq_false c6
       clear c6
       by_cases c7 : ((rd_T33 l0 x6_1).f0) > 2
       ·rw [if_pos c7] at H
        have c7b0 : decide (2 < ((rd_T33 l0 x6_1).f0)) = true := decide_eq_true c7
        clear c7
        have H' := Aside0.mk H
        clear H
        have p413 : 0 ≤ (x6_1 : Int) := of_decide_eq_true (by first | (with_reducible assumption) | assumption)
        have q413 : x6_1 < (l0.length : Int) := of_decide_eq_true (by first | (with_reducible assumption) | assumption)
        obtain ⟨ad413, e413, hx413_0, hx413_1⟩ := at_T33 HR0.out x6_1 p413 q413
        cases e413
        replace p413 := eq_true p413
        replace q413 := eq_true q413
        have p414 : 0 ≤ (x6_1 : Int) := of_decide_eq_true (by first | (with_reducible assumption) | assumption)
        have q414 : x6_1 < (l0.length : Int) := of_decide_eq_true (by first | (with_reducible assumption) | assumption)
        obtain ⟨ad414, e414, hx414_0, hx414_1⟩ := at_T33 HR0.out x6_1 p414 q414
        obtain rfl : ad413 = ad414 := (by injection e414)
        replace p414 := eq_true p414
        replace q414 := eq_true q414
        go_wp2
        go_roundg k1
        case measure => have := HK1.out; omega
        case rel => exact ⟨(wrap64 (x5_1 + 1)), (wrap64 (x6_1 - 1)), (by first | rfl | (simp; done) | (simp [*]; done)), (by first | rfl | (simp; done) | (simp [*]; done)), H', ⟨by have := HK1.out; omega⟩, by repeat (first | exact Drawn0.refl _ | apply Drawn0.step)⟩
       ·rw [if_neg c7] at H
        have c7b0 : decide (2 < ((rd_T33 l0 x6_1).f0)) = false := decide_eq_false c7
        clear c7
        have H' := Aside0.mk H
        clear H
        have p413 : 0 ≤ (x6_1 : Int) := of_decide_eq_true (by first | (with_reducible assumption) | assumption)
        have q413 : x6_1 < (l0.length : Int) := of_decide_eq_true (by first | (with_reducible assumption) | assumption)
        obtain ⟨ad413, e413, hx413_0, hx413_1⟩ := at_T33 HR0.out x6_1 p413 q413
        cases e413
        replace p413 := eq_true p413
        replace q413 := eq_true q413
        have p414 : 0 ≤ (x6_1 : Int) := of_decide_eq_true (by first | (with_reducible assumption) | assumption)
        have q414 : x6_1 < (l0.length : Int) := of_decide_eq_true (by first | (with_reducible assumption) | assumption)
        obtain ⟨ad414, e414, hx414_0, hx414_1⟩ := at_T33 HR0.out x6_1 p414 q414
        obtain rfl : ad413 = ad414 := (by injection e414)
        replace p414 := eq_true p414
        replace q414 := eq_true q414
        go_wp2
        go_roundg k1
        case measure => have := HK1.out; omega
        case rel => exact ⟨(x5_1), (wrap64 (x6_1 - 1)), (by first | rfl | (simp; done) | (simp [*]; done)), (by first | rfl | (simp; done) | (simp [*]; done)), H', ⟨by have := HK1.out; omega⟩, by repeat (first | exact Drawn0.refl _ | apply Drawn0.step)⟩
     ·rw [if_neg c5] at H
      exact absurd H (by simp)
    ·rw [if_neg c4] at H
     exact absurd H (by simp)
   ·rw [if_neg c3] at H
    have c3b0 : decide (0 < x5_1) = false := decide_eq_false c3
    clear c3
    obtain rfl := Option.some.inj H
    go_wp2
    go_ret
    exact ⟨by first | rfl | (simp; done) | (simp [*]; done), by repeat (first | exact Drawn0.refl _ | apply Drawn0.step)⟩

end Go.Proofs.Ytpampekijfjlkab.X

-- printed by a program of this session's (xprint)
namespace Go.Proofs.Ytpampekijfjlkab.X
open Go.RowKit Go.Proofs.YtpampekijfjlkabW.PrintWords Go.Proofs.YtpampekijfjlkabW.PrintLast Go.Proofs.YtpampekijfjlkabW.PrintMore
attribute [local go_sem] max2_int min2_int max_two min_two max_three min_three max_four min_four   -- for this text's walks alone
set_option linter.unusedVariables false
set_option linter.unusedSimpArgs false

/-! ### spec_l3Holds: function 140 -/
def spec_l3Holds.f : Nat → List (S33) → Int → Option (Bool)
 | 0, _, _ => none
 | k + 1, l0, a1 => if 0 ≤ (wrap64 ((l0.length : Int) - 1)) then (if (wrap64 ((l0.length : Int) - 1)) < (l0.length : Int) then (if ((rd_T33 l0 (wrap64 ((l0.length : Int) - 1))).f0) = 0 then (if 0 ≤ ((rd_T33 l0 (wrap64 ((l0.length : Int) - 1))).f1) then (some ((Int.tmod (shr .i64 a1 ((rd_T33 l0 (wrap64 ((l0.length : Int) - 1))).f1)) 2) == 1)) else (none)) else (if ((rd_T33 l0 (wrap64 ((l0.length : Int) - 1))).f0) = 1 then ((spec_l1Heads.f k a1).bind fun t417 => (some (decide (t417 ≥ ((rd_T33 l0 (wrap64 ((l0.length : Int) - 1))).f1))))) else (if ((rd_T33 l0 (wrap64 ((l0.length : Int) - 1))).f0) = 2 then (if (wrap64 ((l0.length : Int) - 1)) ≤ (l0.length : Int) then ((spec_l3Holds.f k (l0.take ((wrap64 ((l0.length : Int) - 1)) : Int).toNat) a1).bind fun t423 => (some (!t423))) else (none)) else ((spec_l2Starts.f k l0 (wrap64 ((wrap64 ((l0.length : Int) - 1)) - 1))).bind fun t424 => (if 0 ≤ t424 then (if t424 ≤ (l0.length : Int) then ((spec_l3Holds.f k (l0.take (t424 : Int).toNat) a1).bind fun t429 => (if t424 ≤ (wrap64 ((l0.length : Int) - 1)) then (if (wrap64 ((l0.length : Int) - 1)) ≤ (l0.length : Int) then ((spec_l3Holds.f k ((l0.take ((wrap64 ((l0.length : Int) - 1)) : Int).toNat).drop (t424 : Int).toNat) a1).bind fun t434 => (if ((rd_T33 l0 (wrap64 ((l0.length : Int) - 1))).f0) = 3 then (if t429 = true then (some t434) else (some false)) else (if ((rd_T33 l0 (wrap64 ((l0.length : Int) - 1))).f0) = 4 then (if t429 = true then (some true) else (some t434)) else (some (t429 == t434))))) else (none)) else (none))) else (none)) else (none)))))) else (none)) else (none)
theorem spec_l3Holds.mono_l : ∀ k, (∀ y0 y1, LeO (spec_l3Holds.f k y0 y1) (spec_l3Holds.f (k + 1) y0 y1))
 | 0 => fun _ _ r h => by simp [spec_l3Holds.f] at h
 | k + 1 => by
  have ih0 := spec_l3Holds.mono_l k
  ·intro y0 y1
   unfold spec_l3Holds.f
   repeat' first
   | (with_reducible exact ih0 _ _)
   | (with_reducible exact spec_l1Heads.mono _ _)
   | (with_reducible exact spec_l2Starts.mono _ _ _)
   | (with_reducible exact LeO.refl _)
   | (with_reducible exact LeO.none _)
   | (with_reducible refine LeO.ite ?_ ?_)
   | (with_reducible refine LeO.bind ?_ (fun _ => ?_))
   | exact ih0 _ _
   | exact spec_l1Heads.mono _ _
   | exact spec_l2Starts.mono _ _ _
   | exact LeO.none _
   | refine LeO.ite ?_ ?_
   | refine LeO.bind ?_ (fun _ => ?_)
theorem spec_l3Holds.mono : ∀ a0 a1 k, LeO (spec_l3Holds.f k a0 a1) (spec_l3Holds.f (k + 1) a0 a1) := by
 intro a0 a1 k
 have ih0 := spec_l3Holds.mono_l k
 exact ih0 a0 a1
set_option maxHeartbeats 8000000 in
set_option maxRecDepth 100000 in
theorem spec_l3Holds.calls (k : Nat) : ∀ (A0 : Option Addr) (c0 : Nat) (l0 : List (S33)) (a1 : Int) (r : Bool) (w : World) (hr0 : Kd.C k33 w A0 l0.length l0) (hc0 : l0.length ≤ c0) (h : spec_l3Holds.f k l0 a1 = some r),
  Calls Try.prog 140 #[.slice A0 l0.length c0, .int .i64 a1] w fun e w' => e = .returned (.bool r) ∧ Drawn0 w w' := by
 induction k using Nat.strongRecOn with
 | _ k ih =>
 intro A0 c0 l0 a1 r w hr0 hc0 h
 cases k with
 | zero => exact absurd h (by simp [spec_l3Holds.f])
 | succ k =>
 simp only [spec_l3Holds.f] at h
 have HR0 := Aside0.mk hr0
 have HC0 := Aside0.mk hc0
 clear hr0 hc0
 have H : (if 0 ≤ (wrap64 ((l0.length : Int) - 1)) then (if (wrap64 ((l0.length : Int) - 1)) < (l0.length : Int) then (if ((rd_T33 l0 (wrap64 ((l0.length : Int) - 1))).f0) = 0 then (if 0 ≤ ((rd_T33 l0 (wrap64 ((l0.length : Int) - 1))).f1) then (some ((Int.tmod (shr .i64 a1 ((rd_T33 l0 (wrap64 ((l0.length : Int) - 1))).f1)) 2) == 1)) else (none)) else (if ((rd_T33 l0 (wrap64 ((l0.length : Int) - 1))).f0) = 1 then ((spec_l1Heads.f k a1).bind fun t417 => (some (decide (t417 ≥ ((rd_T33 l0 (wrap64 ((l0.length : Int) - 1))).f1))))) else (if ((rd_T33 l0 (wrap64 ((l0.length : Int) - 1))).f0) = 2 then (if (wrap64 ((l0.length : Int) - 1)) ≤ (l0.length : Int) then ((spec_l3Holds.f k (l0.take ((wrap64 ((l0.length : Int) - 1)) : Int).toNat) a1).bind fun t423 => (some (!t423))) else (none)) else ((spec_l2Starts.f k l0 (wrap64 ((wrap64 ((l0.length : Int) - 1)) - 1))).bind fun t424 => (if 0 ≤ t424 then (if t424 ≤ (l0.length : Int) then ((spec_l3Holds.f k (l0.take (t424 : Int).toNat) a1).bind fun t429 => (if t424 ≤ (wrap64 ((l0.length : Int) - 1)) then (if (wrap64 ((l0.length : Int) - 1)) ≤ (l0.length : Int) then ((spec_l3Holds.f k ((l0.take ((wrap64 ((l0.length : Int) - 1)) : Int).toNat).drop (t424 : Int).toNat) a1).bind fun t434 => (if ((rd_T33 l0 (wrap64 ((l0.length : Int) - 1))).f0) = 3 then (if t429 = true then (some t434) else (some false)) else (if ((rd_T33 l0 (wrap64 ((l0.length : Int) - 1))).f0) = 4 then (if t429 = true then (some true) else (some t434)) else (some (t429 == t434))))) else (none)) else (none))) else (none)) else (none)))))) else (none)) else (none)) = some r := h
 clear h
 obtain ⟨ji3, hji3⟩ : ∃ j_ : Int, (wrap64 ((l0.length : Int) - 1)) = j_ := ⟨_, rfl⟩
 replace H : (if 0 ≤ (ji3) then (if (ji3) < (l0.length : Int) then (if ((rd_T33 l0 (ji3)).f0) = 0 then (if 0 ≤ ((rd_T33 l0 (ji3)).f1) then (some ((Int.tmod (shr .i64 a1 ((rd_T33 l0 (ji3)).f1)) 2) == 1)) else (none)) else (if ((rd_T33 l0 (ji3)).f0) = 1 then ((spec_l1Heads.f k a1).bind fun t417 => (some (decide (t417 ≥ ((rd_T33 l0 (ji3)).f1))))) else (if ((rd_T33 l0 (ji3)).f0) = 2 then (if (ji3) ≤ (l0.length : Int) then ((spec_l3Holds.f k (l0.take ((ji3) : Int).toNat) a1).bind fun t423 => (some (!t423))) else (none)) else ((spec_l2Starts.f k l0 (wrap64 ((ji3) - 1))).bind fun t424 => (if 0 ≤ t424 then (if t424 ≤ (l0.length : Int) then ((spec_l3Holds.f k (l0.take (t424 : Int).toNat) a1).bind fun t429 => (if t424 ≤ (ji3) then (if (ji3) ≤ (l0.length : Int) then ((spec_l3Holds.f k ((l0.take ((ji3) : Int).toNat).drop (t424 : Int).toNat) a1).bind fun t434 => (if ((rd_T33 l0 (ji3)).f0) = 3 then (if t429 = true then (some t434) else (some false)) else (if ((rd_T33 l0 (ji3)).f0) = 4 then (if t429 = true then (some true) else (some t434)) else (some (t429 == t434))))) else (none)) else (none))) else (none)) else (none)))))) else (none)) else (none)) = some r := by first | (rw [hji3] at H; exact H) | (simp only [hji3] at H ⊢; exact H)
 have hji3w : (IntKind.i64.wrap ((l0.length : Int) - 1)) = ji3 := (i64_w _).trans hji3
 by_cases c4 : 0 ≤ (ji3)
 ·rw [if_pos c4] at H
  have c4b0 : decide (0 ≤ (ji3)) = true := decide_eq_true c4
  clear c4
  by_cases c5 : (ji3) < (l0.length : Int)
  ·rw [if_pos c5] at H
   have c5b0 : decide ((ji3) < (l0.length : Int)) = true := decide_eq_true c5
   clear c5
   by_cases c6 : ((rd_T33 l0 (ji3)).f0) = 0
   ·rw [if_pos c6] at H
    have c6b0 : (((rd_T33 l0 (ji3)).f0) == 0) = true := beq_iff_eq.mpr c6
    have c6b1 : (((rd_T33 l0 (ji3)).f0) != 0) = false := bne_eq_false_iff_eq.mpr c6
    clear c6
    by_cases c7 : 0 ≤ ((rd_T33 l0 (ji3)).f1)
    ·rw [if_pos c7] at H
     have c7b0 := eq_true c7
     have c7b1 : decide (0 ≤ ((rd_T33 l0 (ji3)).f1)) = true := decide_eq_true c7
     clear c7
     obtain ⟨ji8, hji8⟩ : ∃ j_ : Int, (shr .i64 a1 ((rd_T33 l0 (ji3)).f1)) = j_ := ⟨_, rfl⟩
     replace H : (some ((Int.tmod (ji8) 2) == 1)) = some r := by first | (rw [hji8] at H; exact H) | (simp only [hji8] at H ⊢; exact H)
     have hji8_ : (a1 / 2 ^ min ((rd_T33 l0 (ji3)).f1).toNat 64) = ji8 := hji8
     have hji8z : ((rd_T33 l0 (ji3)).f1) ≤ 64 → (a1 / 2 ^ ((rd_T33 l0 (ji3)).f1).toNat) = ji8 := shr_small hji8
     obtain rfl := Option.some.inj H
     have p415 : 0 ≤ ((ji3) : Int) := of_decide_eq_true (by first | (with_reducible assumption) | assumption)
     have q415 : (ji3) < (l0.length : Int) := of_decide_eq_true (by first | (with_reducible assumption) | assumption)
     obtain ⟨ad415, e415, hx415_0, hx415_1⟩ := at_T33 HR0.out (ji3) p415 q415
     cases e415
     replace p415 := eq_true p415
     replace q415 := eq_true q415
     have p416 : 0 ≤ ((ji3) : Int) := of_decide_eq_true (by first | (with_reducible assumption) | assumption)
     have q416 : (ji3) < (l0.length : Int) := of_decide_eq_true (by first | (with_reducible assumption) | assumption)
     obtain ⟨ad416, e416, hx416_0, hx416_1⟩ := at_T33 HR0.out (ji3) p416 q416
     obtain rfl : ad415 = ad416 := (by injection e416)
     replace p416 := eq_true p416
     replace q416 := eq_true q416
     go_enter Try.func140, Try.ntmps140
     go_wp2
     repeat (go_quiet (fail); try go_wp2)
     go_ret
     exact ⟨by first | rfl | (simp; done) | (simp only [← hji3, ← hji8] <;> (first | rfl | simp)) | (simp [*]; done), by repeat (first | exact Drawn0.refl _ | apply Drawn0.step)⟩
    ·rw [if_neg c7] at H
     exact absurd H (by simp)
   ·rw [if_neg c6] at H
    have c6b0 : (((rd_T33 l0 (ji3)).f0) == 0) = false := beq_eq_false_iff_ne.mpr c6
    have c6b1 : (((rd_T33 l0 (ji3)).f0) != 0) = true := bne_iff_ne.mpr c6
    by_cases c9 : ((rd_T33 l0 (ji3)).f0) = 1
    ·rw [if_pos c9] at H
     have c9b0 : (((rd_T33 l0 (ji3)).f0) == 1) = true := beq_iff_eq.mpr c9
     have c9b1 : (((rd_T33 l0 (ji3)).f0) != 1) = false := bne_eq_false_iff_eq.mpr c9
     clear c9
     replace H := Option.bind_eq_some_iff.mp H
     obtain ⟨t417, A100, H⟩ := H
     replace H : (some (decide (t417 ≥ ((rd_T33 l0 (ji3)).f1)))) = some r := H
     have A10 := Aside0.mk A100
     clear A100
     obtain rfl := Option.some.inj H
     have p415 : 0 ≤ ((ji3) : Int) := of_decide_eq_true (by first | (with_reducible assumption) | assumption)
     have q415 : (ji3) < (l0.length : Int) := of_decide_eq_true (by first | (with_reducible assumption) | assumption)
     obtain ⟨ad415, e415, hx415_0, hx415_1⟩ := at_T33 HR0.out (ji3) p415 q415
     cases e415
     replace p415 := eq_true p415
     replace q415 := eq_true q415
     go_enter Try.func140, Try.ntmps140
     go_wp2_with (first | (go_at_call 113; (with_reducible refine (spec_l1Heads.calls k a1 t417 _ A10.out).mono ?_); rintro e w' ⟨rfl, ⟨nd, rfl⟩⟩; (try first | exact ⟨rfl, _, World.drewN_drewN _ _ _⟩ | exact ⟨rfl, _, Eq.trans (World.drewN_drewN _ _ _) (congrArg (World.drewN _) (Nat.add_assoc _ _ _))⟩); have p418 : 0 ≤ ((ji3) : Int) := of_decide_eq_true (by first | (with_reducible assumption) | assumption); have q418 : (ji3) < (l0.length : Int) := of_decide_eq_true (by first | (with_reducible assumption) | assumption); obtain ⟨ad418, e418, hx418_0, hx418_1⟩ := at_T33 HR0.out (ji3) p418 q418; obtain rfl : ad415 = ad418 := (by injection e418); replace p418 := eq_true p418; replace q418 := eq_true q418))
     repeat (go_quiet (first | (go_at_call 113; (with_reducible refine (spec_l1Heads.calls k a1 t417 _ A10.out).mono ?_); rintro e w' ⟨rfl, ⟨nd, rfl⟩⟩; (try first | exact ⟨rfl, _, World.drewN_drewN _ _ _⟩ | exact ⟨rfl, _, Eq.trans (World.drewN_drewN _ _ _) (congrArg (World.drewN _) (Nat.add_assoc _ _ _))⟩); have p418 : 0 ≤ ((ji3) : Int) := of_decide_eq_true (by first | (with_reducible assumption) | assumption); have q418 : (ji3) < (l0.length : Int) := of_decide_eq_true (by first | (with_reducible assumption) | assumption); obtain ⟨ad418, e418, hx418_0, hx418_1⟩ := at_T33 HR0.out (ji3) p418 q418; obtain rfl : ad415 = ad418 := (by injection e418); replace p418 := eq_true p418; replace q418 := eq_true q418)); try go_wp2_with (first | (go_at_call 113; (with_reducible refine (spec_l1Heads.calls k a1 t417 _ A10.out).mono ?_); rintro e w' ⟨rfl, ⟨nd, rfl⟩⟩; (try first | exact ⟨rfl, _, World.drewN_drewN _ _ _⟩ | exact ⟨rfl, _, Eq.trans (World.drewN_drewN _ _ _) (congrArg (World.drewN _) (Nat.add_assoc _ _ _))⟩); have p418 : 0 ≤ ((ji3) : Int) := of_decide_eq_true (by first | (with_reducible assumption) | assumption); have q418 : (ji3) < (l0.length : Int) := of_decide_eq_true (by first | (with_reducible assumption) | assumption); obtain ⟨ad418, e418, hx418_0, hx418_1⟩ := at_T33 HR0.out (ji3) p418 q418; obtain rfl : ad415 = ad418 := (by injection e418); replace p418 := eq_true p418; replace q418 := eq_true q418)))
     go_ret
     exact ⟨by first | rfl | (simp; done) | (simp only [← hji3] <;> (first | rfl | simp)) | (simp [*]; done), by repeat (first | exact Drawn0.refl _ | apply Drawn0.step)⟩
    ·rw [if_neg c9] at H
     have c9b0 : (((rd_T33 l0 (ji3)).f0) == 1) = false := beq_eq_false_iff_ne.mpr c9
     have c9b1 : (((rd_T33 l0 (ji3)).f0) != 1) = true := bne_iff_ne.mpr c9
     by_cases c11 : ((rd_T33 l0 (ji3)).f0) = 2
     ·rw [if_pos c11] at H
      have c11b0 : (((rd_T33 l0 (ji3)).f0) == 2) = true := beq_iff_eq.mpr c11
      have c11b1 : (((rd_T33 l0 (ji3)).f0) != 2) = false := bne_eq_false_iff_eq.mpr c11
      clear c11
      have c12b0 := eq_true (of_decide_eq_true (by first | (with_reducible assumption) | assumption) : 0 ≤ (ji3))
      by_cases c13 : (ji3) ≤ (l0.length : Int)
      ·rw [if_pos c13] at H
       have c13b0 := eq_true c13
       have c13b1 : decide ((ji3) ≤ (l0.length : Int)) = true := decide_eq_true c13
       clear c13
       obtain ⟨y419, hy419⟩ : ∃ y_ : List (S33), y_ = (l0.take ((ji3) : Int).toNat) := ⟨_, rfl⟩
       replace H : ((spec_l3Holds.f k y419 a1).bind fun t423 => (some (!t423))) = some r := by first | (rw [hy419]; with_reducible exact H) | (have H2_ := (Option.bind_some _ _).symm.trans H; rw [hy419]; with_reducible exact H2_) | (have H2_ := (Option.bind_some _ _).symm.trans H; with_reducible exact H2_) | with_reducible exact H | (rw [hy419]; exact H) | exact H
       have Ny419 := Aside0.mk hy419
       clear hy419
       replace H := Option.bind_eq_some_iff.mp H
       obtain ⟨t423, A140, H⟩ := H
       replace H : (some (!t423)) = some r := H
       have A14 := Aside0.mk A140
       clear A140
       obtain rfl := Option.some.inj H
       have p415 : 0 ≤ ((ji3) : Int) := of_decide_eq_true (by first | (with_reducible assumption) | assumption)
       have q415 : (ji3) < (l0.length : Int) := of_decide_eq_true (by first | (with_reducible assumption) | assumption)
       obtain ⟨ad415, e415, hx415_0, hx415_1⟩ := at_T33 HR0.out (ji3) p415 q415
       cases e415
       replace p415 := eq_true p415
       replace q415 := eq_true q415
       have q15 : ((ji3) : Int) ≤ ((l0.length : Int) : Int) := of_decide_eq_true (by first | (with_reducible assumption) | assumption)
       obtain ⟨i015, hi015, _, hsz15, _⟩ := info_parts info33
       have hroom15 : l0.length ≤ c0 := HC0.out
       have hC15 : Kd.C k33 _ (some ad415) l0.length l0 := HR0.out
       have hcut15 := cut_to (P := Try.prog) 34 33 .i64 Try.underlying34 hi015 (some ad415) l0.length c0 (ji3) (of_decide_eq_true (by first | (with_reducible assumption) | assumption)) q15 hroom15
       have hr15 := Kd.C_take (m := ((ji3) : Int).toNat) hC15 (by omega)
       have hy15 : y419.length = ((ji3) : Int).toNat := (by rw [Ny419.out, List.length_take]; omega)
       rw [← Ny419.out] at hr15
       rw [← hy15] at hcut15
       have HR422 := Aside0.mk hr15
       have HC422 := Aside0.mk (show y419.length ≤ c0 from by omega)
       clear hr15 hC15 hroom15 hi015 hsz15
       have KY15 := Aside0.mk hy15
       clear hy15
       replace q15 := eq_true q15
       go_enter Try.func140, Try.ntmps140
       go_wp2_with (first | (go_at_call 140; (with_reducible refine (ih k (by omega) _ _ y419 a1 t423 _ ?side1 ?side2 A14.out).mono ?_); (case side1 => repeat (first | exact HR422.out | (with_reducible refine Kd.C_alloc ?_ _) | (with_reducible refine Kd.C_drewN ?_ _) | (with_reducible refine Kd.C_drew ?_))); (case side2 => exact HC422.out); rintro e w' ⟨rfl, ⟨nd, rfl⟩⟩; (try first | exact ⟨rfl, _, World.drewN_drewN _ _ _⟩ | exact ⟨rfl, _, Eq.trans (World.drewN_drewN _ _ _) (congrArg (World.drewN _) (Nat.add_assoc _ _ _))⟩)))
       repeat (go_quiet (first | (go_at_call 140; (with_reducible refine (ih k (by omega) _ _ y419 a1 t423 _ ?side1 ?side2 A14.out).mono ?_); (case side1 => repeat (first | exact HR422.out | (with_reducible refine Kd.C_alloc ?_ _) | (with_reducible refine Kd.C_drewN ?_ _) | (with_reducible refine Kd.C_drew ?_))); (case side2 => exact HC422.out); rintro e w' ⟨rfl, ⟨nd, rfl⟩⟩; (try first | exact ⟨rfl, _, World.drewN_drewN _ _ _⟩ | exact ⟨rfl, _, Eq.trans (World.drewN_drewN _ _ _) (congrArg (World.drewN _) (Nat.add_assoc _ _ _))⟩))); try go_wp2_with (first | (go_at_call 140; (with_reducible refine (ih k (by omega) _ _ y419 a1 t423 _ ?side1 ?side2 A14.out).mono ?_); (case side1 => repeat (first | exact HR422.out | (with_reducible refine Kd.C_alloc ?_ _) | (with_reducible refine Kd.C_drewN ?_ _) | (with_reducible refine Kd.C_drew ?_))); (case side2 => exact HC422.out); rintro e w' ⟨rfl, ⟨nd, rfl⟩⟩; (try first | exact ⟨rfl, _, World.drewN_drewN _ _ _⟩ | exact ⟨rfl, _, Eq.trans (World.drewN_drewN _ _ _) (congrArg (World.drewN _) (Nat.add_assoc _ _ _))⟩))))
       go_ret
       exact ⟨by first | rfl | (simp; done) | (simp only [← hji3] <;> (first | rfl | simp)) | (simp [*]; done), by repeat (first | exact Drawn0.refl _ | apply Drawn0.step)⟩
      ·rw [if_neg c13] at H
       exact absurd H (by simp)
     ·rw [if_neg c11] at H
      have c11b0 : (((rd_T33 l0 (ji3)).f0) == 2) = false := beq_eq_false_iff_ne.mpr c11
      have c11b1 : (((rd_T33 l0 (ji3)).f0) != 2) = true := bne_iff_ne.mpr c11
      replace H := Option.bind_eq_some_iff.mp H
      obtain ⟨t424, A160, H⟩ := H
      replace H : (if 0 ≤ t424 then (if t424 ≤ (l0.length : Int) then ((spec_l3Holds.f k (l0.take (t424 : Int).toNat) a1).bind fun t429 => (if t424 ≤ (ji3) then (if (ji3) ≤ (l0.length : Int) then ((spec_l3Holds.f k ((l0.take ((ji3) : Int).toNat).drop (t424 : Int).toNat) a1).bind fun t434 => (if ((rd_T33 l0 (ji3)).f0) = 3 then (if t429 = true then (some t434) else (some false)) else (if ((rd_T33 l0 (ji3)).f0) = 4 then (if t429 = true then (some true) else (some t434)) else (some (t429 == t434))))) else (none)) else (none))) else (none)) else (none)) = some r := H
      have A16 := Aside0.mk A160
      clear A160
      by_cases c17 : 0 ≤ t424
      ·rw [if_pos c17] at H
       have c17b0 := eq_true c17
       have c17b1 : decide (0 ≤ t424) = true := decide_eq_true c17
       clear c17
       by_cases c18 : t424 ≤ (l0.length : Int)
       ·rw [if_pos c18] at H
        have c18b0 := eq_true c18
        have c18b1 : decide (t424 ≤ (l0.length : Int)) = true := decide_eq_true c18
        clear c18
        obtain ⟨y425, hy425⟩ : ∃ y_ : List (S33), y_ = (l0.take (t424 : Int).toNat) := ⟨_, rfl⟩
        replace H : ((spec_l3Holds.f k y425 a1).bind fun t429 => (if t424 ≤ (ji3) then (if (ji3) ≤ (l0.length : Int) then ((spec_l3Holds.f k ((l0.take ((ji3) : Int).toNat).drop (t424 : Int).toNat) a1).bind fun t434 => (if ((rd_T33 l0 (ji3)).f0) = 3 then (if t429 = true then (some t434) else (some false)) else (if ((rd_T33 l0 (ji3)).f0) = 4 then (if t429 = true then (some true) else (some t434)) else (some (t429 == t434))))) else (none)) else (none))) = some r := by first | (rw [hy425]; with_reducible exact H) | (have H2_ := (Option.bind_some _ _).symm.trans H; rw [hy425]; with_reducible exact H2_) | (have H2_ := (Option.bind_some _ _).symm.trans H; with_reducible exact H2_) | with_reducible exact H | (rw [hy425]; exact H) | exact H
        have Ny425 := Aside0.mk hy425
        clear hy425
        replace H := Option.bind_eq_some_iff.mp H
        obtain ⟨t429, A190, H⟩ := H
        replace H : (if t424 ≤ (ji3) then (if (ji3) ≤ (l0.length : Int) then ((spec_l3Holds.f k ((l0.take ((ji3) : Int).toNat).drop (t424 : Int).toNat) a1).bind fun t434 => (if ((rd_T33 l0 (ji3)).f0) = 3 then (if t429 = true then (some t434) else (some false)) else (if ((rd_T33 l0 (ji3)).f0) = 4 then (if t429 = true then (some true) else (some t434)) else (some (t429 == t434))))) else (none)) else (none)) = some r := H
        have A19 := Aside0.mk A190
        clear A190
        have c20b0 := eq_true (of_decide_eq_true (by first | (with_reducible assumption) | assumption) : 0 ≤ t424)
        by_cases c21 : t424 ≤ (ji3)
        ·rw [if_pos c21] at H
         have c21b0 := eq_true c21
         have c21b1 : decide (t424 ≤ (ji3)) = true := decide_eq_true c21
         clear c21
         by_cases c22 : (ji3) ≤ (l0.length : Int)
         ·rw [if_pos c22] at H
          have c22b0 := eq_true c22
          have c22b1 : decide ((ji3) ≤ (l0.length : Int)) = true := decide_eq_true c22
          clear c22
          obtain ⟨y430, hy430⟩ : ∃ y_ : List (S33), y_ = ((l0.take ((ji3) : Int).toNat).drop (t424 : Int).toNat) := ⟨_, rfl⟩
          replace H : ((spec_l3Holds.f k y430 a1).bind fun t434 => (if ((rd_T33 l0 (ji3)).f0) = 3 then (if t429 = true then (some t434) else (some false)) else (if ((rd_T33 l0 (ji3)).f0) = 4 then (if t429 = true then (some true) else (some t434)) else (some (t429 == t434))))) = some r := by first | (rw [hy430]; with_reducible exact H) | (have H2_ := (Option.bind_some _ _).symm.trans H; rw [hy430]; with_reducible exact H2_) | (have H2_ := (Option.bind_some _ _).symm.trans H; with_reducible exact H2_) | with_reducible exact H | (rw [hy430]; exact H) | exact H
          have Ny430 := Aside0.mk hy430
          clear hy430
          replace H := Option.bind_eq_some_iff.mp H
          obtain ⟨t434, A230, H⟩ := H
          replace H : (if ((rd_T33 l0 (ji3)).f0) = 3 then (if t429 = true then (some t434) else (some false)) else (if ((rd_T33 l0 (ji3)).f0) = 4 then (if t429 = true then (some true) else (some t434)) else (some (t429 == t434)))) = some r := H
          have A23 := Aside0.mk A230
          clear A230
          by_cases c24 : ((rd_T33 l0 (ji3)).f0) = 3
          ·rw [if_pos c24] at H
           have c24b0 : (((rd_T33 l0 (ji3)).f0) == 3) = true := beq_iff_eq.mpr c24
           have c24b1 : (((rd_T33 l0 (ji3)).f0) != 3) = false := bne_eq_false_iff_eq.mpr c24
           clear c24
           by_cases c25 : t429 = true
           ·subst c25
            have H1 : (some t434) = some r := by rw [if_pos rfl] at H; exact H
            clear H
            have H := H1
            clear H1
            obtain rfl := Option.some.inj H
            have p415 : 0 ≤ ((ji3) : Int) := of_decide_eq_true (by first | (with_reducible assumption) | assumption)
            have q415 : (ji3) < (l0.length : Int) := of_decide_eq_true (by first | (with_reducible assumption) | assumption)
            obtain ⟨ad415, e415, hx415_0, hx415_1⟩ := at_T33 HR0.out (ji3) p415 q415
            cases e415
            replace p415 := eq_true p415
            replace q415 := eq_true q415
            go_enter Try.func140, Try.ntmps140
            go_wp2_with (first | (go_at_call 148; (with_reducible refine (spec_l2Starts.calls k _ _ l0 (wrap64 ((ji3) - 1)) t424 _ ?side1 ?side2 A16.out).mono ?_); (case side1 => repeat (first | exact HR0.out | (with_reducible refine Kd.C_alloc ?_ _) | (with_reducible refine Kd.C_drewN ?_ _) | (with_reducible refine Kd.C_drew ?_))); (case side2 => exact HC0.out); rintro e w' ⟨rfl, ⟨nd, rfl⟩⟩; (try first | exact ⟨rfl, _, World.drewN_drewN _ _ _⟩ | exact ⟨rfl, _, Eq.trans (World.drewN_drewN _ _ _) (congrArg (World.drewN _) (Nat.add_assoc _ _ _))⟩); have q26 : (t424 : Int) ≤ ((l0.length : Int) : Int) := of_decide_eq_true (by first | (with_reducible assumption) | assumption); obtain ⟨i026, hi026, _, hsz26, _⟩ := info_parts info33; have hroom26 : l0.length ≤ c0 := HC0.out; have hC26 : Kd.C k33 _ (some ad415) l0.length l0 := HR0.out; have hcut26 := cut_to (P := Try.prog) 34 33 .i64 Try.underlying34 hi026 (some ad415) l0.length c0 t424 (of_decide_eq_true (by first | (with_reducible assumption) | assumption)) q26 hroom26; have hr26 := Kd.C_take (m := (t424 : Int).toNat) hC26 (by omega); have hy26 : y425.length = (t424 : Int).toNat := (by rw [Ny425.out, List.length_take]; omega); rw [← Ny425.out] at hr26; rw [← hy26] at hcut26; have HR428 := Aside0.mk hr26; have HC428 := Aside0.mk (show y425.length ≤ c0 from by omega); clear hr26 hC26 hroom26 hi026 hsz26; have KY26 := Aside0.mk hy26; clear hy26; replace q26 := eq_true q26) | (go_at_call 140; (with_reducible refine (ih k (by omega) _ _ y425 a1 true _ ?side1 ?side2 A19.out).mono ?_); (case side1 => repeat (first | exact HR428.out | (with_reducible refine Kd.C_alloc ?_ _) | (with_reducible refine Kd.C_drewN ?_ _) | (with_reducible refine Kd.C_drew ?_))); (case side2 => exact HC428.out); rintro e w' ⟨rfl, ⟨nd, rfl⟩⟩; (try first | exact ⟨rfl, _, World.drewN_drewN _ _ _⟩ | exact ⟨rfl, _, Eq.trans (World.drewN_drewN _ _ _) (congrArg (World.drewN _) (Nat.add_assoc _ _ _))⟩); have q27 : ((ji3) : Int) ≤ ((l0.length : Int) : Int) := of_decide_eq_true (by first | (with_reducible assumption) | assumption); obtain ⟨i027, hi027, _, hsz27, _⟩ := info_parts info33; have hroom27 : l0.length ≤ c0 := HC0.out; have hC27 : Kd.C k33 _ (some ad415) l0.length l0 := HR0.out; have ql27 : (t424 : Int) ≤ ((ji3) : Int) := of_decide_eq_true (by first | (with_reducible assumption) | assumption); have q027 : (0 : Int) ≤ (t424 : Int) := of_decide_eq_true (by first | (with_reducible assumption) | assumption); have hcut27 := cut_mid (P := Try.prog) 34 33 .i64 .i64 Try.underlying34 hi027 2 hsz27 (some ad415) l0.length c0 t424 (ji3) q027 ql27 q27 hroom27; have hr27 := Kd.C_mid (lo := (t424 : Int).toNat) (hi := ((ji3) : Int).toNat) (c := c0) hC27 (by omega) (by omega) hroom27; obtain ⟨A27, hA27⟩ : ∃ A1, A1 = (if c0 = (t424 : Int).toNat then (some ad415) else ((some ad415) : Option Addr).map (·.add ((t424 : Int).toNat * 2))) := ⟨_, rfl⟩; obtain ⟨c27, hc27⟩ : ∃ c1, c1 = c0 - (t424 : Int).toNat := ⟨_, rfl⟩; have hy27 : y430.length = ((ji3) : Int).toNat - (t424 : Int).toNat := (by rw [Ny430.out, List.length_drop, List.length_take] <;> omega); rw [show ((l0).take ((ji3) : Int).toNat).drop (t424 : Int).toNat = y430 from Ny430.out.symm] at hr27; replace hr27 : Kd.C k33 _ A27 y430.length y430 := (by rw [hA27]; exact hr27); rw [← hy27, ← hA27, ← hc27] at hcut27; have HR433 := Aside0.mk hr27; have HC433 := Aside0.mk (show y430.length ≤ c27 from by rw [hy27, hc27]; exact Nat.sub_le_sub_right (Nat.le_trans (by omega) hroom27) _); clear hr27 hC27 hroom27 hi027 hsz27 hc27; have KY27 := Aside0.mk hy27; have KA27 := Aside0.mk hA27; clear hy27 hA27; replace q27 := eq_true q27) | (go_at_call 140; (with_reducible refine (ih k (by omega) _ _ y430 a1 t434 _ ?side1 ?side2 A23.out).mono ?_); (case side1 => repeat (first | exact HR433.out | (with_reducible refine Kd.C_alloc ?_ _) | (with_reducible refine Kd.C_drewN ?_ _) | (with_reducible refine Kd.C_drew ?_))); (case side2 => exact HC433.out); rintro e w' ⟨rfl, ⟨nd, rfl⟩⟩; (try first | exact ⟨rfl, _, World.drewN_drewN _ _ _⟩ | exact ⟨rfl, _, Eq.trans (World.drewN_drewN _ _ _) (congrArg (World.drewN _) (Nat.add_assoc _ _ _))⟩); have p435 : 0 ≤ ((ji3) : Int) := of_decide_eq_true (by first | (with_reducible assumption) | assumption); have q435 : (ji3) < (l0.length : Int) := of_decide_eq_true (by first | (with_reducible assumption) | assumption); obtain ⟨ad435, e435, hx435_0, hx435_1⟩ := at_T33 HR0.out (ji3) p435 q435; obtain rfl : ad415 = ad435 := (by injection e435); replace p435 := eq_true p435; replace q435 := eq_true q435))
            repeat (go_quiet (first | (go_at_call 148; (with_reducible refine (spec_l2Starts.calls k _ _ l0 (wrap64 ((ji3) - 1)) t424 _ ?side1 ?side2 A16.out).mono ?_); (case side1 => repeat (first | exact HR0.out | (with_reducible refine Kd.C_alloc ?_ _) | (with_reducible refine Kd.C_drewN ?_ _) | (with_reducible refine Kd.C_drew ?_))); (case side2 => exact HC0.out); rintro e w' ⟨rfl, ⟨nd, rfl⟩⟩; (try first | exact ⟨rfl, _, World.drewN_drewN _ _ _⟩ | exact ⟨rfl, _, Eq.trans (World.drewN_drewN _ _ _) (congrArg (World.drewN _) (Nat.add_assoc _ _ _))⟩); have q26 : (t424 : Int) ≤ ((l0.length : Int) : Int) := of_decide_eq_true (by first | (with_reducible assumption) | assumption); obtain ⟨i026, hi026, _, hsz26, _⟩ := info_parts info33; have hroom26 : l0.length ≤ c0 := HC0.out; have hC26 : Kd.C k33 _ (some ad415) l0.length l0 := HR0.out; have hcut26 := cut_to (P := Try.prog) 34 33 .i64 Try.underlying34 hi026 (some ad415) l0.length c0 t424 (of_decide_eq_true (by first | (with_reducible assumption) | assumption)) q26 hroom26; have hr26 := Kd.C_take (m := (t424 : Int).toNat) hC26 (by omega); have hy26 : y425.length = (t424 : Int).toNat := (by rw [Ny425.out, List.length_take]; omega); rw [← Ny425.out] at hr26; rw [← hy26] at hcut26; have HR428 := Aside0.mk hr26; have HC428 := Aside0.mk (show y425.length ≤ c0 from by omega); clear hr26 hC26 hroom26 hi026 hsz26; have KY26 := Aside0.mk hy26; clear hy26; replace q26 := eq_true q26) | (go_at_call 140; (with_reducible refine (ih k (by omega) _ _ y425 a1 true _ ?side1 ?side2 A19.out).mono ?_); (case side1 => repeat (first | exact HR428.out | (with_reducible refine Kd.C_alloc ?_ _) | (with_reducible refine Kd.C_drewN ?_ _) | (with_reducible refine Kd.C_drew ?_))); (case side2 => exact HC428.out); rintro e w' ⟨rfl, ⟨nd, rfl⟩⟩; (try first | exact ⟨rfl, _, World.drewN_drewN _ _ _⟩ | exact ⟨rfl, _, Eq.trans (World.drewN_drewN _ _ _) (congrArg (World.drewN _) (Nat.add_assoc _ _ _))⟩); have q27 : ((ji3) : Int) ≤ ((l0.length : Int) : Int) := of_decide_eq_true (by first | (with_reducible assumption) | assumption); obtain ⟨i027, hi027, _, hsz27, _⟩ := info_parts info33; have hroom27 : l0.length ≤ c0 := HC0.out; have hC27 : Kd.C k33 _ (some ad415) l0.length l0 := HR0.out; have ql27 : (t424 : Int) ≤ ((ji3) : Int) := of_decide_eq_true (by first | (with_reducible assumption) | assumption); have q027 : (0 : Int) ≤ (t424 : Int) := of_decide_eq_true (by first | (with_reducible assumption) | assumption); have hcut27 := cut_mid (P := Try.prog) 34 33 .i64 .i64 Try.underlying34 hi027 2 hsz27 (some ad415) l0.length c0 t424 (ji3) q027 ql27 q27 hroom27; have hr27 := Kd.C_mid (lo := (t424 : Int).toNat) (hi := ((ji3) : Int).toNat) (c := c0) hC27 (by omega) (by omega) hroom27; obtain ⟨A27, hA27⟩ : ∃ A1, A1 = (if c0 = (t424 : Int).toNat then (some ad415) else ((some ad415) : Option Addr).map (·.add ((t424 : Int).toNat * 2))) := ⟨_, rfl⟩; obtain ⟨c27, hc27⟩ : ∃ c1, c1 = c0 - (t424 : Int).toNat := ⟨_, rfl⟩; have hy27 : y430.length = ((ji3) : Int).toNat - (t424 : Int).toNat := (by rw [Ny430.out, List.length_drop, List.length_take] <;> omega); rw [show ((l0).take ((ji3) : Int).toNat).drop (t424 : Int).toNat = y430 from Ny430.out.symm] at hr27; replace hr27 : Kd.C k33 _ A27 y430.length y430 := (by rw [hA27]; exact hr27); rw [← hy27, ← hA27, ← hc27] at hcut27; have HR433 := Aside0.mk hr27; have HC433 := Aside0.mk (show y430.length ≤ c27 from by rw [hy27, hc27]; exact Nat.sub_le_sub_right (Nat.le_trans (by omega) hroom27) _); clear hr27 hC27 hroom27 hi027 hsz27 hc27; have KY27 := Aside0.mk hy27; have KA27 := Aside0.mk hA27; clear hy27 hA27; replace q27 := eq_true q27) | (go_at_call 140; (with_reducible refine (ih k (by omega) _ _ y430 a1 t434 _ ?side1 ?side2 A23.out).mono ?_); (case side1 => repeat (first | exact HR433.out | (with_reducible refine Kd.C_alloc ?_ _) | (with_reducible refine Kd.C_drewN ?_ _) | (with_reducible refine Kd.C_drew ?_))); (case side2 => exact HC433.out); rintro e w' ⟨rfl, ⟨nd, rfl⟩⟩; (try first | exact ⟨rfl, _, World.drewN_drewN _ _ _⟩ | exact ⟨rfl, _, Eq.trans (World.drewN_drewN _ _ _) (congrArg (World.drewN _) (Nat.add_assoc _ _ _))⟩); have p435 : 0 ≤ ((ji3) : Int) := of_decide_eq_true (by first | (with_reducible assumption) | assumption); have q435 : (ji3) < (l0.length : Int) := of_decide_eq_true (by first | (with_reducible assumption) | assumption); obtain ⟨ad435, e435, hx435_0, hx435_1⟩ := at_T33 HR0.out (ji3) p435 q435; obtain rfl : ad415 = ad435 := (by injection e435); replace p435 := eq_true p435; replace q435 := eq_true q435)); try go_wp2_with (first | (go_at_call 148; (with_reducible refine (spec_l2Starts.calls k _ _ l0 (wrap64 ((ji3) - 1)) t424 _ ?side1 ?side2 A16.out).mono ?_); (case side1 => repeat (first | exact HR0.out | (with_reducible refine Kd.C_alloc ?_ _) | (with_reducible refine Kd.C_drewN ?_ _) | (with_reducible refine Kd.C_drew ?_))); (case side2 => exact HC0.out); rintro e w' ⟨rfl, ⟨nd, rfl⟩⟩; (try first | exact ⟨rfl, _, World.drewN_drewN _ _ _⟩ | exact ⟨rfl, _, Eq.trans (World.drewN_drewN _ _ _) (congrArg (World.drewN _) (Nat.add_assoc _ _ _))⟩); have q26 : (t424 : Int) ≤ ((l0.length : Int) : Int) := of_decide_eq_true (by first | (with_reducible assumption) | assumption); obtain ⟨i026, hi026, _, hsz26, _⟩ := info_parts info33; have hroom26 : l0.length ≤ c0 := HC0.out; have hC26 : Kd.C k33 _ (some ad415) l0.length l0 := HR0.out; have hcut26 := cut_to (P := Try.prog) 34 33 .i64 Try.underlying34 hi026 (some ad415) l0.length c0 t424 (of_decide_eq_true (by first | (with_reducible assumption) | assumption)) q26 hroom26; have hr26 := Kd.C_take (m := (t424 : Int).toNat) hC26 (by omega); have hy26 : y425.length = (t424 : Int).toNat := (by rw [Ny425.out, List.length_take]; omega); rw [← Ny425.out] at hr26; rw [← hy26] at hcut26; have HR428 := Aside0.mk hr26; have HC428 := Aside0.mk (show y425.length ≤ c0 from by omega); clear hr26 hC26 hroom26 hi026 hsz26; have KY26 := Aside0.mk hy26; clear hy26; replace q26 := eq_true q26) | (go_at_call 140; (with_reducible refine (ih k (by omega) _ _ y425 a1 true _ ?side1 ?side2 A19.out).mono ?_); (case side1 => repeat (first | exact HR428.out | (with_reducible refine Kd.C_alloc ?_ _) | (with_reducible refine Kd.C_drewN ?_ _) | (with_reducible refine Kd.C_drew ?_))); (case side2 => exact HC428.out); rintro e w' ⟨rfl, ⟨nd, rfl⟩⟩; (try first | exact ⟨rfl, _, World.drewN_drewN _ _ _⟩ | exact ⟨rfl, _, Eq.trans (World.drewN_drewN _ _ _) (congrArg (World.drewN _) (Nat.add_assoc _ _ _))⟩); have q27 : ((ji3) : Int) ≤ ((l0.length : Int) : Int) := of_decide_eq_true (by first | (with_reducible assumption) | assumption); obtain ⟨i027, hi027, _, hsz27, _⟩ := info_parts info33; have hroom27 : l0.length ≤ c0 := HC0.out; have hC27 : Kd.C k33 _ (some ad415) l0.length l0 := HR0.out; have ql27 : (t424 : Int) ≤ ((ji3) : Int) := of_decide_eq_true (by first | (with_reducible assumption) | assumption); have q027 : (0 : Int) ≤ (t424 : Int) := of_decide_eq_true (by first | (with_reducible assumption) | assumption); have hcut27 := cut_mid (P := Try.prog) 34 33 .i64 .i64 Try.underlying34 hi027 2 hsz27 (some ad415) l0.length c0 t424 (ji3) q027 ql27 q27 hroom27; have hr27 := Kd.C_mid (lo := (t424 : Int).toNat) (hi := ((ji3) : Int).toNat) (c := c0) hC27 (by omega) (by omega) hroom27; obtain ⟨A27, hA27⟩ : ∃ A1, A1 = (if c0 = (t424 : Int).toNat then (some ad415) else ((some ad415) : Option Addr).map (·.add ((t424 : Int).toNat * 2))) := ⟨_, rfl⟩; obtain ⟨c27, hc27⟩ : ∃ c1, c1 = c0 - (t424 : Int).toNat := ⟨_, rfl⟩; have hy27 : y430.length = ((ji3) : Int).toNat - (t424 : Int).toNat := (by rw [Ny430.out, List.length_drop, List.length_take] <;> omega); rw [show ((l0).take ((ji3) : Int).toNat).drop (t424 : Int).toNat = y430 from Ny430.out.symm] at hr27; replace hr27 : Kd.C k33 _ A27 y430.length y430 := (by rw [hA27]; exact hr27); rw [← hy27, ← hA27, ← hc27] at hcut27; have HR433 := Aside0.mk hr27; have HC433 := Aside0.mk (show y430.length ≤ c27 from by rw [hy27, hc27]; exact Nat.sub_le_sub_right (Nat.le_trans (by omega) hroom27) _); clear hr27 hC27 hroom27 hi027 hsz27 hc27; have KY27 := Aside0.mk hy27; have KA27 := Aside0.mk hA27; clear hy27 hA27; replace q27 := eq_true q27) | (go_at_call 140; (with_reducible refine (ih k (by omega) _ _ y430 a1 t434 _ ?side1 ?side2 A23.out).mono ?_); (case side1 => repeat (first | exact HR433.out | (with_reducible refine Kd.C_alloc ?_ _) | (with_reducible refine Kd.C_drewN ?_ _) | (with_reducible refine Kd.C_drew ?_))); (case side2 => exact HC433.out); rintro e w' ⟨rfl, ⟨nd, rfl⟩⟩; (try first | exact ⟨rfl, _, World.drewN_drewN _ _ _⟩ | exact ⟨rfl, _, Eq.trans (World.drewN_drewN _ _ _) (congrArg (World.drewN _) (Nat.add_assoc _ _ _))⟩); have p435 : 0 ≤ ((ji3) : Int) := of_decide_eq_true (by first | (with_reducible assumption) | assumption); have q435 : (ji3) < (l0.length : Int) := of_decide_eq_true (by first | (with_reducible assumption) | assumption); obtain ⟨ad435, e435, hx435_0, hx435_1⟩ := at_T33 HR0.out (ji3) p435 q435; obtain rfl : ad415 = ad435 := (by injection e435); replace p435 := eq_true p435; replace q435 := eq_true q435)))
            go_ret
            exact ⟨by first | rfl | (simp; done) | (simp only [← hji3] <;> (first | rfl | simp)) | (simp [*]; done), by repeat (first | exact Drawn0.refl _ | apply Drawn0.step)⟩
           ·replace c25 := Bool.eq_false_iff.mpr c25
            subst c25
            have H1 : (some false) = some r := by rw [if_neg (show ¬ (false = true) by decide)] at H; exact H
            clear H
            have H := H1
            clear H1
            obtain rfl := Option.some.inj H
            have p415 : 0 ≤ ((ji3) : Int) := of_decide_eq_true (by first | (with_reducible assumption) | assumption)
            have q415 : (ji3) < (l0.length : Int) := of_decide_eq_true (by first | (with_reducible assumption) | assumption)
            obtain ⟨ad415, e415, hx415_0, hx415_1⟩ := at_T33 HR0.out (ji3) p415 q415
            cases e415
            replace p415 := eq_true p415
            replace q415 := eq_true q415
            go_enter Try.func140, Try.ntmps140
            go_wp2_with (first | (go_at_call 148; (with_reducible refine (spec_l2Starts.calls k _ _ l0 (wrap64 ((ji3) - 1)) t424 _ ?side1 ?side2 A16.out).mono ?_); (case side1 => repeat (first | exact HR0.out | (with_reducible refine Kd.C_alloc ?_ _) | (with_reducible refine Kd.C_drewN ?_ _) | (with_reducible refine Kd.C_drew ?_))); (case side2 => exact HC0.out); rintro e w' ⟨rfl, ⟨nd, rfl⟩⟩; (try first | exact ⟨rfl, _, World.drewN_drewN _ _ _⟩ | exact ⟨rfl, _, Eq.trans (World.drewN_drewN _ _ _) (congrArg (World.drewN _) (Nat.add_assoc _ _ _))⟩); have q28 : (t424 : Int) ≤ ((l0.length : Int) : Int) := of_decide_eq_true (by first | (with_reducible assumption) | assumption); obtain ⟨i028, hi028, _, hsz28, _⟩ := info_parts info33; have hroom28 : l0.length ≤ c0 := HC0.out; have hC28 : Kd.C k33 _ (some ad415) l0.length l0 := HR0.out; have hcut28 := cut_to (P := Try.prog) 34 33 .i64 Try.underlying34 hi028 (some ad415) l0.length c0 t424 (of_decide_eq_true (by first | (with_reducible assumption) | assumption)) q28 hroom28; have hr28 := Kd.C_take (m := (t424 : Int).toNat) hC28 (by omega); have hy28 : y425.length = (t424 : Int).toNat := (by rw [Ny425.out, List.length_take]; omega); rw [← Ny425.out] at hr28; rw [← hy28] at hcut28; have HR428 := Aside0.mk hr28; have HC428 := Aside0.mk (show y425.length ≤ c0 from by omega); clear hr28 hC28 hroom28 hi028 hsz28; have KY28 := Aside0.mk hy28; clear hy28; replace q28 := eq_true q28) | (go_at_call 140; (with_reducible refine (ih k (by omega) _ _ y425 a1 false _ ?side1 ?side2 A19.out).mono ?_); (case side1 => repeat (first | exact HR428.out | (with_reducible refine Kd.C_alloc ?_ _) | (with_reducible refine Kd.C_drewN ?_ _) | (with_reducible refine Kd.C_drew ?_))); (case side2 => exact HC428.out); rintro e w' ⟨rfl, ⟨nd, rfl⟩⟩; (try first | exact ⟨rfl, _, World.drewN_drewN _ _ _⟩ | exact ⟨rfl, _, Eq.trans (World.drewN_drewN _ _ _) (congrArg (World.drewN _) (Nat.add_assoc _ _ _))⟩); have q29 : ((ji3) : Int) ≤ ((l0.length : Int) : Int) := of_decide_eq_true (by first | (with_reducible assumption) | assumption); obtain ⟨i029, hi029, _, hsz29, _⟩ := info_parts info33; have hroom29 : l0.length ≤ c0 := HC0.out; have hC29 : Kd.C k33 _ (some ad415) l0.length l0 := HR0.out; have ql29 : (t424 : Int) ≤ ((ji3) : Int) := of_decide_eq_true (by first | (with_reducible assumption) | assumption); have q029 : (0 : Int) ≤ (t424 : Int) := of_decide_eq_true (by first | (with_reducible assumption) | assumption); have hcut29 := cut_mid (P := Try.prog) 34 33 .i64 .i64 Try.underlying34 hi029 2 hsz29 (some ad415) l0.length c0 t424 (ji3) q029 ql29 q29 hroom29; have hr29 := Kd.C_mid (lo := (t424 : Int).toNat) (hi := ((ji3) : Int).toNat) (c := c0) hC29 (by omega) (by omega) hroom29; obtain ⟨A29, hA29⟩ : ∃ A1, A1 = (if c0 = (t424 : Int).toNat then (some ad415) else ((some ad415) : Option Addr).map (·.add ((t424 : Int).toNat * 2))) := ⟨_, rfl⟩; obtain ⟨c29, hc29⟩ : ∃ c1, c1 = c0 - (t424 : Int).toNat := ⟨_, rfl⟩; have hy29 : y430.length = ((ji3) : Int).toNat - (t424 : Int).toNat := (by rw [Ny430.out, List.length_drop, List.length_take] <;> omega); rw [show ((l0).take ((ji3) : Int).toNat).drop (t424 : Int).toNat = y430 from Ny430.out.symm] at hr29; replace hr29 : Kd.C k33 _ A29 y430.length y430 := (by rw [hA29]; exact hr29); rw [← hy29, ← hA29, ← hc29] at hcut29; have HR433 := Aside0.mk hr29; have HC433 := Aside0.mk (show y430.length ≤ c29 from by rw [hy29, hc29]; exact Nat.sub_le_sub_right (Nat.le_trans (by omega) hroom29) _); clear hr29 hC29 hroom29 hi029 hsz29 hc29; have KY29 := Aside0.mk hy29; have KA29 := Aside0.mk hA29; clear hy29 hA29; replace q29 := eq_true q29) | (go_at_call 140; (with_reducible refine (ih k (by omega) _ _ y430 a1 t434 _ ?side1 ?side2 A23.out).mono ?_); (case side1 => repeat (first | exact HR433.out | (with_reducible refine Kd.C_alloc ?_ _) | (with_reducible refine Kd.C_drewN ?_ _) | (with_reducible refine Kd.C_drew ?_))); (case side2 => exact HC433.out); rintro e w' ⟨rfl, ⟨nd, rfl⟩⟩; (try first | exact ⟨rfl, _, World.drewN_drewN _ _ _⟩ | exact ⟨rfl, _, Eq.trans (World.drewN_drewN _ _ _) (congrArg (World.drewN _) (Nat.add_assoc _ _ _))⟩); have p435 : 0 ≤ ((ji3) : Int) := of_decide_eq_true (by first | (with_reducible assumption) | assumption); have q435 : (ji3) < (l0.length : Int) := of_decide_eq_true (by first | (with_reducible assumption) | assumption); obtain ⟨ad435, e435, hx435_0, hx435_1⟩ := at_T33 HR0.out (ji3) p435 q435; obtain rfl : ad415 = ad435 := (by injection e435); replace p435 := eq_true p435; replace q435 := eq_true q435))
            repeat (go_quiet (first | (go_at_call 148; (with_reducible refine (spec_l2Starts.calls k _ _ l0 (wrap64 ((ji3) - 1)) t424 _ ?side1 ?side2 A16.out).mono ?_); (case side1 => repeat (first | exact HR0.out | (with_reducible refine Kd.C_alloc ?_ _) | (with_reducible refine Kd.C_drewN ?_ _) | (with_reducible refine Kd.C_drew ?_))); (case side2 => exact HC0.out); rintro e w' ⟨rfl, ⟨nd, rfl⟩⟩; (try first | exact ⟨rfl, _, World.drewN_drewN _ _ _⟩ | exact ⟨rfl, _, Eq.trans (World.drewN_drewN _ _ _) (congrArg (World.drewN _) (Nat.add_assoc _ _ _))⟩); have q28 : (t424 : Int) ≤ ((l0.length : Int) : Int) := of_decide_eq_true (by first | (with_reducible assumption) | assumption); obtain ⟨i028, hi028, _, hsz28, _⟩ := info_parts info33; have hroom28 : l0.length ≤ c0 := HC0.out; have hC28 : Kd.C k33 _ (some ad415) l0.length l0 := HR0.out; have hcut28 := cut_to (P := Try.prog) 34 33 .i64 Try.underlying34 hi028 (some ad415) l0.length c0 t424 (of_decide_eq_true (by first | (with_reducible assumption) | assumption)) q28 hroom28; have hr28 := Kd.C_take (m := (t424 : Int).toNat) hC28 (by omega); have hy28 : y425.length = (t424 : Int).toNat := (by rw [Ny425.out, List.length_take]; omega); rw [← Ny425.out] at hr28; rw [← hy28] at hcut28; have HR428 := Aside0.mk hr28; have HC428 := Aside0.mk (show y425.length ≤ c0 from by omega); clear hr28 hC28 hroom28 hi028 hsz28; have KY28 := Aside0.mk hy28; clear hy28; replace q28 := eq_true q28) | (go_at_call 140; (with_reducible refine (ih k (by omega) _ _ y425 a1 false _ ?side1 ?side2 A19.out).mono ?_); (case side1 => repeat (first | exact HR428.out | (with_reducible refine Kd.C_alloc ?_ _) | (with_reducible refine Kd.C_drewN ?_ _) | (with_reducible refine Kd.C_drew ?_))); (case side2 => exact HC428.out); rintro e w' ⟨rfl, ⟨nd, rfl⟩⟩; (try first | exact ⟨rfl, _, World.drewN_drewN _ _ _⟩ | exact ⟨rfl, _, Eq.trans (World.drewN_drewN _ _ _) (congrArg (World.drewN _) (Nat.add_assoc _ _ _))⟩); have q29 : ((ji3) : Int) ≤ ((l0.length : Int) : Int) := of_decide_eq_true (by first | (with_reducible assumption) | assumption); obtain ⟨i029, hi029, _, hsz29, _⟩ := info_parts info33; have hroom29 : l0.length ≤ c0 := HC0.out; have hC29 : Kd.C k33 _ (some ad415) l0.length l0 := HR0.out; have ql29 : (t424 : Int) ≤ ((ji3) : Int) := of_decide_eq_true (by first | (with_reducible assumption) | assumption); have q029 : (0 : Int) ≤ (t424 : Int) := of_decide_eq_true (by first | (with_reducible assumption) | assumption); have hcut29 := cut_mid (P := Try.prog) 34 33 .i64 .i64 Try.underlying34 hi029 2 hsz29 (some ad415) l0.length c0 t424 (ji3) q029 ql29 q29 hroom29; have hr29 := Kd.C_mid (lo := (t424 : Int).toNat) (hi := ((ji3) : Int).toNat) (c := c0) hC29 (by omega) (by omega) hroom29; obtain ⟨A29, hA29⟩ : ∃ A1, A1 = (if c0 = (t424 : Int).toNat then (some ad415) else ((some ad415) : Option Addr).map (·.add ((t424 : Int).toNat * 2))) := ⟨_, rfl⟩; obtain ⟨c29, hc29⟩ : ∃ c1, c1 = c0 - (t424 : Int).toNat := ⟨_, rfl⟩; have hy29 : y430.length = ((ji3) : Int).toNat - (t424 : Int).toNat := (by rw [Ny430.out, List.length_drop, List.length_take] <;> omega); rw [show ((l0).take ((ji3) : Int).toNat).drop (t424 : Int).toNat = y430 from Ny430.out.symm] at hr29; replace hr29 : Kd.C k33 _ A29 y430.length y430 := (by rw [hA29]; exact hr29); rw [← hy29, ← hA29, ← hc29] at hcut29; have HR433 := Aside0.mk hr29; have HC433 := Aside0.mk (show y430.length ≤ c29 from by rw [hy29, hc29]; exact Nat.sub_le_sub_right (Nat.le_trans (by omega) hroom29) _); clear hr29 hC29 hroom29 hi029 hsz29 hc29; have KY29 := Aside0.mk hy29; have KA29 := Aside0.mk hA29; clear hy29 hA29; replace q29 := eq_true q29) | (go_at_call 140; (with_reducible refine (ih k (by omega) _ _ y430 a1 t434 _ ?side1 ?side2 A23.out).mono ?_); (case side1 => repeat (first | exact HR433.out | (with_reducible refine Kd.C_alloc ?_ _) | (with_reducible refine Kd.C_drewN ?_ _) | (with_reducible refine Kd.C_drew ?_))); (case side2 => exact HC433.out); rintro e w' ⟨rfl, ⟨nd, rfl⟩⟩; (try first | exact ⟨rfl, _, World.drewN_drewN _ _ _⟩ | exact ⟨rfl, _, Eq.trans (World.drewN_drewN _ _ _) (congrArg (World.drewN _) (Nat.add_assoc _ _ _))⟩); have p435 : 0 ≤ ((ji3) : Int) := of_decide_eq_true (by first | (with_reducible assumption) | assumption); have q435 : (ji3) < (l0.length : Int) := of_decide_eq_true (by first | (with_reducible assumption) | assumption); obtain ⟨ad435, e435, hx435_0, hx435_1⟩ := at_T33 HR0.out (ji3) p435 q435; obtain rfl : ad415 = ad435 := (by injection e435); replace p435 := eq_true p435; replace q435 := eq_true q435)); try go_wp2_with (first | (go_at_call 148; (with_reducible refine (spec_l2Starts.calls k _ _ l0 (wrap64 ((ji3) - 1)) t424 _ ?side1 ?side2 A16.out).mono ?_); (case side1 => repeat (first | exact HR0.out | (with_reducible refine Kd.C_alloc ?_ _) | (with_reducible refine Kd.C_drewN ?_ _) | (with_reducible refine Kd.C_drew ?_))); (case side2 => exact HC0.out); rintro e w' ⟨rfl, ⟨nd, rfl⟩⟩; (try first | exact ⟨rfl, _, World.drewN_drewN _ _ _⟩ | exact ⟨rfl, _, Eq.trans (World.drewN_drewN _ _ _) (congrArg (World.drewN _) (Nat.add_assoc _ _ _))⟩); have q28 : (t424 : Int) ≤ ((l0.length : Int) : Int) := of_decide_eq_true (by first | (with_reducible assumption) | assumption); obtain ⟨i028, hi028, _, hsz28, _⟩ := info_parts info33; have hroom28 : l0.length ≤ c0 := HC0.out; have hC28 : Kd.C k33 _ (some ad415) l0.length l0 := HR0.out; have hcut28 := cut_to (P := Try.prog) 34 33 .i64 Try.underlying34 hi028 (some ad415) l0.length c0 t424 (of_decide_eq_true (by first | (with_reducible assumption) | assumption)) q28 hroom28; have hr28 := Kd.C_take (m := (t424 : Int).toNat) hC28 (by omega); have hy28 : y425.length = (t424 : Int).toNat := (by rw [Ny425.out, List.length_take]; omega); rw [← Ny425.out] at hr28; rw [← hy28] at hcut28; have HR428 := Aside0.mk hr28; have HC428 := Aside0.mk (show y425.length ≤ c0 from by omega); clear hr28 hC28 hroom28 hi028 hsz28; have KY28 := Aside0.mk hy28; clear hy28; replace q28 := eq_true q28) | (go_at_call 140; (with_reducible refine (ih k (by omega) _ _ y425 a1 false _ ?side1 ?side2 A19.out).mono ?_); (case side1 => repeat (first | exact HR428.out | (with_reducible refine Kd.C_alloc ?_ _) | (with_reducible refine Kd.C_drewN ?_ _) | (with_reducible refine Kd.C_drew ?_))); (case side2 => exact HC428.out); rintro e w' ⟨rfl, ⟨nd, rfl⟩⟩; (try first | exact ⟨rfl, _, World.drewN_drewN _ _ _⟩ | exact ⟨rfl, _, Eq.trans (World.drewN_drewN _ _ _) (congrArg (World.drewN _) (Nat.add_assoc _ _ _))⟩); have q29 : ((ji3) : Int) ≤ ((l0.length : Int) : Int) := of_decide_eq_true (by first | (with_reducible assumption) | assumption); obtain ⟨i029, hi029, _, hsz29, _⟩ := info_parts info33; have hroom29 : l0.length ≤ c0 := HC0.out; have hC29 : Kd.C k33 _ (some ad415) l0.length l0 := HR0.out; have ql29 : (t424 : Int) ≤ ((ji3) : Int) := of_decide_eq_true (by first | (with_reducible assumption) | assumption); have q029 : (0 : Int) ≤ (t424 : Int) := of_decide_eq_true (by first | (with_reducible assumption) | assumption); have hcut29 := cut_mid (P := Try.prog) 34 33 .i64 .i64 Try.underlying34 hi029 2 hsz29 (some ad415) l0.length c0 t424 (ji3) q029 ql29 q29 hroom29; have hr29 := Kd.C_mid (lo := (t424 : Int).toNat) (hi := ((ji3) : Int).toNat) (c := c0) hC29 (by omega) (by omega) hroom29; obtain ⟨A29, hA29⟩ : ∃ A1, A1 = (if c0 = (t424 : Int).toNat then (some ad415) else ((some ad415) : Option Addr).map (·.add ((t424 : Int).toNat * 2))) := ⟨_, rfl⟩; obtain ⟨c29, hc29⟩ : ∃ c1, c1 = c0 - (t424 : Int).toNat := ⟨_, rfl⟩; have hy29 : y430.length = ((ji3) : Int).toNat - (t424 : Int).toNat := (by rw [Ny430.out, List.length_drop, List.length_take] <;> omega); rw [show ((l0).take ((ji3) : Int).toNat).drop (t424 : Int).toNat = y430 from Ny430.out.symm] at hr29; replace hr29 : Kd.C k33 _ A29 y430.length y430 := (by rw [hA29]; exact hr29); rw [← hy29, ← hA29, ← hc29] at hcut29; have HR433 := Aside0.mk hr29; have HC433 := Aside0.mk (show y430.length ≤ c29 from by rw [hy29, hc29]; exact Nat.sub_le_sub_right (Nat.le_trans (by omega) hroom29) _); clear hr29 hC29 hroom29 hi029 hsz29 hc29; have KY29 := Aside0.mk hy29; have KA29 := Aside0.mk hA29; clear hy29 hA29; replace q29 := eq_true q29) | (go_at_call 140; (with_reducible refine (ih k (by omega) _ _ y430 a1 t434 _ ?side1 ?side2 A23.out).mono ?_); (case side1 => repeat (first | exact HR433.out | (with_reducible refine Kd.C_alloc ?_ _) | (with_reducible refine Kd.C_drewN ?_ _) | (with_reducible refine Kd.C_drew ?_))); (case side2 => exact HC433.out); rintro e w' ⟨rfl, ⟨nd, rfl⟩⟩; (try first | exact ⟨rfl, _, World.drewN_drewN _ _ _⟩ | exact ⟨rfl, _, Eq.trans (World.drewN_drewN _ _ _) (congrArg (World.drewN _) (Nat.add_assoc _ _ _))⟩); have p435 : 0 ≤ ((ji3) : Int) := of_decide_eq_true (by first | (with_reducible assumption) | assumption); have q435 : (ji3) < (l0.length : Int) := of_decide_eq_true (by first | (with_reducible assumption) | assumption); obtain ⟨ad435, e435, hx435_0, hx435_1⟩ := at_T33 HR0.out (ji3) p435 q435; obtain rfl : ad415 = ad435 := (by injection e435); replace p435 := eq_true p435; replace q435 := eq_true q435)))
            go_ret
            exact ⟨by first | rfl | (simp; done) | (simp only [← hji3] <;> (first | rfl | simp)) | (simp [*]; done), by repeat (first | exact Drawn0.refl _ | apply Drawn0.step)⟩
          ·rw [if_neg c24] at H
           have c24b0 : (((rd_T33 l0 (ji3)).f0) == 3) = false := beq_eq_false_iff_ne.mpr c24
           have c24b1 : (((rd_T33 l0 (ji3)).f0) != 3) = true := bne_iff_ne.mpr c24
           by_cases c30 : ((rd_T33 l0 (ji3)).f0) = 4
           ·rw [if_pos c30] at H
            have c30b0 : (((rd_T33 l0 (ji3)).f0) == 4) = true := beq_iff_eq.mpr c30
            have c30b1 : (((rd_T33 l0 (ji3)).f0) != 4) = false := bne_eq_false_iff_eq.mpr c30
            clear c30
            by_cases c31 : t429 = true
            ·subst c31
             have H1 : (some true) = some r := by rw [if_pos rfl] at H; exact H
             clear H
             have H := H1
             clear H1
             obtain rfl := Option.some.inj H
             have p415 : 0 ≤ ((ji3) : Int) := of_decide_eq_true (by first | (with_reducible assumption) | assumption)
             have q415 : (ji3) < (l0.length : Int) := of_decide_eq_true (by first | (with_reducible assumption) | assumption)
             obtain ⟨ad415, e415, hx415_0, hx415_1⟩ := at_T33 HR0.out (ji3) p415 q415
             cases e415
             replace p415 := eq_true p415
             replace q415 := eq_true q415
             go_enter Try.func140, Try.ntmps140
             go_wp2_with (first | (go_at_call 148; (with_reducible refine (spec_l2Starts.calls k _ _ l0 (wrap64 ((ji3) - 1)) t424 _ ?side1 ?side2 A16.out).mono ?_); (case side1 => repeat (first | exact HR0.out | (with_reducible refine Kd.C_alloc ?_ _) | (with_reducible refine Kd.C_drewN ?_ _) | (with_reducible refine Kd.C_drew ?_))); (case side2 => exact HC0.out); rintro e w' ⟨rfl, ⟨nd, rfl⟩⟩; (try first | exact ⟨rfl, _, World.drewN_drewN _ _ _⟩ | exact ⟨rfl, _, Eq.trans (World.drewN_drewN _ _ _) (congrArg (World.drewN _) (Nat.add_assoc _ _ _))⟩); have q32 : (t424 : Int) ≤ ((l0.length : Int) : Int) := of_decide_eq_true (by first | (with_reducible assumption) | assumption); obtain ⟨i032, hi032, _, hsz32, _⟩ := info_parts info33; have hroom32 : l0.length ≤ c0 := HC0.out; have hC32 : Kd.C k33 _ (some ad415) l0.length l0 := HR0.out; have hcut32 := cut_to (P := Try.prog) 34 33 .i64 Try.underlying34 hi032 (some ad415) l0.length c0 t424 (of_decide_eq_true (by first | (with_reducible assumption) | assumption)) q32 hroom32; have hr32 := Kd.C_take (m := (t424 : Int).toNat) hC32 (by omega); have hy32 : y425.length = (t424 : Int).toNat := (by rw [Ny425.out, List.length_take]; omega); rw [← Ny425.out] at hr32; rw [← hy32] at hcut32; have HR428 := Aside0.mk hr32; have HC428 := Aside0.mk (show y425.length ≤ c0 from by omega); clear hr32 hC32 hroom32 hi032 hsz32; have KY32 := Aside0.mk hy32; clear hy32; replace q32 := eq_true q32) | (go_at_call 140; (with_reducible refine (ih k (by omega) _ _ y425 a1 true _ ?side1 ?side2 A19.out).mono ?_); (case side1 => repeat (first | exact HR428.out | (with_reducible refine Kd.C_alloc ?_ _) | (with_reducible refine Kd.C_drewN ?_ _) | (with_reducible refine Kd.C_drew ?_))); (case side2 => exact HC428.out); rintro e w' ⟨rfl, ⟨nd, rfl⟩⟩; (try first | exact ⟨rfl, _, World.drewN_drewN _ _ _⟩ | exact ⟨rfl, _, Eq.trans (World.drewN_drewN _ _ _) (congrArg (World.drewN _) (Nat.add_assoc _ _ _))⟩); have q33 : ((ji3) : Int) ≤ ((l0.length : Int) : Int) := of_decide_eq_true (by first | (with_reducible assumption) | assumption); obtain ⟨i033, hi033, _, hsz33, _⟩ := info_parts info33; have hroom33 : l0.length ≤ c0 := HC0.out; have hC33 : Kd.C k33 _ (some ad415) l0.length l0 := HR0.out; have ql33 : (t424 : Int) ≤ ((ji3) : Int) := of_decide_eq_true (by first | (with_reducible assumption) | assumption); have q033 : (0 : Int) ≤ (t424 : Int) := of_decide_eq_true (by first | (with_reducible assumption) | assumption); have hcut33 := cut_mid (P := Try.prog) 34 33 .i64 .i64 Try.underlying34 hi033 2 hsz33 (some ad415) l0.length c0 t424 (ji3) q033 ql33 q33 hroom33; have hr33 := Kd.C_mid (lo := (t424 : Int).toNat) (hi := ((ji3) : Int).toNat) (c := c0) hC33 (by omega) (by omega) hroom33; obtain ⟨A33, hA33⟩ : ∃ A1, A1 = (if c0 = (t424 : Int).toNat then (some ad415) else ((some ad415) : Option Addr).map (·.add ((t424 : Int).toNat * 2))) := ⟨_, rfl⟩; obtain ⟨c33, hc33⟩ : ∃ c1, c1 = c0 - (t424 : Int).toNat := ⟨_, rfl⟩; have hy33 : y430.length = ((ji3) : Int).toNat - (t424 : Int).toNat := (by rw [Ny430.out, List.length_drop, List.length_take] <;> omega); rw [show ((l0).take ((ji3) : Int).toNat).drop (t424 : Int).toNat = y430 from Ny430.out.symm] at hr33; replace hr33 : Kd.C k33 _ A33 y430.length y430 := (by rw [hA33]; exact hr33); rw [← hy33, ← hA33, ← hc33] at hcut33; have HR433 := Aside0.mk hr33; have HC433 := Aside0.mk (show y430.length ≤ c33 from by rw [hy33, hc33]; exact Nat.sub_le_sub_right (Nat.le_trans (by omega) hroom33) _); clear hr33 hC33 hroom33 hi033 hsz33 hc33; have KY33 := Aside0.mk hy33; have KA33 := Aside0.mk hA33; clear hy33 hA33; replace q33 := eq_true q33) | (go_at_call 140; (with_reducible refine (ih k (by omega) _ _ y430 a1 t434 _ ?side1 ?side2 A23.out).mono ?_); (case side1 => repeat (first | exact HR433.out | (with_reducible refine Kd.C_alloc ?_ _) | (with_reducible refine Kd.C_drewN ?_ _) | (with_reducible refine Kd.C_drew ?_))); (case side2 => exact HC433.out); rintro e w' ⟨rfl, ⟨nd, rfl⟩⟩; (try first | exact ⟨rfl, _, World.drewN_drewN _ _ _⟩ | exact ⟨rfl, _, Eq.trans (World.drewN_drewN _ _ _) (congrArg (World.drewN _) (Nat.add_assoc _ _ _))⟩); have p435 : 0 ≤ ((ji3) : Int) := of_decide_eq_true (by first | (with_reducible assumption) | assumption); have q435 : (ji3) < (l0.length : Int) := of_decide_eq_true (by first | (with_reducible assumption) | assumption); obtain ⟨ad435, e435, hx435_0, hx435_1⟩ := at_T33 HR0.out (ji3) p435 q435; obtain rfl : ad415 = ad435 := (by injection e435); replace p435 := eq_true p435; replace q435 := eq_true q435))
             repeat (go_quiet (first | (go_at_call 148; (with_reducible refine (spec_l2Starts.calls k _ _ l0 (wrap64 ((ji3) - 1)) t424 _ ?side1 ?side2 A16.out).mono ?_); (case side1 => repeat (first | exact HR0.out | (with_reducible refine Kd.C_alloc ?_ _) | (with_reducible refine Kd.C_drewN ?_ _) | (with_reducible refine Kd.C_drew ?_))); (case side2 => exact HC0.out); rintro e w' ⟨rfl, ⟨nd, rfl⟩⟩; (try first | exact ⟨rfl, _, World.drewN_drewN _ _ _⟩ | exact ⟨rfl, _, Eq.trans (World.drewN_drewN _ _ _) (congrArg (World.drewN _) (Nat.add_assoc _ _ _))⟩); have q32 : (t424 : Int) ≤ ((l0.length : Int) : Int) := of_decide_eq_true (by first | (with_reducible assumption) | assumption); obtain ⟨i032, hi032, _, hsz32, _⟩ := info_parts info33; have hroom32 : l0.length ≤ c0 := HC0.out; have hC32 : Kd.C k33 _ (some ad415) l0.length l0 := HR0.out; have hcut32 := cut_to (P := Try.prog) 34 33 .i64 Try.underlying34 hi032 (some ad415) l0.length c0 t424 (of_decide_eq_true (by first | (with_reducible assumption) | assumption)) q32 hroom32; have hr32 := Kd.C_take (m := (t424 : Int).toNat) hC32 (by omega); have hy32 : y425.length = (t424 : Int).toNat := (by rw [Ny425.out, List.length_take]; omega); rw [← Ny425.out] at hr32; rw [← hy32] at hcut32; have HR428 := Aside0.mk hr32; have HC428 := Aside0.mk (show y425.length ≤ c0 from by omega); clear hr32 hC32 hroom32 hi032 hsz32; have KY32 := Aside0.mk hy32; clear hy32; replace q32 := eq_true q32) | (go_at_call 140; (with_reducible refine (ih k (by omega) _ _ y425 a1 true _ ?side1 ?side2 A19.out).mono ?_); (case side1 => repeat (first | exact HR428.out | (with_reducible refine Kd.C_alloc ?_ _) | (with_reducible refine Kd.C_drewN ?_ _) | (with_reducible refine Kd.C_drew ?_))); (case side2 => exact HC428.out); rintro e w' ⟨rfl, ⟨nd, rfl⟩⟩; (try first | exact ⟨rfl, _, World.drewN_drewN _ _ _⟩ | exact ⟨rfl, _, Eq.trans (World.drewN_drewN _ _ _) (congrArg (World.drewN _) (Nat.add_assoc _ _ _))⟩); have q33 : ((ji3) : Int) ≤ ((l0.length : Int) : Int) := of_decide_eq_true (by first | (with_reducible assumption) | assumption); obtain ⟨i033, hi033, _, hsz33, _⟩ := info_parts info33; have hroom33 : l0.length ≤ c0 := HC0.out; have hC33 : Kd.C k33 _ (some ad415) l0.length l0 := HR0.out; have ql33 : (t424 : Int) ≤ ((ji3) : Int) := of_decide_eq_true (by first | (with_reducible assumption) | assumption); have q033 : (0 : Int) ≤ (t424 : Int) := of_decide_eq_true (by first | (with_reducible assumption) | assumption); have hcut33 := cut_mid (P := Try.prog) 34 33 .i64 .i64 Try.underlying34 hi033 2 hsz33 (some ad415) l0.length c0 t424 (ji3) q033 ql33 q33 hroom33; have hr33 := Kd.C_mid (lo := (t424 : Int).toNat) (hi := ((ji3) : Int).toNat) (c := c0) hC33 (by omega) (by omega) hroom33; obtain ⟨A33, hA33⟩ : ∃ A1, A1 = (if c0 = (t424 : Int).toNat then (some ad415) else ((some ad415) : Option Addr).map (·.add ((t424 : Int).toNat * 2))) := ⟨_, rfl⟩; obtain ⟨c33, hc33⟩ : ∃ c1, c1 = c0 - (t424 : Int).toNat := ⟨_, rfl⟩; have hy33 : y430.length = ((ji3) : Int).toNat - (t424 : Int).toNat := (by rw [Ny430.out, List.length_drop, List.length_take] <;> omega); rw [show ((l0).take ((ji3) : Int).toNat).drop (t424 : Int).toNat = y430 from Ny430.out.symm] at hr33; replace hr33 : Kd.C k33 _ A33 y430.length y430 := (by rw [hA33]; exact hr33); rw [← hy33, ← hA33, ← hc33] at hcut33; have HR433 := Aside0.mk hr33; have HC433 := Aside0.mk (show y430.length ≤ c33 from by rw [hy33, hc33]; exact Nat.sub_le_sub_right (Nat.le_trans (by omega) hroom33) _); clear hr33 hC33 hroom33 hi033 hsz33 hc33; have KY33 := Aside0.mk hy33; have KA33 := Aside0.mk hA33; clear hy33 hA33; replace q33 := eq_true q33) | (go_at_call 140; (with_reducible refine (ih k (by omega) _ _ y430 a1 t434 _ ?side1 ?side2 A23.out).mono ?_); (case side1 => repeat (first | exact HR433.out | (with_reducible refine Kd.C_alloc ?_ _) | (with_reducible refine Kd.C_drewN ?_ _) | (with_reducible refine Kd.C_drew ?_))); (case side2 => exact HC433.out); rintro e w' ⟨rfl, ⟨nd, rfl⟩⟩; (try first | exact ⟨rfl, _, World.drewN_drewN _ _ _⟩ | exact ⟨rfl, _, Eq.trans (World.drewN_drewN _ _ _) (congrArg (World.drewN _) (Nat.add_assoc _ _ _))⟩); have p435 : 0 ≤ ((ji3) : Int) := of_decide_eq_true (by first | (with_reducible assumption) | assumption); have q435 : (ji3) < (l0.length : Int) := of_decide_eq_true (by first | (with_reducible assumption) | assumption); obtain ⟨ad435, e435, hx435_0, hx435_1⟩ := at_T33 HR0.out (ji3) p435 q435; obtain rfl : ad415 = ad435 := (by injection e435); replace p435 := eq_true p435; replace q435 := eq_true q435)); try go_wp2_with (first | (go_at_call 148; (with_reducible refine (spec_l2Starts.calls k _ _ l0 (wrap64 ((ji3) - 1)) t424 _ ?side1 ?side2 A16.out).mono ?_); (case side1 => repeat (first | exact HR0.out | (with_reducible refine Kd.C_alloc ?_ _) | (with_reducible refine Kd.C_drewN ?_ _) | (with_reducible refine Kd.C_drew ?_))); (case side2 => exact HC0.out); rintro e w' ⟨rfl, ⟨nd, rfl⟩⟩; (try first | exact ⟨rfl, _, World.drewN_drewN _ _ _⟩ | exact ⟨rfl, _, Eq.trans (World.drewN_drewN _ _ _) (congrArg (World.drewN _) (Nat.add_assoc _ _ _))⟩); have q32 : (t424 : Int) ≤ ((l0.length : Int) : Int) := of_decide_eq_true (by first | (with_reducible assumption) | assumption); obtain ⟨i032, hi032, _, hsz32, _⟩ := info_parts info33; have hroom32 : l0.length ≤ c0 := HC0.out; have hC32 : Kd.C k33 _ (some ad415) l0.length l0 := HR0.out; have hcut32 := cut_to (P := Try.prog) 34 33 .i64 Try.underlying34 hi032 (some ad415) l0.length c0 t424 (of_decide_eq_true (by first | (with_reducible assumption) | assumption)) q32 hroom32; have hr32 := Kd.C_take (m := (t424 : Int).toNat) hC32 (by omega); have hy32 : y425.length = (t424 : Int).toNat := (by rw [Ny425.out, List.length_take]; omega); rw [← Ny425.out] at hr32; rw [← hy32] at hcut32; have HR428 := Aside0.mk hr32; have HC428 := Aside0.mk (show y425.length ≤ c0 from by omega); clear hr32 hC32 hroom32 hi032 hsz32; have KY32 := Aside0.mk hy32; clear hy32; replace q32 := eq_true q32) | (go_at_call 140; (with_reducible refine (ih k (by omega) _ _ y425 a1 true _ ?side1 ?side2 A19.out).mono ?_); (case side1 => repeat (first | exact HR428.out | (with_reducible refine Kd.C_alloc ?_ _) | (with_reducible refine Kd.C_drewN ?_ _) | (with_reducible refine Kd.C_drew ?_))); (case side2 => exact HC428.out); rintro e w' ⟨rfl, ⟨nd, rfl⟩⟩; (try first | exact ⟨rfl, _, World.drewN_drewN _ _ _⟩ | exact ⟨rfl, _, Eq.trans (World.drewN_drewN _ _ _) (congrArg (World.drewN _) (Nat.add_assoc _ _ _))⟩); have q33 : ((ji3) : Int) ≤ ((l0.length : Int) : Int) := of_decide_eq_true (by first | (with_reducible assumption) | assumption); obtain ⟨i033, hi033, _, hsz33, _⟩ := info_parts info33; have hroom33 : l0.length ≤ c0 := HC0.out; have hC33 : Kd.C k33 _ (some ad415) l0.length l0 := HR0.out; have ql33 : (t424 : Int) ≤ ((ji3) : Int) := of_decide_eq_true (by first | (with_reducible assumption) | assumption); have q033 : (0 : Int) ≤ (t424 : Int) := of_decide_eq_true (by first | (with_reducible assumption) | assumption); have hcut33 := cut_mid (P := Try.prog) 34 33 .i64 .i64 Try.underlying34 hi033 2 hsz33 (some ad415) l0.length c0 t424 (ji3) q033 ql33 q33 hroom33; have hr33 := Kd.C_mid (lo := (t424 : Int).toNat) (hi := ((ji3) : Int).toNat) (c := c0) hC33 (by omega) (by omega) hroom33; obtain ⟨A33, hA33⟩ : ∃ A1, A1 = (if c0 = (t424 : Int).toNat then (some ad415) else ((some ad415) : Option Addr).map (·.add ((t424 : Int).toNat * 2))) := ⟨_, rfl⟩; obtain ⟨c33, hc33⟩ : ∃ c1, c1 = c0 - (t424 : Int).toNat := ⟨_, rfl⟩; have hy33 : y430.length = ((ji3) : Int).toNat - (t424 : Int).toNat := (by rw [Ny430.out, List.length_drop, List.length_take] <;> omega); rw [show ((l0).take ((ji3) : Int).toNat).drop (t424 : Int).toNat = y430 from Ny430.out.symm] at hr33; replace hr33 : Kd.C k33 _ A33 y430.length y430 := (by rw [hA33]; exact hr33); rw [← hy33, ← hA33, ← hc33] at hcut33; have HR433 := Aside0.mk hr33; have HC433 := Aside0.mk (show y430.length ≤ c33 from by rw [hy33, hc33]; exact Nat.sub_le_sub_right (Nat.le_trans (by omega) hroom33) _); clear hr33 hC33 hroom33 hi033 hsz33 hc33; have KY33 := Aside0.mk hy33; have KA33 := Aside0.mk hA33; clear hy33 hA33; replace q33 := eq_true q33) | (go_at_call 140; (with_reducible refine (ih k (by omega) _ _ y430 a1 t434 _ ?side1 ?side2 A23.out).mono ?_); (case side1 => repeat (first | exact HR433.out | (with_reducible refine Kd.C_alloc ?_ _) | (with_reducible refine Kd.C_drewN ?_ _) | (with_reducible refine Kd.C_drew ?_))); (case side2 => exact HC433.out); rintro e w' ⟨rfl, ⟨nd, rfl⟩⟩; (try first | exact ⟨rfl, _, World.drewN_drewN _ _ _⟩ | exact ⟨rfl, _, Eq.trans (World.drewN_drewN _ _ _) (congrArg (World.drewN _) (Nat.add_assoc _ _ _))⟩); have p435 : 0 ≤ ((ji3) : Int) := of_decide_eq_true (by first | (with_reducible assumption) | assumption); have q435 : (ji3) < (l0.length : Int) := of_decide_eq_true (by first | (with_reducible assumption) | assumption); obtain ⟨ad435, e435, hx435_0, hx435_1⟩ := at_T33 HR0.out (ji3) p435 q435; obtain rfl : ad415 = ad435 := (by injection e435); replace p435 := eq_true p435; replace q435 := eq_true q435)))
             go_ret
             exact ⟨by first | rfl | (simp; done) | (simp only [← hji3] <;> (first | rfl | simp)) | (simp [*]; done), by repeat (first | exact Drawn0.refl _ | apply Drawn0.step)⟩
            ·replace c31 := Bool.eq_false_iff.mpr c31
             subst c31
             have H1 : (some t434) = some r := by rw [if_neg (show ¬ (false = true) by decide)] at H; exact H
             clear H
             have H := H1
             clear H1
             obtain rfl := Option.some.inj H
             have p415 : 0 ≤ ((ji3) : Int) := of_decide_eq_true (by first | (with_reducible assumption) | assumption)
             have q415 : (ji3) < (l0.length : Int) := of_decide_eq_true (by first | (with_reducible assumption) | assumption)
             obtain ⟨ad415, e415, hx415_0, hx415_1⟩ := at_T33 HR0.out (ji3) p415 q415
             cases e415
             replace p415 := eq_true p415
             replace q415 := eq_true q415
             go_enter Try.func140, Try.ntmps140
             go_wp2_with (first | (go_at_call 148; (with_reducible refine (spec_l2Starts.calls k _ _ l0 (wrap64 ((ji3) - 1)) t424 _ ?side1 ?side2 A16.out).mono ?_); (case side1 => repeat (first | exact HR0.out | (with_reducible refine Kd.C_alloc ?_ _) | (with_reducible refine Kd.C_drewN ?_ _) | (with_reducible refine Kd.C_drew ?_))); (case side2 => exact HC0.out); rintro e w' ⟨rfl, ⟨nd, rfl⟩⟩; (try first | exact ⟨rfl, _, World.drewN_drewN _ _ _⟩ | exact ⟨rfl, _, Eq.trans (World.drewN_drewN _ _ _) (congrArg (World.drewN _) (Nat.add_assoc _ _ _))⟩); have q34 : (t424 : Int) ≤ ((l0.length : Int) : Int) := of_decide_eq_true (by first | (with_reducible assumption) | assumption); obtain ⟨i034, hi034, _, hsz34, _⟩ := info_parts info33; have hroom34 : l0.length ≤ c0 := HC0.out; have hC34 : Kd.C k33 _ (some ad415) l0.length l0 := HR0.out; have hcut34 := cut_to (P := Try.prog) 34 33 .i64 Try.underlying34 hi034 (some ad415) l0.length c0 t424 (of_decide_eq_true (by first | (with_reducible assumption) | assumption)) q34 hroom34; have hr34 := Kd.C_take (m := (t424 : Int).toNat) hC34 (by omega); have hy34 : y425.length = (t424 : Int).toNat := (by rw [Ny425.out, List.length_take]; omega); rw [← Ny425.out] at hr34; rw [← hy34] at hcut34; have HR428 := Aside0.mk hr34; have HC428 := Aside0.mk (show y425.length ≤ c0 from by omega); clear hr34 hC34 hroom34 hi034 hsz34; have KY34 := Aside0.mk hy34; clear hy34; replace q34 := eq_true q34) | (go_at_call 140; (with_reducible refine (ih k (by omega) _ _ y425 a1 false _ ?side1 ?side2 A19.out).mono ?_); (case side1 => repeat (first | exact HR428.out | (with_reducible refine Kd.C_alloc ?_ _) | (with_reducible refine Kd.C_drewN ?_ _) | (with_reducible refine Kd.C_drew ?_))); (case side2 => exact HC428.out); rintro e w' ⟨rfl, ⟨nd, rfl⟩⟩; (try first | exact ⟨rfl, _, World.drewN_drewN _ _ _⟩ | exact ⟨rfl, _, Eq.trans (World.drewN_drewN _ _ _) (congrArg (World.drewN _) (Nat.add_assoc _ _ _))⟩); have q35 : ((ji3) : Int) ≤ ((l0.length : Int) : Int) := of_decide_eq_true (by first | (with_reducible assumption) | assumption); obtain ⟨i035, hi035, _, hsz35, _⟩ := info_parts info33; have hroom35 : l0.length ≤ c0 := HC0.out; have hC35 : Kd.C k33 _ (some ad415) l0.length l0 := HR0.out; have ql35 : (t424 : Int) ≤ ((ji3) : Int) := of_decide_eq_true (by first | (with_reducible assumption) | assumption); have q035 : (0 : Int) ≤ (t424 : Int) := of_decide_eq_true (by first | (with_reducible assumption) | assumption); have hcut35 := cut_mid (P := Try.prog) 34 33 .i64 .i64 Try.underlying34 hi035 2 hsz35 (some ad415) l0.length c0 t424 (ji3) q035 ql35 q35 hroom35; have hr35 := Kd.C_mid (lo := (t424 : Int).toNat) (hi := ((ji3) : Int).toNat) (c := c0) hC35 (by omega) (by omega) hroom35; obtain ⟨A35, hA35⟩ : ∃ A1, A1 = (if c0 = (t424 : Int).toNat then (some ad415) else ((some ad415) : Option Addr).map (·.add ((t424 : Int).toNat * 2))) := ⟨_, rfl⟩; obtain ⟨c35, hc35⟩ : ∃ c1, c1 = c0 - (t424 : Int).toNat := ⟨_, rfl⟩; have hy35 : y430.length = ((ji3) : Int).toNat - (t424 : Int).toNat := (by rw [Ny430.out, List.length_drop, List.length_take] <;> omega); rw [show ((l0).take ((ji3) : Int).toNat).drop (t424 : Int).toNat = y430 from Ny430.out.symm] at hr35; replace hr35 : Kd.C k33 _ A35 y430.length y430 := (by rw [hA35]; exact hr35); rw [← hy35, ← hA35, ← hc35] at hcut35; have HR433 := Aside0.mk hr35; have HC433 := Aside0.mk (show y430.length ≤ c35 from by rw [hy35, hc35]; exact Nat.sub_le_sub_right (Nat.le_trans (by omega) hroom35) _); clear hr35 hC35 hroom35 hi035 hsz35 hc35; have KY35 := Aside0.mk hy35; have KA35 := Aside0.mk hA35; clear hy35 hA35; replace q35 := eq_true q35) | (go_at_call 140; (with_reducible refine (ih k (by omega) _ _ y430 a1 t434 _ ?side1 ?side2 A23.out).mono ?_); (case side1 => repeat (first | exact HR433.out | (with_reducible refine Kd.C_alloc ?_ _) | (with_reducible refine Kd.C_drewN ?_ _) | (with_reducible refine Kd.C_drew ?_))); (case side2 => exact HC433.out); rintro e w' ⟨rfl, ⟨nd, rfl⟩⟩; (try first | exact ⟨rfl, _, World.drewN_drewN _ _ _⟩ | exact ⟨rfl, _, Eq.trans (World.drewN_drewN _ _ _) (congrArg (World.drewN _) (Nat.add_assoc _ _ _))⟩); have p435 : 0 ≤ ((ji3) : Int) := of_decide_eq_true (by first | (with_reducible assumption) | assumption); have q435 : (ji3) < (l0.length : Int) := of_decide_eq_true (by first | (with_reducible assumption) | assumption); obtain ⟨ad435, e435, hx435_0, hx435_1⟩ := at_T33 HR0.out (ji3) p435 q435; obtain rfl : ad415 = ad435 := (by injection e435); replace p435 := eq_true p435; replace q435 := eq_true q435))
             repeat (go_quiet (first | (go_at_call 148; (with_reducible refine (spec_l2Starts.calls k _ _ l0 (wrap64 ((ji3) - 1)) t424 _ ?side1 ?side2 A16.out).mono ?_); (case side1 => repeat (first | exact HR0.out | (with_reducible refine Kd.C_alloc ?_ _) | (with_reducible refine Kd.C_drewN ?_ _) | (with_reducible refine Kd.C_drew ?_))); (case side2 => exact HC0.out); rintro e w' ⟨rfl, ⟨nd, rfl⟩⟩; (try first | exact ⟨rfl, _, World.drewN_drewN _ _ _⟩ | exact ⟨rfl, _, Eq.trans (World.drewN_drewN _ _ _) (congrArg (World.drewN _) (Nat.add_assoc _ _ _))⟩); have q34 : (t424 : Int) ≤ ((l0.length : Int) : Int) := of_decide_eq_true (by first | (with_reducible assumption) | assumption); obtain ⟨i034, hi034, _, hsz34, _⟩ := info_parts info33; have hroom34 : l0.length ≤ c0 := HC0.out; have hC34 : Kd.C k33 _ (some ad415) l0.length l0 := HR0.out; have hcut34 := cut_to (P := Try.prog) 34 33 .i64 Try.underlying34 hi034 (some ad415) l0.length c0 t424 (of_decide_eq_true (by first | (with_reducible assumption) | assumption)) q34 hroom34; have hr34 := Kd.C_take (m := (t424 : Int).toNat) hC34 (by omega); have hy34 : y425.length = (t424 : Int).toNat := (by rw [Ny425.out, List.length_take]; omega); rw [← Ny425.out] at hr34; rw [← hy34] at hcut34; have HR428 := Aside0.mk hr34; have HC428 := Aside0.mk (show y425.length ≤ c0 from by omega); clear hr34 hC34 hroom34 hi034 hsz34; have KY34 := Aside0.mk hy34; clear hy34; replace q34 := eq_true q34) | (go_at_call 140; (with_reducible refine (ih k (by omega) _ _ y425 a1 false _ ?side1 ?side2 A19.out).mono ?_); (case side1 => repeat (first | exact HR428.out | (with_reducible refine Kd.C_alloc ?_ _) | (with_reducible refine Kd.C_drewN ?_ _) | (with_reducible refine Kd.C_drew ?_))); (case side2 => exact HC428.out); rintro e w' ⟨rfl, ⟨nd, rfl⟩⟩; (try first | exact ⟨rfl, _, World.drewN_drewN _ _ _⟩ | exact ⟨rfl, _, Eq.trans (World.drewN_drewN _ _ _) (congrArg (World.drewN _) (Nat.add_assoc _ _ _))⟩); have q35 : ((ji3) : Int) ≤ ((l0.length : Int) : Int) := of_decide_eq_true (by first | (with_reducible assumption) | assumption); obtain ⟨i035, hi035, _, hsz35, _⟩ := info_parts info33; have hroom35 : l0.length ≤ c0 := HC0.out; have hC35 : Kd.C k33 _ (some ad415) l0.length l0 := HR0.out; have ql35 : (t424 : Int) ≤ ((ji3) : Int) := of_decide_eq_true (by first | (with_reducible assumption) | assumption); have q035 : (0 : Int) ≤ (t424 : Int) := of_decide_eq_true (by first | (with_reducible assumption) | assumption); have hcut35 := cut_mid (P := Try.prog) 34 33 .i64 .i64 Try.underlying34 hi035 2 hsz35 (some ad415) l0.length c0 t424 (ji3) q035 ql35 q35 hroom35; have hr35 := Kd.C_mid (lo := (t424 : Int).toNat) (hi := ((ji3) : Int).toNat) (c := c0) hC35 (by omega) (by omega) hroom35; obtain ⟨A35, hA35⟩ : ∃ A1, A1 = (if c0 = (t424 : Int).toNat then (some ad415) else ((some ad415) : Option Addr).map (·.add ((t424 : Int).toNat * 2))) := ⟨_, rfl⟩; obtain ⟨c35, hc35⟩ : ∃ c1, c1 = c0 - (t424 : Int).toNat := ⟨_, rfl⟩; have hy35 : y430.length = ((ji3) : Int).toNat - (t424 : Int).toNat := (by rw [Ny430.out, List.length_drop, List.length_take] <;> omega); rw [show ((l0).take ((ji3) : Int).toNat).drop (t424 : Int).toNat = y430 from Ny430.out.symm] at hr35; replace hr35 : Kd.C k33 _ A35 y430.length y430 := (by rw [hA35]; exact hr35); rw [← hy35, ← hA35, ← hc35] at hcut35; have HR433 := Aside0.mk hr35; have HC433 := Aside0.mk (show y430.length ≤ c35 from by rw [hy35, hc35]; exact Nat.sub_le_sub_right (Nat.le_trans (by omega) hroom35) _); clear hr35 hC35 hroom35 hi035 hsz35 hc35; have KY35 := Aside0.mk hy35; have KA35 := Aside0.mk hA35; clear hy35 hA35; replace q35 := eq_true q35) | (go_at_call 140; (with_reducible refine (ih k (by omega) _ _ y430 a1 t434 _ ?side1 ?side2 A23.out).mono ?_); (case side1 => repeat (first | exact HR433.out | (with_reducible refine Kd.C_alloc ?_ _) | (with_reducible refine Kd.C_drewN ?_ _) | (with_reducible refine Kd.C_drew ?_))); (case side2 => exact HC433.out); rintro e w' ⟨rfl, ⟨nd, rfl⟩⟩; (try first | exact ⟨rfl, _, World.drewN_drewN _ _ _⟩ | exact ⟨rfl, _, Eq.trans (World.drewN_drewN _ _ _) (congrArg (World.drewN _) (Nat.add_assoc _ _ _))⟩); have p435 : 0 ≤ ((ji3) : Int) := of_decide_eq_true (by first | (with_reducible assumption) | assumption); have q435 : (ji3) < (l0.length : Int) := of_decide_eq_true (by first | (with_reducible assumption) | assumption); obtain ⟨ad435, e435, hx435_0, hx435_1⟩ := at_T33 HR0.out (ji3) p435 q435; obtain rfl : ad415 = ad435 := (by injection e435); replace p435 := eq_true p435; replace q435 := eq_true q435)); try go_wp2_with (first | (go_at_call 148; (with_reducible refine (spec_l2Starts.calls k _ _ l0 (wrap64 ((ji3) - 1)) t424 _ ?side1 ?side2 A16.out).mono ?_); (case side1 => repeat (first | exact HR0.out | (with_reducible refine Kd.C_alloc ?_ _) | (with_reducible refine Kd.C_drewN ?_ _) | (with_reducible refine Kd.C_drew ?_))); (case side2 => exact HC0.out); rintro e w' ⟨rfl, ⟨nd, rfl⟩⟩; (try first | exact ⟨rfl, _, World.drewN_drewN _ _ _⟩ | exact ⟨rfl, _, Eq.trans (World.drewN_drewN _ _ _) (congrArg (World.drewN _) (Nat.add_assoc _ _ _))⟩); have q34 : (t424 : Int) ≤ ((l0.length : Int) : Int) := of_decide_eq_true (by first | (with_reducible assumption) | assumption); obtain ⟨i034, hi034, _, hsz34, _⟩ := info_parts info33; have hroom34 : l0.length ≤ c0 := HC0.out; have hC34 : Kd.C k33 _ (some ad415) l0.length l0 := HR0.out; have hcut34 := cut_to (P := Try.prog) 34 33 .i64 Try.underlying34 hi034 (some ad415) l0.length c0 t424 (of_decide_eq_true (by first | (with_reducible assumption) | assumption)) q34 hroom34; have hr34 := Kd.C_take (m := (t424 : Int).toNat) hC34 (by omega); have hy34 : y425.length = (t424 : Int).toNat := (by rw [Ny425.out, List.length_take]; omega); rw [← Ny425.out] at hr34; rw [← hy34] at hcut34; have HR428 := Aside0.mk hr34; have HC428 := Aside0.mk (show y425.length ≤ c0 from by omega); clear hr34 hC34 hroom34 hi034 hsz34; have KY34 := Aside0.mk hy34; clear hy34; replace q34 := eq_true q34) | (go_at_call 140; (with_reducible refine (ih k (by omega) _ _ y425 a1 false _ ?side1 ?side2 A19.out).mono ?_); (case side1 => repeat (first | exact HR428.out | (with_reducible refine Kd.C_alloc ?_ _) | (with_reducible refine Kd.C_drewN ?_ _) | (with_reducible refine Kd.C_drew ?_))); (case side2 => exact HC428.out); rintro e w' ⟨rfl, ⟨nd, rfl⟩⟩; (try first | exact ⟨rfl, _, World.drewN_drewN _ _ _⟩ | exact ⟨rfl, _, Eq.trans (World.drewN_drewN _ _ _) (congrArg (World.drewN _) (Nat.add_assoc _ _ _))⟩); have q35 : ((ji3) : Int) ≤ ((l0.length : Int) : Int) := of_decide_eq_true (by first | (with_reducible assumption) | assumption); obtain ⟨i035, hi035, _, hsz35, _⟩ := info_parts info33; have hroom35 : l0.length ≤ c0 := HC0.out; have hC35 : Kd.C k33 _ (some ad415) l0.length l0 := HR0.out; have ql35 : (t424 : Int) ≤ ((ji3) : Int) := of_decide_eq_true (by first | (with_reducible assumption) | assumption); have q035 : (0 : Int) ≤ (t424 : Int) := of_decide_eq_true (by first | (with_reducible assumption) | assumption); have hcut35 := cut_mid (P := Try.prog) 34 33 .i64 .i64 Try.underlying34 hi035 2 hsz35 (some ad415) l0.length c0 t424 (ji3) q035 ql35 q35 hroom35; have hr35 := Kd.C_mid (lo := (t424 : Int).toNat) (hi := ((ji3) : Int).toNat) (c := c0) hC35 (by omega) (by omega) hroom35; obtain ⟨A35, hA35⟩ : ∃ A1, A1 = (if c0 = (t424 : Int).toNat then (some ad415) else ((some ad415) : Option Addr).map (·.add ((t424 : Int).toNat * 2))) := ⟨_, rfl⟩; obtain ⟨c35, hc35⟩ : ∃ c1, c1 = c0 - (t424 : Int).toNat := ⟨_, rfl⟩; have hy35 : y430.length = ((ji3) : Int).toNat - (t424 : Int).toNat := (by rw [Ny430.out, List.length_drop, List.length_take] <;> omega); rw [show ((l0).take ((ji3) : Int).toNat).drop (t424 : Int).toNat = y430 from Ny430.out.symm] at hr35; replace hr35 : Kd.C k33 _ A35 y430.length y430 := (by rw [hA35]; exact hr35); rw [← hy35, ← hA35, ← hc35] at hcut35; have HR433 := Aside0.mk hr35; have HC433 := Aside0.mk (show y430.length ≤ c35 from by rw [hy35, hc35]; exact Nat.sub_le_sub_right (Nat.le_trans (by omega) hroom35) _); clear hr35 hC35 hroom35 hi035 hsz35 hc35; have KY35 := Aside0.mk hy35; have KA35 := Aside0.mk hA35; clear hy35 hA35; replace q35 := eq_true q35) | (go_at_call 140; (with_reducible refine (ih k (by omega) _ _ y430 a1 t434 _ ?side1 ?side2 A23.out).mono ?_); (case side1 => repeat (first | exact HR433.out | (with_reducible refine Kd.C_alloc ?_ _) | (with_reducible refine Kd.C_drewN ?_ _) | (with_reducible refine Kd.C_drew ?_))); (case side2 => exact HC433.out); rintro e w' ⟨rfl, ⟨nd, rfl⟩⟩; (try first | exact ⟨rfl, _, World.drewN_drewN _ _ _⟩ | exact ⟨rfl, _, Eq.trans (World.drewN_drewN _ _ _) (congrArg (World.drewN _) (Nat.add_assoc _ _ _))⟩); have p435 : 0 ≤ ((ji3) : Int) := of_decide_eq_true (by first | (with_reducible assumption) | assumption); have q435 : (ji3) < (l0.length : Int) := of_decide_eq_true (by first | (with_reducible assumption) | assumption); obtain ⟨ad435, e435, hx435_0, hx435_1⟩ := at_T33 HR0.out (ji3) p435 q435; obtain rfl : ad415 = ad435 := (by injection e435); replace p435 := eq_true p435; replace q435 := eq_true q435)))
             go_ret
             exact ⟨by first | rfl | (simp; done) | (simp only [← hji3] <;> (first | rfl | simp)) | (simp [*]; done), by repeat (first | exact Drawn0.refl _ | apply Drawn0.step)⟩
           ·rw [if_neg c30] at H
            have c30b0 : (((rd_T33 l0 (ji3)).f0) == 4) = false := beq_eq_false_iff_ne.mpr c30
            have c30b1 : (((rd_T33 l0 (ji3)).f0) != 4) = true := bne_iff_ne.mpr c30
            obtain rfl := Option.some.inj H
            have p415 : 0 ≤ ((ji3) : Int) := of_decide_eq_true (by first | (with_reducible assumption) | assumption)
            have q415 : (ji3) < (l0.length : Int) := of_decide_eq_true (by first | (with_reducible assumption) | assumption)
            obtain ⟨ad415, e415, hx415_0, hx415_1⟩ := at_T33 HR0.out (ji3) p415 q415
            cases e415
            replace p415 := eq_true p415
            replace q415 := eq_true q415
            go_enter Try.func140, Try.ntmps140
            go_wp2_with (first | (go_at_call 148; (with_reducible refine (spec_l2Starts.calls k _ _ l0 (wrap64 ((ji3) - 1)) t424 _ ?side1 ?side2 A16.out).mono ?_); (case side1 => repeat (first | exact HR0.out | (with_reducible refine Kd.C_alloc ?_ _) | (with_reducible refine Kd.C_drewN ?_ _) | (with_reducible refine Kd.C_drew ?_))); (case side2 => exact HC0.out); rintro e w' ⟨rfl, ⟨nd, rfl⟩⟩; (try first | exact ⟨rfl, _, World.drewN_drewN _ _ _⟩ | exact ⟨rfl, _, Eq.trans (World.drewN_drewN _ _ _) (congrArg (World.drewN _) (Nat.add_assoc _ _ _))⟩); have q36 : (t424 : Int) ≤ ((l0.length : Int) : Int) := of_decide_eq_true (by first | (with_reducible assumption) | assumption); obtain ⟨i036, hi036, _, hsz36, _⟩ := info_parts info33; have hroom36 : l0.length ≤ c0 := HC0.out; have hC36 : Kd.C k33 _ (some ad415) l0.length l0 := HR0.out; have hcut36 := cut_to (P := Try.prog) 34 33 .i64 Try.underlying34 hi036 (some ad415) l0.length c0 t424 (of_decide_eq_true (by first | (with_reducible assumption) | assumption)) q36 hroom36; have hr36 := Kd.C_take (m := (t424 : Int).toNat) hC36 (by omega); have hy36 : y425.length = (t424 : Int).toNat := (by rw [Ny425.out, List.length_take]; omega); rw [← Ny425.out] at hr36; rw [← hy36] at hcut36; have HR428 := Aside0.mk hr36; have HC428 := Aside0.mk (show y425.length ≤ c0 from by omega); clear hr36 hC36 hroom36 hi036 hsz36; have KY36 := Aside0.mk hy36; clear hy36; replace q36 := eq_true q36) | (go_at_call 140; (with_reducible refine (ih k (by omega) _ _ y425 a1 t429 _ ?side1 ?side2 A19.out).mono ?_); (case side1 => repeat (first | exact HR428.out | (with_reducible refine Kd.C_alloc ?_ _) | (with_reducible refine Kd.C_drewN ?_ _) | (with_reducible refine Kd.C_drew ?_))); (case side2 => exact HC428.out); rintro e w' ⟨rfl, ⟨nd, rfl⟩⟩; (try first | exact ⟨rfl, _, World.drewN_drewN _ _ _⟩ | exact ⟨rfl, _, Eq.trans (World.drewN_drewN _ _ _) (congrArg (World.drewN _) (Nat.add_assoc _ _ _))⟩); have q37 : ((ji3) : Int) ≤ ((l0.length : Int) : Int) := of_decide_eq_true (by first | (with_reducible assumption) | assumption); obtain ⟨i037, hi037, _, hsz37, _⟩ := info_parts info33; have hroom37 : l0.length ≤ c0 := HC0.out; have hC37 : Kd.C k33 _ (some ad415) l0.length l0 := HR0.out; have ql37 : (t424 : Int) ≤ ((ji3) : Int) := of_decide_eq_true (by first | (with_reducible assumption) | assumption); have q037 : (0 : Int) ≤ (t424 : Int) := of_decide_eq_true (by first | (with_reducible assumption) | assumption); have hcut37 := cut_mid (P := Try.prog) 34 33 .i64 .i64 Try.underlying34 hi037 2 hsz37 (some ad415) l0.length c0 t424 (ji3) q037 ql37 q37 hroom37; have hr37 := Kd.C_mid (lo := (t424 : Int).toNat) (hi := ((ji3) : Int).toNat) (c := c0) hC37 (by omega) (by omega) hroom37; obtain ⟨A37, hA37⟩ : ∃ A1, A1 = (if c0 = (t424 : Int).toNat then (some ad415) else ((some ad415) : Option Addr).map (·.add ((t424 : Int).toNat * 2))) := ⟨_, rfl⟩; obtain ⟨c37, hc37⟩ : ∃ c1, c1 = c0 - (t424 : Int).toNat := ⟨_, rfl⟩; have hy37 : y430.length = ((ji3) : Int).toNat - (t424 : Int).toNat := (by rw [Ny430.out, List.length_drop, List.length_take] <;> omega); rw [show ((l0).take ((ji3) : Int).toNat).drop (t424 : Int).toNat = y430 from Ny430.out.symm] at hr37; replace hr37 : Kd.C k33 _ A37 y430.length y430 := (by rw [hA37]; exact hr37); rw [← hy37, ← hA37, ← hc37] at hcut37; have HR433 := Aside0.mk hr37; have HC433 := Aside0.mk (show y430.length ≤ c37 from by rw [hy37, hc37]; exact Nat.sub_le_sub_right (Nat.le_trans (by omega) hroom37) _); clear hr37 hC37 hroom37 hi037 hsz37 hc37; have KY37 := Aside0.mk hy37; have KA37 := Aside0.mk hA37; clear hy37 hA37; replace q37 := eq_true q37) | (go_at_call 140; (with_reducible refine (ih k (by omega) _ _ y430 a1 t434 _ ?side1 ?side2 A23.out).mono ?_); (case side1 => repeat (first | exact HR433.out | (with_reducible refine Kd.C_alloc ?_ _) | (with_reducible refine Kd.C_drewN ?_ _) | (with_reducible refine Kd.C_drew ?_))); (case side2 => exact HC433.out); rintro e w' ⟨rfl, ⟨nd, rfl⟩⟩; (try first | exact ⟨rfl, _, World.drewN_drewN _ _ _⟩ | exact ⟨rfl, _, Eq.trans (World.drewN_drewN _ _ _) (congrArg (World.drewN _) (Nat.add_assoc _ _ _))⟩); have p435 : 0 ≤ ((ji3) : Int) := of_decide_eq_true (by first | (with_reducible assumption) | assumption); have q435 : (ji3) < (l0.length : Int) := of_decide_eq_true (by first | (with_reducible assumption) | assumption); obtain ⟨ad435, e435, hx435_0, hx435_1⟩ := at_T33 HR0.out (ji3) p435 q435; obtain rfl : ad415 = ad435 := (by injection e435); replace p435 := eq_true p435; replace q435 := eq_true q435))
            repeat (go_quiet (first | (go_at_call 148; (with_reducible refine (spec_l2Starts.calls k _ _ l0 (wrap64 ((ji3) - 1)) t424 _ ?side1 ?side2 A16.out).mono ?_); (case side1 => repeat (first | exact HR0.out | (with_reducible refine Kd.C_alloc ?_ _) | (with_reducible refine Kd.C_drewN ?_ _) | (with_reducible refine Kd.C_drew ?_))); (case side2 => exact HC0.out); rintro e w' ⟨rfl, ⟨nd, rfl⟩⟩; (try first | exact ⟨rfl, _, World.drewN_drewN _ _ _⟩ | exact ⟨rfl, _, Eq.trans (World.drewN_drewN _ _ _) (congrArg (World.drewN _) (Nat.add_assoc _ _ _))⟩); have q36 : (t424 : Int) ≤ ((l0.length : Int) : Int) := of_decide_eq_true (by first | (with_reducible assumption) | assumption); obtain ⟨i036, hi036, _, hsz36, _⟩ := info_parts info33; have hroom36 : l0.length ≤ c0 := HC0.out; have hC36 : Kd.C k33 _ (some ad415) l0.length l0 := HR0.out; have hcut36 := cut_to (P := Try.prog) 34 33 .i64 Try.underlying34 hi036 (some ad415) l0.length c0 t424 (of_decide_eq_true (by first | (with_reducible assumption) | assumption)) q36 hroom36; have hr36 := Kd.C_take (m := (t424 : Int).toNat) hC36 (by omega); have hy36 : y425.length = (t424 : Int).toNat := (by rw [Ny425.out, List.length_take]; omega); rw [← Ny425.out] at hr36; rw [← hy36] at hcut36; have HR428 := Aside0.mk hr36; have HC428 := Aside0.mk (show y425.length ≤ c0 from by omega); clear hr36 hC36 hroom36 hi036 hsz36; have KY36 := Aside0.mk hy36; clear hy36; replace q36 := eq_true q36) | (go_at_call 140; (with_reducible refine (ih k (by omega) _ _ y425 a1 t429 _ ?side1 ?side2 A19.out).mono ?_); (case side1 => repeat (first | exact HR428.out | (with_reducible refine Kd.C_alloc ?_ _) | (with_reducible refine Kd.C_drewN ?_ _) | (with_reducible refine Kd.C_drew ?_))); (case side2 => exact HC428.out); rintro e w' ⟨rfl, ⟨nd, rfl⟩⟩; (try first | exact ⟨rfl, _, World.drewN_drewN _ _ _⟩ | exact ⟨rfl, _, Eq.trans (World.drewN_drewN _ _ _) (congrArg (World.drewN _) (Nat.add_assoc _ _ _))⟩); have q37 : ((ji3) : Int) ≤ ((l0.length : Int) : Int) := of_decide_eq_true (by first | (with_reducible assumption) | assumption); obtain ⟨i037, hi037, _, hsz37, _⟩ := info_parts info33; have hroom37 : l0.length ≤ c0 := HC0.out; have hC37 : Kd.C k33 _ (some ad415) l0.length l0 := HR0.out; have ql37 : (t424 : Int) ≤ ((ji3) : Int) := of_decide_eq_true (by first | (with_reducible assumption) | assumption); have q037 : (0 : Int) ≤ (t424 : Int) := of_decide_eq_true (by first | (with_reducible assumption) | assumption); have hcut37 := cut_mid (P := Try.prog) 34 33 .i64 .i64 Try.underlying34 hi037 2 hsz37 (some ad415) l0.length c0 t424 (ji3) q037 ql37 q37 hroom37; have hr37 := Kd.C_mid (lo := (t424 : Int).toNat) (hi := ((ji3) : Int).toNat) (c := c0) hC37 (by omega) (by omega) hroom37; obtain ⟨A37, hA37⟩ : ∃ A1, A1 = (if c0 = (t424 : Int).toNat then (some ad415) else ((some ad415) : Option Addr).map (·.add ((t424 : Int).toNat * 2))) := ⟨_, rfl⟩; obtain ⟨c37, hc37⟩ : ∃ c1, c1 = c0 - (t424 : Int).toNat := ⟨_, rfl⟩; have hy37 : y430.length = ((ji3) : Int).toNat - (t424 : Int).toNat := (by rw [Ny430.out, List.length_drop, List.length_take] <;> omega); rw [show ((l0).take ((ji3) : Int).toNat).drop (t424 : Int).toNat = y430 from Ny430.out.symm] at hr37; replace hr37 : Kd.C k33 _ A37 y430.length y430 := (by rw [hA37]; exact hr37); rw [← hy37, ← hA37, ← hc37] at hcut37; have HR433 := Aside0.mk hr37; have HC433 := Aside0.mk (show y430.length ≤ c37 from by rw [hy37, hc37]; exact Nat.sub_le_sub_right (Nat.le_trans (by omega) hroom37) _); clear hr37 hC37 hroom37 hi037 hsz37 hc37; have KY37 := Aside0.mk hy37; have KA37 := Aside0.mk hA37; clear hy37 hA37; replace q37 := eq_true q37) | (go_at_call 140; (with_reducible refine (ih k (by omega) _ _ y430 a1 t434 _ ?side1 ?side2 A23.out).mono ?_); (case side1 => repeat (first | exact HR433.out | (with_reducible refine Kd.C_alloc ?_ _) | (with_reducible refine Kd.C_drewN ?_ _) | (with_reducible refine Kd.C_drew ?_))); (case side2 => exact HC433.out); rintro e w' ⟨rfl, ⟨nd, rfl⟩⟩; (try first | exact ⟨rfl, _, World.drewN_drewN _ _ _⟩ | exact ⟨rfl, _, Eq.trans (World.drewN_drewN _ _ _) (congrArg (World.drewN _) (Nat.add_assoc _ _ _))⟩); have p435 : 0 ≤ ((ji3) : Int) := of_decide_eq_true (by first | (with_reducible assumption) | assumption); have q435 : (ji3) < (l0.length : Int) := of_decide_eq_true (by first | (with_reducible assumption) | assumption); obtain ⟨ad435, e435, hx435_0, hx435_1⟩ := at_T33 HR0.out (ji3) p435 q435; obtain rfl : ad415 = ad435 := (by injection e435); replace p435 := eq_true p435; replace q435 := eq_true q435)); try go_wp2_with (first | (go_at_call 148; (with_reducible refine (spec_l2Starts.calls k _ _ l0 (wrap64 ((ji3) - 1)) t424 _ ?side1 ?side2 A16.out).mono ?_); (case side1 => repeat (first | exact HR0.out | (with_reducible refine Kd.C_alloc ?_ _) | (with_reducible refine Kd.C_drewN ?_ _) | (with_reducible refine Kd.C_drew ?_))); (case side2 => exact HC0.out); rintro e w' ⟨rfl, ⟨nd, rfl⟩⟩; (try first | exact ⟨rfl, _, World.drewN_drewN _ _ _⟩ | exact ⟨rfl, _, Eq.trans (World.drewN_drewN _ _ _) (congrArg (World.drewN _) (Nat.add_assoc _ _ _))⟩); have q36 : (t424 : Int) ≤ ((l0.length : Int) : Int) := of_decide_eq_true (by first | (with_reducible assumption) | assumption); obtain ⟨i036, hi036, _, hsz36, _⟩ := info_parts info33; have hroom36 : l0.length ≤ c0 := HC0.out; have hC36 : Kd.C k33 _ (some ad415) l0.length l0 := HR0.out; have hcut36 := cut_to (P := Try.prog) 34 33 .i64 Try.underlying34 hi036 (some ad415) l0.length c0 t424 (of_decide_eq_true (by first | (with_reducible assumption) | assumption)) q36 hroom36; have hr36 := Kd.C_take (m := (t424 : Int).toNat) hC36 (by omega); have hy36 : y425.length = (t424 : Int).toNat := (by rw [Ny425.out, List.length_take]; omega); rw [← Ny425.out] at hr36; rw [← hy36] at hcut36; have HR428 := Aside0.mk hr36; have HC428 := Aside0.mk (show y425.length ≤ c0 from by omega); clear hr36 hC36 hroom36 hi036 hsz36; have KY36 := Aside0.mk hy36; clear hy36; replace q36 := eq_true q36) | (go_at_call 140; (with_reducible refine (ih k (by omega) _ _ y425 a1 t429 _ ?side1 ?side2 A19.out).mono ?_); (case side1 => repeat (first | exact HR428.out | (with_reducible refine Kd.C_alloc ?_ _) | (with_reducible refine Kd.C_drewN ?_ _) | (with_reducible refine Kd.C_drew ?_))); (case side2 => exact HC428.out); rintro e w' ⟨rfl, ⟨nd, rfl⟩⟩; (try first | exact ⟨rfl, _, World.drewN_drewN _ _ _⟩ | exact ⟨rfl, _, Eq.trans (World.drewN_drewN _ _ _) (congrArg (World.drewN _) (Nat.add_assoc _ _ _))⟩); have q37 : ((ji3) : Int) ≤ ((l0.length : Int) : Int) := of_decide_eq_true (by first | (with_reducible assumption) | assumption); obtain ⟨i037, hi037, _, hsz37, _⟩ := info_parts info33; have hroom37 : l0.length ≤ c0 := HC0.out; have hC37 : Kd.C k33 _ (some ad415) l0.length l0 := HR0.out; have ql37 : (t424 : Int) ≤ ((ji3) : Int) := of_decide_eq_true (by first | (with_reducible assumption) | assumption); have q037 : (0 : Int) ≤ (t424 : Int) := of_decide_eq_true (by first | (with_reducible assumption) | assumption); have hcut37 := cut_mid (P := Try.prog) 34 33 .i64 .i64 Try.underlying34 hi037 2 hsz37 (some ad415) l0.length c0 t424 (ji3) q037 ql37 q37 hroom37; have hr37 := Kd.C_mid (lo := (t424 : Int).toNat) (hi := ((ji3) : Int).toNat) (c := c0) hC37 (by omega) (by omega) hroom37; obtain ⟨A37, hA37⟩ : ∃ A1, A1 = (if c0 = (t424 : Int).toNat then (some ad415) else ((some ad415) : Option Addr).map (·.add ((t424 : Int).toNat * 2))) := ⟨_, rfl⟩; obtain ⟨c37, hc37⟩ : ∃ c1, c1 = c0 - (t424 : Int).toNat := ⟨_, rfl⟩; have hy37 : y430.length = ((ji3) : Int).toNat - (t424 : Int).toNat := (by rw [Ny430.out, List.length_drop, List.length_take] <;> omega); rw [show ((l0).take ((ji3) : Int).toNat).drop (t424 : Int).toNat = y430 from Ny430.out.symm] at hr37; replace hr37 : Kd.C k33 _ A37 y430.length y430 := (by rw [hA37]; exact hr37); rw [← hy37, ← hA37, ← hc37] at hcut37; have HR433 := Aside0.mk hr37; have HC433 := Aside0.mk (show y430.length ≤ c37 from by rw [hy37, hc37]; exact Nat.sub_le_sub_right (Nat.le_trans (by omega) hroom37) _); clear hr37 hC37 hroom37 hi037 hsz37 hc37; have KY37 := Aside0.mk hy37; have KA37 := Aside0.mk hA37; clear hy37 hA37; replace q37 := eq_true q37) | (go_at_call 140; (with_reducible refine (ih k (by omega) _ _ y430 a1 t434 _ ?side1 ?side2 A23.out).mono ?_); (case side1 => repeat (first | exact HR433.out | (with_reducible refine Kd.C_alloc ?_ _) | (with_reducible refine Kd.C_drewN ?_ _) | (with_reducible refine Kd.C_drew ?_))); (case side2 => exact HC433.out); rintro e w' ⟨rfl, ⟨nd, rfl⟩⟩; (try first | exact ⟨rfl, _, World.drewN_drewN _ _ _⟩ | exact ⟨rfl, _, Eq.trans (World.drewN_drewN _ _ _) (congrArg (World.drewN _) (Nat.add_assoc _ _ _))⟩); have p435 : 0 ≤ ((ji3) : Int) := of_decide_eq_true (by first | (with_reducible assumption) | assumption); have q435 : (ji3) < (l0.length : Int) := of_decide_eq_true (by first | (with_reducible assumption) | assumption); obtain ⟨ad435, e435, hx435_0, hx435_1⟩ := at_T33 HR0.out (ji3) p435 q435; obtain rfl : ad415 = ad435 := (by injection e435); replace p435 := eq_true p435; replace q435 := eq_true q435)))
            go_ret
            exact ⟨by first | rfl | (simp; done) | (simp only [← hji3] <;> (first | rfl | simp)) | (simp [*]; done), by repeat (first | exact Drawn0.refl _ | apply Drawn0.step)⟩
         ·rw [if_neg c22] at H
          exact absurd H (by simp)
        ·rw [if_neg c21] at H
         exact absurd H (by simp)
       ·rw [if_neg c18] at H
        exact absurd H (by simp)
      ·rw [if_neg c17] at H
       exact absurd H (by simp)
  ·rw [if_neg c5] at H
   exact absurd H (by simp)
 ·rw [if_neg c4] at H
  exact absurd H (by simp)

end Go.Proofs.Ytpampekijfjlkab.X
