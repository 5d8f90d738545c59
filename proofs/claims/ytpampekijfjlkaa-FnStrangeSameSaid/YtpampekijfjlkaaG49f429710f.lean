/- Joined by a program of this session's: X63, X64, LDS, LDSD, LTR, X68, X98, LS, LC, X93, LCT, LH, LHW, LTB, X47, LW. -/
import Derived.Test.YtpampekijfjlkaaG2f71888243
import Derived.Test.YtpampekijfjlkaaGb7e428c572
import Derived.Test.YtpampekijfjlkaaGebc129629f
import Derived.Test.YtpampekijfjlkaaG3b2731fd70
import Derived.Test.YtpampekijfjlkaaG99b6b995c2
import Derived.Laws.BitsLemmas

-- printed by a program of this session's (xprint)
namespace Go.Proofs.Ytpampekijfjlkaa.X
open Go.RowKit Go.Proofs.YtpampekijfjlkaaW.PrintWords Go.Proofs.YtpampekijfjlkaaW.PrintLast Go.Proofs.YtpampekijfjlkaaW.PrintMore
attribute [local go_sem] max2_int min2_int max_two min_two max_three min_three max_four min_four   -- for this text's walks alone
set_option linter.unusedVariables false
set_option linter.unusedSimpArgs false

/-! ### impl_WordIn: function 39 -/
def impl_WordIn.j0 : Nat → Int → Int → List (S52) → Int → Bool → Option (Int)
 | 0, _, _, _, _, _ => none
 | k + 1, x0, x1, x2, x3, x17 => if x17 = true then (some (-1)) else ((impl_AnswerIn.f k x0 x1 x2 x3).bind fun t567 => (if t567 < 0 then (some (-1)) else (if 0 ≤ (wrap64 (x0 - 1)) then (if t567 = (Go.bits .and .i64 (shr .i64 x3 (wrap64 (x0 - 1))) 1) then (some 1) else (some 0)) else (none))))
def impl_WordIn.f (k : Nat) (a0 : Int) (a1 : Int) (l2 : List (S52)) (a3 : Int) : Option (Int) := if a0 < 2 then (impl_WordIn.j0 k a0 a1 l2 a3 true) else (impl_WordIn.j0 k a0 a1 l2 a3 (a1 == (wrap64 (a0 - 1))))
theorem impl_WordIn.mono_l : ∀ k, (∀ y0 y1 y2 y3 y4, LeO (impl_WordIn.j0 k y0 y1 y2 y3 y4) (impl_WordIn.j0 (k + 1) y0 y1 y2 y3 y4))
 | 0 => fun _ _ _ _ _ r h => by simp [impl_WordIn.j0] at h
 | k + 1 => by
  have ih0 := impl_WordIn.mono_l k
  ·intro y0 y1 y2 y3 y4
   unfold impl_WordIn.j0
   repeat' first
   | (with_reducible exact ih0 _ _ _ _ _)
   | (with_reducible exact impl_AnswerIn.mono _ _ _ _ _)
   | (with_reducible exact LeO.refl _)
   | (with_reducible exact LeO.none _)
   | (with_reducible refine LeO.ite ?_ ?_)
   | (with_reducible refine LeO.bind ?_ (fun _ => ?_))
   | exact ih0 _ _ _ _ _
   | exact impl_AnswerIn.mono _ _ _ _ _
   | exact LeO.none _
   | refine LeO.ite ?_ ?_
   | refine LeO.bind ?_ (fun _ => ?_)
theorem impl_WordIn.mono : ∀ a0 a1 a2 a3 k, LeO (impl_WordIn.f k a0 a1 a2 a3) (impl_WordIn.f (k + 1) a0 a1 a2 a3) := by
 intro a0 a1 a2 a3 k
 have ih0 := impl_WordIn.mono_l k
 unfold impl_WordIn.f
 repeat' first
   | (with_reducible exact ih0 _ _ _ _ _)
   | (with_reducible exact impl_AnswerIn.mono _ _ _ _ _)
   | (with_reducible exact LeO.refl _)
   | (with_reducible exact LeO.none _)
   | (with_reducible refine LeO.ite ?_ ?_)
   | (with_reducible refine LeO.bind ?_ (fun _ => ?_))
   | exact ih0 _ _ _ _ _
   | exact impl_AnswerIn.mono _ _ _ _ _
   | exact LeO.none _
   | refine LeO.ite ?_ ?_
   | refine LeO.bind ?_ (fun _ => ?_)
set_option maxHeartbeats 8000000 in
set_option maxRecDepth 100000 in
theorem impl_WordIn.calls (k : Nat) (a0 : Int) (a1 : Int) (A2 : Option Addr) (c2 : Nat) (l2 : List (S52)) (a3 : Int) (r : Int) (w : World) (hr2 : Kd.C k52 w A2 l2.length l2) (hc2 : l2.length ≤ c2) (h : impl_WordIn.f k a0 a1 l2 a3 = some r) :
  Calls Try.prog 39 #[.int .i64 a0, .int .i64 a1, .slice A2 l2.length c2, .int .i64 a3] w fun e w' => e = .returned (.int .i64 r) ∧ Below w.heap.size w w' := by
 have HR2 := Aside0.mk hr2
 have HC2 := Aside0.mk hc2
 clear hr2 hc2
 have HB := Aside0.mk (Below.refl w.heap.size w)
 have H : (if a0 < 2 then (impl_WordIn.j0 k a0 a1 l2 a3 true) else (impl_WordIn.j0 k a0 a1 l2 a3 (a1 == (wrap64 (a0 - 1))))) = some r := h
 clear h
 have HC5 := Aside0.mk H
 clear H
 go_enter Try.func39, Try.ntmps39
 go_upto_region 1 with (fail)
 go_cut [17] (fun v17 wc => ∃ (kq : Nat) (x17_4 : Bool), v17 = .bool x17_4 ∧ Aside0 (impl_WordIn.j0 kq a0 a1 l2 a3 x17_4 = some r) ∧ Aside0 (kq ≤ k) ∧ Aside0 (Below w.heap.size w wc))
 case first =>
  have H := HC5.out
  clear HC5
  by_cases c6 : a0 < 2
  ·rw [if_pos c6] at H
   have c6b0 : decide (a0 < 2) = true := decide_eq_true c6
   clear c6
   (first | rw [c6b0] | (simp only [i64_w, i32_w]; rw [c6b0]) | skip)
   have H' := Aside0.mk H
   clear H
   go_wp2
   go_meet
   case rel => exact ⟨_, (true), (by first | rfl | (simp; done) | (simp [*]; done)), H', ⟨by first | omega | exact Nat.le_refl _⟩, ⟨by repeat (first | (with_reducible first | exact HB.out | apply below_alloc | apply pw_below_drewN | apply below_drew1) | exact HB.out)⟩⟩
  ·rw [if_neg c6] at H
   have c6b0 : decide (a0 < 2) = false := decide_eq_false c6
   clear c6
   (first | rw [c6b0] | (simp only [i64_w, i32_w]; rw [c6b0]) | skip)
   have H' := Aside0.mk H
   clear H
   go_wp2
   go_meet
   case rel => exact ⟨_, ((a1 == (wrap64 (a0 - 1)))), (by first | rfl | (simp; done) | (simp [*]; done)), H', ⟨by first | omega | exact Nat.le_refl _⟩, ⟨by repeat (first | (with_reducible first | exact HB.out | apply below_alloc | apply pw_below_drewN | apply below_drew1) | exact HB.out)⟩⟩
 case rest =>
  clear HC5
  try clear c2
  try clear p2
  try clear c3
  try clear c6
  try clear c6b0
  try clear p6
  obtain ⟨kq, x17_4, rfl, HA, HJ4, HB⟩ := hcut
  cases kq with
  | zero => exact absurd HA.out (by simp [impl_WordIn.j0])
  | succ kj4 =>
   have H := HA.out
   clear HA
   simp only [impl_WordIn.j0] at H
   by_cases c7 : x17_4 = true
   ·subst c7
    have H1 : (some (-1)) = some r := by rw [if_pos rfl] at H; exact H
    clear H
    have H := H1
    clear H1
    obtain rfl := Option.some.inj H
    go_wp2
    go_ret
    exact ⟨by first | rfl | (simp [errW_none, errW_some] <;> rfl) | (simp [*, errW_none, errW_some] <;> rfl), by repeat (first | (with_reducible first | exact HB.out | apply below_alloc | apply pw_below_drewN | apply below_drew1) | exact HB.out)⟩
   ·replace c7 := Bool.eq_false_iff.mpr c7
    subst c7
    have H1 : ((impl_AnswerIn.f kj4 a0 a1 l2 a3).bind fun t567 => (if t567 < 0 then (some (-1)) else (if 0 ≤ (wrap64 (a0 - 1)) then (if t567 = (Go.bits .and .i64 (shr .i64 a3 (wrap64 (a0 - 1))) 1) then (some 1) else (some 0)) else (none)))) = some r := by rw [if_neg (show ¬ (false = true) by decide)] at H; exact H
    clear H
    have H := H1
    clear H1
    replace H := Option.bind_eq_some_iff.mp H
    obtain ⟨t567, A80, H⟩ := H
    replace H : (if t567 < 0 then (some (-1)) else (if 0 ≤ (wrap64 (a0 - 1)) then (if t567 = (Go.bits .and .i64 (shr .i64 a3 (wrap64 (a0 - 1))) 1) then (some 1) else (some 0)) else (none))) = some r := H
    have A8 := Aside0.mk A80
    clear A80
    by_cases c9 : t567 < 0
    ·rw [if_pos c9] at H
     have c9b0 : decide (t567 < 0) = true := decide_eq_true c9
     clear c9
     obtain rfl := Option.some.inj H
     go_wp2_with (first | ((with_reducible refine gate_callee (f := 33) rfl ?_); refine goesL_ (some 22) rfl rfl Try.func33 (by kernel_rfl) rfl #[.int .i64 a0, .int .i64 a1, .slice A2 l2.length c2, .int .i64 a3] rfl (by (try simp only [List.map_toArray, List.map_cons, List.map_nil]); first | done | rfl | (simp only [List.length_drop, List.length_take]; rfl)) ?_; (with_reducible refine (impl_AnswerIn.calls kj4 a0 a1 _ _ l2 a3 t567 _ ?side1 ?side2 A8.out).mono ?_); (case side1 => repeat (first | exact (Kd.C_below HR2.out HB.out) | (with_reducible refine Kd.C_alloc ?_ _) | (with_reducible refine Kd.C_drewN ?_ _) | (with_reducible refine Kd.C_drew ?_))); (case side2 => exact HC2.out); rintro e w10 ⟨rfl, hb⟩; refine ⟨_, rfl, ?_⟩; have n0_ := Aside0.mk (below_step (by repeat (first | (with_reducible first | exact HB.out | apply below_alloc | apply pw_below_drewN | apply below_drew1) | exact HB.out)) hb); clear HB; have HB := n0_; clear n0_; (try clear hb); (try clear hb2); (try clear hk); (try clear hi)))
     go_ret
     exact ⟨by first | rfl | (simp [errW_none, errW_some] <;> rfl) | (simp [*, errW_none, errW_some] <;> rfl), by repeat (first | (with_reducible first | exact HB.out | apply below_alloc | apply pw_below_drewN | apply below_drew1) | exact HB.out)⟩
    ·rw [if_neg c9] at H
     have c9b0 : decide (t567 < 0) = false := decide_eq_false c9
     clear c9
     obtain ⟨ji11, hji11⟩ : ∃ j_ : Int, (wrap64 (a0 - 1)) = j_ := ⟨_, rfl⟩
     replace H : (if 0 ≤ (ji11) then (if t567 = (Go.bits .and .i64 (shr .i64 a3 (ji11)) 1) then (some 1) else (some 0)) else (none)) = some r := by first | (rw [hji11] at H; exact H) | (simp only [hji11] at H ⊢; exact H)
     (try rw [hji11] at A8)
     have hji11w : (IntKind.i64.wrap (a0 - 1)) = ji11 := (i64_w _).trans hji11
     by_cases c12 : 0 ≤ (ji11)
     ·rw [if_pos c12] at H
      have c12b0 := eq_true c12
      have c12b1 : decide (0 ≤ (ji11)) = true := decide_eq_true c12
      clear c12
      obtain ⟨ji13, hji13⟩ : ∃ j_ : Int, (shr .i64 a3 (ji11)) = j_ := ⟨_, rfl⟩
      replace H : (if t567 = (Go.bits .and .i64 (ji13) 1) then (some 1) else (some 0)) = some r := by first | (rw [hji13] at H; exact H) | (simp only [hji13] at H ⊢; exact H)
      (try rw [hji13] at A8)
      have hji13_ : (a3 / 2 ^ min (ji11).toNat 64) = ji13 := hji13
      have hji13z : (ji11) ≤ 64 → (a3 / 2 ^ (ji11).toNat) = ji13 := shr_small hji13
      by_cases c14 : t567 = (Go.bits .and .i64 (ji13) 1)
      ·rw [if_pos c14] at H
       have c14b0 : (t567 == (Go.bits .and .i64 (ji13) 1)) = true := beq_iff_eq.mpr c14
       have c14b1 : (t567 != (Go.bits .and .i64 (ji13) 1)) = false := bne_eq_false_iff_eq.mpr c14
       clear c14
       obtain rfl := Option.some.inj H
       go_wp2_with (first | ((with_reducible refine gate_callee (f := 33) rfl ?_); refine goesL_ (some 22) rfl rfl Try.func33 (by kernel_rfl) rfl #[.int .i64 a0, .int .i64 a1, .slice A2 l2.length c2, .int .i64 a3] rfl (by (try simp only [List.map_toArray, List.map_cons, List.map_nil]); first | done | rfl | (simp only [List.length_drop, List.length_take]; rfl)) ?_; (with_reducible refine (impl_AnswerIn.calls kj4 a0 a1 _ _ l2 a3 t567 _ ?side1 ?side2 A8.out).mono ?_); (case side1 => repeat (first | exact (Kd.C_below HR2.out HB.out) | (with_reducible refine Kd.C_alloc ?_ _) | (with_reducible refine Kd.C_drewN ?_ _) | (with_reducible refine Kd.C_drew ?_))); (case side2 => exact HC2.out); rintro e w15 ⟨rfl, hb⟩; refine ⟨_, rfl, ?_⟩; have n0_ := Aside0.mk (below_step (by repeat (first | (with_reducible first | exact HB.out | apply below_alloc | apply pw_below_drewN | apply below_drew1) | exact HB.out)) hb); clear HB; have HB := n0_; clear n0_; (try clear hb); (try clear hb2); (try clear hk); (try clear hi)))
       go_ret
       exact ⟨by first | rfl | (simp [errW_none, errW_some] <;> rfl) | (simp only [← hji11, ← hji13]; first | rfl | (simp [errW_none, errW_some] <;> rfl)) | (simp [*, errW_none, errW_some] <;> rfl), by repeat (first | (with_reducible first | exact HB.out | apply below_alloc | apply pw_below_drewN | apply below_drew1) | exact HB.out)⟩
      ·rw [if_neg c14] at H
       have c14b0 : (t567 == (Go.bits .and .i64 (ji13) 1)) = false := beq_eq_false_iff_ne.mpr c14
       have c14b1 : (t567 != (Go.bits .and .i64 (ji13) 1)) = true := bne_iff_ne.mpr c14
       obtain rfl := Option.some.inj H
       go_wp2_with (first | ((with_reducible refine gate_callee (f := 33) rfl ?_); refine goesL_ (some 22) rfl rfl Try.func33 (by kernel_rfl) rfl #[.int .i64 a0, .int .i64 a1, .slice A2 l2.length c2, .int .i64 a3] rfl (by (try simp only [List.map_toArray, List.map_cons, List.map_nil]); first | done | rfl | (simp only [List.length_drop, List.length_take]; rfl)) ?_; (with_reducible refine (impl_AnswerIn.calls kj4 a0 a1 _ _ l2 a3 t567 _ ?side1 ?side2 A8.out).mono ?_); (case side1 => repeat (first | exact (Kd.C_below HR2.out HB.out) | (with_reducible refine Kd.C_alloc ?_ _) | (with_reducible refine Kd.C_drewN ?_ _) | (with_reducible refine Kd.C_drew ?_))); (case side2 => exact HC2.out); rintro e w16 ⟨rfl, hb⟩; refine ⟨_, rfl, ?_⟩; have n0_ := Aside0.mk (below_step (by repeat (first | (with_reducible first | exact HB.out | apply below_alloc | apply pw_below_drewN | apply below_drew1) | exact HB.out)) hb); clear HB; have HB := n0_; clear n0_; (try clear hb); (try clear hb2); (try clear hk); (try clear hi)))
       go_ret
       exact ⟨by first | rfl | (simp [errW_none, errW_some] <;> rfl) | (simp only [← hji11, ← hji13]; first | rfl | (simp [errW_none, errW_some] <;> rfl)) | (simp [*, errW_none, errW_some] <;> rfl), by repeat (first | (with_reducible first | exact HB.out | apply below_alloc | apply pw_below_drewN | apply below_drew1) | exact HB.out)⟩
     ·rw [if_neg c12] at H
      exact absurd H (by simp)

end Go.Proofs.Ytpampekijfjlkaa.X

-- printed by a program of this session's (xprint)
namespace Go.Proofs.Ytpampekijfjlkaa.X
open Go.RowKit Go.Proofs.YtpampekijfjlkaaW.PrintWords Go.Proofs.YtpampekijfjlkaaW.PrintLast Go.Proofs.YtpampekijfjlkaaW.PrintMore
attribute [local go_sem] max2_int min2_int max_two min_two max_three min_three max_four min_four   -- for this text's walks alone
set_option linter.unusedVariables false
set_option linter.unusedSimpArgs false

/-! ### laws_FnStrangeSame: function 5 -/
def laws_FnStrangeSame.l0 : Nat → Int → Int → List (S52) → List (S52) → Bool → Int → Option (Bool)
 | 0, _, _, _, _, _, _ => none
 | k + 1, x3, x4, x6, x8, x9, x10 => if 0 ≤ x3 then (if x10 < (shl .i64 1 x3) then ((impl_WordIn.f k x3 x4 x6 x10).bind fun t583 => ((impl_AnswerIn.f k x3 x4 x6 x10).bind fun t584 => (if t583 = t584 then (if x9 = true then ((impl_AnswerIn.f k x3 x4 x8 x10).bind fun t585 => ((impl_WordIn.f k x3 x4 x6 x10).bind fun t586 => (if t585 = t586 then (laws_FnStrangeSame.l0 k x3 x4 x6 x8 x9 (wrap64 (x10 + 1))) else (some false)))) else (laws_FnStrangeSame.l0 k x3 x4 x6 x8 x9 (wrap64 (x10 + 1)))) else (some false)))) else ((laws_alive.f).bind fun t582 => (some t582))) else (none)
def laws_FnStrangeSame.f (k : Nat) (l0 : List Int) : Option (Bool) := if (l0.length : Int) > 1048576 then (some true) else ((spec_DrawStrangeTerm.f k l0).bind fun bt568 => ((impl_StrangeTerm.f k bt568.1 bt568.2.1 bt568.2.2).bind fun bt573 => (if bt573.2 = true then ((impl_TrickTerm.f k bt568.1 bt568.2.1 bt568.2.2).bind fun bt578 => (if 0 ≤ (wrap64 (bt568.1 - 1)) then (laws_FnStrangeSame.l0 k bt568.1 bt568.2.1 bt573.1 bt578.1 bt578.2 (shl .i64 1 (wrap64 (bt568.1 - 1)))) else (none))) else ((laws_alive.f).bind fun t577 => (some t577)))))
theorem laws_FnStrangeSame.mono_l : ∀ k, (∀ y0 y1 y2 y3 y4 y5, LeO (laws_FnStrangeSame.l0 k y0 y1 y2 y3 y4 y5) (laws_FnStrangeSame.l0 (k + 1) y0 y1 y2 y3 y4 y5))
 | 0 => fun _ _ _ _ _ _ r h => by simp [laws_FnStrangeSame.l0] at h
 | k + 1 => by
  have ih0 := laws_FnStrangeSame.mono_l k
  ·intro y0 y1 y2 y3 y4 y5
   unfold laws_FnStrangeSame.l0
   repeat' first
   | (with_reducible exact ih0 _ _ _ _ _ _)
   | (with_reducible exact impl_AnswerIn.mono _ _ _ _ _)
   | (with_reducible exact impl_StrangeTerm.mono _ _ _ _)
   | (with_reducible exact impl_TrickTerm.mono _ _ _ _)
   | (with_reducible exact impl_WordIn.mono _ _ _ _ _)
   | (with_reducible exact spec_DrawStrangeTerm.mono _ _)
   | (with_reducible exact LeO.refl _)
   | (with_reducible exact LeO.none _)
   | (with_reducible refine LeO.ite ?_ ?_)
   | (with_reducible refine LeO.bind ?_ (fun _ => ?_))
   | exact ih0 _ _ _ _ _ _
   | exact impl_AnswerIn.mono _ _ _ _ _
   | exact impl_StrangeTerm.mono _ _ _ _
   | exact impl_TrickTerm.mono _ _ _ _
   | exact impl_WordIn.mono _ _ _ _ _
   | exact spec_DrawStrangeTerm.mono _ _
   | exact LeO.none _
   | refine LeO.ite ?_ ?_
   | refine LeO.bind ?_ (fun _ => ?_)
theorem laws_FnStrangeSame.mono : ∀ a0 k, LeO (laws_FnStrangeSame.f k a0) (laws_FnStrangeSame.f (k + 1) a0) := by
 intro a0 k
 have ih0 := laws_FnStrangeSame.mono_l k
 unfold laws_FnStrangeSame.f
 repeat' first
   | (with_reducible exact ih0 _ _ _ _ _ _)
   | (with_reducible exact impl_AnswerIn.mono _ _ _ _ _)
   | (with_reducible exact impl_StrangeTerm.mono _ _ _ _)
   | (with_reducible exact impl_TrickTerm.mono _ _ _ _)
   | (with_reducible exact impl_WordIn.mono _ _ _ _ _)
   | (with_reducible exact spec_DrawStrangeTerm.mono _ _)
   | (with_reducible exact LeO.refl _)
   | (with_reducible exact LeO.none _)
   | (with_reducible refine LeO.ite ?_ ?_)
   | (with_reducible refine LeO.bind ?_ (fun _ => ?_))
   | exact ih0 _ _ _ _ _ _
   | exact impl_AnswerIn.mono _ _ _ _ _
   | exact impl_StrangeTerm.mono _ _ _ _
   | exact impl_TrickTerm.mono _ _ _ _
   | exact impl_WordIn.mono _ _ _ _ _
   | exact spec_DrawStrangeTerm.mono _ _
   | exact LeO.none _
   | refine LeO.ite ?_ ?_
   | refine LeO.bind ?_ (fun _ => ?_)
set_option maxHeartbeats 8000000 in
set_option maxRecDepth 100000 in
theorem laws_FnStrangeSame.calls (k : Nat) (A0 : Option Addr) (c0 : Nat) (l0 : List Int) (r : Bool) (w : World) (hr0 : Kd.C (Kd.int .u8) w A0 l0.length l0) (hc0 : l0.length ≤ c0) (h : laws_FnStrangeSame.f k l0 = some r) :
  Calls Try.prog 5 #[.slice A0 l0.length c0] w fun e w' => e = .returned (.bool r) ∧ Below w.heap.size w w' := by
 have HR0 := Aside0.mk hr0
 have HC0 := Aside0.mk hc0
 clear hr0 hc0
 have HB := Aside0.mk (Below.refl w.heap.size w)
 have H : (if (l0.length : Int) > 1048576 then (some true) else ((spec_DrawStrangeTerm.f k l0).bind fun bt568 => ((impl_StrangeTerm.f k bt568.1 bt568.2.1 bt568.2.2).bind fun bt573 => (if bt573.2 = true then ((impl_TrickTerm.f k bt568.1 bt568.2.1 bt568.2.2).bind fun bt578 => (if 0 ≤ (wrap64 (bt568.1 - 1)) then (laws_FnStrangeSame.l0 k bt568.1 bt568.2.1 bt573.1 bt578.1 bt578.2 (shl .i64 1 (wrap64 (bt568.1 - 1)))) else (none))) else ((laws_alive.f).bind fun t577 => (some t577)))))) = some r := h
 clear h
 by_cases c2 : (l0.length : Int) > 1048576
 ·rw [if_pos c2] at H
  have c2b0 : decide (1048576 < (l0.length : Int)) = true := decide_eq_true c2
  have c2b1 : decide (1048576 < l0.length) = true := decide_eq_true (by omega)
  clear c2
  obtain rfl := Option.some.inj H
  go_enter Try.func5, Try.ntmps5
  go_wp2
  go_ret
  exact ⟨by first | rfl | (simp [errW_none, errW_some] <;> rfl) | (simp [*, errW_none, errW_some] <;> rfl), by repeat (first | (with_reducible first | exact HB.out | apply below_alloc | apply pw_below_drewN | apply below_drew1) | exact HB.out)⟩
 ·rw [if_neg c2] at H
  have c2b0 : decide (1048576 < (l0.length : Int)) = false := decide_eq_false c2
  have c2b1 : decide (1048576 < l0.length) = false := decide_eq_false (by omega)
  clear c2
  replace H := Option.bind_eq_some_iff.mp H
  obtain ⟨⟨t568, t569, t570⟩, A30, H⟩ := H
  replace H : ((impl_StrangeTerm.f k t568 t569 t570).bind fun bt573 => (if bt573.2 = true then ((impl_TrickTerm.f k t568 t569 t570).bind fun bt578 => (if 0 ≤ (wrap64 (t568 - 1)) then (laws_FnStrangeSame.l0 k t568 t569 bt573.1 bt578.1 bt578.2 (shl .i64 1 (wrap64 (t568 - 1)))) else (none))) else ((laws_alive.f).bind fun t577 => (some t577)))) = some r := H
  have A3 := Aside0.mk A30
  clear A30
  replace H := Option.bind_eq_some_iff.mp H
  obtain ⟨⟨t573, t574⟩, A40, H⟩ := H
  replace H : (if t574 = true then ((impl_TrickTerm.f k t568 t569 t570).bind fun bt578 => (if 0 ≤ (wrap64 (t568 - 1)) then (laws_FnStrangeSame.l0 k t568 t569 t573 bt578.1 bt578.2 (shl .i64 1 (wrap64 (t568 - 1)))) else (none))) else ((laws_alive.f).bind fun t577 => (some t577))) = some r := H
  have A4 := Aside0.mk A40
  clear A40
  by_cases c5 : t574 = true
  ·subst c5
   have H1 : ((impl_TrickTerm.f k t568 t569 t570).bind fun bt578 => (if 0 ≤ (wrap64 (t568 - 1)) then (laws_FnStrangeSame.l0 k t568 t569 t573 bt578.1 bt578.2 (shl .i64 1 (wrap64 (t568 - 1)))) else (none))) = some r := by rw [if_pos rfl] at H; exact H
   clear H
   have H := H1
   clear H1
   replace H := Option.bind_eq_some_iff.mp H
   obtain ⟨⟨t578, t579⟩, A60, H⟩ := H
   replace H : (if 0 ≤ (wrap64 (t568 - 1)) then (laws_FnStrangeSame.l0 k t568 t569 t573 t578 t579 (shl .i64 1 (wrap64 (t568 - 1)))) else (none)) = some r := H
   have A6 := Aside0.mk A60
   clear A60
   obtain ⟨ji7, hji7⟩ : ∃ j_ : Int, (wrap64 (t568 - 1)) = j_ := ⟨_, rfl⟩
   replace H : (if 0 ≤ (ji7) then (laws_FnStrangeSame.l0 k t568 t569 t573 t578 t579 (shl .i64 1 (ji7))) else (none)) = some r := by first | (rw [hji7] at H; exact H) | (simp only [hji7] at H ⊢; exact H)
   (try rw [hji7] at A3)
   (try rw [hji7] at A4)
   (try rw [hji7] at A6)
   have hji7w : (IntKind.i64.wrap (t568 - 1)) = ji7 := (i64_w _).trans hji7
   by_cases c8 : 0 ≤ (ji7)
   ·rw [if_pos c8] at H
    have c8b0 := eq_true c8
    have c8b1 : decide (0 ≤ (ji7)) = true := decide_eq_true c8
    clear c8
    obtain ⟨ji9, hji9⟩ : ∃ j_ : Int, (shl .i64 1 (ji7)) = j_ := ⟨_, rfl⟩
    replace H : (laws_FnStrangeSame.l0 k t568 t569 t573 t578 t579 ji9) = some r := by first | (rw [hji9] at H; exact H) | (simp only [hji9] at H ⊢; exact H)
    (try rw [hji9] at A3)
    (try rw [hji9] at A4)
    (try rw [hji9] at A6)
    have hji9_ : (IntKind.i64.wrap (1 * 2 ^ min (ji7).toNat 64)) = ji9 := hji9
    have hji9z : (ji7) ≤ 64 → (IntKind.i64.wrap (1 * 2 ^ (ji7).toNat)) = ji9 := shl_small hji9
    have hji9u : (IntKind.i64.wrap (2 ^ min (ji7).toNat 64)) = ji9 := by have h_ := hji9_; rw [Int.one_mul] at h_; exact h_
    have hji9v : (ji7) ≤ 64 → (IntKind.i64.wrap (2 ^ (ji7).toNat)) = ji9 := fun hle_ => by have h_ := hji9z hle_; rw [Int.one_mul] at h_; exact h_
    have hji9y : (wrap64 (1 * 2 ^ min (ji7).toNat 64)) = ji9 := (i64_w _).symm.trans hji9_
    have hji9x : (ji7) ≤ 64 → (wrap64 (1 * 2 ^ (ji7).toNat)) = ji9 := fun h_ => (i64_w _).symm.trans (hji9z h_)
    have H' := Aside0.mk H
    clear H
    go_enter Try.func5, Try.ntmps5
    go_wp2_with (first | ((with_reducible refine gate_callee (f := 35) rfl ?_); refine goesL_ (some 16) rfl rfl Try.func35 (by kernel_rfl) rfl #[.slice A0 l0.length c0] rfl (by (try simp only [List.map_toArray, List.map_cons, List.map_nil]); first | done | rfl | (simp only [List.length_drop, List.length_take]; rfl)) ?_; (with_reducible refine (spec_DrawStrangeTerm.calls k _ _ l0 t568 t569 t570 _ ?side1 ?side2 A3.out).mono ?_); (case side1 => repeat (first | exact HR0.out | (with_reducible refine Kd.C_alloc ?_ _) | (with_reducible refine Kd.C_drewN ?_ _) | (with_reducible refine Kd.C_drew ?_))); (case side2 => exact HC0.out); rintro e w10 ⟨v571, rfl, ho0, hb⟩; refine ⟨_, rfl, ?_⟩; have n0_ := Aside0.mk (Kd.R_lower ho0 (below_size (by repeat (first | (with_reducible first | exact HB.out | apply below_alloc | apply pw_below_drewN | apply below_drew1) | exact HB.out)))); have n1_ := Aside0.mk (below_step (by repeat (first | (with_reducible first | exact HB.out | apply below_alloc | apply pw_below_drewN | apply below_drew1) | exact HB.out)) hb); clear HB; have HO572 := n0_; have HB := n1_; clear n0_ n1_; (try clear hb); (try clear hb2); (try clear hk); (try clear hi); (try clear ho0); obtain ⟨Ao11, co11, eo11⟩ := Kd.R_slice HO572.out; subst eo11) | ((with_reducible refine gate_callee (f := 36) rfl ?_); refine goesL_ (some 24) rfl rfl Try.func36 (by kernel_rfl) rfl #[.int .i64 t568, .int .i64 t569, .slice Ao11 t570.length co11] rfl (by (try simp only [List.map_toArray, List.map_cons, List.map_nil]); first | done | rfl | (simp only [List.length_drop, List.length_take]; rfl)) ?_; (with_reducible refine (impl_StrangeTerm.calls k t568 t569 _ _ t570 t573 true _ ?side1 ?side2 A4.out).mono ?_); (case side1 => repeat (first | exact (Kd.R_reads' HO572.out).2.2 | (with_reducible refine Kd.C_alloc ?_ _) | (with_reducible refine Kd.C_drewN ?_ _) | (with_reducible refine Kd.C_drew ?_))); (case side2 => exact (Kd.R_reads' HO572.out).2.1); rintro e w12 ⟨v575, rfl, ho0, hb⟩; refine ⟨_, rfl, ?_⟩; have n0_ := Aside0.mk (Kd.R_elder' (by (with_reducible repeat (first | apply Kd.R_alloc | apply Kd.R_drewN | apply Kd.R_drew)); exact HO572.out) (Kd.R_base ho0) hb); have n1_ := Aside0.mk (Kd.R_lower (Kd.R_new' ho0 (Kd.R_lt (by (with_reducible repeat (first | apply Kd.R_alloc | apply Kd.R_drewN | apply Kd.R_drew)); exact HO572.out))) (below_size (by repeat (first | (with_reducible first | exact HB.out | apply below_alloc | apply pw_below_drewN | apply below_drew1) | exact HB.out)))); have n2_ := Aside0.mk (below_step (by repeat (first | (with_reducible first | exact HB.out | apply below_alloc | apply pw_below_drewN | apply below_drew1) | exact HB.out)) hb); clear HO572; clear HB; have HO572 := n0_; have HO576 := n1_; have HB := n2_; clear n0_ n1_ n2_; (try clear hb); (try clear hb2); (try clear hk); (try clear hi); (try clear ho0)) | ((with_reducible refine gate_callee (f := 38) rfl ?_); refine goesL_ (some 34) rfl rfl Try.func38 (by kernel_rfl) rfl #[.int .i64 t568, .int .i64 t569, .slice Ao11 t570.length co11] rfl (by (try simp only [List.map_toArray, List.map_cons, List.map_nil]); first | done | rfl | (simp only [List.length_drop, List.length_take]; rfl)) ?_; (with_reducible refine (impl_TrickTerm.calls k t568 t569 _ _ t570 t578 t579 _ ?side1 ?side2 A6.out).mono ?_); (case side1 => repeat (first | exact (Kd.R_reads' HO572.out).2.2 | (with_reducible refine Kd.C_alloc ?_ _) | (with_reducible refine Kd.C_drewN ?_ _) | (with_reducible refine Kd.C_drew ?_))); (case side2 => exact (Kd.R_reads' HO572.out).2.1); rintro e w13 ⟨v580, rfl, ho0, hb⟩; refine ⟨_, rfl, ?_⟩; have n0_ := Aside0.mk (Kd.R_elder' (by (with_reducible repeat (first | apply Kd.R_alloc | apply Kd.R_drewN | apply Kd.R_drew)); exact HO572.out) (Kd.R_base ho0) hb); have n1_ := Aside0.mk (Kd.R_elder' (by (with_reducible repeat (first | apply Kd.R_alloc | apply Kd.R_drewN | apply Kd.R_drew)); exact HO576.out) (Kd.R_base ho0) hb); have n2_ := Aside0.mk (Kd.R_lower (Kd.R_new' (Kd.R_new' ho0 (Kd.R_lt (by (with_reducible repeat (first | apply Kd.R_alloc | apply Kd.R_drewN | apply Kd.R_drew)); exact HO572.out))) (Kd.R_lt (by (with_reducible repeat (first | apply Kd.R_alloc | apply Kd.R_drewN | apply Kd.R_drew)); exact HO576.out))) (below_size (by repeat (first | (with_reducible first | exact HB.out | apply below_alloc | apply pw_below_drewN | apply below_drew1) | exact HB.out)))); have n3_ := Aside0.mk (below_step (by repeat (first | (with_reducible first | exact HB.out | apply below_alloc | apply pw_below_drewN | apply below_drew1) | exact HB.out)) hb); clear HO572; clear HO576; clear HB; have HO572 := n0_; have HO576 := n1_; have HO581 := n2_; have HB := n3_; clear n0_ n1_ n2_ n3_; (try clear hb); (try clear hb2); (try clear hk); (try clear hi); (try clear ho0)))
    go_loopg [10] k (fun kq v10 w' => ∃ (x10_1 : Int), v10 = .int .i64 x10_1 ∧ Aside0 (laws_FnStrangeSame.l0 kq t568 t569 t573 t578 t579 x10_1 = some r) ∧ Aside0 (kq ≤ k) ∧ Aside0 (Kd.R k52 52 w' w.heap.size (fun k_ => some k_ ≠ (v580 : Value).ownBlock) v575 t573) ∧ Aside0 (Kd.R k52 52 w' w.heap.size (fun k_ => some k_ ≠ (v575 : Value).ownBlock) v580 t578) ∧ Aside0 (Below w.heap.size w w'))
    case atStart => exact ⟨(ji9), (by first | rfl | (simp; done) | (simp only [← hji9] <;> (first | rfl | simp)) | (simp [*]; done)), H', ⟨Nat.le_refl _⟩, ⟨by (with_reducible repeat (first | apply Kd.R_alloc | apply Kd.R_drewN | apply Kd.R_drew)); exact Kd.R_mono HO576.out (fun _ hk => hk.2)⟩, ⟨by (with_reducible repeat (first | apply Kd.R_alloc | apply Kd.R_drewN | apply Kd.R_drew)); exact Kd.R_mono HO581.out (fun _ hk => hk.2)⟩, ⟨by repeat (first | (with_reducible first | exact HB.out | apply below_alloc | apply pw_below_drewN | apply below_drew1) | exact HB.out)⟩⟩
    case round =>
     clear H'
     try clear c2
     try clear c2b0
     try clear c2b1
     try clear p2
     try clear c3
     try clear c5
     try clear p6
     try clear c8
     try clear c8b0
     try clear c8b1
     obtain ⟨x10_1, rfl, HA, HK1, HO_6, HO_8, HB⟩ := hrel
     cases gk with
     | zero => exact absurd HA.out (by simp [laws_FnStrangeSame.l0])
     | succ k1 =>
      have H := HA.out
      clear HA
      simp only [laws_FnStrangeSame.l0] at H
      by_cases c14 : 0 ≤ t568
      ·rw [if_pos c14] at H
       have c14b0 := eq_true c14
       have c14b1 : decide (0 ≤ t568) = true := decide_eq_true c14
       clear c14
       obtain ⟨ji15, hji15⟩ : ∃ j_ : Int, (shl .i64 1 t568) = j_ := ⟨_, rfl⟩
       replace H : (if x10_1 < (ji15) then ((impl_WordIn.f k1 t568 t569 t573 x10_1).bind fun t583 => ((impl_AnswerIn.f k1 t568 t569 t573 x10_1).bind fun t584 => (if t583 = t584 then (if t579 = true then ((impl_AnswerIn.f k1 t568 t569 t578 x10_1).bind fun t585 => ((impl_WordIn.f k1 t568 t569 t573 x10_1).bind fun t586 => (if t585 = t586 then (laws_FnStrangeSame.l0 k1 t568 t569 t573 t578 t579 (wrap64 (x10_1 + 1))) else (some false)))) else (laws_FnStrangeSame.l0 k1 t568 t569 t573 t578 t579 (wrap64 (x10_1 + 1)))) else (some false)))) else ((laws_alive.f).bind fun t582 => (some t582))) = some r := by first | (rw [hji15] at H; exact H) | (simp only [hji15] at H ⊢; exact H)
       have hji15_ : (IntKind.i64.wrap (1 * 2 ^ min t568.toNat 64)) = ji15 := hji15
       have hji15z : t568 ≤ 64 → (IntKind.i64.wrap (1 * 2 ^ t568.toNat)) = ji15 := shl_small hji15
       have hji15u : (IntKind.i64.wrap (2 ^ min t568.toNat 64)) = ji15 := by have h_ := hji15_; rw [Int.one_mul] at h_; exact h_
       have hji15v : t568 ≤ 64 → (IntKind.i64.wrap (2 ^ t568.toNat)) = ji15 := fun hle_ => by have h_ := hji15z hle_; rw [Int.one_mul] at h_; exact h_
       have hji15y : (wrap64 (1 * 2 ^ min t568.toNat 64)) = ji15 := (i64_w _).symm.trans hji15_
       have hji15x : t568 ≤ 64 → (wrap64 (1 * 2 ^ t568.toNat)) = ji15 := fun h_ => (i64_w _).symm.trans (hji15z h_)
       by_cases c16 : x10_1 < (ji15)
       ·rw [if_pos c16] at H
        have c16b0 : decide (x10_1 < (ji15)) = true := decide_eq_true c16
        clear c16
        replace H := Option.bind_eq_some_iff.mp H
        obtain ⟨t583, A170, H⟩ := H
        replace H : ((impl_AnswerIn.f k1 t568 t569 t573 x10_1).bind fun t584 => (if t583 = t584 then (if t579 = true then ((impl_AnswerIn.f k1 t568 t569 t578 x10_1).bind fun t585 => ((impl_WordIn.f k1 t568 t569 t573 x10_1).bind fun t586 => (if t585 = t586 then (laws_FnStrangeSame.l0 k1 t568 t569 t573 t578 t579 (wrap64 (x10_1 + 1))) else (some false)))) else (laws_FnStrangeSame.l0 k1 t568 t569 t573 t578 t579 (wrap64 (x10_1 + 1)))) else (some false))) = some r := H
        have A17 := Aside0.mk A170
        clear A170
        replace H := Option.bind_eq_some_iff.mp H
        obtain ⟨t584, A180, H⟩ := H
        replace H : (if t583 = t584 then (if t579 = true then ((impl_AnswerIn.f k1 t568 t569 t578 x10_1).bind fun t585 => ((impl_WordIn.f k1 t568 t569 t573 x10_1).bind fun t586 => (if t585 = t586 then (laws_FnStrangeSame.l0 k1 t568 t569 t573 t578 t579 (wrap64 (x10_1 + 1))) else (some false)))) else (laws_FnStrangeSame.l0 k1 t568 t569 t573 t578 t579 (wrap64 (x10_1 + 1)))) else (some false)) = some r := H
        have A18 := Aside0.mk A180
        clear A180
        by_cases c19 : t583 = t584
        ·rw [if_pos c19] at H
         have c19b0 : (t583 == t584) = true := beq_iff_eq.mpr c19
         have c19b1 : (t583 != t584) = false := bne_eq_false_iff_eq.mpr c19
         clear c19
         by_cases c20 : t579 = true
         ·subst c20
          have H1 : ((impl_AnswerIn.f k1 t568 t569 t578 x10_1).bind fun t585 => ((impl_WordIn.f k1 t568 t569 t573 x10_1).bind fun t586 => (if t585 = t586 then (laws_FnStrangeSame.l0 k1 t568 t569 t573 t578 true (wrap64 (x10_1 + 1))) else (some false)))) = some r := by rw [if_pos rfl] at H; exact H
          clear H
          have H := H1
          clear H1
          replace H := Option.bind_eq_some_iff.mp H
          obtain ⟨t585, A210, H⟩ := H
          replace H : ((impl_WordIn.f k1 t568 t569 t573 x10_1).bind fun t586 => (if t585 = t586 then (laws_FnStrangeSame.l0 k1 t568 t569 t573 t578 true (wrap64 (x10_1 + 1))) else (some false))) = some r := H
          have A21 := Aside0.mk A210
          clear A210
          replace H := Option.bind_eq_some_iff.mp H
          obtain ⟨t586, A220, H⟩ := H
          replace H : (if t585 = t586 then (laws_FnStrangeSame.l0 k1 t568 t569 t573 t578 true (wrap64 (x10_1 + 1))) else (some false)) = some r := H
          have A22 := Aside0.mk A220
          clear A220
          by_cases c23 : t585 = t586
          ·rw [if_pos c23] at H
           have c23b0 : (t585 == t586) = true := beq_iff_eq.mpr c23
           have c23b1 : (t585 != t586) = false := bne_eq_false_iff_eq.mpr c23
           clear c23
           have H' := Aside0.mk H
           clear H
           obtain ⟨Ao24, co24, eo24⟩ := Kd.R_slice HO_6.out
           subst eo24
           go_wp2_with (first | ((with_reducible refine gate_callee (f := 39) rfl ?_); refine goesL_ (some 50) rfl rfl Try.func39 (by kernel_rfl) rfl #[.int .i64 t568, .int .i64 t569, .slice Ao24 t573.length co24, .int .i64 x10_1] rfl (by (try simp only [List.map_toArray, List.map_cons, List.map_nil]); first | done | rfl | (simp only [List.length_drop, List.length_take]; rfl)) ?_; (with_reducible refine (impl_WordIn.calls k1 t568 t569 _ _ t573 x10_1 t583 _ ?side1 ?side2 A17.out).mono ?_); (case side1 => repeat (first | exact (Kd.R_reads' HO_6.out).2.2 | (with_reducible refine Kd.C_alloc ?_ _) | (with_reducible refine Kd.C_drewN ?_ _) | (with_reducible refine Kd.C_drew ?_))); (case side2 => exact (Kd.R_reads' HO_6.out).2.1); rintro e w25 ⟨rfl, hb⟩; refine ⟨_, rfl, ?_⟩; have n0_ := Aside0.mk (Kd.R_below (by (with_reducible repeat (first | apply Kd.R_alloc | apply Kd.R_drewN | apply Kd.R_drew)); exact HO_6.out) hb); have n1_ := Aside0.mk (Kd.R_below (by (with_reducible repeat (first | apply Kd.R_alloc | apply Kd.R_drewN | apply Kd.R_drew)); exact HO_8.out) hb); have n2_ := Aside0.mk (below_step (by repeat (first | (with_reducible first | exact HB.out | apply below_alloc | apply pw_below_drewN | apply below_drew1) | exact HB.out)) hb); clear HO_6; clear HO_8; clear HB; have HO_6 := n0_; have HO_8 := n1_; have HB := n2_; clear n0_ n1_ n2_; (try clear hb); (try clear hb2); (try clear hk); (try clear hi)) | ((with_reducible refine gate_callee (f := 33) rfl ?_); refine goesL_ (some 55) rfl rfl Try.func33 (by kernel_rfl) rfl #[.int .i64 t568, .int .i64 t569, .slice Ao24 t573.length co24, .int .i64 x10_1] rfl (by (try simp only [List.map_toArray, List.map_cons, List.map_nil]); first | done | rfl | (simp only [List.length_drop, List.length_take]; rfl)) ?_; (with_reducible refine (impl_AnswerIn.calls k1 t568 t569 _ _ t573 x10_1 t584 _ ?side1 ?side2 A18.out).mono ?_); (case side1 => repeat (first | exact (Kd.R_reads' HO_6.out).2.2 | (with_reducible refine Kd.C_alloc ?_ _) | (with_reducible refine Kd.C_drewN ?_ _) | (with_reducible refine Kd.C_drew ?_))); (case side2 => exact (Kd.R_reads' HO_6.out).2.1); rintro e w26 ⟨rfl, hb⟩; refine ⟨_, rfl, ?_⟩; have n0_ := Aside0.mk (Kd.R_below (by (with_reducible repeat (first | apply Kd.R_alloc | apply Kd.R_drewN | apply Kd.R_drew)); exact HO_6.out) hb); have n1_ := Aside0.mk (Kd.R_below (by (with_reducible repeat (first | apply Kd.R_alloc | apply Kd.R_drewN | apply Kd.R_drew)); exact HO_8.out) hb); have n2_ := Aside0.mk (below_step (by repeat (first | (with_reducible first | exact HB.out | apply below_alloc | apply pw_below_drewN | apply below_drew1) | exact HB.out)) hb); clear HO_6; clear HO_8; clear HB; have HO_6 := n0_; have HO_8 := n1_; have HB := n2_; clear n0_ n1_ n2_; (try clear hb); (try clear hb2); (try clear hk); (try clear hi); obtain ⟨Ao27, co27, eo27⟩ := Kd.R_slice HO_8.out; subst eo27) | (go_at_call 33; (with_reducible refine (impl_AnswerIn.calls k1 t568 t569 _ _ t578 x10_1 t585 _ ?side1 ?side2 A21.out).mono ?_); (case side1 => repeat (first | exact (Kd.R_reads' HO_8.out).2.2 | (with_reducible refine Kd.C_alloc ?_ _) | (with_reducible refine Kd.C_drewN ?_ _) | (with_reducible refine Kd.C_drew ?_))); (case side2 => exact (Kd.R_reads' HO_8.out).2.1); rintro e w28 ⟨rfl, hb⟩; have n0_ := Aside0.mk (Kd.R_below (by (with_reducible repeat (first | apply Kd.R_alloc | apply Kd.R_drewN | apply Kd.R_drew)); exact HO_6.out) hb); have n1_ := Aside0.mk (Kd.R_below (by (with_reducible repeat (first | apply Kd.R_alloc | apply Kd.R_drewN | apply Kd.R_drew)); exact HO_8.out) hb); have n2_ := Aside0.mk (below_step (by repeat (first | (with_reducible first | exact HB.out | apply below_alloc | apply pw_below_drewN | apply below_drew1) | exact HB.out)) hb); clear HO_6; clear HO_8; clear HB; have HO_6 := n0_; have HO_8 := n1_; have HB := n2_; clear n0_ n1_ n2_; (try clear hb); (try clear hb2); (try clear hk); (try clear hi)) | (go_at_call 39; (with_reducible refine (impl_WordIn.calls k1 t568 t569 _ _ t573 x10_1 t586 _ ?side1 ?side2 A22.out).mono ?_); (case side1 => repeat (first | exact (Kd.R_reads' HO_6.out).2.2 | (with_reducible refine Kd.C_alloc ?_ _) | (with_reducible refine Kd.C_drewN ?_ _) | (with_reducible refine Kd.C_drew ?_))); (case side2 => exact (Kd.R_reads' HO_6.out).2.1); rintro e w29 ⟨rfl, hb⟩; have n0_ := Aside0.mk (Kd.R_below (by (with_reducible repeat (first | apply Kd.R_alloc | apply Kd.R_drewN | apply Kd.R_drew)); exact HO_6.out) hb); have n1_ := Aside0.mk (Kd.R_below (by (with_reducible repeat (first | apply Kd.R_alloc | apply Kd.R_drewN | apply Kd.R_drew)); exact HO_8.out) hb); have n2_ := Aside0.mk (below_step (by repeat (first | (with_reducible first | exact HB.out | apply below_alloc | apply pw_below_drewN | apply below_drew1) | exact HB.out)) hb); clear HO_6; clear HO_8; clear HB; have HO_6 := n0_; have HO_8 := n1_; have HB := n2_; clear n0_ n1_ n2_; (try clear hb); (try clear hb2); (try clear hk); (try clear hi)))
           go_roundg k1
           case measure => have := HK1.out; omega
           case rel => exact ⟨(wrap64 (x10_1 + 1)), (by first | rfl | (simp; done) | (simp [*]; done)), H', ⟨by have := HK1.out; omega⟩, ⟨by (with_reducible repeat (first | apply Kd.R_alloc | apply Kd.R_drewN | apply Kd.R_drew)); exact HO_6.out⟩, ⟨by (with_reducible repeat (first | apply Kd.R_alloc | apply Kd.R_drewN | apply Kd.R_drew)); exact HO_8.out⟩, ⟨by repeat (first | (with_reducible first | exact HB.out | apply below_alloc | apply pw_below_drewN | apply below_drew1) | exact HB.out)⟩⟩
          ·rw [if_neg c23] at H
           have c23b0 : (t585 == t586) = false := beq_eq_false_iff_ne.mpr c23
           have c23b1 : (t585 != t586) = true := bne_iff_ne.mpr c23
           obtain rfl := Option.some.inj H
           obtain ⟨Ao30, co30, eo30⟩ := Kd.R_slice HO_6.out
           subst eo30
           go_wp2_with (first | ((with_reducible refine gate_callee (f := 39) rfl ?_); refine goesL_ (some 50) rfl rfl Try.func39 (by kernel_rfl) rfl #[.int .i64 t568, .int .i64 t569, .slice Ao30 t573.length co30, .int .i64 x10_1] rfl (by (try simp only [List.map_toArray, List.map_cons, List.map_nil]); first | done | rfl | (simp only [List.length_drop, List.length_take]; rfl)) ?_; (with_reducible refine (impl_WordIn.calls k1 t568 t569 _ _ t573 x10_1 t583 _ ?side1 ?side2 A17.out).mono ?_); (case side1 => repeat (first | exact (Kd.R_reads' HO_6.out).2.2 | (with_reducible refine Kd.C_alloc ?_ _) | (with_reducible refine Kd.C_drewN ?_ _) | (with_reducible refine Kd.C_drew ?_))); (case side2 => exact (Kd.R_reads' HO_6.out).2.1); rintro e w31 ⟨rfl, hb⟩; refine ⟨_, rfl, ?_⟩; have n0_ := Aside0.mk (Kd.R_below (by (with_reducible repeat (first | apply Kd.R_alloc | apply Kd.R_drewN | apply Kd.R_drew)); exact HO_6.out) hb); have n1_ := Aside0.mk (Kd.R_below (by (with_reducible repeat (first | apply Kd.R_alloc | apply Kd.R_drewN | apply Kd.R_drew)); exact HO_8.out) hb); have n2_ := Aside0.mk (below_step (by repeat (first | (with_reducible first | exact HB.out | apply below_alloc | apply pw_below_drewN | apply below_drew1) | exact HB.out)) hb); clear HO_6; clear HO_8; clear HB; have HO_6 := n0_; have HO_8 := n1_; have HB := n2_; clear n0_ n1_ n2_; (try clear hb); (try clear hb2); (try clear hk); (try clear hi)) | ((with_reducible refine gate_callee (f := 33) rfl ?_); refine goesL_ (some 55) rfl rfl Try.func33 (by kernel_rfl) rfl #[.int .i64 t568, .int .i64 t569, .slice Ao30 t573.length co30, .int .i64 x10_1] rfl (by (try simp only [List.map_toArray, List.map_cons, List.map_nil]); first | done | rfl | (simp only [List.length_drop, List.length_take]; rfl)) ?_; (with_reducible refine (impl_AnswerIn.calls k1 t568 t569 _ _ t573 x10_1 t584 _ ?side1 ?side2 A18.out).mono ?_); (case side1 => repeat (first | exact (Kd.R_reads' HO_6.out).2.2 | (with_reducible refine Kd.C_alloc ?_ _) | (with_reducible refine Kd.C_drewN ?_ _) | (with_reducible refine Kd.C_drew ?_))); (case side2 => exact (Kd.R_reads' HO_6.out).2.1); rintro e w32 ⟨rfl, hb⟩; refine ⟨_, rfl, ?_⟩; have n0_ := Aside0.mk (Kd.R_below (by (with_reducible repeat (first | apply Kd.R_alloc | apply Kd.R_drewN | apply Kd.R_drew)); exact HO_6.out) hb); have n1_ := Aside0.mk (Kd.R_below (by (with_reducible repeat (first | apply Kd.R_alloc | apply Kd.R_drewN | apply Kd.R_drew)); exact HO_8.out) hb); have n2_ := Aside0.mk (below_step (by repeat (first | (with_reducible first | exact HB.out | apply below_alloc | apply pw_below_drewN | apply below_drew1) | exact HB.out)) hb); clear HO_6; clear HO_8; clear HB; have HO_6 := n0_; have HO_8 := n1_; have HB := n2_; clear n0_ n1_ n2_; (try clear hb); (try clear hb2); (try clear hk); (try clear hi); obtain ⟨Ao33, co33, eo33⟩ := Kd.R_slice HO_8.out; subst eo33) | (go_at_call 33; (with_reducible refine (impl_AnswerIn.calls k1 t568 t569 _ _ t578 x10_1 t585 _ ?side1 ?side2 A21.out).mono ?_); (case side1 => repeat (first | exact (Kd.R_reads' HO_8.out).2.2 | (with_reducible refine Kd.C_alloc ?_ _) | (with_reducible refine Kd.C_drewN ?_ _) | (with_reducible refine Kd.C_drew ?_))); (case side2 => exact (Kd.R_reads' HO_8.out).2.1); rintro e w34 ⟨rfl, hb⟩; have n0_ := Aside0.mk (Kd.R_below (by (with_reducible repeat (first | apply Kd.R_alloc | apply Kd.R_drewN | apply Kd.R_drew)); exact HO_6.out) hb); have n1_ := Aside0.mk (Kd.R_below (by (with_reducible repeat (first | apply Kd.R_alloc | apply Kd.R_drewN | apply Kd.R_drew)); exact HO_8.out) hb); have n2_ := Aside0.mk (below_step (by repeat (first | (with_reducible first | exact HB.out | apply below_alloc | apply pw_below_drewN | apply below_drew1) | exact HB.out)) hb); clear HO_6; clear HO_8; clear HB; have HO_6 := n0_; have HO_8 := n1_; have HB := n2_; clear n0_ n1_ n2_; (try clear hb); (try clear hb2); (try clear hk); (try clear hi)) | (go_at_call 39; (with_reducible refine (impl_WordIn.calls k1 t568 t569 _ _ t573 x10_1 t586 _ ?side1 ?side2 A22.out).mono ?_); (case side1 => repeat (first | exact (Kd.R_reads' HO_6.out).2.2 | (with_reducible refine Kd.C_alloc ?_ _) | (with_reducible refine Kd.C_drewN ?_ _) | (with_reducible refine Kd.C_drew ?_))); (case side2 => exact (Kd.R_reads' HO_6.out).2.1); rintro e w35 ⟨rfl, hb⟩; have n0_ := Aside0.mk (Kd.R_below (by (with_reducible repeat (first | apply Kd.R_alloc | apply Kd.R_drewN | apply Kd.R_drew)); exact HO_6.out) hb); have n1_ := Aside0.mk (Kd.R_below (by (with_reducible repeat (first | apply Kd.R_alloc | apply Kd.R_drewN | apply Kd.R_drew)); exact HO_8.out) hb); have n2_ := Aside0.mk (below_step (by repeat (first | (with_reducible first | exact HB.out | apply below_alloc | apply pw_below_drewN | apply below_drew1) | exact HB.out)) hb); clear HO_6; clear HO_8; clear HB; have HO_6 := n0_; have HO_8 := n1_; have HB := n2_; clear n0_ n1_ n2_; (try clear hb); (try clear hb2); (try clear hk); (try clear hi)))
           go_ret
           exact ⟨by first | rfl | (simp [errW_none, errW_some] <;> rfl) | (simp only [← hji7, ← hji9, ← hji15]; first | rfl | (simp [errW_none, errW_some] <;> rfl)) | (simp [*, errW_none, errW_some] <;> rfl), by repeat (first | (with_reducible first | exact HB.out | apply below_alloc | apply pw_below_drewN | apply below_drew1) | exact HB.out)⟩
         ·replace c20 := Bool.eq_false_iff.mpr c20
          subst c20
          have H1 : (laws_FnStrangeSame.l0 k1 t568 t569 t573 t578 false (wrap64 (x10_1 + 1))) = some r := by rw [if_neg (show ¬ (false = true) by decide)] at H; exact H
          clear H
          have H := H1
          clear H1
          have H' := Aside0.mk H
          clear H
          obtain ⟨Ao36, co36, eo36⟩ := Kd.R_slice HO_6.out
          subst eo36
          go_wp2_with (first | ((with_reducible refine gate_callee (f := 39) rfl ?_); refine goesL_ (some 50) rfl rfl Try.func39 (by kernel_rfl) rfl #[.int .i64 t568, .int .i64 t569, .slice Ao36 t573.length co36, .int .i64 x10_1] rfl (by (try simp only [List.map_toArray, List.map_cons, List.map_nil]); first | done | rfl | (simp only [List.length_drop, List.length_take]; rfl)) ?_; (with_reducible refine (impl_WordIn.calls k1 t568 t569 _ _ t573 x10_1 t583 _ ?side1 ?side2 A17.out).mono ?_); (case side1 => repeat (first | exact (Kd.R_reads' HO_6.out).2.2 | (with_reducible refine Kd.C_alloc ?_ _) | (with_reducible refine Kd.C_drewN ?_ _) | (with_reducible refine Kd.C_drew ?_))); (case side2 => exact (Kd.R_reads' HO_6.out).2.1); rintro e w37 ⟨rfl, hb⟩; refine ⟨_, rfl, ?_⟩; have n0_ := Aside0.mk (Kd.R_below (by (with_reducible repeat (first | apply Kd.R_alloc | apply Kd.R_drewN | apply Kd.R_drew)); exact HO_6.out) hb); have n1_ := Aside0.mk (Kd.R_below (by (with_reducible repeat (first | apply Kd.R_alloc | apply Kd.R_drewN | apply Kd.R_drew)); exact HO_8.out) hb); have n2_ := Aside0.mk (below_step (by repeat (first | (with_reducible first | exact HB.out | apply below_alloc | apply pw_below_drewN | apply below_drew1) | exact HB.out)) hb); clear HO_6; clear HO_8; clear HB; have HO_6 := n0_; have HO_8 := n1_; have HB := n2_; clear n0_ n1_ n2_; (try clear hb); (try clear hb2); (try clear hk); (try clear hi)) | ((with_reducible refine gate_callee (f := 33) rfl ?_); refine goesL_ (some 55) rfl rfl Try.func33 (by kernel_rfl) rfl #[.int .i64 t568, .int .i64 t569, .slice Ao36 t573.length co36, .int .i64 x10_1] rfl (by (try simp only [List.map_toArray, List.map_cons, List.map_nil]); first | done | rfl | (simp only [List.length_drop, List.length_take]; rfl)) ?_; (with_reducible refine (impl_AnswerIn.calls k1 t568 t569 _ _ t573 x10_1 t584 _ ?side1 ?side2 A18.out).mono ?_); (case side1 => repeat (first | exact (Kd.R_reads' HO_6.out).2.2 | (with_reducible refine Kd.C_alloc ?_ _) | (with_reducible refine Kd.C_drewN ?_ _) | (with_reducible refine Kd.C_drew ?_))); (case side2 => exact (Kd.R_reads' HO_6.out).2.1); rintro e w38 ⟨rfl, hb⟩; refine ⟨_, rfl, ?_⟩; have n0_ := Aside0.mk (Kd.R_below (by (with_reducible repeat (first | apply Kd.R_alloc | apply Kd.R_drewN | apply Kd.R_drew)); exact HO_6.out) hb); have n1_ := Aside0.mk (Kd.R_below (by (with_reducible repeat (first | apply Kd.R_alloc | apply Kd.R_drewN | apply Kd.R_drew)); exact HO_8.out) hb); have n2_ := Aside0.mk (below_step (by repeat (first | (with_reducible first | exact HB.out | apply below_alloc | apply pw_below_drewN | apply below_drew1) | exact HB.out)) hb); clear HO_6; clear HO_8; clear HB; have HO_6 := n0_; have HO_8 := n1_; have HB := n2_; clear n0_ n1_ n2_; (try clear hb); (try clear hb2); (try clear hk); (try clear hi)))
          go_roundg k1
          case measure => have := HK1.out; omega
          case rel => exact ⟨(wrap64 (x10_1 + 1)), (by first | rfl | (simp; done) | (simp [*]; done)), H', ⟨by have := HK1.out; omega⟩, ⟨by (with_reducible repeat (first | apply Kd.R_alloc | apply Kd.R_drewN | apply Kd.R_drew)); exact HO_6.out⟩, ⟨by (with_reducible repeat (first | apply Kd.R_alloc | apply Kd.R_drewN | apply Kd.R_drew)); exact HO_8.out⟩, ⟨by repeat (first | (with_reducible first | exact HB.out | apply below_alloc | apply pw_below_drewN | apply below_drew1) | exact HB.out)⟩⟩
        ·rw [if_neg c19] at H
         have c19b0 : (t583 == t584) = false := beq_eq_false_iff_ne.mpr c19
         have c19b1 : (t583 != t584) = true := bne_iff_ne.mpr c19
         obtain rfl := Option.some.inj H
         obtain ⟨Ao39, co39, eo39⟩ := Kd.R_slice HO_6.out
         subst eo39
         go_wp2_with (first | ((with_reducible refine gate_callee (f := 39) rfl ?_); refine goesL_ (some 50) rfl rfl Try.func39 (by kernel_rfl) rfl #[.int .i64 t568, .int .i64 t569, .slice Ao39 t573.length co39, .int .i64 x10_1] rfl (by (try simp only [List.map_toArray, List.map_cons, List.map_nil]); first | done | rfl | (simp only [List.length_drop, List.length_take]; rfl)) ?_; (with_reducible refine (impl_WordIn.calls k1 t568 t569 _ _ t573 x10_1 t583 _ ?side1 ?side2 A17.out).mono ?_); (case side1 => repeat (first | exact (Kd.R_reads' HO_6.out).2.2 | (with_reducible refine Kd.C_alloc ?_ _) | (with_reducible refine Kd.C_drewN ?_ _) | (with_reducible refine Kd.C_drew ?_))); (case side2 => exact (Kd.R_reads' HO_6.out).2.1); rintro e w40 ⟨rfl, hb⟩; refine ⟨_, rfl, ?_⟩; have n0_ := Aside0.mk (Kd.R_below (by (with_reducible repeat (first | apply Kd.R_alloc | apply Kd.R_drewN | apply Kd.R_drew)); exact HO_6.out) hb); have n1_ := Aside0.mk (Kd.R_below (by (with_reducible repeat (first | apply Kd.R_alloc | apply Kd.R_drewN | apply Kd.R_drew)); exact HO_8.out) hb); have n2_ := Aside0.mk (below_step (by repeat (first | (with_reducible first | exact HB.out | apply below_alloc | apply pw_below_drewN | apply below_drew1) | exact HB.out)) hb); clear HO_6; clear HO_8; clear HB; have HO_6 := n0_; have HO_8 := n1_; have HB := n2_; clear n0_ n1_ n2_; (try clear hb); (try clear hb2); (try clear hk); (try clear hi)) | ((with_reducible refine gate_callee (f := 33) rfl ?_); refine goesL_ (some 55) rfl rfl Try.func33 (by kernel_rfl) rfl #[.int .i64 t568, .int .i64 t569, .slice Ao39 t573.length co39, .int .i64 x10_1] rfl (by (try simp only [List.map_toArray, List.map_cons, List.map_nil]); first | done | rfl | (simp only [List.length_drop, List.length_take]; rfl)) ?_; (with_reducible refine (impl_AnswerIn.calls k1 t568 t569 _ _ t573 x10_1 t584 _ ?side1 ?side2 A18.out).mono ?_); (case side1 => repeat (first | exact (Kd.R_reads' HO_6.out).2.2 | (with_reducible refine Kd.C_alloc ?_ _) | (with_reducible refine Kd.C_drewN ?_ _) | (with_reducible refine Kd.C_drew ?_))); (case side2 => exact (Kd.R_reads' HO_6.out).2.1); rintro e w41 ⟨rfl, hb⟩; refine ⟨_, rfl, ?_⟩; have n0_ := Aside0.mk (Kd.R_below (by (with_reducible repeat (first | apply Kd.R_alloc | apply Kd.R_drewN | apply Kd.R_drew)); exact HO_6.out) hb); have n1_ := Aside0.mk (Kd.R_below (by (with_reducible repeat (first | apply Kd.R_alloc | apply Kd.R_drewN | apply Kd.R_drew)); exact HO_8.out) hb); have n2_ := Aside0.mk (below_step (by repeat (first | (with_reducible first | exact HB.out | apply below_alloc | apply pw_below_drewN | apply below_drew1) | exact HB.out)) hb); clear HO_6; clear HO_8; clear HB; have HO_6 := n0_; have HO_8 := n1_; have HB := n2_; clear n0_ n1_ n2_; (try clear hb); (try clear hb2); (try clear hk); (try clear hi)))
         go_ret
         exact ⟨by first | rfl | (simp [errW_none, errW_some] <;> rfl) | (simp only [← hji7, ← hji9, ← hji15]; first | rfl | (simp [errW_none, errW_some] <;> rfl)) | (simp [*, errW_none, errW_some] <;> rfl), by repeat (first | (with_reducible first | exact HB.out | apply below_alloc | apply pw_below_drewN | apply below_drew1) | exact HB.out)⟩
       ·rw [if_neg c16] at H
        have c16b0 : decide (x10_1 < (ji15)) = false := decide_eq_false c16
        clear c16
        replace H := Option.bind_eq_some_iff.mp H
        obtain ⟨t582, A420, H⟩ := H
        replace H : (some t582) = some r := H
        have A42 := Aside0.mk A420
        clear A420
        obtain rfl := Option.some.inj H
        go_wp2_with (first | ((with_reducible refine gate_callee (f := 37) rfl ?_); refine goesL_ (some 73) rfl rfl Try.func37 (by kernel_rfl) rfl #[] rfl (by (try simp only [List.map_toArray, List.map_cons, List.map_nil]); first | done | rfl | (simp only [List.length_drop, List.length_take]; rfl)) ?_; (with_reducible refine (laws_alive.calls  t582 _ A42.out).mono ?_); rintro e w' ⟨rfl, ⟨nd, rfl⟩⟩; refine ⟨_, rfl, ?_⟩))
        go_ret
        exact ⟨by first | rfl | (simp [errW_none, errW_some] <;> rfl) | (simp only [← hji7, ← hji9, ← hji15]; first | rfl | (simp [errW_none, errW_some] <;> rfl)) | (simp [*, errW_none, errW_some] <;> rfl), by repeat (first | (with_reducible first | exact HB.out | apply below_alloc | apply pw_below_drewN | apply below_drew1) | exact HB.out)⟩
      ·rw [if_neg c14] at H
       exact absurd H (by simp)
   ·rw [if_neg c8] at H
    exact absurd H (by simp)
  ·replace c5 := Bool.eq_false_iff.mpr c5
   subst c5
   have H1 : ((laws_alive.f).bind fun t577 => (some t577)) = some r := by rw [if_neg (show ¬ (false = true) by decide)] at H; exact H
   clear H
   have H := H1
   clear H1
   replace H := Option.bind_eq_some_iff.mp H
   obtain ⟨t577, A430, H⟩ := H
   replace H : (some t577) = some r := H
   have A43 := Aside0.mk A430
   clear A430
   obtain rfl := Option.some.inj H
   go_enter Try.func5, Try.ntmps5
   go_wp2_with (first | ((with_reducible refine gate_callee (f := 35) rfl ?_); refine goesL_ (some 16) rfl rfl Try.func35 (by kernel_rfl) rfl #[.slice A0 l0.length c0] rfl (by (try simp only [List.map_toArray, List.map_cons, List.map_nil]); first | done | rfl | (simp only [List.length_drop, List.length_take]; rfl)) ?_; (with_reducible refine (spec_DrawStrangeTerm.calls k _ _ l0 t568 t569 t570 _ ?side1 ?side2 A3.out).mono ?_); (case side1 => repeat (first | exact HR0.out | (with_reducible refine Kd.C_alloc ?_ _) | (with_reducible refine Kd.C_drewN ?_ _) | (with_reducible refine Kd.C_drew ?_))); (case side2 => exact HC0.out); rintro e w44 ⟨v571, rfl, ho0, hb⟩; refine ⟨_, rfl, ?_⟩; have n0_ := Aside0.mk (Kd.R_lower ho0 (below_size (by repeat (first | (with_reducible first | exact HB.out | apply below_alloc | apply pw_below_drewN | apply below_drew1) | exact HB.out)))); have n1_ := Aside0.mk (below_step (by repeat (first | (with_reducible first | exact HB.out | apply below_alloc | apply pw_below_drewN | apply below_drew1) | exact HB.out)) hb); clear HB; have HO572 := n0_; have HB := n1_; clear n0_ n1_; (try clear hb); (try clear hb2); (try clear hk); (try clear hi); (try clear ho0); obtain ⟨Ao45, co45, eo45⟩ := Kd.R_slice HO572.out; subst eo45) | ((with_reducible refine gate_callee (f := 36) rfl ?_); refine goesL_ (some 24) rfl rfl Try.func36 (by kernel_rfl) rfl #[.int .i64 t568, .int .i64 t569, .slice Ao45 t570.length co45] rfl (by (try simp only [List.map_toArray, List.map_cons, List.map_nil]); first | done | rfl | (simp only [List.length_drop, List.length_take]; rfl)) ?_; (with_reducible refine (impl_StrangeTerm.calls k t568 t569 _ _ t570 t573 false _ ?side1 ?side2 A4.out).mono ?_); (case side1 => repeat (first | exact (Kd.R_reads' HO572.out).2.2 | (with_reducible refine Kd.C_alloc ?_ _) | (with_reducible refine Kd.C_drewN ?_ _) | (with_reducible refine Kd.C_drew ?_))); (case side2 => exact (Kd.R_reads' HO572.out).2.1); rintro e w46 ⟨v575, rfl, ho0, hb⟩; refine ⟨_, rfl, ?_⟩; have n0_ := Aside0.mk (Kd.R_elder' (by (with_reducible repeat (first | apply Kd.R_alloc | apply Kd.R_drewN | apply Kd.R_drew)); exact HO572.out) (Kd.R_base ho0) hb); have n1_ := Aside0.mk (Kd.R_lower (Kd.R_new' ho0 (Kd.R_lt (by (with_reducible repeat (first | apply Kd.R_alloc | apply Kd.R_drewN | apply Kd.R_drew)); exact HO572.out))) (below_size (by repeat (first | (with_reducible first | exact HB.out | apply below_alloc | apply pw_below_drewN | apply below_drew1) | exact HB.out)))); have n2_ := Aside0.mk (below_step (by repeat (first | (with_reducible first | exact HB.out | apply below_alloc | apply pw_below_drewN | apply below_drew1) | exact HB.out)) hb); clear HO572; clear HB; have HO572 := n0_; have HO576 := n1_; have HB := n2_; clear n0_ n1_ n2_; (try clear hb); (try clear hb2); (try clear hk); (try clear hi); (try clear ho0)) | ((with_reducible refine gate_callee (f := 37) rfl ?_); refine goesL_ (some 29) rfl rfl Try.func37 (by kernel_rfl) rfl #[] rfl (by (try simp only [List.map_toArray, List.map_cons, List.map_nil]); first | done | rfl | (simp only [List.length_drop, List.length_take]; rfl)) ?_; (with_reducible refine (laws_alive.calls  t577 _ A43.out).mono ?_); rintro e w' ⟨rfl, ⟨nd, rfl⟩⟩; refine ⟨_, rfl, ?_⟩))
   go_ret
   exact ⟨by first | rfl | (simp [errW_none, errW_some] <;> rfl) | (simp [*, errW_none, errW_some] <;> rfl), by repeat (first | (with_reducible first | exact HB.out | apply below_alloc | apply pw_below_drewN | apply below_drew1) | exact HB.out)⟩

/-- THE ONE PURE STATEMENT of laws_FnStrangeSame: yours. -/
def laws_FnStrangeSame.Pure : Prop := ∀ (l0 : List Int), l0.length ≤ maxLen → l0.length * 1 ≤ 140737488351232 → (∀ x ∈ l0, (Lit.int .u8 x).wf = true) → ∃ k, laws_FnStrangeSame.f k l0 = some true
theorem laws_FnStrangeSame.walk (P : laws_FnStrangeSame.Pure) (a0 : Option Addr) (len0 cap0 : Nat) (z0 : List Int) (w : World) (w0 : (a0 = none ∧ len0 = 0 ∧ cap0 = 0 ∧ z0 = []) ∨ ∃ x, a0 = some x ∧ len0 ≤ cap0 ∧ cap0 ≤ maxLen ∧ z0.length = cap0 ∧ (∀ i, i < z0.length → w.cell? (x.add i) = some (.int .u8 (z0.getD i 0))) ∧ ∀ n ∈ z0, (Lit.int .u8 n).wf = true) (y0 : len0 * 1 ≤ 140737488351232) :
  Calls Try.prog 5 #[.slice a0 len0 cap0] w fun e w' => e = .returned (.bool true) ∧ Below w.heap.size w w' := by
 obtain ⟨l0, rfl, hr0, hm0, hw0, hc0⟩ := ReadsInt.ofRowC w0
 obtain ⟨k, h⟩ := P l0 hm0 y0 hw0
 refine (laws_FnStrangeSame.calls k _ _ l0 true w (Kd.C_of_reads (d := (0 : Int)) (h1 := fun _ => rfl) hr0) hc0 h).mono ?_
 rintro e w' ⟨rfl, hd⟩
 exact ⟨rfl, hd⟩

end Go.Proofs.Ytpampekijfjlkaa.X

/- Drawn questions in a strange language. -/
namespace Go.Proofs.Ytpampekijfjlkaa.L
open Go.RowKit Go.Proofs.Ytpampekijfjlkaa.X Go.Proofs.YtpampekijfjlkaaW.PrintWords Go.Proofs.YtpampekijfjlkaaW.PrintLast Go.Proofs.YtpampekijfjlkaaW.PrintMore

theorem l20Strange_ev {s : List Int} (hs : Rd s) : ∃ (p i : Int) (t : List M) (n : Int), Ev (fun k => spec_l20Strange.f k s 0) (p, i, t, n) ∧ 1 ≤ p ∧ p ≤ 4 ∧ 0 ≤ i ∧ i ≤ 1000 ∧ t.length ≤ 16 ∧ Sm t ∧ 0 ≤ n ∧ n ≤ 1000 := by
 obtain ⟨a, ha, ha0, ha1⟩ := pick_ev hs (p := 0) (by omega) (by omega) 3 (by omega)
 have ha2 := ha1 (by omega)
 obtain ⟨b, hb, hb0, hb1⟩ := pick_ev hs (p := 0 + 1) (by omega) (by omega) 40 (by omega)
 have hb2 := tdiv39 hb0 (hb1 (by omega))
 obtain ⟨c, hc, hc0, hc1⟩ := pick_ev hs (p := 0 + 1 + 1) (by omega) (by omega) (2 + a - 1) (by omega)
 have hc2 := hc1 (by omega)
 obtain ⟨d, hd, hd0, hd1⟩ := pick_ev hs (p := 0 + 1 + 1 + 1) (by omega) (by omega) 40 (by omega)
 have hd2 := tdiv39 hd0 (hd1 (by omega))
 obtain ⟨t, p', ht, h2, h3, h4, h5⟩ := l20Term_ev hs (p := 0 + 1 + 1 + 1 + 1) (by omega) (by omega) (2 + a) 14 (by omega)
 refine ⟨2 + a - Int.tdiv b 39, c + Int.tdiv d 39 * 3, t, p', ?_, by omega, by omega, by omega, by omega, h2, h3, by omega, by omega⟩
 unfold spec_l20Strange.f
 refine Ev.bind ha (Ev.bind hb ?_)
 simp only [w64 (x := 2 + a) (by omega) (by omega), w64 (x := 2 + a - 1) (by omega) (by omega)]
 refine Ev.bind hc (Ev.bind hd (Ev.bind ht ?_))
 simp only [w64 (x := Int.tdiv b 39) (by omega) (by omega), w64 (x := 2 + a - Int.tdiv b 39) (by omega) (by omega), w64 (x := Int.tdiv d 39) (by omega) (by omega), w64 (x := Int.tdiv d 39 * 3) (by omega) (by omega), w64 (x := c + Int.tdiv d 39 * 3) (by omega) (by omega)]
 exact Ev.some _
end Go.Proofs.Ytpampekijfjlkaa.L

/- Drawn questions in a strange language, by the code. -/
namespace Go.Proofs.Ytpampekijfjlkaa.L
open Go.RowKit Go.Proofs.Ytpampekijfjlkaa.X Go.Proofs.YtpampekijfjlkaaW.PrintWords Go.Proofs.YtpampekijfjlkaaW.PrintLast Go.Proofs.YtpampekijfjlkaaW.PrintMore

theorem DrawStrangeTerm_ev {l : List Int} (hw : ∀ x ∈ l, (Lit.int .u8 x).wf = true) : ∃ (p i : Int) (t : List M), Ev (fun k => spec_DrawStrangeTerm.f k l) (p, i, t) ∧ 1 ≤ p ∧ p ≤ 4 ∧ 0 ≤ i ∧ i ≤ 1000 ∧ t.length ≤ 16 ∧ Sm t := by
 obtain ⟨s, hs, ho⟩ := open_eq hw
 obtain ⟨p, i, t, n, h, h1, h2, h3, h4, h5, h6, _⟩ := l20Strange_ev hs
 refine ⟨p, i, t, ?_, h1, h2, h3, h4, h5, h6⟩
 unfold spec_DrawStrangeTerm.f
 rw [ho]
 simp only [Option.bind_some]
 exact Ev.bind h (Ev.some _)
end Go.Proofs.Ytpampekijfjlkaa.L

/- Plain law of the trick: a mark of a person ahead, and the mark of sameness behind. -/
namespace Go.Proofs.Ytpampekijfjlkaa.L
open Go.RowKit Go.Proofs.Ytpampekijfjlkaa.X Go.Proofs.YtpampekijfjlkaaW.PrintWords Go.Proofs.YtpampekijfjlkaaW.PrintLast Go.Proofs.YtpampekijfjlkaaW.PrintMore

/-- The trick of a row of marks. -/
def wrapM (i : Int) (t : List M) : List M := ⟨0, i⟩ :: (t ++ [⟨5, 0⟩])
theorem wrapM_length (i : Int) (t : List M) : (wrapM i t).length = t.length + 2 := by simp [wrapM]
theorem trick_eq (i : Int) (t : List M) (ht : t.length ≤ 4611686018427) : impl_trick.f i t = some (wrapM i t) := by
 unfold impl_trick.f
 simp only [Option.bind_some, List.length_cons, List.length_nil, List.length_append]
 rw [if_pos (by omega), if_pos (by omega)]
 rfl
end Go.Proofs.Ytpampekijfjlkaa.L

-- printed by a program of this session's (xprint)
namespace Go.Proofs.Ytpampekijfjlkaa.X
open Go.RowKit Go.Proofs.YtpampekijfjlkaaW.PrintWords Go.Proofs.YtpampekijfjlkaaW.PrintLast Go.Proofs.YtpampekijfjlkaaW.PrintMore
attribute [local go_sem] max2_int min2_int max_two min_two max_three min_three max_four min_four   -- for this text's walks alone
set_option linter.unusedVariables false
set_option linter.unusedSimpArgs false

/-! ### spec_l8Ok: function 107 -/
def spec_l8Ok.f (a0 : Int) (a1 : Int) : Option (Bool) := (spec_l1In.f a0 2 4).bind fun t608 => (if t608 = true then ((spec_l1In.f a1 0 (wrap64 (a0 - 2))).bind fun t609 => (some t609)) else (some false))
set_option maxHeartbeats 8000000 in
set_option maxRecDepth 100000 in
theorem spec_l8Ok.calls (a0 : Int) (a1 : Int) (r : Bool) (w : World) (h : spec_l8Ok.f a0 a1 = some r) :
  Calls Try.prog 107 #[.int .i64 a0, .int .i64 a1] w fun e w' => e = .returned (.bool r) ∧ Drawn0 w w' := by
 have H : ((spec_l1In.f a0 2 4).bind fun t608 => (if t608 = true then ((spec_l1In.f a1 0 (wrap64 (a0 - 2))).bind fun t609 => (some t609)) else (some false))) = some r := h
 clear h
 replace H := Option.bind_eq_some_iff.mp H
 obtain ⟨t608, A30, H⟩ := H
 replace H : (if t608 = true then ((spec_l1In.f a1 0 (wrap64 (a0 - 2))).bind fun t609 => (some t609)) else (some false)) = some r := H
 have A3 := Aside0.mk A30
 clear A30
 by_cases c4 : t608 = true
 ·subst c4
  have H1 : ((spec_l1In.f a1 0 (wrap64 (a0 - 2))).bind fun t609 => (some t609)) = some r := by rw [if_pos rfl] at H; exact H
  clear H
  have H := H1
  clear H1
  replace H := Option.bind_eq_some_iff.mp H
  obtain ⟨t609, A50, H⟩ := H
  replace H : (some t609) = some r := H
  have A5 := Aside0.mk A50
  clear A50
  obtain rfl := Option.some.inj H
  go_enter Try.func107, Try.ntmps107
  go_wp2_with (first | ((with_reducible refine gate_callee (f := 98) rfl ?_); refine goesL_ (some 6) rfl rfl Try.func98 (by kernel_rfl) rfl #[.int .i64 a0, .int .i64 2, .int .i64 4] rfl (by (try simp only [List.map_toArray, List.map_cons, List.map_nil]); first | done | rfl | (simp only [List.length_drop, List.length_take]; rfl)) ?_; (with_reducible refine (spec_l1In.calls a0 2 4 true _ A3.out).mono ?_); rintro e w' ⟨rfl, ⟨nd, rfl⟩⟩; refine ⟨_, rfl, ?_⟩) | (go_at_call 98; (with_reducible refine (spec_l1In.calls a1 0 (wrap64 (a0 - 2)) t609 _ A5.out).mono ?_); rintro e w' ⟨rfl, ⟨nd, rfl⟩⟩))
  go_ret
  exact ⟨by first | rfl | (simp; done) | (simp [*]; done), by repeat (first | exact Drawn0.refl _ | apply Drawn0.step)⟩
 ·replace c4 := Bool.eq_false_iff.mpr c4
  subst c4
  have H1 : (some false) = some r := by rw [if_neg (show ¬ (false = true) by decide)] at H; exact H
  clear H
  have H := H1
  clear H1
  obtain rfl := Option.some.inj H
  go_enter Try.func107, Try.ntmps107
  go_wp2_with (first | ((with_reducible refine gate_callee (f := 98) rfl ?_); refine goesL_ (some 6) rfl rfl Try.func98 (by kernel_rfl) rfl #[.int .i64 a0, .int .i64 2, .int .i64 4] rfl (by (try simp only [List.map_toArray, List.map_cons, List.map_nil]); first | done | rfl | (simp only [List.length_drop, List.length_take]; rfl)) ?_; (with_reducible refine (spec_l1In.calls a0 2 4 false _ A3.out).mono ?_); rintro e w' ⟨rfl, ⟨nd, rfl⟩⟩; refine ⟨_, rfl, ?_⟩))
  go_ret
  exact ⟨by first | rfl | (simp; done) | (simp [*]; done), by repeat (first | exact Drawn0.refl _ | apply Drawn0.step)⟩

end Go.Proofs.Ytpampekijfjlkaa.X

-- printed by a program of this session's (xprint)
namespace Go.Proofs.Ytpampekijfjlkaa.X
open Go.RowKit Go.Proofs.YtpampekijfjlkaaW.PrintWords Go.Proofs.YtpampekijfjlkaaW.PrintLast Go.Proofs.YtpampekijfjlkaaW.PrintMore
attribute [local go_sem] max2_int min2_int max_two min_two max_three min_three max_four min_four   -- for this text's walks alone
set_option linter.unusedVariables false
set_option linter.unusedSimpArgs false

/-! ### spec_StrangeTerm: function 64 -/
def spec_StrangeTerm.j0 : Nat → Int → Int → List (S52) → Bool → Option ((List (S52)) × Bool)
 | 0, _, _, _, _ => none
 | k + 1, x0, x1, x2, x18 => if x18 = true then (some ((([] : List (S52))), false)) else ((some (([(⟨0, x1⟩ : S52), (⟨0, wrap64 (x0 - 1)⟩ : S52)] : List (S52)) : List (S52))).bind fun y931 => (if y931.length + x2.length < 8796093022208 then ((some (y931 ++ x2 : List (S52))).bind fun y934 => ((some (([(⟨5, 0⟩ : S52), (⟨5, 0⟩ : S52)] : List (S52)) : List (S52))).bind fun y937 => (if y934.length + y937.length < 8796093022208 then ((some (y934 ++ y937 : List (S52))).bind fun y940 => ((spec_TermOk.f k x0 y940).bind fun t943 => (if t943 = true then (some (y940, true)) else (some ((([] : List (S52))), false))))) else (none)))) else (none)))
def spec_StrangeTerm.f (k : Nat) (a0 : Int) (a1 : Int) (l2 : List (S52)) : Option ((List (S52)) × Bool) := (spec_l8Ok.f a0 a1).bind fun t926 => (if t926 = true then ((spec_TermOk.f k a0 l2).bind fun t927 => (spec_StrangeTerm.j0 k a0 a1 l2 (!t927))) else (spec_StrangeTerm.j0 k a0 a1 l2 true))
theorem spec_StrangeTerm.mono_l : ∀ k, (∀ y0 y1 y2 y3, LeO (spec_StrangeTerm.j0 k y0 y1 y2 y3) (spec_StrangeTerm.j0 (k + 1) y0 y1 y2 y3))
 | 0 => fun _ _ _ _ r h => by simp [spec_StrangeTerm.j0] at h
 | k + 1 => by
  have ih0 := spec_StrangeTerm.mono_l k
  ·intro y0 y1 y2 y3
   unfold spec_StrangeTerm.j0
   repeat' first
   | (with_reducible exact ih0 _ _ _ _)
   | (with_reducible exact spec_TermOk.mono _ _ _)
   | (with_reducible exact LeO.refl _)
   | (with_reducible exact LeO.none _)
   | (with_reducible refine LeO.ite ?_ ?_)
   | (with_reducible refine LeO.bind ?_ (fun _ => ?_))
   | exact ih0 _ _ _ _
   | exact spec_TermOk.mono _ _ _
   | exact LeO.none _
   | refine LeO.ite ?_ ?_
   | refine LeO.bind ?_ (fun _ => ?_)
theorem spec_StrangeTerm.mono : ∀ a0 a1 a2 k, LeO (spec_StrangeTerm.f k a0 a1 a2) (spec_StrangeTerm.f (k + 1) a0 a1 a2) := by
 intro a0 a1 a2 k
 have ih0 := spec_StrangeTerm.mono_l k
 unfold spec_StrangeTerm.f
 repeat' first
   | (with_reducible exact ih0 _ _ _ _)
   | (with_reducible exact spec_TermOk.mono _ _ _)
   | (with_reducible exact LeO.refl _)
   | (with_reducible exact LeO.none _)
   | (with_reducible refine LeO.ite ?_ ?_)
   | (with_reducible refine LeO.bind ?_ (fun _ => ?_))
   | exact ih0 _ _ _ _
   | exact spec_TermOk.mono _ _ _
   | exact LeO.none _
   | refine LeO.ite ?_ ?_
   | refine LeO.bind ?_ (fun _ => ?_)
set_option maxHeartbeats 8000000 in
set_option maxRecDepth 100000 in
theorem spec_StrangeTerm.calls (k : Nat) (a0 : Int) (a1 : Int) (A2 : Option Addr) (c2 : Nat) (l2 : List (S52)) (r1 : List (S52)) (r2 : Bool) (w : World) (hr2 : Kd.C k52 w A2 l2.length l2) (hc2 : l2.length ≤ c2) (h : spec_StrangeTerm.f k a0 a1 l2 = some (r1, r2)) :
  Calls Try.prog 64 #[.int .i64 a0, .int .i64 a1, .slice A2 l2.length c2] w fun e w' => ∃ v0_ : Value, e = .returned (.tuple #[v0_, .bool r2]) ∧ Kd.R k52 52 w' w.heap.size (fun _ => True) v0_ r1 ∧ Below w.heap.size w w' := by
 have hu52 := Try.underlying52
 have HR2 := Aside0.mk hr2
 have HC2 := Aside0.mk hc2
 clear hr2 hc2
 have HB := Aside0.mk (Below.refl w.heap.size w)
 have H : ((spec_l8Ok.f a0 a1).bind fun t926 => (if t926 = true then ((spec_TermOk.f k a0 l2).bind fun t927 => (spec_StrangeTerm.j0 k a0 a1 l2 (!t927))) else (spec_StrangeTerm.j0 k a0 a1 l2 true))) = some (r1, r2) := h
 clear h
 have HC4 := Aside0.mk H
 clear H
 go_enter Try.func64, Try.ntmps64
 go_upto_region 1 with (fail)
 go_cut [18] (fun v18 wc => ∃ (kq : Nat) (x18_3 : Bool), v18 = .bool x18_3 ∧ Aside0 (spec_StrangeTerm.j0 kq a0 a1 l2 x18_3 = some (r1, r2)) ∧ Aside0 (kq ≤ k) ∧ Aside0 (Below w.heap.size w wc))
 case first =>
  have H := HC4.out
  clear HC4
  replace H := Option.bind_eq_some_iff.mp H
  obtain ⟨t926, A50, H⟩ := H
  replace H : (if t926 = true then ((spec_TermOk.f k a0 l2).bind fun t927 => (spec_StrangeTerm.j0 k a0 a1 l2 (!t927))) else (spec_StrangeTerm.j0 k a0 a1 l2 true)) = some (r1, r2) := H
  have A5 := Aside0.mk A50
  clear A50
  by_cases c6 : t926 = true
  ·subst c6
   have H1 : ((spec_TermOk.f k a0 l2).bind fun t927 => (spec_StrangeTerm.j0 k a0 a1 l2 (!t927))) = some (r1, r2) := by rw [if_pos rfl] at H; exact H
   clear H
   have H := H1
   clear H1
   replace H := Option.bind_eq_some_iff.mp H
   obtain ⟨t927, A70, H⟩ := H
   replace H : (spec_StrangeTerm.j0 k a0 a1 l2 (!t927)) = some (r1, r2) := H
   have A7 := Aside0.mk A70
   clear A70
   have H' := Aside0.mk H
   clear H
   go_wp2_with (first | ((with_reducible refine gate_callee (f := 107) rfl ?_); refine goesL_ (some 11) rfl rfl Try.func107 (by kernel_rfl) rfl #[.int .i64 a0, .int .i64 a1] rfl (by (try simp only [List.map_toArray, List.map_cons, List.map_nil]); first | done | rfl | (simp only [List.length_drop, List.length_take]; rfl)) ?_; (with_reducible refine (spec_l8Ok.calls a0 a1 true _ A5.out).mono ?_); rintro e w' ⟨rfl, ⟨nd, rfl⟩⟩; refine ⟨_, rfl, ?_⟩) | (go_at_call 45; (with_reducible refine (spec_TermOk.calls k a0 _ _ l2 t927 _ ?side1 ?side2 A7.out).mono ?_); (case side1 => repeat (first | exact (Kd.C_below HR2.out (by repeat (first | (with_reducible first | exact HB.out | apply below_alloc | apply pw_below_drewN | apply below_drew1) | exact HB.out))) | (with_reducible refine Kd.C_alloc ?_ _) | (with_reducible refine Kd.C_drewN ?_ _) | (with_reducible refine Kd.C_drew ?_))); (case side2 => exact HC2.out); rintro e w' ⟨rfl, ⟨nd, rfl⟩⟩))
   go_meet
   case rel => exact ⟨_, (!t927), (by first | rfl | (simp; done) | (simp [*]; done)), H', ⟨by first | omega | exact Nat.le_refl _⟩, ⟨by repeat (first | (with_reducible first | exact HB.out | apply below_alloc | apply pw_below_drewN | apply below_drew1) | exact HB.out)⟩⟩
  ·replace c6 := Bool.eq_false_iff.mpr c6
   subst c6
   have H1 : (spec_StrangeTerm.j0 k a0 a1 l2 true) = some (r1, r2) := by rw [if_neg (show ¬ (false = true) by decide)] at H; exact H
   clear H
   have H := H1
   clear H1
   have H' := Aside0.mk H
   clear H
   go_wp2_with (first | ((with_reducible refine gate_callee (f := 107) rfl ?_); refine goesL_ (some 11) rfl rfl Try.func107 (by kernel_rfl) rfl #[.int .i64 a0, .int .i64 a1] rfl (by (try simp only [List.map_toArray, List.map_cons, List.map_nil]); first | done | rfl | (simp only [List.length_drop, List.length_take]; rfl)) ?_; (with_reducible refine (spec_l8Ok.calls a0 a1 false _ A5.out).mono ?_); rintro e w' ⟨rfl, ⟨nd, rfl⟩⟩; refine ⟨_, rfl, ?_⟩))
   go_meet
   case rel => exact ⟨_, (true), (by first | rfl | (simp; done) | (simp [*]; done)), H', ⟨by first | omega | exact Nat.le_refl _⟩, ⟨by repeat (first | (with_reducible first | exact HB.out | apply below_alloc | apply pw_below_drewN | apply below_drew1) | exact HB.out)⟩⟩
 case rest =>
  clear HC4
  try clear c1
  try clear c2
  try clear p2
  try clear c6
  obtain ⟨kq, x18_3, rfl, HA, HJ3, HB⟩ := hcut
  cases kq with
  | zero => exact absurd HA.out (by simp [spec_StrangeTerm.j0])
  | succ kj3 =>
   have H := HA.out
   clear HA
   simp only [spec_StrangeTerm.j0] at H
   by_cases c8 : x18_3 = true
   ·subst c8
    have H1 : (some ((([] : List (S52))), false)) = some (r1, r2) := by rw [if_pos rfl] at H; exact H
    clear H
    have H := H1
    clear H1
    obtain ⟨y928, hy928⟩ : ∃ y_ : List (S52), y_ = (([] : List (S52))) := ⟨_, rfl⟩
    replace H : (some (y928, false)) = some (r1, r2) := by first | (rw [hy928]; with_reducible exact H) | (have H2_ := (Option.bind_some _ _).symm.trans H; rw [hy928]; with_reducible exact H2_) | (have H2_ := (Option.bind_some _ _).symm.trans H; with_reducible exact H2_) | with_reducible exact H | (rw [hy928]; exact H) | exact H
    have Ny928 := Aside0.mk hy928
    clear hy928
    simp only [Option.some.injEq, Prod.mk.injEq] at H
    obtain ⟨rfl, rfl⟩ := H
    go_wp2_with (first | ((with_reducible refine gate_dst (N := 19) rfl ?_); refine Kd.R_lit k52 _ 52 ?hg (N := 19) ?hd (xs := ([] : List (S52))) (inner := []) (ok := fun _ => True) (okp := fun _ => True) ?hr ?hp (fun _ hk => hk) trivial (Below.refl _ _) (Nat.le_refl _) (by simp) ?_; (case hd => rfl); (case hg => rfl); (case hr => first | (go_simp; done) | (go_simp; rfl)); (case hp => exact (Reps.none _ _)); intro v929 w9 ho10 hb hg_ hnew_; clear hg_ hnew_; (first | rw [← Ny928.out] at ho10 | (simp only [Int.reduceToNat] at ho10; rw [← Ny928.out] at ho10)); have n0_ := Aside0.mk (Kd.R_lower ho10 (below_size (by repeat (first | (with_reducible first | exact HB.out | apply below_alloc | apply pw_below_drewN | apply below_drew1) | exact HB.out)))); have n1_ := Aside0.mk (below_step (by repeat (first | (with_reducible first | exact HB.out | apply below_alloc | apply pw_below_drewN | apply below_drew1) | exact HB.out)) hb); clear HB; have HO930 := n0_; have HB := n1_; clear n0_ n1_; clear hb ho10))
    go_ret2
    exact ⟨_, by first | rfl | (simp [errW_none, errW_some] <;> rfl) | (simp [*, errW_none, errW_some] <;> rfl), by (with_reducible repeat (first | apply Kd.R_alloc | apply Kd.R_drewN | apply Kd.R_drew)); exact HO930.out, by repeat (first | (with_reducible first | exact HB.out | apply below_alloc | apply pw_below_drewN | apply below_drew1) | exact HB.out)⟩
   ·replace c8 := Bool.eq_false_iff.mpr c8
    subst c8
    have H1 : ((some (([(⟨0, a1⟩ : S52), (⟨0, wrap64 (a0 - 1)⟩ : S52)] : List (S52)) : List (S52))).bind fun y931 => (if y931.length + l2.length < 8796093022208 then ((some (y931 ++ l2 : List (S52))).bind fun y934 => ((some (([(⟨5, 0⟩ : S52), (⟨5, 0⟩ : S52)] : List (S52)) : List (S52))).bind fun y937 => (if y934.length + y937.length < 8796093022208 then ((some (y934 ++ y937 : List (S52))).bind fun y940 => ((spec_TermOk.f kj3 a0 y940).bind fun t943 => (if t943 = true then (some (y940, true)) else (some ((([] : List (S52))), false))))) else (none)))) else (none))) = some (r1, r2) := by rw [if_neg (show ¬ (false = true) by decide)] at H; exact H
    clear H
    have H := H1
    clear H1
    obtain ⟨y931, hy931⟩ : ∃ y_ : List (S52), y_ = (([(⟨0, a1⟩ : S52), (⟨0, wrap64 (a0 - 1)⟩ : S52)] : List (S52))) := ⟨_, rfl⟩
    replace H : (if y931.length + l2.length < 8796093022208 then ((some (y931 ++ l2 : List (S52))).bind fun y934 => ((some (([(⟨5, 0⟩ : S52), (⟨5, 0⟩ : S52)] : List (S52)) : List (S52))).bind fun y937 => (if y934.length + y937.length < 8796093022208 then ((some (y934 ++ y937 : List (S52))).bind fun y940 => ((spec_TermOk.f kj3 a0 y940).bind fun t943 => (if t943 = true then (some (y940, true)) else (some ((([] : List (S52))), false))))) else (none)))) else (none)) = some (r1, r2) := by first | (rw [hy931]; with_reducible exact H) | (have H2_ := (Option.bind_some _ _).symm.trans H; rw [hy931]; with_reducible exact H2_) | (have H2_ := (Option.bind_some _ _).symm.trans H; with_reducible exact H2_) | with_reducible exact H | (rw [hy931]; exact H) | exact H
    have Ny931 := Aside0.mk hy931
    clear hy931
    by_cases c11 : y931.length + l2.length < 8796093022208
    ·rw [if_pos c11] at H
     have LMc11 := Aside0.mk c11
     clear c11
     obtain ⟨y934, hy934⟩ : ∃ y_ : List (S52), y_ = (y931 ++ l2) := ⟨_, rfl⟩
     replace H : ((some (([(⟨5, 0⟩ : S52), (⟨5, 0⟩ : S52)] : List (S52)) : List (S52))).bind fun y937 => (if y934.length + y937.length < 8796093022208 then ((some (y934 ++ y937 : List (S52))).bind fun y940 => ((spec_TermOk.f kj3 a0 y940).bind fun t943 => (if t943 = true then (some (y940, true)) else (some ((([] : List (S52))), false))))) else (none))) = some (r1, r2) := by first | (rw [hy934]; with_reducible exact H) | (have H2_ := (Option.bind_some _ _).symm.trans H; rw [hy934]; with_reducible exact H2_) | (have H2_ := (Option.bind_some _ _).symm.trans H; with_reducible exact H2_) | with_reducible exact H | (rw [hy934]; exact H) | exact H
     have Ny934 := Aside0.mk hy934
     clear hy934
     obtain ⟨y937, hy937⟩ : ∃ y_ : List (S52), y_ = (([(⟨5, 0⟩ : S52), (⟨5, 0⟩ : S52)] : List (S52))) := ⟨_, rfl⟩
     replace H : (if y934.length + y937.length < 8796093022208 then ((some (y934 ++ y937 : List (S52))).bind fun y940 => ((spec_TermOk.f kj3 a0 y940).bind fun t943 => (if t943 = true then (some (y940, true)) else (some ((([] : List (S52))), false))))) else (none)) = some (r1, r2) := by first | (rw [hy937]; with_reducible exact H) | (have H2_ := (Option.bind_some _ _).symm.trans H; rw [hy937]; with_reducible exact H2_) | (have H2_ := (Option.bind_some _ _).symm.trans H; with_reducible exact H2_) | with_reducible exact H | (rw [hy937]; exact H) | exact H
     have Ny937 := Aside0.mk hy937
     clear hy937
     by_cases c12 : y934.length + y937.length < 8796093022208
     ·rw [if_pos c12] at H
      have LMc12 := Aside0.mk c12
      clear c12
      obtain ⟨y940, hy940⟩ : ∃ y_ : List (S52), y_ = (y934 ++ y937) := ⟨_, rfl⟩
      replace H : ((spec_TermOk.f kj3 a0 y940).bind fun t943 => (if t943 = true then (some (y940, true)) else (some ((([] : List (S52))), false)))) = some (r1, r2) := by first | (rw [hy940]; with_reducible exact H) | (have H2_ := (Option.bind_some _ _).symm.trans H; rw [hy940]; with_reducible exact H2_) | (have H2_ := (Option.bind_some _ _).symm.trans H; with_reducible exact H2_) | with_reducible exact H | (rw [hy940]; exact H) | exact H
      have Ny940 := Aside0.mk hy940
      clear hy940
      replace H := Option.bind_eq_some_iff.mp H
      obtain ⟨t943, A130, H⟩ := H
      replace H : (if t943 = true then (some (y940, true)) else (some ((([] : List (S52))), false))) = some (r1, r2) := H
      have A13 := Aside0.mk A130
      clear A130
      by_cases c14 : t943 = true
      ·subst c14
       have H1 : (some (y940, true)) = some (r1, r2) := by rw [if_pos rfl] at H; exact H
       clear H
       have H := H1
       clear H1
       simp only [Option.some.injEq, Prod.mk.injEq] at H
       obtain ⟨rfl, rfl⟩ := H
       go_wp2_with (first | ((with_reducible refine gate_dst (N := 25) rfl ?_); refine Kd.R_lit k52 _ 52 ?hg (N := 25) ?hd (xs := ([(⟨0, a1⟩ : S52), (⟨0, wrap64 (a0 - 1)⟩ : S52)] : List (S52))) (inner := [.int .i64 0, .int .i64 a1, .int .i64 0, .int .i64 (wrap64 (a0 - 1))]) (ok := fun _ => True) (okp := fun _ => True) ?hr ?hp (fun _ hk => hk) trivial (Below.refl _ _) (Nat.le_refl _) (by simp) ?_; (case hd => rfl); (case hg => rfl); (case hr => first | (go_simp; done) | (go_simp; rfl)); (case hp => exact (Reps.c2 (show Kd.M k52 _ _ _ (⟨0, a1⟩ : S52) [.int .i64 0, .int .i64 a1] from (k52_mkM _ _ _ (⟨0, a1⟩ : S52) )) (Reps.c2 (show Kd.M k52 _ _ _ (⟨0, wrap64 (a0 - 1)⟩ : S52) [.int .i64 0, .int .i64 (wrap64 (a0 - 1))] from (k52_mkM _ _ _ (⟨0, wrap64 (a0 - 1)⟩ : S52) )) (Reps.none _ _)))); intro v932 w15 ho16 hb hg_ hnew_; clear hg_ hnew_; (first | rw [← Ny931.out] at ho16 | (simp only [Int.reduceToNat] at ho16; rw [← Ny931.out] at ho16)); have n0_ := Aside0.mk (Kd.R_lower ho16 (below_size (by repeat (first | (with_reducible first | exact HB.out | apply below_alloc | apply pw_below_drewN | apply below_drew1) | exact HB.out)))); have n1_ := Aside0.mk (below_step (by repeat (first | (with_reducible first | exact HB.out | apply below_alloc | apply pw_below_drewN | apply below_drew1) | exact HB.out)) hb); clear HB; have HO933 := n0_; have HB := n1_; clear n0_ n1_; clear hb ho16) | ((with_reducible refine gate_builtin (b := .append) (xs := #[.tmp 25, .tmp 26]) rfl ?_); at_builtin; refine Kd.R_append_rows k52 (w0 := w) w.heap.size rfl (.tmp 25) (.tmp 26) 34 52 (.agg #[(.int .i64 0), (.int .i64 0)]) 16 rfl Try.underlying34 info52 rfl (by decide) (by omega) v932 y931 l2 _ _ _ (fun _ => True) (fun _ => False) rfl rfl ?aO ?aR (fun _ _ h => h) (fun _ h => h.elim) ?aF ?aB ?aS ?aL ?_; (case aR => repeat (first | exact (Kd.C_below HR2.out HB.out) | (with_reducible refine Kd.C_alloc ?_ _) | (with_reducible refine Kd.C_drewN ?_ _) | (with_reducible refine Kd.C_drew ?_))); (case aB => exact (by repeat (first | (with_reducible first | exact HB.out | apply below_alloc | apply pw_below_drewN | apply below_drew1) | exact HB.out))); (case aF => exact (fun _ _ => trivial)); (case aO => exact (by (with_reducible repeat (first | apply Kd.R_alloc | apply Kd.R_drewN | apply Kd.R_drew)); exact HO933.out)); (case aS => exact (below_size (by repeat (first | (with_reducible first | exact HB.out | apply below_alloc | apply pw_below_drewN | apply below_drew1) | exact HB.out)))); (case aL => have := LMc11.out; omega); intro v935 w17 ho hb hg hat; rw [← Ny934.out] at ho; have n0_ := Aside0.mk (hb); have n1_ := Aside0.mk (ho); clear HB; clear HO933; have HB := n0_; have HO936 := n1_; clear n0_ n1_; clear ho hb hg hat) | ((with_reducible refine gate_dst (N := 31) rfl ?_); refine Kd.R_lit k52 _ 52 ?hg (N := 31) ?hd (xs := ([(⟨5, 0⟩ : S52), (⟨5, 0⟩ : S52)] : List (S52))) (inner := [.int .i64 5, .int .i64 0, .int .i64 5, .int .i64 0]) (ok := fun _ => True) (okp := fun _ => True) ?hr ?hp (fun _ hk => hk) trivial (Below.refl _ _) (Nat.le_refl _) (by simp) ?_; (case hd => rfl); (case hg => rfl); (case hr => first | (go_simp; done) | (go_simp; rfl)); (case hp => exact (Reps.c2 (show Kd.M k52 _ _ _ (⟨5, 0⟩ : S52) [.int .i64 5, .int .i64 0] from (k52_mkM _ _ _ (⟨5, 0⟩ : S52) )) (Reps.c2 (show Kd.M k52 _ _ _ (⟨5, 0⟩ : S52) [.int .i64 5, .int .i64 0] from (k52_mkM _ _ _ (⟨5, 0⟩ : S52) )) (Reps.none _ _)))); intro v938 w18 ho19 hb hg_ hnew_; clear hg_ hnew_; (first | rw [← Ny937.out] at ho19 | (simp only [Int.reduceToNat] at ho19; rw [← Ny937.out] at ho19)); have n0_ := Aside0.mk (Kd.R_elder' (by (with_reducible repeat (first | apply Kd.R_alloc | apply Kd.R_drewN | apply Kd.R_drew)); exact HO936.out) (Kd.R_base ho19) hb); have n1_ := Aside0.mk (Kd.R_lower (Kd.R_new' ho19 (Kd.R_lt (by (with_reducible repeat (first | apply Kd.R_alloc | apply Kd.R_drewN | apply Kd.R_drew)); exact HO936.out))) (below_size (by repeat (first | (with_reducible first | exact HB.out | apply below_alloc | apply pw_below_drewN | apply below_drew1) | exact HB.out)))); have n2_ := Aside0.mk (below_step (by repeat (first | (with_reducible first | exact HB.out | apply below_alloc | apply pw_below_drewN | apply below_drew1) | exact HB.out)) hb); clear HO936; clear HB; have HO936 := n0_; have HO939 := n1_; have HB := n2_; clear n0_ n1_ n2_; clear hb ho19; obtain ⟨Ao21, co21, eo21⟩ := Kd.R_slice HO939.out; subst eo21) | ((with_reducible refine gate_builtin (b := .append) (xs := #[.tmp 28, .tmp 31]) rfl ?_); at_builtin; refine Kd.R_append_rows k52 (w0 := w) w.heap.size rfl (.tmp 28) (.tmp 31) 34 52 (.agg #[(.int .i64 0), (.int .i64 0)]) 16 rfl Try.underlying34 info52 rfl (by decide) (by omega) v935 y934 y937 _ _ _ (fun k_ => some k_ ≠ (.slice Ao21 y937.length co21 : Value).ownBlock) (fun _ => False) rfl rfl ?aO ?aR (fun _ _ h => h) (fun _ h => h.elim) ?aF ?aB ?aS ?aL ?_; (case aR => repeat (first | exact (Kd.R_reads' HO939.out).2.2 | (with_reducible refine Kd.C_alloc ?_ _) | (with_reducible refine Kd.C_drewN ?_ _) | (with_reducible refine Kd.C_drew ?_))); (case aB => exact (by repeat (first | (with_reducible first | exact HB.out | apply below_alloc | apply pw_below_drewN | apply below_drew1) | exact HB.out))); (case aF => exact (fun k_ hk => Kd.fresh' (Kd.R_lt (by (with_reducible repeat (first | apply Kd.R_alloc | apply Kd.R_drewN | apply Kd.R_drew)); exact HO939.out)) k_ hk)); (case aO => exact (by (with_reducible repeat (first | apply Kd.R_alloc | apply Kd.R_drewN | apply Kd.R_drew)); exact Kd.R_mono HO936.out (fun _ hk => hk.2))); (case aS => exact (below_size (by repeat (first | (with_reducible first | exact HB.out | apply below_alloc | apply pw_below_drewN | apply below_drew1) | exact HB.out)))); (case aL => have := LMc12.out; omega); intro v941 w20 ho hb hg hat; rw [← Ny940.out] at ho; have n0_ := Aside0.mk (Kd.R_after (ok := (fun _ => True)) (by (with_reducible repeat (first | apply Kd.R_alloc | apply Kd.R_drewN | apply Kd.R_drew)); exact HO939.out) hg hat); have n1_ := Aside0.mk (hb); have n2_ := Aside0.mk (ho); clear HO939; clear HB; clear HO936; have HO939 := n0_; have HB := n1_; have HO942 := n2_; clear n0_ n1_ n2_; clear ho hb hg hat; obtain ⟨Ao22, co22, eo22⟩ := Kd.R_slice HO942.out; subst eo22) | ((with_reducible refine gate_callee (f := 45) rfl ?_); refine goesL_ (some 35) rfl rfl Try.func45 (by kernel_rfl) rfl #[.int .i64 a0, .slice Ao22 y940.length co22] rfl (by (try simp only [List.map_toArray, List.map_cons, List.map_nil]); first | done | rfl | (simp only [List.length_drop, List.length_take]; rfl)) ?_; (with_reducible refine (spec_TermOk.calls kj3 a0 _ _ y940 true _ ?side1 ?side2 A13.out).mono ?_); (case side1 => repeat (first | exact (Kd.R_reads' HO942.out).2.2 | (with_reducible refine Kd.C_alloc ?_ _) | (with_reducible refine Kd.C_drewN ?_ _) | (with_reducible refine Kd.C_drew ?_))); (case side2 => exact (Kd.R_reads' HO942.out).2.1); rintro e w' ⟨rfl, ⟨nd, rfl⟩⟩; refine ⟨_, rfl, ?_⟩))
       go_ret2
       exact ⟨_, by first | rfl | (simp [errW_none, errW_some] <;> rfl) | (simp [*, errW_none, errW_some] <;> rfl), by (with_reducible repeat (first | apply Kd.R_alloc | apply Kd.R_drewN | apply Kd.R_drew)); exact Kd.R_mono HO942.out (fun _ hk => trivial), by repeat (first | (with_reducible first | exact HB.out | apply below_alloc | apply pw_below_drewN | apply below_drew1) | exact HB.out)⟩
      ·replace c14 := Bool.eq_false_iff.mpr c14
       subst c14
       have H1 : (some ((([] : List (S52))), false)) = some (r1, r2) := by rw [if_neg (show ¬ (false = true) by decide)] at H; exact H
       clear H
       have H := H1
       clear H1
       obtain ⟨y944, hy944⟩ : ∃ y_ : List (S52), y_ = (([] : List (S52))) := ⟨_, rfl⟩
       replace H : (some (y944, false)) = some (r1, r2) := by first | (rw [hy944]; with_reducible exact H) | (have H2_ := (Option.bind_some _ _).symm.trans H; rw [hy944]; with_reducible exact H2_) | (have H2_ := (Option.bind_some _ _).symm.trans H; with_reducible exact H2_) | with_reducible exact H | (rw [hy944]; exact H) | exact H
       have Ny944 := Aside0.mk hy944
       clear hy944
       simp only [Option.some.injEq, Prod.mk.injEq] at H
       obtain ⟨rfl, rfl⟩ := H
       go_wp2_with (first | ((with_reducible refine gate_dst (N := 25) rfl ?_); refine Kd.R_lit k52 _ 52 ?hg (N := 25) ?hd (xs := ([(⟨0, a1⟩ : S52), (⟨0, wrap64 (a0 - 1)⟩ : S52)] : List (S52))) (inner := [.int .i64 0, .int .i64 a1, .int .i64 0, .int .i64 (wrap64 (a0 - 1))]) (ok := fun _ => True) (okp := fun _ => True) ?hr ?hp (fun _ hk => hk) trivial (Below.refl _ _) (Nat.le_refl _) (by simp) ?_; (case hd => rfl); (case hg => rfl); (case hr => first | (go_simp; done) | (go_simp; rfl)); (case hp => exact (Reps.c2 (show Kd.M k52 _ _ _ (⟨0, a1⟩ : S52) [.int .i64 0, .int .i64 a1] from (k52_mkM _ _ _ (⟨0, a1⟩ : S52) )) (Reps.c2 (show Kd.M k52 _ _ _ (⟨0, wrap64 (a0 - 1)⟩ : S52) [.int .i64 0, .int .i64 (wrap64 (a0 - 1))] from (k52_mkM _ _ _ (⟨0, wrap64 (a0 - 1)⟩ : S52) )) (Reps.none _ _)))); intro v932 w23 ho24 hb hg_ hnew_; clear hg_ hnew_; (first | rw [← Ny931.out] at ho24 | (simp only [Int.reduceToNat] at ho24; rw [← Ny931.out] at ho24)); have n0_ := Aside0.mk (Kd.R_lower ho24 (below_size (by repeat (first | (with_reducible first | exact HB.out | apply below_alloc | apply pw_below_drewN | apply below_drew1) | exact HB.out)))); have n1_ := Aside0.mk (below_step (by repeat (first | (with_reducible first | exact HB.out | apply below_alloc | apply pw_below_drewN | apply below_drew1) | exact HB.out)) hb); clear HB; have HO933 := n0_; have HB := n1_; clear n0_ n1_; clear hb ho24) | ((with_reducible refine gate_builtin (b := .append) (xs := #[.tmp 25, .tmp 26]) rfl ?_); at_builtin; refine Kd.R_append_rows k52 (w0 := w) w.heap.size rfl (.tmp 25) (.tmp 26) 34 52 (.agg #[(.int .i64 0), (.int .i64 0)]) 16 rfl Try.underlying34 info52 rfl (by decide) (by omega) v932 y931 l2 _ _ _ (fun _ => True) (fun _ => False) rfl rfl ?aO ?aR (fun _ _ h => h) (fun _ h => h.elim) ?aF ?aB ?aS ?aL ?_; (case aR => repeat (first | exact (Kd.C_below HR2.out HB.out) | (with_reducible refine Kd.C_alloc ?_ _) | (with_reducible refine Kd.C_drewN ?_ _) | (with_reducible refine Kd.C_drew ?_))); (case aB => exact (by repeat (first | (with_reducible first | exact HB.out | apply below_alloc | apply pw_below_drewN | apply below_drew1) | exact HB.out))); (case aF => exact (fun _ _ => trivial)); (case aO => exact (by (with_reducible repeat (first | apply Kd.R_alloc | apply Kd.R_drewN | apply Kd.R_drew)); exact HO933.out)); (case aS => exact (below_size (by repeat (first | (with_reducible first | exact HB.out | apply below_alloc | apply pw_below_drewN | apply below_drew1) | exact HB.out)))); (case aL => have := LMc11.out; omega); intro v935 w25 ho hb hg hat; rw [← Ny934.out] at ho; have n0_ := Aside0.mk (hb); have n1_ := Aside0.mk (ho); clear HB; clear HO933; have HB := n0_; have HO936 := n1_; clear n0_ n1_; clear ho hb hg hat) | ((with_reducible refine gate_dst (N := 31) rfl ?_); refine Kd.R_lit k52 _ 52 ?hg (N := 31) ?hd (xs := ([(⟨5, 0⟩ : S52), (⟨5, 0⟩ : S52)] : List (S52))) (inner := [.int .i64 5, .int .i64 0, .int .i64 5, .int .i64 0]) (ok := fun _ => True) (okp := fun _ => True) ?hr ?hp (fun _ hk => hk) trivial (Below.refl _ _) (Nat.le_refl _) (by simp) ?_; (case hd => rfl); (case hg => rfl); (case hr => first | (go_simp; done) | (go_simp; rfl)); (case hp => exact (Reps.c2 (show Kd.M k52 _ _ _ (⟨5, 0⟩ : S52) [.int .i64 5, .int .i64 0] from (k52_mkM _ _ _ (⟨5, 0⟩ : S52) )) (Reps.c2 (show Kd.M k52 _ _ _ (⟨5, 0⟩ : S52) [.int .i64 5, .int .i64 0] from (k52_mkM _ _ _ (⟨5, 0⟩ : S52) )) (Reps.none _ _)))); intro v938 w26 ho27 hb hg_ hnew_; clear hg_ hnew_; (first | rw [← Ny937.out] at ho27 | (simp only [Int.reduceToNat] at ho27; rw [← Ny937.out] at ho27)); have n0_ := Aside0.mk (Kd.R_elder' (by (with_reducible repeat (first | apply Kd.R_alloc | apply Kd.R_drewN | apply Kd.R_drew)); exact HO936.out) (Kd.R_base ho27) hb); have n1_ := Aside0.mk (Kd.R_lower (Kd.R_new' ho27 (Kd.R_lt (by (with_reducible repeat (first | apply Kd.R_alloc | apply Kd.R_drewN | apply Kd.R_drew)); exact HO936.out))) (below_size (by repeat (first | (with_reducible first | exact HB.out | apply below_alloc | apply pw_below_drewN | apply below_drew1) | exact HB.out)))); have n2_ := Aside0.mk (below_step (by repeat (first | (with_reducible first | exact HB.out | apply below_alloc | apply pw_below_drewN | apply below_drew1) | exact HB.out)) hb); clear HO936; clear HB; have HO936 := n0_; have HO939 := n1_; have HB := n2_; clear n0_ n1_ n2_; clear hb ho27; obtain ⟨Ao29, co29, eo29⟩ := Kd.R_slice HO939.out; subst eo29) | ((with_reducible refine gate_builtin (b := .append) (xs := #[.tmp 28, .tmp 31]) rfl ?_); at_builtin; refine Kd.R_append_rows k52 (w0 := w) w.heap.size rfl (.tmp 28) (.tmp 31) 34 52 (.agg #[(.int .i64 0), (.int .i64 0)]) 16 rfl Try.underlying34 info52 rfl (by decide) (by omega) v935 y934 y937 _ _ _ (fun k_ => some k_ ≠ (.slice Ao29 y937.length co29 : Value).ownBlock) (fun _ => False) rfl rfl ?aO ?aR (fun _ _ h => h) (fun _ h => h.elim) ?aF ?aB ?aS ?aL ?_; (case aR => repeat (first | exact (Kd.R_reads' HO939.out).2.2 | (with_reducible refine Kd.C_alloc ?_ _) | (with_reducible refine Kd.C_drewN ?_ _) | (with_reducible refine Kd.C_drew ?_))); (case aB => exact (by repeat (first | (with_reducible first | exact HB.out | apply below_alloc | apply pw_below_drewN | apply below_drew1) | exact HB.out))); (case aF => exact (fun k_ hk => Kd.fresh' (Kd.R_lt (by (with_reducible repeat (first | apply Kd.R_alloc | apply Kd.R_drewN | apply Kd.R_drew)); exact HO939.out)) k_ hk)); (case aO => exact (by (with_reducible repeat (first | apply Kd.R_alloc | apply Kd.R_drewN | apply Kd.R_drew)); exact Kd.R_mono HO936.out (fun _ hk => hk.2))); (case aS => exact (below_size (by repeat (first | (with_reducible first | exact HB.out | apply below_alloc | apply pw_below_drewN | apply below_drew1) | exact HB.out)))); (case aL => have := LMc12.out; omega); intro v941 w28 ho hb hg hat; rw [← Ny940.out] at ho; have n0_ := Aside0.mk (Kd.R_after (ok := (fun _ => True)) (by (with_reducible repeat (first | apply Kd.R_alloc | apply Kd.R_drewN | apply Kd.R_drew)); exact HO939.out) hg hat); have n1_ := Aside0.mk (hb); have n2_ := Aside0.mk (ho); clear HO939; clear HB; clear HO936; have HO939 := n0_; have HB := n1_; have HO942 := n2_; clear n0_ n1_ n2_; clear ho hb hg hat; obtain ⟨Ao30, co30, eo30⟩ := Kd.R_slice HO942.out; subst eo30) | ((with_reducible refine gate_callee (f := 45) rfl ?_); refine goesL_ (some 35) rfl rfl Try.func45 (by kernel_rfl) rfl #[.int .i64 a0, .slice Ao30 y940.length co30] rfl (by (try simp only [List.map_toArray, List.map_cons, List.map_nil]); first | done | rfl | (simp only [List.length_drop, List.length_take]; rfl)) ?_; (with_reducible refine (spec_TermOk.calls kj3 a0 _ _ y940 false _ ?side1 ?side2 A13.out).mono ?_); (case side1 => repeat (first | exact (Kd.R_reads' HO942.out).2.2 | (with_reducible refine Kd.C_alloc ?_ _) | (with_reducible refine Kd.C_drewN ?_ _) | (with_reducible refine Kd.C_drew ?_))); (case side2 => exact (Kd.R_reads' HO942.out).2.1); rintro e w' ⟨rfl, ⟨nd, rfl⟩⟩; refine ⟨_, rfl, ?_⟩) | ((with_reducible refine gate_dst (N := 37) rfl ?_); refine Kd.R_lit k52 _ 52 ?hg (N := 37) ?hd (xs := ([] : List (S52))) (inner := []) (ok := fun _ => True) (okp := fun _ => True) ?hr ?hp (fun _ hk => hk) trivial (Below.refl _ _) (Nat.le_refl _) (by simp) ?_; (case hd => rfl); (case hg => rfl); (case hr => first | (go_simp; done) | (go_simp; rfl)); (case hp => exact (Reps.none _ _)); intro v945 w31 ho32 hb hg_ hnew_; clear hg_ hnew_; (first | rw [← Ny944.out] at ho32 | (simp only [Int.reduceToNat] at ho32; rw [← Ny944.out] at ho32)); have n0_ := Aside0.mk (Kd.R_elder' (by (with_reducible repeat (first | apply Kd.R_alloc | apply Kd.R_drewN | apply Kd.R_drew)); exact HO939.out) (Kd.R_base ho32) hb); have n1_ := Aside0.mk (Kd.R_elder' (by (with_reducible repeat (first | apply Kd.R_alloc | apply Kd.R_drewN | apply Kd.R_drew)); exact HO942.out) (Kd.R_base ho32) hb); have n2_ := Aside0.mk (Kd.R_lower (Kd.R_new' (Kd.R_new' ho32 (Kd.R_lt (by (with_reducible repeat (first | apply Kd.R_alloc | apply Kd.R_drewN | apply Kd.R_drew)); exact HO939.out))) (Kd.R_lt (by (with_reducible repeat (first | apply Kd.R_alloc | apply Kd.R_drewN | apply Kd.R_drew)); exact HO942.out))) (below_size (by repeat (first | (with_reducible first | exact HB.out | apply below_alloc | apply pw_below_drewN | apply below_drew1) | exact HB.out)))); have n3_ := Aside0.mk (below_step (by repeat (first | (with_reducible first | exact HB.out | apply below_alloc | apply pw_below_drewN | apply below_drew1) | exact HB.out)) hb); clear HO939; clear HO942; clear HB; have HO939 := n0_; have HO942 := n1_; have HO946 := n2_; have HB := n3_; clear n0_ n1_ n2_ n3_; clear hb ho32))
       go_ret2
       exact ⟨_, by first | rfl | (simp [errW_none, errW_some] <;> rfl) | (simp [*, errW_none, errW_some] <;> rfl), by (with_reducible repeat (first | apply Kd.R_alloc | apply Kd.R_drewN | apply Kd.R_drew)); exact Kd.R_mono HO946.out (fun _ hk => trivial), by repeat (first | (with_reducible first | exact HB.out | apply below_alloc | apply pw_below_drewN | apply below_drew1) | exact HB.out)⟩
     ·rw [if_neg c12] at H
      exact absurd H (by simp)
    ·rw [if_neg c11] at H
     exact absurd H (by simp)

end Go.Proofs.Ytpampekijfjlkaa.X

/- Plain law of the question in a strange language: both functions come to the same row. -/
namespace Go.Proofs.Ytpampekijfjlkaa.L
open Go.RowKit Go.Proofs.Ytpampekijfjlkaa.X Go.Proofs.YtpampekijfjlkaaW.PrintWords Go.Proofs.YtpampekijfjlkaaW.PrintLast Go.Proofs.YtpampekijfjlkaaW.PrintMore

def strange (p i : Int) (t : List M) : List M × Bool :=
 if 2 ≤ p ∧ tok p t = true ∧ 0 ≤ i ∧ i < p - 1 ∧ tok p (wrapM i (wrapM (p - 1) t)) = true then (wrapM i (wrapM (p - 1) t), true) else ([], false)
theorem impl_Strange_ev {p i : Int} {t : List M} (hp : -9223372036854775808 ≤ p ∧ p ≤ 9223372036854775807) (ht : t.length ≤ 1048576) : Ev (fun k => impl_StrangeTerm.f k p i t) (strange p i t) := by
 unfold impl_StrangeTerm.f
 have no : ∀ r : List M × Bool, r = ([], false) → Ev (fun k => impl_StrangeTerm.j0 k p i t true) r := by
  intro r hr
  refine Ev.step (fun k => by simp only [impl_StrangeTerm.j0]; rfl) ?_
  refine Ev.yes (by simp) ?_
  rw [hr]; exact Ev.some _
 by_cases h2 : p < 2
 ·exact Ev.yes h2 (no _ (if_neg (by omega)))
 refine Ev.no h2 (Ev.bind (impl_TermOk_ev p t) ?_)
 by_cases hk : tok p t = true
 ·refine Ev.yes hk ?_
  by_cases h0 : i < 0
  ·exact Ev.yes h0 (no _ (if_neg (by omega)))
  refine Ev.no h0 ?_
  obtain ⟨hp1, hp4, _⟩ := tok_iff.1 hk
  rw [w64 (by omega) (by omega)]
  by_cases h1 : i ≥ p - 1
  ·rw [decide_eq_true h1]
   exact no _ (if_neg (by omega))
  rw [decide_eq_false h1]
  refine Ev.step (fun k => by simp only [impl_StrangeTerm.j0]; rfl) ?_
  refine Ev.no (by simp) ?_
  rw [w64 (by omega) (by omega), trick_eq _ _ (by omega)]
  simp only [Option.bind_some]
  rw [trick_eq _ _ (by rw [wrapM_length]; omega)]
  simp only [Option.bind_some]
  refine Ev.bind (impl_TermOk_ev p _) ?_
  by_cases hz : tok p (wrapM i (wrapM (p - 1) t)) = true
  ·exact Ev.yes hz (Ev.cast (Ev.some _) (if_pos ⟨by omega, hk, by omega, by omega, hz⟩).symm)
  ·exact Ev.no hz (Ev.cast (Ev.some _) (if_neg (fun h => hz h.2.2.2.2)).symm)
 ·exact Ev.no hk (no _ (if_neg (fun h => hk h.2.1)))
theorem spec_Strange_ev {p i : Int} {t : List M} (hp : -9223372036854775808 ≤ p ∧ p ≤ 9223372036854775807) (hi : -9223372036854775808 ≤ i ∧ i ≤ 9223372036854775807) (ht : t.length ≤ 1048576) (hw : ∀ m ∈ t, m.f1 ≤ 9223372036854775807) :
  Ev (fun k => spec_StrangeTerm.f k p i t) (strange p i t) := by
 unfold spec_StrangeTerm.f spec_l8Ok.f
 have no : ∀ r : List M × Bool, r = ([], false) → Ev (fun k => spec_StrangeTerm.j0 k p i t true) r := by
  intro r hr
  refine Ev.step (fun k => by simp only [spec_StrangeTerm.j0]; rfl) ?_
  refine Ev.yes (by simp) ?_
  rw [hr]; exact Ev.some _
 simp only [l1In_eq, Option.bind_some]
 by_cases h2 : 2 ≤ p ∧ p ≤ 4
 ·rw [w64 (by omega) (by omega), decide_eq_true h2]
  simp only [if_true, Option.bind_some]
  by_cases h3 : 0 ≤ i ∧ i ≤ p - 2
  ·refine Ev.yes (decide_eq_true h3) (Ev.bind (spec_TermOk_ev p t (by omega) hw) ?_)
   by_cases hk : tok p t = true
   ·rw [hk]
    refine Ev.step (fun k => by simp only [spec_StrangeTerm.j0]; rfl) ?_
    refine Ev.no (by simp) ?_
    rw [w64 (by omega) (by omega)]
    simp only [Option.bind_some, List.length_cons, List.length_nil, List.length_append]
    refine Ev.yes (by omega) (Ev.yes (by omega) ?_)
    have e : ([⟨0, i⟩, ⟨0, p - 1⟩] ++ t ++ [⟨5, 0⟩, ⟨5, 0⟩] : List M) = wrapM i (wrapM (p - 1) t) := by simp [wrapM]
    rw [e]
    refine Ev.bind (spec_TermOk_ev p _ (by simp only [wrapM_length]; omega) ?_) ?_
    ·intro m hm
     simp only [wrapM, List.mem_cons, List.mem_append, List.not_mem_nil, or_false] at hm
     rcases hm with rfl | (rfl | hm | rfl) | rfl
     ·exact hi.2
     ·show p - 1 ≤ _; omega
     ·exact hw m hm
     ·decide
     ·decide
    by_cases hz : tok p (wrapM i (wrapM (p - 1) t)) = true
    ·exact Ev.yes hz (Ev.cast (Ev.some _) (if_pos ⟨by omega, hk, by omega, by omega, hz⟩).symm)
    ·exact Ev.no hz (Ev.cast (Ev.some _) (if_neg (fun h => hz h.2.2.2.2)).symm)
   ·rw [Bool.not_eq_true] at hk
    rw [hk]
    exact no _ (if_neg (fun h => by rw [hk] at h; exact absurd h.2.1 (by simp)))
  ·exact Ev.no (by simpa using h3) (no _ (if_neg (by omega)))
 ·rw [decide_eq_false h2]
  refine no _ (if_neg (fun h => ?_))
  have := tok_iff.1 h.2.1
  omega
theorem strange_length {p i : Int} {t : List M} (ht : t.length ≤ 1048576) : (strange p i t).1.length ≤ 1048580 := by
 unfold strange
 split
 ·simp only [wrapM_length]; omega
 ·simp
end Go.Proofs.Ytpampekijfjlkaa.L

/- Plain laws of chains: tricks of tricks; the program's chain. -/
namespace Go.Proofs.Ytpampekijfjlkaa.L
open Go.RowKit Go.Proofs.Ytpampekijfjlkaa.X Go.Proofs.YtpampekijfjlkaaW.PrintWords Go.Proofs.YtpampekijfjlkaaW.PrintLast Go.Proofs.YtpampekijfjlkaaW.PrintMore

/-- A term within the tricks of a list. -/
def wrapAll : List Int → List M → List M
 | [], t => t
 | i :: l, t => wrapM i (wrapAll l t)
theorem wrapAll_length : ∀ (l : List Int) (t : List M), (wrapAll l t).length = t.length + 2 * l.length
 | [], t => by simp [wrapAll]
 | i :: l, t => by rw [wrapAll, wrapM_length, wrapAll_length l t, List.length_cons]; omega
theorem wrapAll_app : ∀ (a b : List Int) (t : List M), wrapAll (a ++ b) t = wrapAll a (wrapAll b t)
 | [], _, _ => rfl
 | i :: a, b, t => by simp only [List.cons_append, wrapAll, wrapAll_app a b t]
theorem wrapAll_form : ∀ (l : List Int) (t : List M), ∃ z : List M, wrapAll l t = l.map (fun i => ⟨0, i⟩) ++ (t ++ z)
 | [], t => ⟨[], by simp [wrapAll]⟩
 | i :: l, t => by
  obtain ⟨z, hz⟩ := wrapAll_form l t
  exact ⟨z ++ [⟨5, 0⟩], by rw [wrapAll, wrapM, hz]; simp⟩
theorem scan_bad {p : Int} : ∀ (l : List Int) (s : List M) (n : Nat), (∃ i ∈ l, ¬ (0 ≤ i ∧ i < p)) → scan p (l.map (fun i => ⟨0, i⟩) ++ s) n = none
 | [], s, n, h => by obtain ⟨i, hi, _⟩ := h; cases hi
 | i :: l, s, n, h => by
  simp only [List.map_cons, List.cons_append, scan, if_true]
  by_cases hi : 0 ≤ i ∧ i < p
  ·rw [if_pos hi]
   refine scan_bad l s _ ?_
   obtain ⟨j, hj, hb⟩ := h
   rcases List.mem_cons.1 hj with rfl | hj
   ·exact absurd hi hb
   ·exact ⟨j, hj, hb⟩
  ·rw [if_neg hi]
theorem tok_bad {p : Int} {l : List Int} {t : List M} (h : ∃ i ∈ l, ¬ (0 ≤ i ∧ i < p)) : tok p (wrapAll l t) ≠ true := by
 intro hk
 obtain ⟨_, _, _, _, hs⟩ := tok_iff.1 hk
 obtain ⟨z, hz⟩ := wrapAll_form l t
 rw [hz, scan_bad l _ 0 h] at hs
 cases hs
theorem tok_long {p : Int} {t : List M} (h : 15 < t.length) : tok p t ≠ true := fun hk => by have := tok_iff.1 hk; omega
/-- What both functions of chains come to. -/
def chainR (p : Int) (l : List Int) (t : List M) : List M × Bool := if tok p t = true ∧ tok p (wrapAll l t) = true then (wrapAll l t, true) else ([], false)
theorem chainR_length {p : Int} {l : List Int} {t : List M} : (chainR p l t).1.length ≤ 15 := by
 unfold chainR
 split
 ·rename_i h; exact (tok_iff.1 h.2).2.2.2.1
 ·simp
theorem rdI_at' (pre : List Int) (x : Int) (suf : List Int) : rd (pre ++ x :: suf) ((pre.length : Nat) : Int) = x := by
 unfold rd
 simp [List.getD]
theorem impl_Chain_l0 {p : Int} {l : List Int} {t : List M} (hl : l.length ≤ 1048576) (hk : tok p t = true) : ∀ (n : Nat) (pre suf : List Int), l = pre ++ suf → pre.length = n →
  (wrapAll suf t).length ≤ 17 → Ev (fun k => impl_ChainTerm.l0 k p l (wrapAll suf t) ((n : Int) - 1)) (chainR p l t) := by
 intro n
 induction n with
 | zero =>
  intro pre suf he hn hb
  have hp : pre = [] := List.length_eq_zero_iff.1 hn
  subst hp
  rw [List.nil_append] at he
  subst he
  refine Ev.step (fun k => by simp only [impl_ChainTerm.l0]; rfl) ?_
  refine Ev.no (by simp) (Ev.bind (impl_TermOk_ev p _) ?_)
  by_cases hz : tok p (wrapAll l t) = true
  ·exact Ev.yes hz (Ev.cast (Ev.some _) (if_pos ⟨hk, hz⟩).symm)
  ·exact Ev.no hz (Ev.cast (Ev.some _) (if_neg (fun h => hz h.2)).symm)
 | succ n ih =>
  intro pre suf he hn hb
  obtain ⟨pre', x, rfl⟩ : ∃ pre' x, pre = pre' ++ [x] := ⟨pre.dropLast, pre.getLast (by intro h; rw [h] at hn; simp at hn), (List.dropLast_concat_getLast _).symm⟩
  have hn' : pre'.length = n := by simpa using hn
  have he' : l = pre' ++ x :: suf := by rw [he]; simp
  have hx : rd l (((n + 1 : Nat) : Int) - 1) = x := by
   rw [show (((n + 1 : Nat) : Int) - 1) = ((pre'.length : Nat) : Int) by omega, he']
   exact rdI_at' pre' x suf
  have hlen : l.length = n + 1 + suf.length := by rw [he']; simp; omega
  have hmem : x ∈ l := by rw [he']; simp
  have bad : tok p (wrapAll l t) ≠ true → Ev (fun _ : Nat => Option.some (([] : List M), false)) (chainR p l t) := fun h => Ev.cast (Ev.some _) (if_neg (fun h' => h h'.2)).symm
  refine Ev.step (fun k => by simp only [impl_ChainTerm.l0]; rfl) ?_
  rw [hx]
  refine Ev.yes (by omega) (Ev.yes (by omega) (Ev.yes (by omega) ?_))
  by_cases h0 : x < 0
  ·exact Ev.yes h0 (bad (tok_bad ⟨x, hmem, by omega⟩))
  refine Ev.no h0 ?_
  by_cases h1 : x ≥ p
  ·exact Ev.yes h1 (bad (tok_bad ⟨x, hmem, by omega⟩))
  refine Ev.no h1 ?_
  by_cases h2 : ((wrapAll suf t).length : Int) > 15
  ·refine Ev.yes h2 (bad (tok_long ?_))
   rw [wrapAll_length] at h2 ⊢
   rw [hlen]
   omega
  refine Ev.no h2 ?_
  rw [trick_eq _ _ (by omega)]
  simp only [Option.bind_some]
  rw [w64 (by omega) (by omega), show (((n + 1 : Nat) : Int) - 1 - 1) = (n : Int) - 1 by omega]
  exact ih pre' (x :: suf) he' hn' (by rw [wrapAll, wrapM_length]; omega)
theorem clone_eq (t : List M) (ht : t.length ≤ 4611686018427) : impl_Mark.f t = some t := by
 unfold impl_Mark.f
 simp only [Option.bind_some, List.length_nil, List.nil_append]
 rw [if_pos (by omega)]
theorem impl_Chain_ev {p : Int} {l : List Int} {t : List M} (hl : l.length ≤ 1048576) : Ev (fun k => impl_ChainTerm.f k p l t) (chainR p l t) := by
 unfold impl_ChainTerm.f
 refine Ev.bind (impl_TermOk_ev p t) ?_
 by_cases hk : tok p t = true
 ·refine Ev.yes hk ?_
  have h15 := (tok_iff.1 hk).2.2.2.1
  rw [clone_eq t (by omega)]
  simp only [Option.bind_some]
  rw [w64 (by omega) (by omega)]
  exact impl_Chain_l0 hl hk l.length l [] (by simp) rfl (by simp only [wrapAll]; omega)
 ·exact Ev.no hk (Ev.cast (Ev.some _) (if_neg (fun h => hk h.1)).symm)
end Go.Proofs.Ytpampekijfjlkaa.L

-- printed by a program of this session's (xprint)
namespace Go.Proofs.Ytpampekijfjlkaa.X
open Go.RowKit Go.Proofs.YtpampekijfjlkaaW.PrintWords Go.Proofs.YtpampekijfjlkaaW.PrintLast Go.Proofs.YtpampekijfjlkaaW.PrintMore
attribute [local go_sem] max2_int min2_int max_two min_two max_three min_three max_four min_four   -- for this text's walks alone
set_option linter.unusedVariables false
set_option linter.unusedSimpArgs false

/-! ### spec_TrickTerm: function 61 -/
def spec_TrickTerm.f (k : Nat) (a0 : Int) (a1 : Int) (l2 : List (S52)) : Option ((List (S52)) × Bool) := (some (([(⟨0, a1⟩ : S52)] : List (S52)) : List (S52))).bind fun y866 => (if y866.length + l2.length < 8796093022208 then ((some (y866 ++ l2 : List (S52))).bind fun y869 => (if y869.length < 8796093022208 then ((some (y869 ++ [(⟨5, 0⟩ : S52)] : List (S52))).bind fun y872 => ((spec_TermOk.f k a0 l2).bind fun t875 => (if t875 = true then ((spec_TermOk.f k a0 y872).bind fun t876 => (if t876 = true then (some (y872, true)) else (some ((([] : List (S52))), false)))) else (some ((([] : List (S52))), false))))) else (none))) else (none))
theorem spec_TrickTerm.mono : ∀ a0 a1 a2 k, LeO (spec_TrickTerm.f k a0 a1 a2) (spec_TrickTerm.f (k + 1) a0 a1 a2) := by
 intro a0 a1 a2 k
 unfold spec_TrickTerm.f
 repeat' first
   | (with_reducible exact spec_TermOk.mono _ _ _)
   | (with_reducible exact LeO.refl _)
   | (with_reducible exact LeO.none _)
   | (with_reducible refine LeO.ite ?_ ?_)
   | (with_reducible refine LeO.bind ?_ (fun _ => ?_))
   | exact spec_TermOk.mono _ _ _
   | exact LeO.none _
   | refine LeO.ite ?_ ?_
   | refine LeO.bind ?_ (fun _ => ?_)
set_option maxHeartbeats 8000000 in
set_option maxRecDepth 100000 in
theorem spec_TrickTerm.calls (k : Nat) (a0 : Int) (a1 : Int) (A2 : Option Addr) (c2 : Nat) (l2 : List (S52)) (r1 : List (S52)) (r2 : Bool) (w : World) (hr2 : Kd.C k52 w A2 l2.length l2) (hc2 : l2.length ≤ c2) (h : spec_TrickTerm.f k a0 a1 l2 = some (r1, r2)) :
  Calls Try.prog 61 #[.int .i64 a0, .int .i64 a1, .slice A2 l2.length c2] w fun e w' => ∃ v0_ : Value, e = .returned (.tuple #[v0_, .bool r2]) ∧ Kd.R k52 52 w' w.heap.size (fun _ => True) v0_ r1 ∧ Below w.heap.size w w' := by
 have hu52 := Try.underlying52
 have HR2 := Aside0.mk hr2
 have HC2 := Aside0.mk hc2
 clear hr2 hc2
 have HB := Aside0.mk (Below.refl w.heap.size w)
 have H : ((some (([(⟨0, a1⟩ : S52)] : List (S52)) : List (S52))).bind fun y866 => (if y866.length + l2.length < 8796093022208 then ((some (y866 ++ l2 : List (S52))).bind fun y869 => (if y869.length < 8796093022208 then ((some (y869 ++ [(⟨5, 0⟩ : S52)] : List (S52))).bind fun y872 => ((spec_TermOk.f k a0 l2).bind fun t875 => (if t875 = true then ((spec_TermOk.f k a0 y872).bind fun t876 => (if t876 = true then (some (y872, true)) else (some ((([] : List (S52))), false)))) else (some ((([] : List (S52))), false))))) else (none))) else (none))) = some (r1, r2) := h
 clear h
 obtain ⟨y866, hy866⟩ : ∃ y_ : List (S52), y_ = (([(⟨0, a1⟩ : S52)] : List (S52))) := ⟨_, rfl⟩
 replace H : (if y866.length + l2.length < 8796093022208 then ((some (y866 ++ l2 : List (S52))).bind fun y869 => (if y869.length < 8796093022208 then ((some (y869 ++ [(⟨5, 0⟩ : S52)] : List (S52))).bind fun y872 => ((spec_TermOk.f k a0 l2).bind fun t875 => (if t875 = true then ((spec_TermOk.f k a0 y872).bind fun t876 => (if t876 = true then (some (y872, true)) else (some ((([] : List (S52))), false)))) else (some ((([] : List (S52))), false))))) else (none))) else (none)) = some (r1, r2) := by first | (rw [hy866]; with_reducible exact H) | (have H2_ := (Option.bind_some _ _).symm.trans H; rw [hy866]; with_reducible exact H2_) | (have H2_ := (Option.bind_some _ _).symm.trans H; with_reducible exact H2_) | with_reducible exact H | (rw [hy866]; exact H) | exact H
 have Ny866 := Aside0.mk hy866
 clear hy866
 by_cases c4 : y866.length + l2.length < 8796093022208
 ·rw [if_pos c4] at H
  have LMc4 := Aside0.mk c4
  clear c4
  obtain ⟨y869, hy869⟩ : ∃ y_ : List (S52), y_ = (y866 ++ l2) := ⟨_, rfl⟩
  replace H : (if y869.length < 8796093022208 then ((some (y869 ++ [(⟨5, 0⟩ : S52)] : List (S52))).bind fun y872 => ((spec_TermOk.f k a0 l2).bind fun t875 => (if t875 = true then ((spec_TermOk.f k a0 y872).bind fun t876 => (if t876 = true then (some (y872, true)) else (some ((([] : List (S52))), false)))) else (some ((([] : List (S52))), false))))) else (none)) = some (r1, r2) := by first | (rw [hy869]; with_reducible exact H) | (have H2_ := (Option.bind_some _ _).symm.trans H; rw [hy869]; with_reducible exact H2_) | (have H2_ := (Option.bind_some _ _).symm.trans H; with_reducible exact H2_) | with_reducible exact H | (rw [hy869]; exact H) | exact H
  have Ny869 := Aside0.mk hy869
  clear hy869
  by_cases c5 : y869.length < 8796093022208
  ·rw [if_pos c5] at H
   have LMc5 := Aside0.mk c5
   clear c5
   obtain ⟨y872, hy872⟩ : ∃ y_ : List (S52), y_ = (y869 ++ [(⟨5, 0⟩ : S52)]) := ⟨_, rfl⟩
   replace H : ((spec_TermOk.f k a0 l2).bind fun t875 => (if t875 = true then ((spec_TermOk.f k a0 y872).bind fun t876 => (if t876 = true then (some (y872, true)) else (some ((([] : List (S52))), false)))) else (some ((([] : List (S52))), false)))) = some (r1, r2) := by first | (rw [hy872]; with_reducible exact H) | (have H2_ := (Option.bind_some _ _).symm.trans H; rw [hy872]; with_reducible exact H2_) | (have H2_ := (Option.bind_some _ _).symm.trans H; with_reducible exact H2_) | with_reducible exact H | (rw [hy872]; exact H) | exact H
   have Ny872 := Aside0.mk hy872
   clear hy872
   replace H := Option.bind_eq_some_iff.mp H
   obtain ⟨t875, A60, H⟩ := H
   replace H : (if t875 = true then ((spec_TermOk.f k a0 y872).bind fun t876 => (if t876 = true then (some (y872, true)) else (some ((([] : List (S52))), false)))) else (some ((([] : List (S52))), false))) = some (r1, r2) := H
   have A6 := Aside0.mk A60
   clear A60
   by_cases c7 : t875 = true
   ·subst c7
    have H1 : ((spec_TermOk.f k a0 y872).bind fun t876 => (if t876 = true then (some (y872, true)) else (some ((([] : List (S52))), false)))) = some (r1, r2) := by rw [if_pos rfl] at H; exact H
    clear H
    have H := H1
    clear H1
    replace H := Option.bind_eq_some_iff.mp H
    obtain ⟨t876, A80, H⟩ := H
    replace H : (if t876 = true then (some (y872, true)) else (some ((([] : List (S52))), false))) = some (r1, r2) := H
    have A8 := Aside0.mk A80
    clear A80
    by_cases c9 : t876 = true
    ·subst c9
     have H1 : (some (y872, true)) = some (r1, r2) := by rw [if_pos rfl] at H; exact H
     clear H
     have H := H1
     clear H1
     simp only [Option.some.injEq, Prod.mk.injEq] at H
     obtain ⟨rfl, rfl⟩ := H
     go_enter Try.func61, Try.ntmps61
     go_wp2_with (first | ((with_reducible refine gate_dst (N := 11) rfl ?_); refine Kd.R_lit k52 _ 52 ?hg (N := 11) ?hd (xs := ([(⟨0, a1⟩ : S52)] : List (S52))) (inner := [.int .i64 0, .int .i64 a1]) (ok := fun _ => True) (okp := fun _ => True) ?hr ?hp (fun _ hk => hk) trivial (Below.refl _ _) (Nat.le_refl _) (by simp) ?_; (case hd => rfl); (case hg => rfl); (case hr => first | (go_simp; done) | (go_simp; rfl)); (case hp => exact (Reps.c2 (show Kd.M k52 _ _ _ (⟨0, a1⟩ : S52) [.int .i64 0, .int .i64 a1] from (k52_mkM _ _ _ (⟨0, a1⟩ : S52) )) (Reps.none _ _))); intro v867 w10 ho11 hb hg_ hnew_; clear hg_ hnew_; (first | rw [← Ny866.out] at ho11 | (simp only [Int.reduceToNat] at ho11; rw [← Ny866.out] at ho11)); have n0_ := Aside0.mk (Kd.R_lower ho11 (below_size (by repeat (first | (with_reducible first | exact HB.out | apply below_alloc | apply pw_below_drewN | apply below_drew1) | exact HB.out)))); have n1_ := Aside0.mk (below_step (by repeat (first | (with_reducible first | exact HB.out | apply below_alloc | apply pw_below_drewN | apply below_drew1) | exact HB.out)) hb); clear HB; have HO868 := n0_; have HB := n1_; clear n0_ n1_; clear hb ho11) | ((with_reducible refine gate_builtin (b := .append) (xs := #[.tmp 11, .tmp 12]) rfl ?_); at_builtin; refine Kd.R_append_rows k52 (w0 := w) w.heap.size rfl (.tmp 11) (.tmp 12) 34 52 (.agg #[(.int .i64 0), (.int .i64 0)]) 16 rfl Try.underlying34 info52 rfl (by decide) (by omega) v867 y866 l2 _ _ _ (fun _ => True) (fun _ => False) rfl rfl ?aO ?aR (fun _ _ h => h) (fun _ h => h.elim) ?aF ?aB ?aS ?aL ?_; (case aR => repeat (first | exact (Kd.C_below HR2.out HB.out) | (with_reducible refine Kd.C_alloc ?_ _) | (with_reducible refine Kd.C_drewN ?_ _) | (with_reducible refine Kd.C_drew ?_))); (case aB => exact (by repeat (first | (with_reducible first | exact HB.out | apply below_alloc | apply pw_below_drewN | apply below_drew1) | exact HB.out))); (case aF => exact (fun _ _ => trivial)); (case aO => exact (by (with_reducible repeat (first | apply Kd.R_alloc | apply Kd.R_drewN | apply Kd.R_drew)); exact HO868.out)); (case aS => exact (below_size (by repeat (first | (with_reducible first | exact HB.out | apply below_alloc | apply pw_below_drewN | apply below_drew1) | exact HB.out)))); (case aL => have := LMc4.out; omega); intro v870 w12 ho hb hg hat; rw [← Ny869.out] at ho; have n0_ := Aside0.mk (hb); have n1_ := Aside0.mk (ho); clear HB; clear HO868; have HB := n0_; have HO871 := n1_; clear n0_ n1_; clear ho hb hg hat) | ((with_reducible refine gate_builtin (b := .append) (xs := #[.tmp 14, .tmp 16]) rfl ?_); at_builtin; refine Kd.R_append k52 (w0 := w) w.heap.size rfl (.tmp 14) (.tmp 16) 34 52 (.agg #[(.int .i64 0), (.int .i64 0)]) 16 rfl Try.underlying34 info52 rfl (by decide) (by omega) v870 y869 (⟨5, 0⟩ : S52) [.int .i64 5, .int .i64 0] (fun _ => True) (fun _ => False) rfl rfl ?aP (fun _ hk => hk.elim) ?aF ?aO ?aB ?aS ?aL ?_; (case aP => exact k52_mkM _ _ _ (⟨5, 0⟩ : S52)); (case aB => exact (by repeat (first | (with_reducible first | exact HB.out | apply below_alloc | apply pw_below_drewN | apply below_drew1) | exact HB.out))); (case aF => exact (fun _ _ => trivial)); (case aO => exact (by (with_reducible repeat (first | apply Kd.R_alloc | apply Kd.R_drewN | apply Kd.R_drew)); exact HO871.out)); (case aS => exact (below_size (by repeat (first | (with_reducible first | exact HB.out | apply below_alloc | apply pw_below_drewN | apply below_drew1) | exact HB.out)))); (case aL => have := LMc5.out; omega); intro v873 w13 ho hb hg hat; rw [← Ny872.out] at ho; have n0_ := Aside0.mk (hb); have n1_ := Aside0.mk (ho); clear HB; clear HO871; have HB := n0_; have HO874 := n1_; clear n0_ n1_; clear ho hb hg hat) | ((with_reducible refine gate_callee (f := 45) rfl ?_); refine goesL_ (some 20) rfl rfl Try.func45 (by kernel_rfl) rfl #[.int .i64 a0, .slice A2 l2.length c2] rfl (by (try simp only [List.map_toArray, List.map_cons, List.map_nil]); first | done | rfl | (simp only [List.length_drop, List.length_take]; rfl)) ?_; (with_reducible refine (spec_TermOk.calls k a0 _ _ l2 true _ ?side1 ?side2 A6.out).mono ?_); (case side1 => repeat (first | exact (Kd.C_below HR2.out HB.out) | (with_reducible refine Kd.C_alloc ?_ _) | (with_reducible refine Kd.C_drewN ?_ _) | (with_reducible refine Kd.C_drew ?_))); (case side2 => exact HC2.out); rintro e w' ⟨rfl, ⟨nd, rfl⟩⟩; refine ⟨_, rfl, ?_⟩; obtain ⟨Ao14, co14, eo14⟩ := Kd.R_slice HO874.out; subst eo14) | (go_at_call 45; (with_reducible refine (spec_TermOk.calls k a0 _ _ y872 true _ ?side1 ?side2 A8.out).mono ?_); (case side1 => repeat (first | exact (Kd.R_reads' HO874.out).2.2 | (with_reducible refine Kd.C_alloc ?_ _) | (with_reducible refine Kd.C_drewN ?_ _) | (with_reducible refine Kd.C_drew ?_))); (case side2 => exact (Kd.R_reads' HO874.out).2.1); rintro e w' ⟨rfl, ⟨nd, rfl⟩⟩))
     go_ret2
     exact ⟨_, by first | rfl | (simp [errW_none, errW_some] <;> rfl) | (simp [*, errW_none, errW_some] <;> rfl), by (with_reducible repeat (first | apply Kd.R_alloc | apply Kd.R_drewN | apply Kd.R_drew)); exact HO874.out, by repeat (first | (with_reducible first | exact HB.out | apply below_alloc | apply pw_below_drewN | apply below_drew1) | exact HB.out)⟩
    ·replace c9 := Bool.eq_false_iff.mpr c9
     subst c9
     have H1 : (some ((([] : List (S52))), false)) = some (r1, r2) := by rw [if_neg (show ¬ (false = true) by decide)] at H; exact H
     clear H
     have H := H1
     clear H1
     obtain ⟨y877, hy877⟩ : ∃ y_ : List (S52), y_ = (([] : List (S52))) := ⟨_, rfl⟩
     replace H : (some (y877, false)) = some (r1, r2) := by first | (rw [hy877]; with_reducible exact H) | (have H2_ := (Option.bind_some _ _).symm.trans H; rw [hy877]; with_reducible exact H2_) | (have H2_ := (Option.bind_some _ _).symm.trans H; with_reducible exact H2_) | with_reducible exact H | (rw [hy877]; exact H) | exact H
     have Ny877 := Aside0.mk hy877
     clear hy877
     simp only [Option.some.injEq, Prod.mk.injEq] at H
     obtain ⟨rfl, rfl⟩ := H
     go_enter Try.func61, Try.ntmps61
     go_wp2_with (first | ((with_reducible refine gate_dst (N := 11) rfl ?_); refine Kd.R_lit k52 _ 52 ?hg (N := 11) ?hd (xs := ([(⟨0, a1⟩ : S52)] : List (S52))) (inner := [.int .i64 0, .int .i64 a1]) (ok := fun _ => True) (okp := fun _ => True) ?hr ?hp (fun _ hk => hk) trivial (Below.refl _ _) (Nat.le_refl _) (by simp) ?_; (case hd => rfl); (case hg => rfl); (case hr => first | (go_simp; done) | (go_simp; rfl)); (case hp => exact (Reps.c2 (show Kd.M k52 _ _ _ (⟨0, a1⟩ : S52) [.int .i64 0, .int .i64 a1] from (k52_mkM _ _ _ (⟨0, a1⟩ : S52) )) (Reps.none _ _))); intro v867 w15 ho16 hb hg_ hnew_; clear hg_ hnew_; (first | rw [← Ny866.out] at ho16 | (simp only [Int.reduceToNat] at ho16; rw [← Ny866.out] at ho16)); have n0_ := Aside0.mk (Kd.R_lower ho16 (below_size (by repeat (first | (with_reducible first | exact HB.out | apply below_alloc | apply pw_below_drewN | apply below_drew1) | exact HB.out)))); have n1_ := Aside0.mk (below_step (by repeat (first | (with_reducible first | exact HB.out | apply below_alloc | apply pw_below_drewN | apply below_drew1) | exact HB.out)) hb); clear HB; have HO868 := n0_; have HB := n1_; clear n0_ n1_; clear hb ho16) | ((with_reducible refine gate_builtin (b := .append) (xs := #[.tmp 11, .tmp 12]) rfl ?_); at_builtin; refine Kd.R_append_rows k52 (w0 := w) w.heap.size rfl (.tmp 11) (.tmp 12) 34 52 (.agg #[(.int .i64 0), (.int .i64 0)]) 16 rfl Try.underlying34 info52 rfl (by decide) (by omega) v867 y866 l2 _ _ _ (fun _ => True) (fun _ => False) rfl rfl ?aO ?aR (fun _ _ h => h) (fun _ h => h.elim) ?aF ?aB ?aS ?aL ?_; (case aR => repeat (first | exact (Kd.C_below HR2.out HB.out) | (with_reducible refine Kd.C_alloc ?_ _) | (with_reducible refine Kd.C_drewN ?_ _) | (with_reducible refine Kd.C_drew ?_))); (case aB => exact (by repeat (first | (with_reducible first | exact HB.out | apply below_alloc | apply pw_below_drewN | apply below_drew1) | exact HB.out))); (case aF => exact (fun _ _ => trivial)); (case aO => exact (by (with_reducible repeat (first | apply Kd.R_alloc | apply Kd.R_drewN | apply Kd.R_drew)); exact HO868.out)); (case aS => exact (below_size (by repeat (first | (with_reducible first | exact HB.out | apply below_alloc | apply pw_below_drewN | apply below_drew1) | exact HB.out)))); (case aL => have := LMc4.out; omega); intro v870 w17 ho hb hg hat; rw [← Ny869.out] at ho; have n0_ := Aside0.mk (hb); have n1_ := Aside0.mk (ho); clear HB; clear HO868; have HB := n0_; have HO871 := n1_; clear n0_ n1_; clear ho hb hg hat) | ((with_reducible refine gate_builtin (b := .append) (xs := #[.tmp 14, .tmp 16]) rfl ?_); at_builtin; refine Kd.R_append k52 (w0 := w) w.heap.size rfl (.tmp 14) (.tmp 16) 34 52 (.agg #[(.int .i64 0), (.int .i64 0)]) 16 rfl Try.underlying34 info52 rfl (by decide) (by omega) v870 y869 (⟨5, 0⟩ : S52) [.int .i64 5, .int .i64 0] (fun _ => True) (fun _ => False) rfl rfl ?aP (fun _ hk => hk.elim) ?aF ?aO ?aB ?aS ?aL ?_; (case aP => exact k52_mkM _ _ _ (⟨5, 0⟩ : S52)); (case aB => exact (by repeat (first | (with_reducible first | exact HB.out | apply below_alloc | apply pw_below_drewN | apply below_drew1) | exact HB.out))); (case aF => exact (fun _ _ => trivial)); (case aO => exact (by (with_reducible repeat (first | apply Kd.R_alloc | apply Kd.R_drewN | apply Kd.R_drew)); exact HO871.out)); (case aS => exact (below_size (by repeat (first | (with_reducible first | exact HB.out | apply below_alloc | apply pw_below_drewN | apply below_drew1) | exact HB.out)))); (case aL => have := LMc5.out; omega); intro v873 w18 ho hb hg hat; rw [← Ny872.out] at ho; have n0_ := Aside0.mk (hb); have n1_ := Aside0.mk (ho); clear HB; clear HO871; have HB := n0_; have HO874 := n1_; clear n0_ n1_; clear ho hb hg hat) | ((with_reducible refine gate_callee (f := 45) rfl ?_); refine goesL_ (some 20) rfl rfl Try.func45 (by kernel_rfl) rfl #[.int .i64 a0, .slice A2 l2.length c2] rfl (by (try simp only [List.map_toArray, List.map_cons, List.map_nil]); first | done | rfl | (simp only [List.length_drop, List.length_take]; rfl)) ?_; (with_reducible refine (spec_TermOk.calls k a0 _ _ l2 true _ ?side1 ?side2 A6.out).mono ?_); (case side1 => repeat (first | exact (Kd.C_below HR2.out HB.out) | (with_reducible refine Kd.C_alloc ?_ _) | (with_reducible refine Kd.C_drewN ?_ _) | (with_reducible refine Kd.C_drew ?_))); (case side2 => exact HC2.out); rintro e w' ⟨rfl, ⟨nd, rfl⟩⟩; refine ⟨_, rfl, ?_⟩; obtain ⟨Ao19, co19, eo19⟩ := Kd.R_slice HO874.out; subst eo19) | (go_at_call 45; (with_reducible refine (spec_TermOk.calls k a0 _ _ y872 false _ ?side1 ?side2 A8.out).mono ?_); (case side1 => repeat (first | exact (Kd.R_reads' HO874.out).2.2 | (with_reducible refine Kd.C_alloc ?_ _) | (with_reducible refine Kd.C_drewN ?_ _) | (with_reducible refine Kd.C_drew ?_))); (case side2 => exact (Kd.R_reads' HO874.out).2.1); rintro e w' ⟨rfl, ⟨nd, rfl⟩⟩) | ((with_reducible refine gate_dst (N := 28) rfl ?_); refine Kd.R_lit k52 _ 52 ?hg (N := 28) ?hd (xs := ([] : List (S52))) (inner := []) (ok := fun _ => True) (okp := fun _ => True) ?hr ?hp (fun _ hk => hk) trivial (Below.refl _ _) (Nat.le_refl _) (by simp) ?_; (case hd => rfl); (case hg => rfl); (case hr => first | (go_simp; done) | (go_simp; rfl)); (case hp => exact (Reps.none _ _)); intro v878 w20 ho21 hb hg_ hnew_; clear hg_ hnew_; (first | rw [← Ny877.out] at ho21 | (simp only [Int.reduceToNat] at ho21; rw [← Ny877.out] at ho21)); have n0_ := Aside0.mk (Kd.R_elder' (by (with_reducible repeat (first | apply Kd.R_alloc | apply Kd.R_drewN | apply Kd.R_drew)); exact HO874.out) (Kd.R_base ho21) hb); have n1_ := Aside0.mk (Kd.R_lower (Kd.R_new' ho21 (Kd.R_lt (by (with_reducible repeat (first | apply Kd.R_alloc | apply Kd.R_drewN | apply Kd.R_drew)); exact HO874.out))) (below_size (by repeat (first | (with_reducible first | exact HB.out | apply below_alloc | apply pw_below_drewN | apply below_drew1) | exact HB.out)))); have n2_ := Aside0.mk (below_step (by repeat (first | (with_reducible first | exact HB.out | apply below_alloc | apply pw_below_drewN | apply below_drew1) | exact HB.out)) hb); clear HO874; clear HB; have HO874 := n0_; have HO879 := n1_; have HB := n2_; clear n0_ n1_ n2_; clear hb ho21))
     go_ret2
     exact ⟨_, by first | rfl | (simp [errW_none, errW_some] <;> rfl) | (simp [*, errW_none, errW_some] <;> rfl), by (with_reducible repeat (first | apply Kd.R_alloc | apply Kd.R_drewN | apply Kd.R_drew)); exact Kd.R_mono HO879.out (fun _ hk => trivial), by repeat (first | (with_reducible first | exact HB.out | apply below_alloc | apply pw_below_drewN | apply below_drew1) | exact HB.out)⟩
   ·replace c7 := Bool.eq_false_iff.mpr c7
    subst c7
    have H1 : (some ((([] : List (S52))), false)) = some (r1, r2) := by rw [if_neg (show ¬ (false = true) by decide)] at H; exact H
    clear H
    have H := H1
    clear H1
    obtain ⟨y880, hy880⟩ : ∃ y_ : List (S52), y_ = (([] : List (S52))) := ⟨_, rfl⟩
    replace H : (some (y880, false)) = some (r1, r2) := by first | (rw [hy880]; with_reducible exact H) | (have H2_ := (Option.bind_some _ _).symm.trans H; rw [hy880]; with_reducible exact H2_) | (have H2_ := (Option.bind_some _ _).symm.trans H; with_reducible exact H2_) | with_reducible exact H | (rw [hy880]; exact H) | exact H
    have Ny880 := Aside0.mk hy880
    clear hy880
    simp only [Option.some.injEq, Prod.mk.injEq] at H
    obtain ⟨rfl, rfl⟩ := H
    go_enter Try.func61, Try.ntmps61
    go_wp2_with (first | ((with_reducible refine gate_dst (N := 11) rfl ?_); refine Kd.R_lit k52 _ 52 ?hg (N := 11) ?hd (xs := ([(⟨0, a1⟩ : S52)] : List (S52))) (inner := [.int .i64 0, .int .i64 a1]) (ok := fun _ => True) (okp := fun _ => True) ?hr ?hp (fun _ hk => hk) trivial (Below.refl _ _) (Nat.le_refl _) (by simp) ?_; (case hd => rfl); (case hg => rfl); (case hr => first | (go_simp; done) | (go_simp; rfl)); (case hp => exact (Reps.c2 (show Kd.M k52 _ _ _ (⟨0, a1⟩ : S52) [.int .i64 0, .int .i64 a1] from (k52_mkM _ _ _ (⟨0, a1⟩ : S52) )) (Reps.none _ _))); intro v867 w22 ho23 hb hg_ hnew_; clear hg_ hnew_; (first | rw [← Ny866.out] at ho23 | (simp only [Int.reduceToNat] at ho23; rw [← Ny866.out] at ho23)); have n0_ := Aside0.mk (Kd.R_lower ho23 (below_size (by repeat (first | (with_reducible first | exact HB.out | apply below_alloc | apply pw_below_drewN | apply below_drew1) | exact HB.out)))); have n1_ := Aside0.mk (below_step (by repeat (first | (with_reducible first | exact HB.out | apply below_alloc | apply pw_below_drewN | apply below_drew1) | exact HB.out)) hb); clear HB; have HO868 := n0_; have HB := n1_; clear n0_ n1_; clear hb ho23) | ((with_reducible refine gate_builtin (b := .append) (xs := #[.tmp 11, .tmp 12]) rfl ?_); at_builtin; refine Kd.R_append_rows k52 (w0 := w) w.heap.size rfl (.tmp 11) (.tmp 12) 34 52 (.agg #[(.int .i64 0), (.int .i64 0)]) 16 rfl Try.underlying34 info52 rfl (by decide) (by omega) v867 y866 l2 _ _ _ (fun _ => True) (fun _ => False) rfl rfl ?aO ?aR (fun _ _ h => h) (fun _ h => h.elim) ?aF ?aB ?aS ?aL ?_; (case aR => repeat (first | exact (Kd.C_below HR2.out HB.out) | (with_reducible refine Kd.C_alloc ?_ _) | (with_reducible refine Kd.C_drewN ?_ _) | (with_reducible refine Kd.C_drew ?_))); (case aB => exact (by repeat (first | (with_reducible first | exact HB.out | apply below_alloc | apply pw_below_drewN | apply below_drew1) | exact HB.out))); (case aF => exact (fun _ _ => trivial)); (case aO => exact (by (with_reducible repeat (first | apply Kd.R_alloc | apply Kd.R_drewN | apply Kd.R_drew)); exact HO868.out)); (case aS => exact (below_size (by repeat (first | (with_reducible first | exact HB.out | apply below_alloc | apply pw_below_drewN | apply below_drew1) | exact HB.out)))); (case aL => have := LMc4.out; omega); intro v870 w24 ho hb hg hat; rw [← Ny869.out] at ho; have n0_ := Aside0.mk (hb); have n1_ := Aside0.mk (ho); clear HB; clear HO868; have HB := n0_; have HO871 := n1_; clear n0_ n1_; clear ho hb hg hat) | ((with_reducible refine gate_builtin (b := .append) (xs := #[.tmp 14, .tmp 16]) rfl ?_); at_builtin; refine Kd.R_append k52 (w0 := w) w.heap.size rfl (.tmp 14) (.tmp 16) 34 52 (.agg #[(.int .i64 0), (.int .i64 0)]) 16 rfl Try.underlying34 info52 rfl (by decide) (by omega) v870 y869 (⟨5, 0⟩ : S52) [.int .i64 5, .int .i64 0] (fun _ => True) (fun _ => False) rfl rfl ?aP (fun _ hk => hk.elim) ?aF ?aO ?aB ?aS ?aL ?_; (case aP => exact k52_mkM _ _ _ (⟨5, 0⟩ : S52)); (case aB => exact (by repeat (first | (with_reducible first | exact HB.out | apply below_alloc | apply pw_below_drewN | apply below_drew1) | exact HB.out))); (case aF => exact (fun _ _ => trivial)); (case aO => exact (by (with_reducible repeat (first | apply Kd.R_alloc | apply Kd.R_drewN | apply Kd.R_drew)); exact HO871.out)); (case aS => exact (below_size (by repeat (first | (with_reducible first | exact HB.out | apply below_alloc | apply pw_below_drewN | apply below_drew1) | exact HB.out)))); (case aL => have := LMc5.out; omega); intro v873 w25 ho hb hg hat; rw [← Ny872.out] at ho; have n0_ := Aside0.mk (hb); have n1_ := Aside0.mk (ho); clear HB; clear HO871; have HB := n0_; have HO874 := n1_; clear n0_ n1_; clear ho hb hg hat) | ((with_reducible refine gate_callee (f := 45) rfl ?_); refine goesL_ (some 20) rfl rfl Try.func45 (by kernel_rfl) rfl #[.int .i64 a0, .slice A2 l2.length c2] rfl (by (try simp only [List.map_toArray, List.map_cons, List.map_nil]); first | done | rfl | (simp only [List.length_drop, List.length_take]; rfl)) ?_; (with_reducible refine (spec_TermOk.calls k a0 _ _ l2 false _ ?side1 ?side2 A6.out).mono ?_); (case side1 => repeat (first | exact (Kd.C_below HR2.out HB.out) | (with_reducible refine Kd.C_alloc ?_ _) | (with_reducible refine Kd.C_drewN ?_ _) | (with_reducible refine Kd.C_drew ?_))); (case side2 => exact HC2.out); rintro e w' ⟨rfl, ⟨nd, rfl⟩⟩; refine ⟨_, rfl, ?_⟩) | ((with_reducible refine gate_dst (N := 28) rfl ?_); refine Kd.R_lit k52 _ 52 ?hg (N := 28) ?hd (xs := ([] : List (S52))) (inner := []) (ok := fun _ => True) (okp := fun _ => True) ?hr ?hp (fun _ hk => hk) trivial (Below.refl _ _) (Nat.le_refl _) (by simp) ?_; (case hd => rfl); (case hg => rfl); (case hr => first | (go_simp; done) | (go_simp; rfl)); (case hp => exact (Reps.none _ _)); intro v881 w26 ho27 hb hg_ hnew_; clear hg_ hnew_; (first | rw [← Ny880.out] at ho27 | (simp only [Int.reduceToNat] at ho27; rw [← Ny880.out] at ho27)); have n0_ := Aside0.mk (Kd.R_elder' (by (with_reducible repeat (first | apply Kd.R_alloc | apply Kd.R_drewN | apply Kd.R_drew)); exact HO874.out) (Kd.R_base ho27) hb); have n1_ := Aside0.mk (Kd.R_lower (Kd.R_new' ho27 (Kd.R_lt (by (with_reducible repeat (first | apply Kd.R_alloc | apply Kd.R_drewN | apply Kd.R_drew)); exact HO874.out))) (below_size (by repeat (first | (with_reducible first | exact HB.out | apply below_alloc | apply pw_below_drewN | apply below_drew1) | exact HB.out)))); have n2_ := Aside0.mk (below_step (by repeat (first | (with_reducible first | exact HB.out | apply below_alloc | apply pw_below_drewN | apply below_drew1) | exact HB.out)) hb); clear HO874; clear HB; have HO874 := n0_; have HO882 := n1_; have HB := n2_; clear n0_ n1_ n2_; clear hb ho27))
    go_ret2
    exact ⟨_, by first | rfl | (simp [errW_none, errW_some] <;> rfl) | (simp [*, errW_none, errW_some] <;> rfl), by (with_reducible repeat (first | apply Kd.R_alloc | apply Kd.R_drewN | apply Kd.R_drew)); exact Kd.R_mono HO882.out (fun _ hk => trivial), by repeat (first | (with_reducible first | exact HB.out | apply below_alloc | apply pw_below_drewN | apply below_drew1) | exact HB.out)⟩
  ·rw [if_neg c5] at H
   exact absurd H (by simp)
 ·rw [if_neg c4] at H
  exact absurd H (by simp)

end Go.Proofs.Ytpampekijfjlkaa.X

/- Plain laws of tricks: the program's and the reference's. -/
namespace Go.Proofs.Ytpampekijfjlkaa.L
open Go.RowKit Go.Proofs.Ytpampekijfjlkaa.X Go.Proofs.YtpampekijfjlkaaW.PrintWords Go.Proofs.YtpampekijfjlkaaW.PrintLast Go.Proofs.YtpampekijfjlkaaW.PrintMore

theorem impl_Trick_ev {p i : Int} {t : List M} : Ev (fun k => impl_TrickTerm.f k p i t) (chainR p [i] t) := by
 unfold impl_TrickTerm.f
 exact Ev.bind (impl_Chain_ev (by simp)) (Ev.some _)
theorem spec_Trick_ev {p i : Int} {t : List M} (ht : t.length ≤ 1048576) (hi : i ≤ 9223372036854775807) (htw : ∀ m ∈ t, m.f1 ≤ 9223372036854775807) : Ev (fun k => spec_TrickTerm.f k p i t) (chainR p [i] t) := by
 unfold spec_TrickTerm.f
 simp only [Option.bind_some, List.length_append, List.length_cons, List.length_nil]
 refine Ev.yes (by omega) (Ev.yes (by omega) (Ev.bind (spec_TermOk_ev p t (by omega) htw) ?_))
 have e : ([⟨0, i⟩] ++ t ++ [⟨5, 0⟩] : List M) = wrapAll [i] t := by simp [wrapAll, wrapM]
 rw [e]
 by_cases hk : tok p t = true
 ·refine Ev.yes hk (Ev.bind (spec_TermOk_ev p _ (by rw [wrapAll_length]; simp; omega) ?_) ?_)
  ·intro m hm
   simp only [wrapAll, wrapM, List.mem_cons, List.mem_append, List.not_mem_nil, or_false] at hm
   rcases hm with rfl | hm | rfl
   ·exact hi
   ·exact htw m hm
   ·decide
  by_cases hz : tok p (wrapAll [i] t) = true
  ·exact Ev.yes hz (Ev.cast (Ev.some _) (if_pos ⟨hk, hz⟩).symm)
  ·exact Ev.no hz (Ev.cast (Ev.some _) (if_neg (fun h => hz h.2)).symm)
 ·exact Ev.no hk (Ev.cast (Ev.some _) (if_neg (fun h => hk h.1)).symm)
end Go.Proofs.Ytpampekijfjlkaa.L

/- Plain laws of terms, third text: what a valid row of marks says in a world, as a function of the row alone. -/
namespace Go.Proofs.Ytpampekijfjlkaa.L
open Go.RowKit Go.Proofs.Ytpampekijfjlkaa.X Go.Proofs.YtpampekijfjlkaaW.PrintWords Go.Proofs.YtpampekijfjlkaaW.PrintLast Go.Proofs.YtpampekijfjlkaaW.PrintMore

theorem Tm.good_four {p : Int} (hp : p ≤ 4) : ∀ a : Tm, a.good p → a.good 4
 | .tell i, h => by have h' : (i : Int) < p := h; show (i : Int) < 4; omega
 | .cnt n, h => by have h' : (n : Int) ≤ p + 1 := h; show (n : Int) ≤ 4 + 1; omega
 | .neg a, h => good_four hp a h
 | .bin o a b, h => ⟨h.1, good_four hp a h.2.1, good_four hp b h.2.2⟩
open Classical in
/-- The tree of a row of marks. -/
noncomputable def tree (t : List M) : Tm := if h : ∃ a : Tm, a.good 4 ∧ t = a.post then Classical.choose h else .tell 0
theorem tree_post {a : Tm} (h : a.good 4) : (tree a.post).good 4 ∧ a.post = (tree a.post).post := by
 have h' : ∃ b : Tm, b.good 4 ∧ a.post = b.post := ⟨a, h, rfl⟩
 unfold tree
 rw [dif_pos h']
 exact Classical.choose_spec h'
/-- Whether a row of marks holds in a world. -/
noncomputable def hv (t : List M) (w : Nat) : Bool := (tree t).ev w
theorem hv_post {a : Tm} (h : a.good 4) (hl : a.post.length ≤ 500) {w : Nat} (hw : w < 16) : hv a.post w = a.ev w := by
 obtain ⟨h1, h2⟩ := tree_post h
 have e1 := impl_holds_ev (by decide) hw h hl
 have e2 := impl_holds_ev (by decide) hw h1 (by rw [← h2]; exact hl)
 rw [← h2] at e2
 exact Ev.uniq e2 e1
theorem tok_tree {p : Int} {t : List M} (h : tok p t = true) : ∃ a : Tm, a.good p ∧ t = a.post ∧ a.good 4 ∧ t.length ≤ 15 := by
 obtain ⟨a, h1, h2⟩ := parse h
 obtain ⟨_, h3, _, h4, _⟩ := tok_iff.1 h
 exact ⟨a, h1, h2, a.good_four h3 h1, h4⟩
theorem impl_holds_hv {p : Int} {t : List M} (h : tok p t = true) {w : Nat} (hw : w < 16) : Ev (fun k => impl_holds.f k t (w : Int)) (hv t w) := by
 obtain ⟨a, _, rfl, h4, hl⟩ := tok_tree h
 rw [hv_post h4 (by omega) hw]
 exact impl_holds_ev (by decide) hw h4 (by omega)
theorem spec_holds_hv {p : Int} {t : List M} (h : tok p t = true) {w : Nat} (hw : w < 16) : Ev (fun k => spec_l3Holds.f k t (w : Int)) (hv t w) := by
 obtain ⟨a, _, rfl, h4, hl⟩ := tok_tree h
 rw [hv_post h4 (by omega) hw]
 exact l3Holds_ev (by decide) hw a h4 (by omega)
/-- Whether a claim may be made in a world. -/
noncomputable def may (i : Int) (t : List M) (w : Nat) : Bool := hv t w == w.testBit i.toNat
/-- The trick: a person's mark ahead, and the mark of sameness behind. -/
def wrapT (i : Int) (t : List M) : List M := ⟨0, i⟩ :: (t ++ [⟨5, 0⟩])
theorem scan_app {p : Int} : ∀ (s t : List M) (n m : Nat), scan p s n = some m → scan p (s ++ t) n = scan p t m
 | [], t, n, m, h => by simp only [scan] at h; cases h; rfl
 | ⟨f0, f1⟩ :: s, t, n, m, h => by
  simp only [scan, List.cons_append] at h ⊢
  by_cases h0 : f0 = 0
  ·rw [if_pos h0] at h ⊢
   by_cases h1 : 0 ≤ f1 ∧ f1 < p
   ·rw [if_pos h1] at h ⊢; exact scan_app s t _ m h
   ·rw [if_neg h1] at h; cases h
  rw [if_neg h0] at h ⊢
  by_cases h1 : f0 = 1
  ·rw [if_pos h1] at h ⊢
   by_cases h2 : 0 ≤ f1 ∧ f1 ≤ p + 1
   ·rw [if_pos h2] at h ⊢; exact scan_app s t _ m h
   ·rw [if_neg h2] at h; cases h
  rw [if_neg h1] at h ⊢
  by_cases h2 : f0 = 2
  ·rw [if_pos h2] at h ⊢
   by_cases h3 : f1 = 0 ∧ 1 ≤ n
   ·rw [if_pos h3] at h ⊢; exact scan_app s t _ m h
   ·rw [if_neg h3] at h; cases h
  rw [if_neg h2] at h ⊢
  by_cases h3 : f0 = 3 ∨ f0 = 4 ∨ f0 = 5
  ·rw [if_pos h3] at h ⊢
   by_cases h4 : f1 = 0 ∧ 2 ≤ n
   ·rw [if_pos h4] at h ⊢; exact scan_app s t _ m h
   ·rw [if_neg h4] at h; cases h
  ·rw [if_neg h3] at h; cases h
theorem scan_up {p : Int} : ∀ (s : List M) (n m d : Nat), scan p s n = some m → scan p s (n + d) = some (m + d)
 | [], n, m, d, h => by simp only [scan] at h ⊢; cases h; rfl
 | ⟨f0, f1⟩ :: s, n, m, d, h => by
  simp only [scan] at h ⊢
  by_cases h0 : f0 = 0
  ·rw [if_pos h0] at h ⊢
   by_cases h1 : 0 ≤ f1 ∧ f1 < p
   ·rw [if_pos h1] at h ⊢; rw [show n + d + 1 = n + 1 + d by omega]; exact scan_up s _ m d h
   ·rw [if_neg h1] at h; cases h
  rw [if_neg h0] at h ⊢
  by_cases h1 : f0 = 1
  ·rw [if_pos h1] at h ⊢
   by_cases h2 : 0 ≤ f1 ∧ f1 ≤ p + 1
   ·rw [if_pos h2] at h ⊢; rw [show n + d + 1 = n + 1 + d by omega]; exact scan_up s _ m d h
   ·rw [if_neg h2] at h; cases h
  rw [if_neg h1] at h ⊢
  by_cases h2 : f0 = 2
  ·rw [if_pos h2] at h ⊢
   by_cases h3 : f1 = 0 ∧ 1 ≤ n
   ·rw [if_pos h3] at h; rw [if_pos ⟨h3.1, by omega⟩]; exact scan_up s _ m d h
   ·rw [if_neg h3] at h; cases h
  rw [if_neg h2] at h ⊢
  by_cases h3 : f0 = 3 ∨ f0 = 4 ∨ f0 = 5
  ·rw [if_pos h3] at h ⊢
   by_cases h4 : f1 = 0 ∧ 2 ≤ n
   ·rw [if_pos h4] at h; rw [if_pos ⟨h4.1, by omega⟩, show n + d - 1 = n - 1 + d by omega]; exact scan_up s _ m d h
   ·rw [if_neg h4] at h; cases h
  ·rw [if_neg h3] at h; cases h
end Go.Proofs.Ytpampekijfjlkaa.L

/- What tricks and denials say. -/
namespace Go.Proofs.Ytpampekijfjlkaa.L
open Go.RowKit Go.Proofs.Ytpampekijfjlkaa.X Go.Proofs.YtpampekijfjlkaaW.PrintWords Go.Proofs.YtpampekijfjlkaaW.PrintLast Go.Proofs.YtpampekijfjlkaaW.PrintMore

theorem hv_wrap {p i : Int} {t : List M} (hk : tok p t = true) (h0 : 0 ≤ i) (h1 : i < p) {w : Nat} (hw : w < 16) : hv (wrapM i t) w = (w.testBit i.toNat == hv t w) := by
 obtain ⟨a, hg, rfl, h4, hl⟩ := tok_tree hk
 have hp4 := (tok_iff.1 hk).2.1
 obtain ⟨j, rfl⟩ := Int.eq_ofNat_of_zero_le h0
 have e : wrapM (j : Int) a.post = (Tm.bin 5 (.tell j) a).post := by simp [wrapM, Tm.post]
 rw [e, hv_post (a := .bin 5 (.tell j) a) ⟨by omega, by show (j : Int) < 4; omega, h4⟩ (by rw [← e, wrapM_length]; omega) hw, hv_post h4 (by omega) hw]
 simp [Tm.ev, bop]
theorem hv_not {p : Int} {t : List M} (hk : tok p t = true) {w : Nat} (hw : w < 16) : hv (t ++ [⟨2, 0⟩]) w = !hv t w := by
 obtain ⟨a, hg, rfl, h4, hl⟩ := tok_tree hk
 have e : a.post ++ [⟨2, 0⟩] = (Tm.neg a).post := by simp [Tm.post]
 rw [e, hv_post (a := .neg a) h4 (by rw [← e]; simp; omega) hw, hv_post h4 (by omega) hw]
 simp [Tm.ev]
theorem hv_tell {j w : Nat} (hj : j < 4) (hw : w < 16) : hv [⟨0, (j : Int)⟩] w = w.testBit j := by
 have e : ([⟨0, (j : Int)⟩] : List M) = (Tm.tell j).post := rfl
 rw [e, hv_post (a := .tell j) (by show (j : Int) < 4; omega) (by simp [Tm.post]) hw]
 rfl
theorem may_wrap {p i : Int} {t : List M} (hk : tok p t = true) (h0 : 0 ≤ i) (h1 : i < p) {w : Nat} (hw : w < 16) : may i (wrapM i t) w = hv t w := by
 unfold may
 rw [hv_wrap hk h0 h1 hw]
 cases w.testBit i.toNat <;> cases hv t w <;> rfl
end Go.Proofs.Ytpampekijfjlkaa.L

/- Plain laws of tables: the worlds in which something holds, as the bits of a number. -/
namespace Go.Proofs.Ytpampekijfjlkaa.L
open Go.RowKit Go.Proofs.Ytpampekijfjlkaa.X Go.Proofs.YtpampekijfjlkaaW.PrintWords Go.Proofs.YtpampekijfjlkaaW.PrintLast Go.Proofs.YtpampekijfjlkaaW.PrintMore

/-- The worlds below n in which P holds, as bits. -/
def tabL (P : Nat → Bool) : Nat → Nat
 | 0 => 0
 | n + 1 => tabL P n ||| (if P n = true then 2 ^ n else 0)
theorem tabL_bit (P : Nat → Bool) : ∀ n w, (tabL P n).testBit w = (decide (w < n) && P w)
 | 0, w => by simp [tabL]
 | n + 1, w => by
  rw [tabL, Nat.testBit_or, tabL_bit P n w]
  by_cases e : w = n
  ·subst e
   by_cases h : P w = true
   ·rw [if_pos h, Nat.testBit_two_pow_self, h]; simp
   ·rw [if_neg h, Nat.zero_testBit]; simp at h; simp [h]
  ·have h1 : (if P n = true then 2 ^ n else 0).testBit w = false := by
    by_cases h : P n = true
    ·rw [if_pos h, Nat.testBit_two_pow]; simp; omega
    ·rw [if_neg h, Nat.zero_testBit]
   rw [h1, Bool.or_false]
   congr 1
   exact decide_eq_decide.mpr (by omega)
theorem lt_of_bits {x n : Nat} (h : ∀ w, n ≤ w → x.testBit w = false) : x < 2 ^ n := Nat.lt_pow_two_of_testBit x (fun w hw => h w hw)
theorem tabL_lt (P : Nat → Bool) (n : Nat) : tabL P n < 2 ^ n := lt_of_bits (fun w hw => by rw [tabL_bit]; simp; omega)
theorem tabL_congr {P Q : Nat → Bool} {n : Nat} (h : ∀ w, w < n → P w = Q w) : tabL P n = tabL Q n := by
 apply Nat.eq_of_testBit_eq
 intro w
 rw [tabL_bit, tabL_bit]
 by_cases hw : w < n
 ·rw [h w hw]
 ·simp [hw]
theorem tabL_inj {P Q : Nat → Bool} {n : Nat} (h : tabL P n = tabL Q n) : ∀ w, w < n → P w = Q w := by
 intro w hw
 have := tabL_bit P n w
 rw [h, tabL_bit] at this
 simpa [hw] using this.symm
theorem tabL_mono {P : Nat → Bool} {n : Nat} (hn : n ≤ 16) : tabL P n < 65536 := by
 have := tabL_lt P n
 have h : (2 : Nat) ^ n ≤ 2 ^ 16 := Nat.pow_le_pow_right (by decide) hn
 omega
/-! ### The machine's words of bits -/
theorem wrap_i64_small (n : Int) (h0 : 0 ≤ n) (h1 : n < 2 ^ 32) : IntKind.i64.wrap n = n := by rw [IntKind.wrap_i64]; omega
theorem or_nat {a b : Nat} (ha : a < 2 ^ 32) (hb : b < 2 ^ 32) : Go.bits .or .i64 (a : Int) (b : Int) = ((a ||| b : Nat) : Int) := (bits_nat .i64 32 (by decide) wrap_i64_small a b ha hb).2
theorem and_nat {a b : Nat} (ha : a < 2 ^ 32) (hb : b < 2 ^ 32) : Go.bits .and .i64 (a : Int) (b : Int) = ((a &&& b : Nat) : Int) := (bits_nat .i64 32 (by decide) wrap_i64_small a b ha hb).1
theorem shl_fin : ∀ i : Fin 31, shl .i64 1 ((i.val : Nat) : Int) = ((2 ^ i.val : Nat) : Int) := by decide +kernel
theorem shl_nat {i : Nat} (hi : i < 31) : shl .i64 1 (i : Int) = ((2 ^ i : Nat) : Int) := shl_fin ⟨i, hi⟩
theorem shlu_fin : ∀ i : Fin 6, shl .u64 1 ((i.val : Nat) : Int) = ((2 ^ i.val : Nat) : Int) := by decide +kernel
theorem shlu_nat {i : Nat} (hi : i < 6) : shl .u64 1 (i : Int) = ((2 ^ i : Nat) : Int) := shlu_fin ⟨i, hi⟩
theorem or_step {P : Nat → Bool} {i : Nat} (hi : i < 16) (h : P i = true) : Go.bits .or .i64 ((tabL P i : Nat) : Int) (shl .i64 1 (i : Int)) = ((tabL P (i + 1) : Nat) : Int) := by
 have h1 := tabL_lt P i
 have h2 : (2 : Nat) ^ i < 2 ^ 16 := Nat.pow_lt_pow_right (by decide) hi
 rw [shl_nat (by omega), or_nat (by omega) (by omega), tabL, if_pos h]
theorem not_step {P : Nat → Bool} {i : Nat} (h : ¬ P i = true) : tabL P (i + 1) = tabL P i := by rw [tabL, if_neg h, Nat.or_zero]
theorem people_nat {p : Int} (h0 : 1 ≤ p) (h1 : p ≤ 4) : ∃ q : Nat, p = (q : Int) ∧ 1 ≤ q ∧ q ≤ 4 ∧ 2 ^ q ≤ 16 ∧ p.toNat = q := by
 obtain ⟨q, rfl⟩ := Int.eq_ofNat_of_zero_le (show 0 ≤ p by omega)
 refine ⟨q, rfl, by omega, by omega, ?_, by simp⟩
 have : (2 : Nat) ^ q ≤ 2 ^ 4 := Nat.pow_le_pow_right (by decide) (by omega)
 omega
end Go.Proofs.Ytpampekijfjlkaa.L

-- printed by a program of this session's (xprint)
namespace Go.Proofs.Ytpampekijfjlkaa.X
open Go.RowKit Go.Proofs.YtpampekijfjlkaaW.PrintWords Go.Proofs.YtpampekijfjlkaaW.PrintLast Go.Proofs.YtpampekijfjlkaaW.PrintMore
attribute [local go_sem] max2_int min2_int max_two min_two max_three min_three max_four min_four   -- for this text's walks alone
set_option linter.unusedVariables false
set_option linter.unusedSimpArgs false

/-! ### spec_WorldOk: function 97 -/
def spec_WorldOk.f (a0 : Int) (a1 : Int) : Option (Bool) := (spec_l1In.f a0 1 4).bind fun t348 => (if t348 = true then (if 0 ≤ a0 then ((spec_l1In.f a1 0 (wrap64 ((shl .i64 1 a0) - 1))).bind fun t349 => (some t349)) else (none)) else (some false))
set_option maxHeartbeats 8000000 in
set_option maxRecDepth 100000 in
theorem spec_WorldOk.calls (a0 : Int) (a1 : Int) (r : Bool) (w : World) (h : spec_WorldOk.f a0 a1 = some r) :
  Calls Try.prog 97 #[.int .i64 a0, .int .i64 a1] w fun e w' => e = .returned (.bool r) ∧ Drawn0 w w' := by
 have H : ((spec_l1In.f a0 1 4).bind fun t348 => (if t348 = true then (if 0 ≤ a0 then ((spec_l1In.f a1 0 (wrap64 ((shl .i64 1 a0) - 1))).bind fun t349 => (some t349)) else (none)) else (some false))) = some r := h
 clear h
 replace H := Option.bind_eq_some_iff.mp H
 obtain ⟨t348, A30, H⟩ := H
 replace H : (if t348 = true then (if 0 ≤ a0 then ((spec_l1In.f a1 0 (wrap64 ((shl .i64 1 a0) - 1))).bind fun t349 => (some t349)) else (none)) else (some false)) = some r := H
 have A3 := Aside0.mk A30
 clear A30
 by_cases c4 : t348 = true
 ·subst c4
  have H1 : (if 0 ≤ a0 then ((spec_l1In.f a1 0 (wrap64 ((shl .i64 1 a0) - 1))).bind fun t349 => (some t349)) else (none)) = some r := by rw [if_pos rfl] at H; exact H
  clear H
  have H := H1
  clear H1
  by_cases c5 : 0 ≤ a0
  ·rw [if_pos c5] at H
   have c5b0 := eq_true c5
   have c5b1 : decide (0 ≤ a0) = true := decide_eq_true c5
   clear c5
   obtain ⟨ji6, hji6⟩ : ∃ j_ : Int, (shl .i64 1 a0) = j_ := ⟨_, rfl⟩
   replace H : ((spec_l1In.f a1 0 (wrap64 ((ji6) - 1))).bind fun t349 => (some t349)) = some r := by first | (rw [hji6] at H; exact H) | (simp only [hji6] at H ⊢; exact H)
   (try rw [hji6] at A3)
   have hji6_ : (IntKind.i64.wrap (1 * 2 ^ min a0.toNat 64)) = ji6 := hji6
   have hji6z : a0 ≤ 64 → (IntKind.i64.wrap (1 * 2 ^ a0.toNat)) = ji6 := shl_small hji6
   have hji6u : (IntKind.i64.wrap (2 ^ min a0.toNat 64)) = ji6 := by have h_ := hji6_; rw [Int.one_mul] at h_; exact h_
   have hji6v : a0 ≤ 64 → (IntKind.i64.wrap (2 ^ a0.toNat)) = ji6 := fun hle_ => by have h_ := hji6z hle_; rw [Int.one_mul] at h_; exact h_
   have hji6y : (wrap64 (1 * 2 ^ min a0.toNat 64)) = ji6 := (i64_w _).symm.trans hji6_
   have hji6x : a0 ≤ 64 → (wrap64 (1 * 2 ^ a0.toNat)) = ji6 := fun h_ => (i64_w _).symm.trans (hji6z h_)
   replace H := Option.bind_eq_some_iff.mp H
   obtain ⟨t349, A70, H⟩ := H
   replace H : (some t349) = some r := H
   have A7 := Aside0.mk A70
   clear A70
   obtain rfl := Option.some.inj H
   go_enter Try.func97, Try.ntmps97
   go_wp2_with (first | ((with_reducible refine gate_callee (f := 98) rfl ?_); refine goesL_ (some 6) rfl rfl Try.func98 (by kernel_rfl) rfl #[.int .i64 a0, .int .i64 1, .int .i64 4] rfl (by (try simp only [List.map_toArray, List.map_cons, List.map_nil]); first | done | rfl | (simp only [List.length_drop, List.length_take]; rfl)) ?_; (with_reducible refine (spec_l1In.calls a0 1 4 true _ A3.out).mono ?_); rintro e w' ⟨rfl, ⟨nd, rfl⟩⟩; refine ⟨_, rfl, ?_⟩) | (go_at_call 98; (with_reducible refine (spec_l1In.calls a1 0 (wrap64 ((ji6) - 1)) t349 _ A7.out).mono ?_); rintro e w' ⟨rfl, ⟨nd, rfl⟩⟩))
   go_ret
   exact ⟨by first | rfl | (simp; done) | (simp only [← hji6] <;> (first | rfl | simp)) | (simp [*]; done), by repeat (first | exact Drawn0.refl _ | apply Drawn0.step)⟩
  ·rw [if_neg c5] at H
   exact absurd H (by simp)
 ·replace c4 := Bool.eq_false_iff.mpr c4
  subst c4
  have H1 : (some false) = some r := by rw [if_neg (show ¬ (false = true) by decide)] at H; exact H
  clear H
  have H := H1
  clear H1
  obtain rfl := Option.some.inj H
  go_enter Try.func97, Try.ntmps97
  go_wp2_with (first | ((with_reducible refine gate_callee (f := 98) rfl ?_); refine goesL_ (some 6) rfl rfl Try.func98 (by kernel_rfl) rfl #[.int .i64 a0, .int .i64 1, .int .i64 4] rfl (by (try simp only [List.map_toArray, List.map_cons, List.map_nil]); first | done | rfl | (simp only [List.length_drop, List.length_take]; rfl)) ?_; (with_reducible refine (spec_l1In.calls a0 1 4 false _ A3.out).mono ?_); rintro e w' ⟨rfl, ⟨nd, rfl⟩⟩; refine ⟨_, rfl, ?_⟩))
  go_ret
  exact ⟨by first | rfl | (simp; done) | (simp [*]; done), by repeat (first | exact Drawn0.refl _ | apply Drawn0.step)⟩

end Go.Proofs.Ytpampekijfjlkaa.X

/- Plain laws of worlds: which are ones. -/
namespace Go.Proofs.Ytpampekijfjlkaa.L
open Go.RowKit Go.Proofs.Ytpampekijfjlkaa.X Go.Proofs.YtpampekijfjlkaaW.PrintWords Go.Proofs.YtpampekijfjlkaaW.PrintLast Go.Proofs.YtpampekijfjlkaaW.PrintMore

/-- A world of so many people. -/
def wok (p w : Int) : Bool := decide (1 ≤ p ∧ p ≤ 4 ∧ 0 ≤ w ∧ w < ((2 ^ p.toNat : Nat) : Int))
theorem wok_iff {p w : Int} : wok p w = true ↔ 1 ≤ p ∧ p ≤ 4 ∧ 0 ≤ w ∧ w < ((2 ^ p.toNat : Nat) : Int) := by unfold wok; simp
theorem wok_nat {p w : Int} (h : wok p w = true) : ∃ v : Nat, w = (v : Int) ∧ v < 16 ∧ v < 2 ^ p.toNat := by
 obtain ⟨h0, h1, h2, h3⟩ := wok_iff.1 h
 obtain ⟨q, rfl, _, _, hq, e⟩ := people_nat h0 h1
 obtain ⟨v, rfl⟩ := Int.eq_ofNat_of_zero_le h2
 rw [e] at h3 ⊢
 exact ⟨v, rfl, by omega, by omega⟩
theorem impl_WorldOk_eq (p w : Int) : impl_WorldOk.f p w = some (wok p w) := by
 unfold impl_WorldOk.f
 simp only [peopleOk_eq, Option.bind_some]
 by_cases h : 1 ≤ p ∧ p ≤ 4
 ·obtain ⟨q, rfl, _, hq4, hq, e⟩ := people_nat h.1 h.2
  rw [if_pos (decide_eq_true h)]
  by_cases h0 : w ≥ 0
  ·rw [if_pos h0, if_pos (by omega), shl_nat (by omega)]
   congr 1
   unfold wok
   rw [e]
   exact decide_eq_decide.mpr ⟨fun hw => ⟨h.1, h.2, h0, hw⟩, fun hw => hw.2.2.2⟩
  ·rw [if_neg h0]
   congr 1
   exact (decide_eq_false (fun hw => h0 hw.2.2.1)).symm
 ·rw [if_neg (by simpa using h)]
  congr 1
  exact (decide_eq_false (fun hw => h ⟨hw.1, hw.2.1⟩)).symm
theorem spec_WorldOk_eq (p w : Int) : spec_WorldOk.f p w = some (wok p w) := by
 unfold spec_WorldOk.f
 simp only [l1In_eq, Option.bind_some]
 by_cases h : 1 ≤ p ∧ p ≤ 4
 ·obtain ⟨q, rfl, _, hq4, hq, e⟩ := people_nat h.1 h.2
  have hpos : 1 ≤ 2 ^ q := Nat.one_le_two_pow
  rw [if_pos (decide_eq_true h), if_pos (by omega), shl_nat (by omega), w64 (by omega) (by omega)]
  congr 1
  unfold wok
  rw [e]
  exact decide_eq_decide.mpr ⟨fun hw => ⟨h.1, h.2, hw.1, by omega⟩, fun hw => ⟨hw.2.2.1, by omega⟩⟩
 ·rw [if_neg (by simpa using h)]
  congr 1
  exact (decide_eq_false (fun hw => h ⟨hw.1, hw.2.1⟩)).symm
end Go.Proofs.Ytpampekijfjlkaa.L
