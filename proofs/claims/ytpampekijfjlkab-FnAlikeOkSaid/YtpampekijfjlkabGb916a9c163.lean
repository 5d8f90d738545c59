/- Joined by a program of this session's: X103, LTR, LC, LCT, LDAL, LH, LTB, X57, LW, LSM, LANI, LALB, LMA, LHW, LBI, LSAB. -/
import Derived.Test.YtpampekijfjlkabGe7d4a93f51
import Derived.Test.YtpampekijfjlkabG9a6cbb595c
import Derived.Test.YtpampekijfjlkabG9aadd067b4
import Derived.Test.YtpampekijfjlkabG0ccbcdc357
import Derived.Test.YtpampekijfjlkabG6da7e4d7f1
import Derived.Test.YtpampekijfjlkabG4ef0f5f23a
import Derived.Laws.BitsLemmas

namespace Go.Proofs.Ytpampekijfjlkab.X
open Go.RowKit Go.Proofs.YtpampekijfjlkabW.PrintWords Go.Proofs.YtpampekijfjlkabW.PrintLast Go.Proofs.YtpampekijfjlkabW.PrintMore
attribute [local go_sem] max2_int min2_int max_two min_two max_three min_three max_four min_four   -- for this text's walks alone
set_option linter.unusedVariables false
set_option linter.unusedSimpArgs false
/-! ### laws_FnAlikeOk: function 11 -/
def laws_FnAlikeOk.j0 : Nat → Int → Int → List (S33) → Bool → Bool → Option (Bool)
 | 0, _, _, _, _, _ => none
 | k + 1, x3, x4, x5, x6, x41 => if x41 = true then (if x6 = true then (some false) else ((laws_alive.f).bind fun t109 => (some t109))) else ((impl_TrickTerm.f k x3 x4 x5).bind fun bt110 => ((impl_MatterIn.f k x3 x5).bind fun t114 => (if 0 ≤ x4 then (if bt110.2 = true then ((impl_AlikeOk.f k x3 x4 bt110.1).bind fun t115 => (if (t115 == (!((Int.tmod (shr .i64 t114 x4) 2) == 1))) = true then (if x6 = true then (if (Int.tmod (shr .i64 t114 x4) 2) = 1 then ((laws_alive.f).bind fun t116 => (some t116)) else (some false)) else ((laws_alive.f).bind fun t117 => (some t117))) else (some false))) else (if x6 = true then (if (Int.tmod (shr .i64 t114 x4) 2) = 1 then ((laws_alive.f).bind fun t118 => (some t118)) else (some false)) else ((laws_alive.f).bind fun t119 => (some t119)))) else (none))))
def laws_FnAlikeOk.f (k : Nat) (l0 : List Int) : Option (Bool) := if (l0.length : Int) > 1048576 then (some true) else ((spec_DrawAlikeOk.f k l0).bind fun bt101 => ((impl_AlikeOk.f k bt101.1 bt101.2.1 bt101.2.2).bind fun t106 => ((spec_AlikeOk.f k bt101.1 bt101.2.1 bt101.2.2).bind fun t107 => (if (t106 != t107) = true then (some false) else ((spec_TermOk.f k bt101.1 bt101.2.2).bind fun t108 => (if t108 = true then (if bt101.2.1 < 0 then (laws_FnAlikeOk.j0 k bt101.1 bt101.2.1 bt101.2.2 t106 true) else (laws_FnAlikeOk.j0 k bt101.1 bt101.2.1 bt101.2.2 t106 (decide (bt101.2.1 ≥ bt101.1)))) else (laws_FnAlikeOk.j0 k bt101.1 bt101.2.1 bt101.2.2 t106 true)))))))
theorem laws_FnAlikeOk.mono_l : ∀ k, (∀ y0 y1 y2 y3 y4, LeO (laws_FnAlikeOk.j0 k y0 y1 y2 y3 y4) (laws_FnAlikeOk.j0 (k + 1) y0 y1 y2 y3 y4))
 | 0 => fun _ _ _ _ _ r h => by simp [laws_FnAlikeOk.j0] at h
 | k + 1 => by
  have ih0 := laws_FnAlikeOk.mono_l k
  ·intro y0 y1 y2 y3 y4
   unfold laws_FnAlikeOk.j0
   repeat' first
   | (with_reducible exact ih0 _ _ _ _ _)
   | (with_reducible exact impl_AlikeOk.mono _ _ _ _)
   | (with_reducible exact impl_MatterIn.mono _ _ _)
   | (with_reducible exact impl_TrickTerm.mono _ _ _ _)
   | (with_reducible exact spec_AlikeOk.mono _ _ _ _)
   | (with_reducible exact spec_DrawAlikeOk.mono _ _)
   | (with_reducible exact spec_TermOk.mono _ _ _)
   | (with_reducible exact LeO.refl _)
   | (with_reducible exact LeO.none _)
   | (with_reducible refine LeO.ite ?_ ?_)
   | (with_reducible refine LeO.bind ?_ (fun _ => ?_))
   | exact ih0 _ _ _ _ _
   | exact impl_AlikeOk.mono _ _ _ _
   | exact impl_MatterIn.mono _ _ _
   | exact impl_TrickTerm.mono _ _ _ _
   | exact spec_AlikeOk.mono _ _ _ _
   | exact spec_DrawAlikeOk.mono _ _
   | exact spec_TermOk.mono _ _ _
   | exact LeO.none _
   | refine LeO.ite ?_ ?_
   | refine LeO.bind ?_ (fun _ => ?_)
theorem laws_FnAlikeOk.mono : ∀ a0 k, LeO (laws_FnAlikeOk.f k a0) (laws_FnAlikeOk.f (k + 1) a0) := by
 intro a0 k
 have ih0 := laws_FnAlikeOk.mono_l k
 unfold laws_FnAlikeOk.f
 repeat' first
   | (with_reducible exact ih0 _ _ _ _ _)
   | (with_reducible exact impl_AlikeOk.mono _ _ _ _)
   | (with_reducible exact impl_MatterIn.mono _ _ _)
   | (with_reducible exact impl_TrickTerm.mono _ _ _ _)
   | (with_reducible exact spec_AlikeOk.mono _ _ _ _)
   | (with_reducible exact spec_DrawAlikeOk.mono _ _)
   | (with_reducible exact spec_TermOk.mono _ _ _)
   | (with_reducible exact LeO.refl _)
   | (with_reducible exact LeO.none _)
   | (with_reducible refine LeO.ite ?_ ?_)
   | (with_reducible refine LeO.bind ?_ (fun _ => ?_))
   | exact ih0 _ _ _ _ _
   | exact impl_AlikeOk.mono _ _ _ _
   | exact impl_MatterIn.mono _ _ _
   | exact impl_TrickTerm.mono _ _ _ _
   | exact spec_AlikeOk.mono _ _ _ _
   | exact spec_DrawAlikeOk.mono _ _
   | exact spec_TermOk.mono _ _ _
   | exact LeO.none _
   | refine LeO.ite ?_ ?_
   | refine LeO.bind ?_ (fun _ => ?_)
set_option maxHeartbeats 8000000 in
set_option maxRecDepth 100000 in
theorem laws_FnAlikeOk.calls (k : Nat) (A0 : Option Addr) (c0 : Nat) (l0 : List Int) (r : Bool) (w : World) (hr0 : Kd.C (Kd.int .u8) w A0 l0.length l0) (hc0 : l0.length ≤ c0) (hr_ : Aside0 (r = true)) (h : laws_FnAlikeOk.f k l0 = some r) :
  Calls Try.prog 11 #[.slice A0 l0.length c0] w fun e w' => e = .returned (.bool r) ∧ Below w.heap.size w w' := by
 have HR0 := Aside0.mk hr0
 have HC0 := Aside0.mk hc0
 clear hr0 hc0
 have HB := Aside0.mk (Below.refl w.heap.size w)
 have H : (if (l0.length : Int) > 1048576 then (some true) else ((spec_DrawAlikeOk.f k l0).bind fun bt101 => ((impl_AlikeOk.f k bt101.1 bt101.2.1 bt101.2.2).bind fun t106 => ((spec_AlikeOk.f k bt101.1 bt101.2.1 bt101.2.2).bind fun t107 => (if (t106 != t107) = true then (some false) else ((spec_TermOk.f k bt101.1 bt101.2.2).bind fun t108 => (if t108 = true then (if bt101.2.1 < 0 then (laws_FnAlikeOk.j0 k bt101.1 bt101.2.1 bt101.2.2 t106 true) else (laws_FnAlikeOk.j0 k bt101.1 bt101.2.1 bt101.2.2 t106 (decide (bt101.2.1 ≥ bt101.1)))) else (laws_FnAlikeOk.j0 k bt101.1 bt101.2.1 bt101.2.2 t106 true)))))))) = some r := h
 clear h
 by_cases c2 : (l0.length : Int) > 1048576
 ·rw [if_pos c2] at H
  have c2b0 : decide (1048576 < (l0.length : Int)) = true := decide_eq_true c2
  have c2b1 : decide (1048576 < l0.length) = true := decide_eq_true (by omega)
  clear c2
  obtain rfl := Option.some.inj H
  go_enter Try.func11, Try.ntmps11
  go_wp2
  go_ret
  exact ⟨by first | rfl | (simp [errW_none, errW_some] <;> rfl) | (simp [*, errW_none, errW_some] <;> rfl), by repeat (first | (with_reducible first | exact HB.out | apply below_alloc | apply pw_below_drewN | apply below_drew1) | exact HB.out)⟩
 ·rw [if_neg c2] at H
  have c2b0 : decide (1048576 < (l0.length : Int)) = false := decide_eq_false c2
  have c2b1 : decide (1048576 < l0.length) = false := decide_eq_false (by omega)
  clear c2
  replace H := Option.bind_eq_some_iff.mp H
  obtain ⟨⟨t101, t102, t103⟩, A30, H⟩ := H
  replace H : ((impl_AlikeOk.f k t101 t102 t103).bind fun t106 => ((spec_AlikeOk.f k t101 t102 t103).bind fun t107 => (if (t106 != t107) = true then (some false) else ((spec_TermOk.f k t101 t103).bind fun t108 => (if t108 = true then (if t102 < 0 then (laws_FnAlikeOk.j0 k t101 t102 t103 t106 true) else (laws_FnAlikeOk.j0 k t101 t102 t103 t106 (decide (t102 ≥ t101)))) else (laws_FnAlikeOk.j0 k t101 t102 t103 t106 true)))))) = some r := H
  have A3 := Aside0.mk A30
  clear A30
  replace H := Option.bind_eq_some_iff.mp H
  obtain ⟨t106, A40, H⟩ := H
  replace H : ((spec_AlikeOk.f k t101 t102 t103).bind fun t107 => (if (t106 != t107) = true then (some false) else ((spec_TermOk.f k t101 t103).bind fun t108 => (if t108 = true then (if t102 < 0 then (laws_FnAlikeOk.j0 k t101 t102 t103 t106 true) else (laws_FnAlikeOk.j0 k t101 t102 t103 t106 (decide (t102 ≥ t101)))) else (laws_FnAlikeOk.j0 k t101 t102 t103 t106 true))))) = some r := H
  have A4 := Aside0.mk A40
  clear A40
  replace H := Option.bind_eq_some_iff.mp H
  obtain ⟨t107, A50, H⟩ := H
  replace H : (if (t106 != t107) = true then (some false) else ((spec_TermOk.f k t101 t103).bind fun t108 => (if t108 = true then (if t102 < 0 then (laws_FnAlikeOk.j0 k t101 t102 t103 t106 true) else (laws_FnAlikeOk.j0 k t101 t102 t103 t106 (decide (t102 ≥ t101)))) else (laws_FnAlikeOk.j0 k t101 t102 t103 t106 true)))) = some r := H
  have A5 := Aside0.mk A50
  clear A50
  by_cases c6 : (t106 != t107) = true
  ·rw [if_pos c6] at H
   have c6b0 : (t106 != t107) = true := c6
   (try (have c6b1 : decide (t106 = t107) = false := by simpa using c6))
   (try (have c6b2 : (t106 == t107) = false := by simpa using c6))
   (try (have c6b3 : ¬ (t106 = t107) := by simpa using c6))
   clear c6
   exact absurd ((Option.some.inj H).trans hr_.out) (by decide)
  ·rw [if_neg c6] at H
   have c6b0 : (t106 != t107) = false := by simpa using c6
   (try (have c6b1 : decide (t106 = t107) = true := by simpa using c6))
   (try (have c6b2 : (t106 == t107) = true := by simpa using c6))
   clear c6
   have HC7 := Aside0.mk H
   clear H
   go_enter Try.func11, Try.ntmps11
   go_upto_region 7 with (first | ((with_reducible refine gate_callee (f := 65) rfl ?_); refine goesL_ (some 15) rfl rfl Try.func65 (by kernel_rfl) rfl #[.slice A0 l0.length c0] rfl (by (try simp only [List.map_toArray, List.map_cons, List.map_nil]); first | done | rfl | (simp only [List.length_drop, List.length_take]; rfl)) ?_; (with_reducible refine (spec_DrawAlikeOk.calls k _ _ l0 t101 t102 t103 _ ?side1 ?side2 A3.out).mono ?_); (case side1 => repeat (first | exact HR0.out | (with_reducible refine Kd.C_alloc ?_ _) | (with_reducible refine Kd.C_drewN ?_ _) | (with_reducible refine Kd.C_drew ?_))); (case side2 => exact HC0.out); rintro e w8 ⟨v104, rfl, ho0, hb⟩; refine ⟨_, rfl, ?_⟩; have n0_ := Aside0.mk (Kd.R_lower ho0 (below_size (by repeat (first | (with_reducible first | exact HB.out | apply below_alloc | apply pw_below_drewN | apply below_drew1) | exact HB.out)))); have n1_ := Aside0.mk (below_step (by repeat (first | (with_reducible first | exact HB.out | apply below_alloc | apply pw_below_drewN | apply below_drew1) | exact HB.out)) hb); clear HB; have HO105 := n0_; have HB := n1_; clear n0_ n1_; (try clear hb); (try clear hb2); (try clear hk); (try clear hi); (try clear ho0); obtain ⟨Ao9, co9, eo9⟩ := Kd.R_slice HO105.out; subst eo9) | ((with_reducible refine gate_callee (f := 66) rfl ?_); refine goesL_ (some 22) rfl rfl Try.func66 (by kernel_rfl) rfl #[.int .i64 t101, .int .i64 t102, .slice Ao9 t103.length co9] rfl (by (try simp only [List.map_toArray, List.map_cons, List.map_nil]); first | done | rfl | (simp only [List.length_drop, List.length_take]; rfl)) ?_; (with_reducible refine (impl_AlikeOk.calls k t101 t102 _ _ t103 t106 _ ?side1 ?side2 A4.out).mono ?_); (case side1 => repeat (first | exact (Kd.R_reads' HO105.out).2.2 | (with_reducible refine Kd.C_alloc ?_ _) | (with_reducible refine Kd.C_drewN ?_ _) | (with_reducible refine Kd.C_drew ?_))); (case side2 => exact (Kd.R_reads' HO105.out).2.1); rintro e w10 ⟨rfl, hb⟩; refine ⟨_, rfl, ?_⟩; have n0_ := Aside0.mk (Kd.R_below (by (with_reducible repeat (first | apply Kd.R_alloc | apply Kd.R_drewN | apply Kd.R_drew)); exact HO105.out) hb); have n1_ := Aside0.mk (below_step (by repeat (first | (with_reducible first | exact HB.out | apply below_alloc | apply pw_below_drewN | apply below_drew1) | exact HB.out)) hb); clear HO105; clear HB; have HO105 := n0_; have HB := n1_; clear n0_ n1_; (try clear hb); (try clear hb2); (try clear hk); (try clear hi)) | ((with_reducible refine gate_callee (f := 67) rfl ?_); refine goesL_ (some 27) rfl rfl Try.func67 (by kernel_rfl) rfl #[.int .i64 t101, .int .i64 t102, .slice Ao9 t103.length co9] rfl (by (try simp only [List.map_toArray, List.map_cons, List.map_nil]); first | done | rfl | (simp only [List.length_drop, List.length_take]; rfl)) ?_; (with_reducible refine (spec_AlikeOk.calls k t101 t102 _ _ t103 t107 _ ?side1 ?side2 A5.out).mono ?_); (case side1 => repeat (first | exact (Kd.R_reads' HO105.out).2.2 | (with_reducible refine Kd.C_alloc ?_ _) | (with_reducible refine Kd.C_drewN ?_ _) | (with_reducible refine Kd.C_drew ?_))); (case side2 => exact (Kd.R_reads' HO105.out).2.1); rintro e w11 ⟨rfl, hb⟩; refine ⟨_, rfl, ?_⟩; have n0_ := Aside0.mk (Kd.R_below (by (with_reducible repeat (first | apply Kd.R_alloc | apply Kd.R_drewN | apply Kd.R_drew)); exact HO105.out) hb); have n1_ := Aside0.mk (below_step (by repeat (first | (with_reducible first | exact HB.out | apply below_alloc | apply pw_below_drewN | apply below_drew1) | exact HB.out)) hb); clear HO105; clear HB; have HO105 := n0_; have HB := n1_; clear n0_ n1_; (try clear hb); (try clear hb2); (try clear hk); (try clear hi)))
   (try simp only [Act.put, List.setIfInBounds_toArray, List.set_cons_zero, List.set_cons_succ])
   go_cut [41] (fun v41 wc => ∃ (kq : Nat) (x41_6 : Bool), v41 = .bool x41_6 ∧ Aside0 (laws_FnAlikeOk.j0 kq t101 t102 t103 t106 x41_6 = some r) ∧ Aside0 (kq ≤ k) ∧ Aside0 (Kd.R k33 33 wc w.heap.size (fun _ => True) (.slice Ao9 t103.length co9) t103) ∧ Aside0 (Below w.heap.size w wc))
   case first =>
    have H := HC7.out
    clear HC7
    replace H := Option.bind_eq_some_iff.mp H
    obtain ⟨t108, A120, H⟩ := H
    replace H : (if t108 = true then (if t102 < 0 then (laws_FnAlikeOk.j0 k t101 t102 t103 t106 true) else (laws_FnAlikeOk.j0 k t101 t102 t103 t106 (decide (t102 ≥ t101)))) else (laws_FnAlikeOk.j0 k t101 t102 t103 t106 true)) = some r := H
    have A12 := Aside0.mk A120
    clear A120
    by_cases c13 : t108 = true
    ·subst c13
     have H1 : (if t102 < 0 then (laws_FnAlikeOk.j0 k t101 t102 t103 t106 true) else (laws_FnAlikeOk.j0 k t101 t102 t103 t106 (decide (t102 ≥ t101)))) = some r := by rw [if_pos rfl] at H; exact H
     clear H
     have H := H1
     clear H1
     by_cases c14 : t102 < 0
     ·rw [if_pos c14] at H
      have c14b0 : decide (t102 < 0) = true := decide_eq_true c14
      clear c14
      (first | rw [c14b0] | (simp only [i64_w, i32_w]; rw [c14b0]) | skip)
      have H' := Aside0.mk H
      clear H
      go_wp2_with (first | ((with_reducible refine gate_callee (f := 68) rfl ?_); refine goesL_ (some 31) rfl rfl Try.func68 (by kernel_rfl) rfl #[.int .i64 t101, .slice Ao9 t103.length co9] rfl (by (try simp only [List.map_toArray, List.map_cons, List.map_nil]); first | done | rfl | (simp only [List.length_drop, List.length_take]; rfl)) ?_; (with_reducible refine (spec_TermOk.calls k t101 _ _ t103 true _ ?side1 ?side2 A12.out).mono ?_); (case side1 => repeat (first | exact (Kd.R_reads' HO105.out).2.2 | (with_reducible refine Kd.C_alloc ?_ _) | (with_reducible refine Kd.C_drewN ?_ _) | (with_reducible refine Kd.C_drew ?_))); (case side2 => exact (Kd.R_reads' HO105.out).2.1); rintro e w' ⟨rfl, ⟨nd, rfl⟩⟩; refine ⟨_, rfl, ?_⟩))
      go_meet
      case rel => exact ⟨_, (true), (by first | rfl | (simp; done) | (simp [*]; done)), H', ⟨by first | omega | exact Nat.le_refl _⟩, ⟨by (with_reducible repeat (first | apply Kd.R_alloc | apply Kd.R_drewN | apply Kd.R_drew)); exact HO105.out⟩, ⟨by repeat (first | (with_reducible first | exact HB.out | apply below_alloc | apply pw_below_drewN | apply below_drew1) | exact HB.out)⟩⟩
     ·rw [if_neg c14] at H
      have c14b0 : decide (t102 < 0) = false := decide_eq_false c14
      clear c14
      (first | rw [c14b0] | (simp only [i64_w, i32_w]; rw [c14b0]) | skip)
      have H' := Aside0.mk H
      clear H
      go_wp2_with (first | ((with_reducible refine gate_callee (f := 68) rfl ?_); refine goesL_ (some 31) rfl rfl Try.func68 (by kernel_rfl) rfl #[.int .i64 t101, .slice Ao9 t103.length co9] rfl (by (try simp only [List.map_toArray, List.map_cons, List.map_nil]); first | done | rfl | (simp only [List.length_drop, List.length_take]; rfl)) ?_; (with_reducible refine (spec_TermOk.calls k t101 _ _ t103 true _ ?side1 ?side2 A12.out).mono ?_); (case side1 => repeat (first | exact (Kd.R_reads' HO105.out).2.2 | (with_reducible refine Kd.C_alloc ?_ _) | (with_reducible refine Kd.C_drewN ?_ _) | (with_reducible refine Kd.C_drew ?_))); (case side2 => exact (Kd.R_reads' HO105.out).2.1); rintro e w' ⟨rfl, ⟨nd, rfl⟩⟩; refine ⟨_, rfl, ?_⟩))
      go_meet
      case rel => exact ⟨_, (decide (t102 ≥ t101)), (by first | rfl | (simp; done) | (simp [*]; done)), H', ⟨by first | omega | exact Nat.le_refl _⟩, ⟨by (with_reducible repeat (first | apply Kd.R_alloc | apply Kd.R_drewN | apply Kd.R_drew)); exact HO105.out⟩, ⟨by repeat (first | (with_reducible first | exact HB.out | apply below_alloc | apply pw_below_drewN | apply below_drew1) | exact HB.out)⟩⟩
    ·replace c13 := Bool.eq_false_iff.mpr c13
     subst c13
     have H1 : (laws_FnAlikeOk.j0 k t101 t102 t103 t106 true) = some r := by rw [if_neg (show ¬ (false = true) by decide)] at H; exact H
     clear H
     have H := H1
     clear H1
     have H' := Aside0.mk H
     clear H
     go_wp2_with (first | ((with_reducible refine gate_callee (f := 68) rfl ?_); refine goesL_ (some 31) rfl rfl Try.func68 (by kernel_rfl) rfl #[.int .i64 t101, .slice Ao9 t103.length co9] rfl (by (try simp only [List.map_toArray, List.map_cons, List.map_nil]); first | done | rfl | (simp only [List.length_drop, List.length_take]; rfl)) ?_; (with_reducible refine (spec_TermOk.calls k t101 _ _ t103 false _ ?side1 ?side2 A12.out).mono ?_); (case side1 => repeat (first | exact (Kd.R_reads' HO105.out).2.2 | (with_reducible refine Kd.C_alloc ?_ _) | (with_reducible refine Kd.C_drewN ?_ _) | (with_reducible refine Kd.C_drew ?_))); (case side2 => exact (Kd.R_reads' HO105.out).2.1); rintro e w' ⟨rfl, ⟨nd, rfl⟩⟩; refine ⟨_, rfl, ?_⟩))
     go_meet
     case rel => exact ⟨_, (true), (by first | rfl | (simp; done) | (simp [*]; done)), H', ⟨by first | omega | exact Nat.le_refl _⟩, ⟨by (with_reducible repeat (first | apply Kd.R_alloc | apply Kd.R_drewN | apply Kd.R_drew)); exact HO105.out⟩, ⟨by repeat (first | (with_reducible first | exact HB.out | apply below_alloc | apply pw_below_drewN | apply below_drew1) | exact HB.out)⟩⟩
   case rest =>
    clear HC7
    try clear c1
    try clear c2
    try clear c2b0
    try clear c2b1
    try clear p2
    try clear c6
    try clear c6b0
    try clear c6b1
    try clear c6b2
    try clear c11
    try clear c13
    try clear c14
    try clear c14b0
    obtain ⟨kq, x41_6, rfl, HA, HJ6, HO_5, HB⟩ := hcut
    cases kq with
    | zero => exact absurd HA.out (by simp [laws_FnAlikeOk.j0])
    | succ kj6 =>
     have H := HA.out
     clear HA
     simp only [laws_FnAlikeOk.j0] at H
     by_cases c15 : x41_6 = true
     ·subst c15
      have H1 : (if t106 = true then (some false) else ((laws_alive.f).bind fun t109 => (some t109))) = some r := by rw [if_pos rfl] at H; exact H
      clear H
      have H := H1
      clear H1
      by_cases c16 : t106 = true
      ·subst c16
       have H1 : (some false) = some r := by rw [if_pos rfl] at H; exact H
       clear H
       have H := H1
       clear H1
       exact absurd ((Option.some.inj H).trans hr_.out) (by decide)
      ·replace c16 := Bool.eq_false_iff.mpr c16
       subst c16
       have H1 : ((laws_alive.f).bind fun t109 => (some t109)) = some r := by rw [if_neg (show ¬ (false = true) by decide)] at H; exact H
       clear H
       have H := H1
       clear H1
       replace H := Option.bind_eq_some_iff.mp H
       obtain ⟨t109, A170, H⟩ := H
       replace H : (some t109) = some r := H
       have A17 := Aside0.mk A170
       clear A170
       obtain rfl := Option.some.inj H
       go_wp2_with (first | (go_at_call 26; (with_reducible refine (laws_alive.calls  t109 _ A17.out).mono ?_); rintro e w' ⟨rfl, ⟨nd, rfl⟩⟩))
       go_ret
       exact ⟨by first | rfl | (simp [errW_none, errW_some] <;> rfl) | (simp [*, errW_none, errW_some] <;> rfl), by repeat (first | (with_reducible first | exact HB.out | apply below_alloc | apply pw_below_drewN | apply below_drew1) | exact HB.out)⟩
     ·replace c15 := Bool.eq_false_iff.mpr c15
      subst c15
      have H1 : ((impl_TrickTerm.f kj6 t101 t102 t103).bind fun bt110 => ((impl_MatterIn.f kj6 t101 t103).bind fun t114 => (if 0 ≤ t102 then (if bt110.2 = true then ((impl_AlikeOk.f kj6 t101 t102 bt110.1).bind fun t115 => (if (t115 == (!((Int.tmod (shr .i64 t114 t102) 2) == 1))) = true then (if t106 = true then (if (Int.tmod (shr .i64 t114 t102) 2) = 1 then ((laws_alive.f).bind fun t116 => (some t116)) else (some false)) else ((laws_alive.f).bind fun t117 => (some t117))) else (some false))) else (if t106 = true then (if (Int.tmod (shr .i64 t114 t102) 2) = 1 then ((laws_alive.f).bind fun t118 => (some t118)) else (some false)) else ((laws_alive.f).bind fun t119 => (some t119)))) else (none)))) = some r := by rw [if_neg (show ¬ (false = true) by decide)] at H; exact H
      clear H
      have H := H1
      clear H1
      replace H := Option.bind_eq_some_iff.mp H
      obtain ⟨⟨t110, t111⟩, A180, H⟩ := H
      replace H : ((impl_MatterIn.f kj6 t101 t103).bind fun t114 => (if 0 ≤ t102 then (if t111 = true then ((impl_AlikeOk.f kj6 t101 t102 t110).bind fun t115 => (if (t115 == (!((Int.tmod (shr .i64 t114 t102) 2) == 1))) = true then (if t106 = true then (if (Int.tmod (shr .i64 t114 t102) 2) = 1 then ((laws_alive.f).bind fun t116 => (some t116)) else (some false)) else ((laws_alive.f).bind fun t117 => (some t117))) else (some false))) else (if t106 = true then (if (Int.tmod (shr .i64 t114 t102) 2) = 1 then ((laws_alive.f).bind fun t118 => (some t118)) else (some false)) else ((laws_alive.f).bind fun t119 => (some t119)))) else (none))) = some r := H
      have A18 := Aside0.mk A180
      clear A180
      replace H := Option.bind_eq_some_iff.mp H
      obtain ⟨t114, A190, H⟩ := H
      replace H : (if 0 ≤ t102 then (if t111 = true then ((impl_AlikeOk.f kj6 t101 t102 t110).bind fun t115 => (if (t115 == (!((Int.tmod (shr .i64 t114 t102) 2) == 1))) = true then (if t106 = true then (if (Int.tmod (shr .i64 t114 t102) 2) = 1 then ((laws_alive.f).bind fun t116 => (some t116)) else (some false)) else ((laws_alive.f).bind fun t117 => (some t117))) else (some false))) else (if t106 = true then (if (Int.tmod (shr .i64 t114 t102) 2) = 1 then ((laws_alive.f).bind fun t118 => (some t118)) else (some false)) else ((laws_alive.f).bind fun t119 => (some t119)))) else (none)) = some r := H
      have A19 := Aside0.mk A190
      clear A190
      by_cases c20 : 0 ≤ t102
      ·rw [if_pos c20] at H
       have c20b0 := eq_true c20
       have c20b1 : decide (0 ≤ t102) = true := decide_eq_true c20
       clear c20
       obtain ⟨ji21, hji21⟩ : ∃ j_ : Int, (shr .i64 t114 t102) = j_ := ⟨_, rfl⟩
       replace H : (if t111 = true then ((impl_AlikeOk.f kj6 t101 t102 t110).bind fun t115 => (if (t115 == (!((Int.tmod (ji21) 2) == 1))) = true then (if t106 = true then (if (Int.tmod (ji21) 2) = 1 then ((laws_alive.f).bind fun t116 => (some t116)) else (some false)) else ((laws_alive.f).bind fun t117 => (some t117))) else (some false))) else (if t106 = true then (if (Int.tmod (ji21) 2) = 1 then ((laws_alive.f).bind fun t118 => (some t118)) else (some false)) else ((laws_alive.f).bind fun t119 => (some t119)))) = some r := by first | (rw [hji21] at H; exact H) | (simp only [hji21] at H ⊢; exact H)
       (try rw [hji21] at A18)
       (try rw [hji21] at A19)
       have hji21_ : (t114 / 2 ^ min t102.toNat 64) = ji21 := hji21
       have hji21z : t102 ≤ 64 → (t114 / 2 ^ t102.toNat) = ji21 := shr_small hji21
       by_cases c22 : t111 = true
       ·subst c22
        have H1 : ((impl_AlikeOk.f kj6 t101 t102 t110).bind fun t115 => (if (t115 == (!((Int.tmod (ji21) 2) == 1))) = true then (if t106 = true then (if (Int.tmod (ji21) 2) = 1 then ((laws_alive.f).bind fun t116 => (some t116)) else (some false)) else ((laws_alive.f).bind fun t117 => (some t117))) else (some false))) = some r := by rw [if_pos rfl] at H; exact H
        clear H
        have H := H1
        clear H1
        replace H := Option.bind_eq_some_iff.mp H
        obtain ⟨t115, A230, H⟩ := H
        replace H : (if (t115 == (!((Int.tmod (ji21) 2) == 1))) = true then (if t106 = true then (if (Int.tmod (ji21) 2) = 1 then ((laws_alive.f).bind fun t116 => (some t116)) else (some false)) else ((laws_alive.f).bind fun t117 => (some t117))) else (some false)) = some r := H
        have A23 := Aside0.mk A230
        clear A230
        by_cases c24 : (t115 == (!((Int.tmod (ji21) 2) == 1))) = true
        ·rw [if_pos c24] at H
         have c24b0 : (t115 == (!((Int.tmod (ji21) 2) == 1))) = true := c24
         (try (have c24b1 : decide (t115 = (!((Int.tmod (ji21) 2) == 1))) = true := by simpa using c24))
         (try (have c24b2 : (t115 == (!((Int.tmod (ji21) 2) == 1))) = true := by simpa using c24))
         clear c24
         by_cases c25 : t106 = true
         ·subst c25
          have H1 : (if (Int.tmod (ji21) 2) = 1 then ((laws_alive.f).bind fun t116 => (some t116)) else (some false)) = some r := by rw [if_pos rfl] at H; exact H
          clear H
          have H := H1
          clear H1
          by_cases c26 : (Int.tmod (ji21) 2) = 1
          ·rw [if_pos c26] at H
           have c26b0 : ((Int.tmod (ji21) 2) == 1) = true := beq_iff_eq.mpr c26
           have c26b1 : ((Int.tmod (ji21) 2) != 1) = false := bne_eq_false_iff_eq.mpr c26
           clear c26
           have hx_ : t115 = false := by simpa [c26b0] using c24b0
           replace H := Option.bind_eq_some_iff.mp H
           obtain ⟨t116, A270, H⟩ := H
           replace H : (some t116) = some r := H
           have A27 := Aside0.mk A270
           clear A270
           obtain rfl := Option.some.inj H
           go_wp2_with (first | ((with_reducible refine gate_callee (f := 69) rfl ?_); refine goesL_ (some 51) rfl rfl Try.func69 (by kernel_rfl) rfl #[.int .i64 t101, .int .i64 t102, .slice Ao9 t103.length co9] rfl (by (try simp only [List.map_toArray, List.map_cons, List.map_nil]); first | done | rfl | (simp only [List.length_drop, List.length_take]; rfl)) ?_; (with_reducible refine (impl_TrickTerm.calls kj6 t101 t102 _ _ t103 t110 true _ ?side1 ?side2 A18.out).mono ?_); (case side1 => repeat (first | exact (Kd.R_reads' HO_5.out).2.2 | (with_reducible refine Kd.C_alloc ?_ _) | (with_reducible refine Kd.C_drewN ?_ _) | (with_reducible refine Kd.C_drew ?_))); (case side2 => exact (Kd.R_reads' HO_5.out).2.1); rintro e w28 ⟨v112, rfl, ho0, hb⟩; refine ⟨_, rfl, ?_⟩; have n0_ := Aside0.mk (Kd.R_elder' (by (with_reducible repeat (first | apply Kd.R_alloc | apply Kd.R_drewN | apply Kd.R_drew)); exact HO_5.out) (Kd.R_base ho0) hb); have n1_ := Aside0.mk (Kd.R_lower (Kd.R_new' ho0 (Kd.R_lt (by (with_reducible repeat (first | apply Kd.R_alloc | apply Kd.R_drewN | apply Kd.R_drew)); exact HO_5.out))) (below_size (by repeat (first | (with_reducible first | exact HB.out | apply below_alloc | apply pw_below_drewN | apply below_drew1) | exact HB.out)))); have n2_ := Aside0.mk (below_step (by repeat (first | (with_reducible first | exact HB.out | apply below_alloc | apply pw_below_drewN | apply below_drew1) | exact HB.out)) hb); clear HO_5; clear HB; have HO_5 := n0_; have HO113 := n1_; have HB := n2_; clear n0_ n1_ n2_; (try clear hb); (try clear hb2); (try clear hk); (try clear hi); (try clear ho0)) | ((with_reducible refine gate_callee (f := 70) rfl ?_); refine goesL_ (some 56) rfl rfl Try.func70 (by kernel_rfl) rfl #[.int .i64 t101, .slice Ao9 t103.length co9] rfl (by (try simp only [List.map_toArray, List.map_cons, List.map_nil]); first | done | rfl | (simp only [List.length_drop, List.length_take]; rfl)) ?_; (with_reducible refine (impl_MatterIn.calls kj6 t101 _ _ t103 t114 _ ?side1 ?side2 A19.out).mono ?_); (case side1 => repeat (first | exact (Kd.R_reads' HO_5.out).2.2 | (with_reducible refine Kd.C_alloc ?_ _) | (with_reducible refine Kd.C_drewN ?_ _) | (with_reducible refine Kd.C_drew ?_))); (case side2 => exact (Kd.R_reads' HO_5.out).2.1); rintro e w29 ⟨rfl, hb⟩; refine ⟨_, rfl, ?_⟩; have n0_ := Aside0.mk (Kd.R_below (by (with_reducible repeat (first | apply Kd.R_alloc | apply Kd.R_drewN | apply Kd.R_drew)); exact HO_5.out) hb); have n1_ := Aside0.mk (Kd.R_below (by (with_reducible repeat (first | apply Kd.R_alloc | apply Kd.R_drewN | apply Kd.R_drew)); exact HO113.out) hb); have n2_ := Aside0.mk (below_step (by repeat (first | (with_reducible first | exact HB.out | apply below_alloc | apply pw_below_drewN | apply below_drew1) | exact HB.out)) hb); clear HO_5; clear HO113; clear HB; have HO_5 := n0_; have HO113 := n1_; have HB := n2_; clear n0_ n1_ n2_; (try clear hb); (try clear hb2); (try clear hk); (try clear hi); obtain ⟨Ao30, co30, eo30⟩ := Kd.R_slice HO113.out; subst eo30) | (go_at_call 66; (with_reducible refine (impl_AlikeOk.calls kj6 t101 t102 _ _ t110 t115 _ ?side1 ?side2 A23.out).mono ?_); (case side1 => repeat (first | exact (Kd.R_reads' HO113.out).2.2 | (with_reducible refine Kd.C_alloc ?_ _) | (with_reducible refine Kd.C_drewN ?_ _) | (with_reducible refine Kd.C_drew ?_))); (case side2 => exact (Kd.R_reads' HO113.out).2.1); rintro e w31 ⟨rfl, hb⟩; have n0_ := Aside0.mk (Kd.R_below (by (with_reducible repeat (first | apply Kd.R_alloc | apply Kd.R_drewN | apply Kd.R_drew)); exact HO_5.out) hb); have n1_ := Aside0.mk (Kd.R_below (by (with_reducible repeat (first | apply Kd.R_alloc | apply Kd.R_drewN | apply Kd.R_drew)); exact HO113.out) hb); have n2_ := Aside0.mk (below_step (by repeat (first | (with_reducible first | exact HB.out | apply below_alloc | apply pw_below_drewN | apply below_drew1) | exact HB.out)) hb); clear HO_5; clear HO113; clear HB; have HO_5 := n0_; have HO113 := n1_; have HB := n2_; clear n0_ n1_ n2_; (try clear hb); (try clear hb2); (try clear hk); (try clear hi)) | (go_at_call 26; (with_reducible refine (laws_alive.calls  t116 _ A27.out).mono ?_); rintro e w' ⟨rfl, ⟨nd, rfl⟩⟩))
           go_ret
           exact ⟨by first | rfl | (simp [errW_none, errW_some] <;> rfl) | (simp only [← hji21]; first | rfl | (simp [errW_none, errW_some] <;> rfl)) | (simp [*, errW_none, errW_some] <;> rfl), by repeat (first | (with_reducible first | exact HB.out | apply below_alloc | apply pw_below_drewN | apply below_drew1) | exact HB.out)⟩
          ·rw [if_neg c26] at H
           have c26b0 : ((Int.tmod (ji21) 2) == 1) = false := beq_eq_false_iff_ne.mpr c26
           have c26b1 : ((Int.tmod (ji21) 2) != 1) = true := bne_iff_ne.mpr c26
           exact absurd ((Option.some.inj H).trans hr_.out) (by decide)
         ·replace c25 := Bool.eq_false_iff.mpr c25
          subst c25
          have H1 : ((laws_alive.f).bind fun t117 => (some t117)) = some r := by rw [if_neg (show ¬ (false = true) by decide)] at H; exact H
          clear H
          have H := H1
          clear H1
          replace H := Option.bind_eq_some_iff.mp H
          obtain ⟨t117, A320, H⟩ := H
          replace H : (some t117) = some r := H
          have A32 := Aside0.mk A320
          clear A320
          obtain rfl := Option.some.inj H
          go_wp2_with (first | ((with_reducible refine gate_callee (f := 69) rfl ?_); refine goesL_ (some 51) rfl rfl Try.func69 (by kernel_rfl) rfl #[.int .i64 t101, .int .i64 t102, .slice Ao9 t103.length co9] rfl (by (try simp only [List.map_toArray, List.map_cons, List.map_nil]); first | done | rfl | (simp only [List.length_drop, List.length_take]; rfl)) ?_; (with_reducible refine (impl_TrickTerm.calls kj6 t101 t102 _ _ t103 t110 true _ ?side1 ?side2 A18.out).mono ?_); (case side1 => repeat (first | exact (Kd.R_reads' HO_5.out).2.2 | (with_reducible refine Kd.C_alloc ?_ _) | (with_reducible refine Kd.C_drewN ?_ _) | (with_reducible refine Kd.C_drew ?_))); (case side2 => exact (Kd.R_reads' HO_5.out).2.1); rintro e w33 ⟨v112, rfl, ho0, hb⟩; refine ⟨_, rfl, ?_⟩; have n0_ := Aside0.mk (Kd.R_elder' (by (with_reducible repeat (first | apply Kd.R_alloc | apply Kd.R_drewN | apply Kd.R_drew)); exact HO_5.out) (Kd.R_base ho0) hb); have n1_ := Aside0.mk (Kd.R_lower (Kd.R_new' ho0 (Kd.R_lt (by (with_reducible repeat (first | apply Kd.R_alloc | apply Kd.R_drewN | apply Kd.R_drew)); exact HO_5.out))) (below_size (by repeat (first | (with_reducible first | exact HB.out | apply below_alloc | apply pw_below_drewN | apply below_drew1) | exact HB.out)))); have n2_ := Aside0.mk (below_step (by repeat (first | (with_reducible first | exact HB.out | apply below_alloc | apply pw_below_drewN | apply below_drew1) | exact HB.out)) hb); clear HO_5; clear HB; have HO_5 := n0_; have HO113 := n1_; have HB := n2_; clear n0_ n1_ n2_; (try clear hb); (try clear hb2); (try clear hk); (try clear hi); (try clear ho0)) | ((with_reducible refine gate_callee (f := 70) rfl ?_); refine goesL_ (some 56) rfl rfl Try.func70 (by kernel_rfl) rfl #[.int .i64 t101, .slice Ao9 t103.length co9] rfl (by (try simp only [List.map_toArray, List.map_cons, List.map_nil]); first | done | rfl | (simp only [List.length_drop, List.length_take]; rfl)) ?_; (with_reducible refine (impl_MatterIn.calls kj6 t101 _ _ t103 t114 _ ?side1 ?side2 A19.out).mono ?_); (case side1 => repeat (first | exact (Kd.R_reads' HO_5.out).2.2 | (with_reducible refine Kd.C_alloc ?_ _) | (with_reducible refine Kd.C_drewN ?_ _) | (with_reducible refine Kd.C_drew ?_))); (case side2 => exact (Kd.R_reads' HO_5.out).2.1); rintro e w34 ⟨rfl, hb⟩; refine ⟨_, rfl, ?_⟩; have n0_ := Aside0.mk (Kd.R_below (by (with_reducible repeat (first | apply Kd.R_alloc | apply Kd.R_drewN | apply Kd.R_drew)); exact HO_5.out) hb); have n1_ := Aside0.mk (Kd.R_below (by (with_reducible repeat (first | apply Kd.R_alloc | apply Kd.R_drewN | apply Kd.R_drew)); exact HO113.out) hb); have n2_ := Aside0.mk (below_step (by repeat (first | (with_reducible first | exact HB.out | apply below_alloc | apply pw_below_drewN | apply below_drew1) | exact HB.out)) hb); clear HO_5; clear HO113; clear HB; have HO_5 := n0_; have HO113 := n1_; have HB := n2_; clear n0_ n1_ n2_; (try clear hb); (try clear hb2); (try clear hk); (try clear hi); obtain ⟨Ao35, co35, eo35⟩ := Kd.R_slice HO113.out; subst eo35) | (go_at_call 66; (with_reducible refine (impl_AlikeOk.calls kj6 t101 t102 _ _ t110 t115 _ ?side1 ?side2 A23.out).mono ?_); (case side1 => repeat (first | exact (Kd.R_reads' HO113.out).2.2 | (with_reducible refine Kd.C_alloc ?_ _) | (with_reducible refine Kd.C_drewN ?_ _) | (with_reducible refine Kd.C_drew ?_))); (case side2 => exact (Kd.R_reads' HO113.out).2.1); rintro e w36 ⟨rfl, hb⟩; have n0_ := Aside0.mk (Kd.R_below (by (with_reducible repeat (first | apply Kd.R_alloc | apply Kd.R_drewN | apply Kd.R_drew)); exact HO_5.out) hb); have n1_ := Aside0.mk (Kd.R_below (by (with_reducible repeat (first | apply Kd.R_alloc | apply Kd.R_drewN | apply Kd.R_drew)); exact HO113.out) hb); have n2_ := Aside0.mk (below_step (by repeat (first | (with_reducible first | exact HB.out | apply below_alloc | apply pw_below_drewN | apply below_drew1) | exact HB.out)) hb); clear HO_5; clear HO113; clear HB; have HO_5 := n0_; have HO113 := n1_; have HB := n2_; clear n0_ n1_ n2_; (try clear hb); (try clear hb2); (try clear hk); (try clear hi)) | (go_at_call 26; (with_reducible refine (laws_alive.calls  t117 _ A32.out).mono ?_); rintro e w' ⟨rfl, ⟨nd, rfl⟩⟩))
          go_ret
          exact ⟨by first | rfl | (simp [errW_none, errW_some] <;> rfl) | (simp only [← hji21]; first | rfl | (simp [errW_none, errW_some] <;> rfl)) | (simp [*, errW_none, errW_some] <;> rfl), by repeat (first | (with_reducible first | exact HB.out | apply below_alloc | apply pw_below_drewN | apply below_drew1) | exact HB.out)⟩
        ·rw [if_neg c24] at H
         have c24b0 : (t115 == (!((Int.tmod (ji21) 2) == 1))) = false := by simpa using c24
         (try (have c24b1 : decide (t115 = (!((Int.tmod (ji21) 2) == 1))) = false := by simpa using c24))
         (try (have c24b2 : (t115 == (!((Int.tmod (ji21) 2) == 1))) = false := by simpa using c24))
         (try (have c24b3 : ¬ (t115 = (!((Int.tmod (ji21) 2) == 1))) := by simpa using c24))
         clear c24
         exact absurd ((Option.some.inj H).trans hr_.out) (by decide)
       ·replace c22 := Bool.eq_false_iff.mpr c22
        subst c22
        have H1 : (if t106 = true then (if (Int.tmod (ji21) 2) = 1 then ((laws_alive.f).bind fun t118 => (some t118)) else (some false)) else ((laws_alive.f).bind fun t119 => (some t119))) = some r := by rw [if_neg (show ¬ (false = true) by decide)] at H; exact H
        clear H
        have H := H1
        clear H1
        by_cases c37 : t106 = true
        ·subst c37
         have H1 : (if (Int.tmod (ji21) 2) = 1 then ((laws_alive.f).bind fun t118 => (some t118)) else (some false)) = some r := by rw [if_pos rfl] at H; exact H
         clear H
         have H := H1
         clear H1
         by_cases c38 : (Int.tmod (ji21) 2) = 1
         ·rw [if_pos c38] at H
          have c38b0 : ((Int.tmod (ji21) 2) == 1) = true := beq_iff_eq.mpr c38
          have c38b1 : ((Int.tmod (ji21) 2) != 1) = false := bne_eq_false_iff_eq.mpr c38
          clear c38
          replace H := Option.bind_eq_some_iff.mp H
          obtain ⟨t118, A390, H⟩ := H
          replace H : (some t118) = some r := H
          have A39 := Aside0.mk A390
          clear A390
          obtain rfl := Option.some.inj H
          go_wp2_with (first | ((with_reducible refine gate_callee (f := 69) rfl ?_); refine goesL_ (some 51) rfl rfl Try.func69 (by kernel_rfl) rfl #[.int .i64 t101, .int .i64 t102, .slice Ao9 t103.length co9] rfl (by (try simp only [List.map_toArray, List.map_cons, List.map_nil]); first | done | rfl | (simp only [List.length_drop, List.length_take]; rfl)) ?_; (with_reducible refine (impl_TrickTerm.calls kj6 t101 t102 _ _ t103 t110 false _ ?side1 ?side2 A18.out).mono ?_); (case side1 => repeat (first | exact (Kd.R_reads' HO_5.out).2.2 | (with_reducible refine Kd.C_alloc ?_ _) | (with_reducible refine Kd.C_drewN ?_ _) | (with_reducible refine Kd.C_drew ?_))); (case side2 => exact (Kd.R_reads' HO_5.out).2.1); rintro e w40 ⟨v112, rfl, ho0, hb⟩; refine ⟨_, rfl, ?_⟩; have n0_ := Aside0.mk (Kd.R_elder' (by (with_reducible repeat (first | apply Kd.R_alloc | apply Kd.R_drewN | apply Kd.R_drew)); exact HO_5.out) (Kd.R_base ho0) hb); have n1_ := Aside0.mk (Kd.R_lower (Kd.R_new' ho0 (Kd.R_lt (by (with_reducible repeat (first | apply Kd.R_alloc | apply Kd.R_drewN | apply Kd.R_drew)); exact HO_5.out))) (below_size (by repeat (first | (with_reducible first | exact HB.out | apply below_alloc | apply pw_below_drewN | apply below_drew1) | exact HB.out)))); have n2_ := Aside0.mk (below_step (by repeat (first | (with_reducible first | exact HB.out | apply below_alloc | apply pw_below_drewN | apply below_drew1) | exact HB.out)) hb); clear HO_5; clear HB; have HO_5 := n0_; have HO113 := n1_; have HB := n2_; clear n0_ n1_ n2_; (try clear hb); (try clear hb2); (try clear hk); (try clear hi); (try clear ho0)) | ((with_reducible refine gate_callee (f := 70) rfl ?_); refine goesL_ (some 56) rfl rfl Try.func70 (by kernel_rfl) rfl #[.int .i64 t101, .slice Ao9 t103.length co9] rfl (by (try simp only [List.map_toArray, List.map_cons, List.map_nil]); first | done | rfl | (simp only [List.length_drop, List.length_take]; rfl)) ?_; (with_reducible refine (impl_MatterIn.calls kj6 t101 _ _ t103 t114 _ ?side1 ?side2 A19.out).mono ?_); (case side1 => repeat (first | exact (Kd.R_reads' HO_5.out).2.2 | (with_reducible refine Kd.C_alloc ?_ _) | (with_reducible refine Kd.C_drewN ?_ _) | (with_reducible refine Kd.C_drew ?_))); (case side2 => exact (Kd.R_reads' HO_5.out).2.1); rintro e w41 ⟨rfl, hb⟩; refine ⟨_, rfl, ?_⟩; have n0_ := Aside0.mk (Kd.R_below (by (with_reducible repeat (first | apply Kd.R_alloc | apply Kd.R_drewN | apply Kd.R_drew)); exact HO_5.out) hb); have n1_ := Aside0.mk (Kd.R_below (by (with_reducible repeat (first | apply Kd.R_alloc | apply Kd.R_drewN | apply Kd.R_drew)); exact HO113.out) hb); have n2_ := Aside0.mk (below_step (by repeat (first | (with_reducible first | exact HB.out | apply below_alloc | apply pw_below_drewN | apply below_drew1) | exact HB.out)) hb); clear HO_5; clear HO113; clear HB; have HO_5 := n0_; have HO113 := n1_; have HB := n2_; clear n0_ n1_ n2_; (try clear hb); (try clear hb2); (try clear hk); (try clear hi)) | (go_at_call 26; (with_reducible refine (laws_alive.calls  t118 _ A39.out).mono ?_); rintro e w' ⟨rfl, ⟨nd, rfl⟩⟩))
          go_ret
          exact ⟨by first | rfl | (simp [errW_none, errW_some] <;> rfl) | (simp only [← hji21]; first | rfl | (simp [errW_none, errW_some] <;> rfl)) | (simp [*, errW_none, errW_some] <;> rfl), by repeat (first | (with_reducible first | exact HB.out | apply below_alloc | apply pw_below_drewN | apply below_drew1) | exact HB.out)⟩
         ·rw [if_neg c38] at H
          have c38b0 : ((Int.tmod (ji21) 2) == 1) = false := beq_eq_false_iff_ne.mpr c38
          have c38b1 : ((Int.tmod (ji21) 2) != 1) = true := bne_iff_ne.mpr c38
          exact absurd ((Option.some.inj H).trans hr_.out) (by decide)
        ·replace c37 := Bool.eq_false_iff.mpr c37
         subst c37
         have H1 : ((laws_alive.f).bind fun t119 => (some t119)) = some r := by rw [if_neg (show ¬ (false = true) by decide)] at H; exact H
         clear H
         have H := H1
         clear H1
         replace H := Option.bind_eq_some_iff.mp H
         obtain ⟨t119, A420, H⟩ := H
         replace H : (some t119) = some r := H
         have A42 := Aside0.mk A420
         clear A420
         obtain rfl := Option.some.inj H
         go_wp2_with (first | ((with_reducible refine gate_callee (f := 69) rfl ?_); refine goesL_ (some 51) rfl rfl Try.func69 (by kernel_rfl) rfl #[.int .i64 t101, .int .i64 t102, .slice Ao9 t103.length co9] rfl (by (try simp only [List.map_toArray, List.map_cons, List.map_nil]); first | done | rfl | (simp only [List.length_drop, List.length_take]; rfl)) ?_; (with_reducible refine (impl_TrickTerm.calls kj6 t101 t102 _ _ t103 t110 false _ ?side1 ?side2 A18.out).mono ?_); (case side1 => repeat (first | exact (Kd.R_reads' HO_5.out).2.2 | (with_reducible refine Kd.C_alloc ?_ _) | (with_reducible refine Kd.C_drewN ?_ _) | (with_reducible refine Kd.C_drew ?_))); (case side2 => exact (Kd.R_reads' HO_5.out).2.1); rintro e w43 ⟨v112, rfl, ho0, hb⟩; refine ⟨_, rfl, ?_⟩; have n0_ := Aside0.mk (Kd.R_elder' (by (with_reducible repeat (first | apply Kd.R_alloc | apply Kd.R_drewN | apply Kd.R_drew)); exact HO_5.out) (Kd.R_base ho0) hb); have n1_ := Aside0.mk (Kd.R_lower (Kd.R_new' ho0 (Kd.R_lt (by (with_reducible repeat (first | apply Kd.R_alloc | apply Kd.R_drewN | apply Kd.R_drew)); exact HO_5.out))) (below_size (by repeat (first | (with_reducible first | exact HB.out | apply below_alloc | apply pw_below_drewN | apply below_drew1) | exact HB.out)))); have n2_ := Aside0.mk (below_step (by repeat (first | (with_reducible first | exact HB.out | apply below_alloc | apply pw_below_drewN | apply below_drew1) | exact HB.out)) hb); clear HO_5; clear HB; have HO_5 := n0_; have HO113 := n1_; have HB := n2_; clear n0_ n1_ n2_; (try clear hb); (try clear hb2); (try clear hk); (try clear hi); (try clear ho0)) | ((with_reducible refine gate_callee (f := 70) rfl ?_); refine goesL_ (some 56) rfl rfl Try.func70 (by kernel_rfl) rfl #[.int .i64 t101, .slice Ao9 t103.length co9] rfl (by (try simp only [List.map_toArray, List.map_cons, List.map_nil]); first | done | rfl | (simp only [List.length_drop, List.length_take]; rfl)) ?_; (with_reducible refine (impl_MatterIn.calls kj6 t101 _ _ t103 t114 _ ?side1 ?side2 A19.out).mono ?_); (case side1 => repeat (first | exact (Kd.R_reads' HO_5.out).2.2 | (with_reducible refine Kd.C_alloc ?_ _) | (with_reducible refine Kd.C_drewN ?_ _) | (with_reducible refine Kd.C_drew ?_))); (case side2 => exact (Kd.R_reads' HO_5.out).2.1); rintro e w44 ⟨rfl, hb⟩; refine ⟨_, rfl, ?_⟩; have n0_ := Aside0.mk (Kd.R_below (by (with_reducible repeat (first | apply Kd.R_alloc | apply Kd.R_drewN | apply Kd.R_drew)); exact HO_5.out) hb); have n1_ := Aside0.mk (Kd.R_below (by (with_reducible repeat (first | apply Kd.R_alloc | apply Kd.R_drewN | apply Kd.R_drew)); exact HO113.out) hb); have n2_ := Aside0.mk (below_step (by repeat (first | (with_reducible first | exact HB.out | apply below_alloc | apply pw_below_drewN | apply below_drew1) | exact HB.out)) hb); clear HO_5; clear HO113; clear HB; have HO_5 := n0_; have HO113 := n1_; have HB := n2_; clear n0_ n1_ n2_; (try clear hb); (try clear hb2); (try clear hk); (try clear hi)) | (go_at_call 26; (with_reducible refine (laws_alive.calls  t119 _ A42.out).mono ?_); rintro e w' ⟨rfl, ⟨nd, rfl⟩⟩))
         go_ret
         exact ⟨by first | rfl | (simp [errW_none, errW_some] <;> rfl) | (simp only [← hji21]; first | rfl | (simp [errW_none, errW_some] <;> rfl)) | (simp [*, errW_none, errW_some] <;> rfl), by repeat (first | (with_reducible first | exact HB.out | apply below_alloc | apply pw_below_drewN | apply below_drew1) | exact HB.out)⟩
      ·rw [if_neg c20] at H
       exact absurd H (by simp)

/-- THE ONE PURE STATEMENT of laws_FnAlikeOk: yours. -/
def laws_FnAlikeOk.Pure : Prop := ∀ (l0 : List Int), l0.length ≤ maxLen → l0.length * 1 ≤ 140737488351232 → (∀ x ∈ l0, (Lit.int .u8 x).wf = true) → ∃ k, laws_FnAlikeOk.f k l0 = some true
theorem laws_FnAlikeOk.walk (P : laws_FnAlikeOk.Pure) (a0 : Option Addr) (len0 cap0 : Nat) (z0 : List Int) (w : World) (w0 : (a0 = none ∧ len0 = 0 ∧ cap0 = 0 ∧ z0 = []) ∨ ∃ x, a0 = some x ∧ len0 ≤ cap0 ∧ cap0 ≤ maxLen ∧ z0.length = cap0 ∧ (∀ i, i < z0.length → w.cell? (x.add i) = some (.int .u8 (z0.getD i 0))) ∧ ∀ n ∈ z0, (Lit.int .u8 n).wf = true) (y0 : len0 * 1 ≤ 140737488351232) :
  Calls Try.prog 11 #[.slice a0 len0 cap0] w fun e w' => e = .returned (.bool true) ∧ Below w.heap.size w w' := by
 obtain ⟨l0, rfl, hr0, hm0, hw0, hc0⟩ := ReadsInt.ofRowC w0
 obtain ⟨k, h⟩ := P l0 hm0 y0 hw0
 refine (laws_FnAlikeOk.calls k _ _ l0 true w (Kd.C_of_reads (d := (0 : Int)) (h1 := fun _ => rfl) hr0) hc0 ⟨rfl⟩ h).mono ?_
 rintro e w' ⟨rfl, hd⟩
 exact ⟨rfl, hd⟩
end Go.Proofs.Ytpampekijfjlkab.X
/- Plain law of the trick: a mark of a person ahead, and the mark of sameness behind. -/
namespace Go.Proofs.Ytpampekijfjlkab.L
open Go.RowKit Go.Proofs.Ytpampekijfjlkab.X Go.Proofs.YtpampekijfjlkabW.PrintWords Go.Proofs.YtpampekijfjlkabW.PrintLast Go.Proofs.YtpampekijfjlkabW.PrintMore
/-- The trick of a row of marks. -/
def wrapM (i : Int) (t : List M) : List M := ⟨0, i⟩ :: (t ++ [⟨5, 0⟩])
theorem wrapM_length (i : Int) (t : List M) : (wrapM i t).length = t.length + 2 := by simp [wrapM]
theorem trick_eq (i : Int) (t : List M) (ht : t.length ≤ 4611686018427) : impl_trick.f i t = some (wrapM i t) := by
 unfold impl_trick.f
 simp only [Option.bind_some, List.length_cons, List.length_nil, List.length_append]
 rw [if_pos (by omega), if_pos (by omega)]
 rfl
/-- A term within the tricks of a list. -/
def wrapAll : List Int → List M → List M
 | [], t => t
 | i :: l, t => wrapM i (wrapAll l t)
theorem wrapAll_length : ∀ (l : List Int) (t : List M), (wrapAll l t).length = t.length + 2 * l.length
 | [], t => by simp [wrapAll]
 | i :: l, t => by rw [wrapAll, wrapM_length, wrapAll_length l t, List.length_cons]; omega
theorem wrapAll_form : ∀ (l : List Int) (t : List M), ∃ z : List M, wrapAll l t = l.map (fun i => ⟨0, i⟩) ++ (t ++ z)
 | [], t => ⟨[], by simp [wrapAll]⟩
 | i :: l, t => by
  obtain ⟨z, hz⟩ := wrapAll_form l t
  exact ⟨z ++ [⟨5, 0⟩], by rw [wrapAll, wrapM, hz]; simp⟩
theorem scan_bad {p : Int} : ∀ (l : List Int) (s : List M) (n : Nat), (∃ i ∈ l, ¬ (0 ≤ i ∧ i < p)) → scan p (l.map (fun i => ⟨0, i⟩) ++ s) n = none
 | [], s, n, h => by obtain ⟨i, hi, _⟩ := h; cases hi
 | i :: l, s, n, h => by
  simp only [List.map_cons, List.cons_append, scan, if_true]
  by_cases hi : 0 ≤ i ∧ i < p
  ·rw [if_pos hi]
   refine scan_bad l s _ ?_
   obtain ⟨j, hj, hb⟩ := h
   rcases List.mem_cons.1 hj with rfl | hj
   ·exact absurd hi hb
   ·exact ⟨j, hj, hb⟩
  ·rw [if_neg hi]
theorem tok_bad {p : Int} {l : List Int} {t : List M} (h : ∃ i ∈ l, ¬ (0 ≤ i ∧ i < p)) : tok p (wrapAll l t) ≠ true := by
 intro hk
 obtain ⟨_, _, _, _, hs⟩ := tok_iff.1 hk
 obtain ⟨z, hz⟩ := wrapAll_form l t
 rw [hz, scan_bad l _ 0 h] at hs
 cases hs
theorem tok_long {p : Int} {t : List M} (h : 15 < t.length) : tok p t ≠ true := fun hk => by have := tok_iff.1 hk; omega
/-- What both functions of chains come to. -/
def chainR (p : Int) (l : List Int) (t : List M) : List M × Bool := if tok p t = true ∧ tok p (wrapAll l t) = true then (wrapAll l t, true) else ([], false)
theorem rdI_at' (pre : List Int) (x : Int) (suf : List Int) : rd (pre ++ x :: suf) ((pre.length : Nat) : Int) = x := by
 unfold rd
 simp [List.getD]
theorem impl_Chain_l0 {p : Int} {l : List Int} {t : List M} (hl : l.length ≤ 1048576) (hk : tok p t = true) : ∀ (n : Nat) (pre suf : List Int), l = pre ++ suf → pre.length = n →
  (wrapAll suf t).length ≤ 17 → Ev (fun k => impl_ChainTerm.l0 k p l (wrapAll suf t) ((n : Int) - 1)) (chainR p l t) := by
 intro n
 induction n with
 | zero =>
  intro pre suf he hn hb
  have hp : pre = [] := List.length_eq_zero_iff.1 hn
  subst hp
  rw [List.nil_append] at he
  subst he
  refine Ev.step (fun k => by simp only [impl_ChainTerm.l0]; rfl) ?_
  refine Ev.no (by simp) (Ev.bind (impl_TermOk_ev p _) ?_)
  by_cases hz : tok p (wrapAll l t) = true
  ·exact Ev.yes hz (Ev.cast (Ev.some _) (if_pos ⟨hk, hz⟩).symm)
  ·exact Ev.no hz (Ev.cast (Ev.some _) (if_neg (fun h => hz h.2)).symm)
 | succ n ih =>
  intro pre suf he hn hb
  obtain ⟨pre', x, rfl⟩ : ∃ pre' x, pre = pre' ++ [x] := ⟨pre.dropLast, pre.getLast (by intro h; rw [h] at hn; simp at hn), (List.dropLast_concat_getLast _).symm⟩
  have hn' : pre'.length = n := by simpa using hn
  have he' : l = pre' ++ x :: suf := by rw [he]; simp
  have hx : rd l (((n + 1 : Nat) : Int) - 1) = x := by
   rw [show (((n + 1 : Nat) : Int) - 1) = ((pre'.length : Nat) : Int) by omega, he']
   exact rdI_at' pre' x suf
  have hlen : l.length = n + 1 + suf.length := by rw [he']; simp; omega
  have hmem : x ∈ l := by rw [he']; simp
  have bad : tok p (wrapAll l t) ≠ true → Ev (fun _ : Nat => Option.some (([] : List M), false)) (chainR p l t) := fun h => Ev.cast (Ev.some _) (if_neg (fun h' => h h'.2)).symm
  refine Ev.step (fun k => by simp only [impl_ChainTerm.l0]; rfl) ?_
  rw [hx]
  refine Ev.yes (by omega) (Ev.yes (by omega) (Ev.yes (by omega) ?_))
  by_cases h0 : x < 0
  ·exact Ev.yes h0 (bad (tok_bad ⟨x, hmem, by omega⟩))
  refine Ev.no h0 ?_
  by_cases h1 : x ≥ p
  ·exact Ev.yes h1 (bad (tok_bad ⟨x, hmem, by omega⟩))
  refine Ev.no h1 ?_
  by_cases h2 : ((wrapAll suf t).length : Int) > 15
  ·refine Ev.yes h2 (bad (tok_long ?_))
   rw [wrapAll_length] at h2 ⊢
   rw [hlen]
   omega
  refine Ev.no h2 ?_
  rw [trick_eq _ _ (by omega)]
  simp only [Option.bind_some]
  rw [w64 (by omega) (by omega), show (((n + 1 : Nat) : Int) - 1 - 1) = (n : Int) - 1 by omega]
  exact ih pre' (x :: suf) he' hn' (by rw [wrapAll, wrapM_length]; omega)
theorem clone_eq (t : List M) (ht : t.length ≤ 4611686018427) : impl_Mark.f t = some t := by
 unfold impl_Mark.f
 simp only [Option.bind_some, List.length_nil, List.nil_append]
 rw [if_pos (by omega)]
theorem impl_Chain_ev {p : Int} {l : List Int} {t : List M} (hl : l.length ≤ 1048576) : Ev (fun k => impl_ChainTerm.f k p l t) (chainR p l t) := by
 unfold impl_ChainTerm.f
 refine Ev.bind (impl_TermOk_ev p t) ?_
 by_cases hk : tok p t = true
 ·refine Ev.yes hk ?_
  have h15 := (tok_iff.1 hk).2.2.2.1
  rw [clone_eq t (by omega)]
  simp only [Option.bind_some]
  rw [w64 (by omega) (by omega)]
  exact impl_Chain_l0 hl hk l.length l [] (by simp) rfl (by simp only [wrapAll]; omega)
 ·exact Ev.no hk (Ev.cast (Ev.some _) (if_neg (fun h => hk h.1)).symm)
theorem impl_Trick_ev {p i : Int} {t : List M} : Ev (fun k => impl_TrickTerm.f k p i t) (chainR p [i] t) := by
 unfold impl_TrickTerm.f
 exact Ev.bind (impl_Chain_ev (by simp)) (Ev.some _)
theorem spec_Trick_ev {p i : Int} {t : List M} (ht : t.length ≤ 1048576) (hi : i ≤ 9223372036854775807) (htw : ∀ m ∈ t, m.f1 ≤ 9223372036854775807) : Ev (fun k => spec_TrickTerm.f k p i t) (chainR p [i] t) := by
 unfold spec_TrickTerm.f
 simp only [Option.bind_some, List.length_append, List.length_cons, List.length_nil]
 refine Ev.yes (by omega) (Ev.yes (by omega) (Ev.bind (spec_TermOk_ev p t (by omega) htw) ?_))
 have e : ([⟨0, i⟩] ++ t ++ [⟨5, 0⟩] : List M) = wrapAll [i] t := by simp [wrapAll, wrapM]
 rw [e]
 by_cases hk : tok p t = true
 ·refine Ev.yes hk (Ev.bind (spec_TermOk_ev p _ (by rw [wrapAll_length]; simp; omega) ?_) ?_)
  ·intro m hm
   simp only [wrapAll, wrapM, List.mem_cons, List.mem_append, List.not_mem_nil, or_false] at hm
   rcases hm with rfl | hm | rfl
   ·exact hi
   ·exact htw m hm
   ·decide
  by_cases hz : tok p (wrapAll [i] t) = true
  ·exact Ev.yes hz (Ev.cast (Ev.some _) (if_pos ⟨hk, hz⟩).symm)
  ·exact Ev.no hz (Ev.cast (Ev.some _) (if_neg (fun h => hz h.2)).symm)
 ·exact Ev.no hk (Ev.cast (Ev.some _) (if_neg (fun h => hk h.1)).symm)
theorem DrawAlikeOk_ev {l : List Int} (hw : ∀ x ∈ l, (Lit.int .u8 x).wf = true) : ∃ (p i : Int) (t : List M), Ev (fun k => spec_DrawAlikeOk.f k l) (p, i, t) ∧ 1 ≤ p ∧ p ≤ 4 ∧ 0 ≤ i ∧ i ≤ 1000 ∧ t.length ≤ 16 ∧ Sm t := by
 obtain ⟨s, hs, ho⟩ := open_eq hw
 obtain ⟨a, ha, ha0, ha1⟩ := pick_ev hs (p := 0) (by omega) (by omega) 4 (by omega)
 have ha2 := ha1 (by omega)
 obtain ⟨b, hb, hb0, hb1⟩ := pick_ev hs (p := 0 + 1) (by omega) (by omega) (1 + a) (by omega)
 have hb2 := hb1 (by omega)
 obtain ⟨t, n1, ht, h2, h3, h4, h5⟩ := l20Term_ev hs (p := 0 + 1 + 1) (by omega) (by omega) (1 + a) 12 (by omega)
 have htr := spec_Trick_ev (p := 1 + a) (i := b) (t := t) (by omega) (by omega) h3.wf
 obtain ⟨y, hy, hy0, hy1⟩ := pick_ev hs (p := n1) (by omega) (by omega) 2 (by omega)
 obtain ⟨z, hz, hz0, hz1⟩ := pick_ev hs (p := n1 + 1) (by omega) (by omega) 40 (by omega)
 have hz2 := tdiv39 hz0 (hz1 (by omega))
 obtain ⟨u, hu, hu0, hu1⟩ := pick_ev hs (p := n1) (by omega) (by omega) 40 (by omega)
 have hu2 := tdiv39 hu0 (hu1 (by omega))
 have base : ∀ r : Int × Int × List M, Ev (fun k => (spec_l20Term.f k s (0 + 1 + 1) (1 + a) 12).bind fun bt105 => ((spec_TrickTerm.f k (1 + a) b bt105.1).bind fun bt109 => (if bt109.2 = true then ((spec_l20Rd_pick.f k s bt105.2 2).bind fun bt113 => (if bt113.1 = 0 then (some (1 + a, b, bt109.1)) else ((spec_l20Rd_pick.f k s bt113.2 40).bind fun bt115 => (some (1 + a, wrap64 (b + (wrap64 ((wrap64 (Int.tdiv bt115.1 39)) * 4))), bt105.1))))) else ((spec_l20Rd_pick.f k s bt105.2 40).bind fun bt117 => (some (1 + a, wrap64 (b + (wrap64 ((wrap64 (Int.tdiv bt117.1 39)) * 4))), bt105.1)))))) r → Ev (fun k => spec_DrawAlikeOk.f k l) r := by
  intro r hr
  unfold spec_DrawAlikeOk.f
  rw [ho]
  simp only [Option.bind_some]
  refine Ev.bind ha ?_
  simp only [w64 (x := 1 + a) (by omega) (by omega)]
  exact Ev.bind hb hr
 by_cases hz' : tok (1 + a) t = true ∧ tok (1 + a) (wrapAll [b] t) = true
 ·have e : chainR (1 + a) [b] t = (wrapM b t, true) := if_pos hz'
  rw [e] at htr
  by_cases h0 : y = 0
  ·refine ⟨1 + a, b, wrapM b t, base _ (Ev.bind ht (Ev.bind htr (Ev.yes rfl (Ev.bind hy (Ev.yes h0 (Ev.some _)))))), by omega, by omega, by omega, by omega, ?_, ?_⟩
   ·have := (tok_iff.1 hz'.2).2.2.2.1
    exact Nat.le_trans this (by decide)
   ·exact Sm.cons (by show b ≤ 1000; omega) (h3.app (Sm.one (by decide)))
  ·refine ⟨1 + a, b + Int.tdiv z 39 * 4, t, base _ (Ev.bind ht (Ev.bind htr (Ev.yes rfl (Ev.bind hy (Ev.no h0 (Ev.bind hz (Ev.cast (Ev.some _) ?_))))))), by omega, by omega, by omega, by omega, h2, h3⟩
   rw [w64 (x := Int.tdiv z 39) (by omega) (by omega), w64 (x := Int.tdiv z 39 * 4) (by omega) (by omega), w64 (by omega) (by omega)]
 ·have e : chainR (1 + a) [b] t = ([], false) := if_neg hz'
  rw [e] at htr
  refine ⟨1 + a, b + Int.tdiv u 39 * 4, t, base _ (Ev.bind ht (Ev.bind htr (Ev.no (by simp) (Ev.bind hu (Ev.cast (Ev.some _) ?_))))), by omega, by omega, by omega, by omega, h2, h3⟩
  rw [w64 (x := Int.tdiv u 39) (by omega) (by omega), w64 (x := Int.tdiv u 39 * 4) (by omega) (by omega), w64 (by omega) (by omega)]
theorem Tm.good_four {p : Int} (hp : p ≤ 4) : ∀ a : Tm, a.good p → a.good 4
 | .tell i, h => by have h' : (i : Int) < p := h; show (i : Int) < 4; omega
 | .cnt n, h => by have h' : (n : Int) ≤ p + 1 := h; show (n : Int) ≤ 4 + 1; omega
 | .neg a, h => good_four hp a h
 | .bin o a b, h => ⟨h.1, good_four hp a h.2.1, good_four hp b h.2.2⟩
open Classical in
/-- The tree of a row of marks. -/
noncomputable def tree (t : List M) : Tm := if h : ∃ a : Tm, a.good 4 ∧ t = a.post then Classical.choose h else .tell 0
theorem tree_post {a : Tm} (h : a.good 4) : (tree a.post).good 4 ∧ a.post = (tree a.post).post := by
 have h' : ∃ b : Tm, b.good 4 ∧ a.post = b.post := ⟨a, h, rfl⟩
 unfold tree
 rw [dif_pos h']
 exact Classical.choose_spec h'
/-- Whether a row of marks holds in a world. -/
noncomputable def hv (t : List M) (w : Nat) : Bool := (tree t).ev w
theorem hv_post {a : Tm} (h : a.good 4) (hl : a.post.length ≤ 500) {w : Nat} (hw : w < 16) : hv a.post w = a.ev w := by
 obtain ⟨h1, h2⟩ := tree_post h
 have e1 := impl_holds_ev (by decide) hw h hl
 have e2 := impl_holds_ev (by decide) hw h1 (by rw [← h2]; exact hl)
 rw [← h2] at e2
 exact Ev.uniq e2 e1
theorem tok_tree {p : Int} {t : List M} (h : tok p t = true) : ∃ a : Tm, a.good p ∧ t = a.post ∧ a.good 4 ∧ t.length ≤ 15 := by
 obtain ⟨a, h1, h2⟩ := parse h
 obtain ⟨_, h3, _, h4, _⟩ := tok_iff.1 h
 exact ⟨a, h1, h2, a.good_four h3 h1, h4⟩
theorem impl_holds_hv {p : Int} {t : List M} (h : tok p t = true) {w : Nat} (hw : w < 16) : Ev (fun k => impl_holds.f k t (w : Int)) (hv t w) := by
 obtain ⟨a, _, rfl, h4, hl⟩ := tok_tree h
 rw [hv_post h4 (by omega) hw]
 exact impl_holds_ev (by decide) hw h4 (by omega)
theorem spec_holds_hv {p : Int} {t : List M} (h : tok p t = true) {w : Nat} (hw : w < 16) : Ev (fun k => spec_l3Holds.f k t (w : Int)) (hv t w) := by
 obtain ⟨a, _, rfl, h4, hl⟩ := tok_tree h
 rw [hv_post h4 (by omega) hw]
 exact l3Holds_ev (by decide) hw a h4 (by omega)
/-- Whether a claim may be made in a world. -/
noncomputable def may (i : Int) (t : List M) (w : Nat) : Bool := hv t w == w.testBit i.toNat
/-- The worlds below n in which P holds, as bits. -/
def tabL (P : Nat → Bool) : Nat → Nat
 | 0 => 0
 | n + 1 => tabL P n ||| (if P n = true then 2 ^ n else 0)
theorem tabL_bit (P : Nat → Bool) : ∀ n w, (tabL P n).testBit w = (decide (w < n) && P w)
 | 0, w => by simp [tabL]
 | n + 1, w => by
  rw [tabL, Nat.testBit_or, tabL_bit P n w]
  by_cases e : w = n
  ·subst e
   by_cases h : P w = true
   ·rw [if_pos h, Nat.testBit_two_pow_self, h]; simp
   ·rw [if_neg h, Nat.zero_testBit]; simp at h; simp [h]
  ·have h1 : (if P n = true then 2 ^ n else 0).testBit w = false := by
    by_cases h : P n = true
    ·rw [if_pos h, Nat.testBit_two_pow]; simp; omega
    ·rw [if_neg h, Nat.zero_testBit]
   rw [h1, Bool.or_false]
   congr 1
   exact decide_eq_decide.mpr (by omega)
theorem lt_of_bits {x n : Nat} (h : ∀ w, n ≤ w → x.testBit w = false) : x < 2 ^ n := Nat.lt_pow_two_of_testBit x (fun w hw => h w hw)
theorem tabL_lt (P : Nat → Bool) (n : Nat) : tabL P n < 2 ^ n := lt_of_bits (fun w hw => by rw [tabL_bit]; simp; omega)
theorem tabL_congr {P Q : Nat → Bool} {n : Nat} (h : ∀ w, w < n → P w = Q w) : tabL P n = tabL Q n := by
 apply Nat.eq_of_testBit_eq
 intro w
 rw [tabL_bit, tabL_bit]
 by_cases hw : w < n
 ·rw [h w hw]
 ·simp [hw]
theorem tabL_mono {P : Nat → Bool} {n : Nat} (hn : n ≤ 16) : tabL P n < 65536 := by
 have := tabL_lt P n
 have h : (2 : Nat) ^ n ≤ 2 ^ 16 := Nat.pow_le_pow_right (by decide) hn
 omega
theorem wrap_i64_small (n : Int) (h0 : 0 ≤ n) (h1 : n < 2 ^ 32) : IntKind.i64.wrap n = n := by rw [IntKind.wrap_i64]; omega
theorem or_nat {a b : Nat} (ha : a < 2 ^ 32) (hb : b < 2 ^ 32) : Go.bits .or .i64 (a : Int) (b : Int) = ((a ||| b : Nat) : Int) := (bits_nat .i64 32 (by decide) wrap_i64_small a b ha hb).2
theorem shl_fin : ∀ i : Fin 31, shl .i64 1 ((i.val : Nat) : Int) = ((2 ^ i.val : Nat) : Int) := by decide +kernel
theorem shl_nat {i : Nat} (hi : i < 31) : shl .i64 1 (i : Int) = ((2 ^ i : Nat) : Int) := shl_fin ⟨i, hi⟩
theorem or_step {P : Nat → Bool} {i : Nat} (hi : i < 16) (h : P i = true) : Go.bits .or .i64 ((tabL P i : Nat) : Int) (shl .i64 1 (i : Int)) = ((tabL P (i + 1) : Nat) : Int) := by
 have h1 := tabL_lt P i
 have h2 : (2 : Nat) ^ i < 2 ^ 16 := Nat.pow_lt_pow_right (by decide) hi
 rw [shl_nat (by omega), or_nat (by omega) (by omega), tabL, if_pos h]
theorem not_step {P : Nat → Bool} {i : Nat} (h : ¬ P i = true) : tabL P (i + 1) = tabL P i := by rw [tabL, if_neg h, Nat.or_zero]
theorem people_nat {p : Int} (h0 : 1 ≤ p) (h1 : p ≤ 4) : ∃ q : Nat, p = (q : Int) ∧ 1 ≤ q ∧ q ≤ 4 ∧ 2 ^ q ≤ 16 ∧ p.toNat = q := by
 obtain ⟨q, rfl⟩ := Int.eq_ofNat_of_zero_le (show 0 ≤ p by omega)
 refine ⟨q, rfl, by omega, by omega, ?_, by simp⟩
 have : (2 : Nat) ^ q ≤ 2 ^ 4 := Nat.pow_le_pow_right (by decide) (by omega)
 omega
end Go.Proofs.Ytpampekijfjlkab.L
namespace Go.Proofs.Ytpampekijfjlkab.X
open Go.RowKit Go.Proofs.YtpampekijfjlkabW.PrintWords Go.Proofs.YtpampekijfjlkabW.PrintLast Go.Proofs.YtpampekijfjlkabW.PrintMore
attribute [local go_sem] max2_int min2_int max_two min_two max_three min_three max_four min_four   -- for this text's walks alone
set_option linter.unusedVariables false
set_option linter.unusedSimpArgs false
/-! ### spec_WorldOk: function 38 -/
def spec_WorldOk.f (a0 : Int) (a1 : Int) : Option (Bool) := (spec_l1In.f a0 1 4).bind fun t101 => (if t101 = true then (if 0 ≤ a0 then ((spec_l1In.f a1 0 (wrap64 ((shl .i64 1 a0) - 1))).bind fun t102 => (some t102)) else (none)) else (some false))
set_option maxHeartbeats 8000000 in
set_option maxRecDepth 100000 in
theorem spec_WorldOk.calls (a0 : Int) (a1 : Int) (r : Bool) (w : World) (h : spec_WorldOk.f a0 a1 = some r) :
  Calls Try.prog 38 #[.int .i64 a0, .int .i64 a1] w fun e w' => e = .returned (.bool r) ∧ Drawn0 w w' := by
 have H : ((spec_l1In.f a0 1 4).bind fun t101 => (if t101 = true then (if 0 ≤ a0 then ((spec_l1In.f a1 0 (wrap64 ((shl .i64 1 a0) - 1))).bind fun t102 => (some t102)) else (none)) else (some false))) = some r := h
 clear h
 replace H := Option.bind_eq_some_iff.mp H
 obtain ⟨t101, A30, H⟩ := H
 replace H : (if t101 = true then (if 0 ≤ a0 then ((spec_l1In.f a1 0 (wrap64 ((shl .i64 1 a0) - 1))).bind fun t102 => (some t102)) else (none)) else (some false)) = some r := H
 have A3 := Aside0.mk A30
 clear A30
 by_cases c4 : t101 = true
 ·subst c4
  have H1 : (if 0 ≤ a0 then ((spec_l1In.f a1 0 (wrap64 ((shl .i64 1 a0) - 1))).bind fun t102 => (some t102)) else (none)) = some r := by rw [if_pos rfl] at H; exact H
  clear H
  have H := H1
  clear H1
  by_cases c5 : 0 ≤ a0
  ·rw [if_pos c5] at H
   have c5b0 := eq_true c5
   have c5b1 : decide (0 ≤ a0) = true := decide_eq_true c5
   clear c5
   obtain ⟨ji6, hji6⟩ : ∃ j_ : Int, (shl .i64 1 a0) = j_ := ⟨_, rfl⟩
   replace H : ((spec_l1In.f a1 0 (wrap64 ((ji6) - 1))).bind fun t102 => (some t102)) = some r := by first | (rw [hji6] at H; exact H) | (simp only [hji6] at H ⊢; exact H)
   (try rw [hji6] at A3)
   have hji6_ : (IntKind.i64.wrap (1 * 2 ^ min a0.toNat 64)) = ji6 := hji6
   have hji6z : a0 ≤ 64 → (IntKind.i64.wrap (1 * 2 ^ a0.toNat)) = ji6 := shl_small hji6
   have hji6u : (IntKind.i64.wrap (2 ^ min a0.toNat 64)) = ji6 := by have h_ := hji6_; rw [Int.one_mul] at h_; exact h_
   have hji6v : a0 ≤ 64 → (IntKind.i64.wrap (2 ^ a0.toNat)) = ji6 := fun hle_ => by have h_ := hji6z hle_; rw [Int.one_mul] at h_; exact h_
   have hji6y : (wrap64 (1 * 2 ^ min a0.toNat 64)) = ji6 := (i64_w _).symm.trans hji6_
   have hji6x : a0 ≤ 64 → (wrap64 (1 * 2 ^ a0.toNat)) = ji6 := fun h_ => (i64_w _).symm.trans (hji6z h_)
   replace H := Option.bind_eq_some_iff.mp H
   obtain ⟨t102, A70, H⟩ := H
   replace H : (some t102) = some r := H
   have A7 := Aside0.mk A70
   clear A70
   obtain rfl := Option.some.inj H
   go_enter Try.func38, Try.ntmps38
   go_wp2_with (first | ((with_reducible refine gate_callee (f := 98) rfl ?_); refine goesL_ (some 6) rfl rfl Try.func98 (by kernel_rfl) rfl #[.int .i64 a0, .int .i64 1, .int .i64 4] rfl (by (try simp only [List.map_toArray, List.map_cons, List.map_nil]); first | done | rfl | (simp only [List.length_drop, List.length_take]; rfl)) ?_; (with_reducible refine (spec_l1In.calls a0 1 4 true _ A3.out).mono ?_); rintro e w' ⟨rfl, ⟨nd, rfl⟩⟩; refine ⟨_, rfl, ?_⟩) | (go_at_call 98; (with_reducible refine (spec_l1In.calls a1 0 (wrap64 ((ji6) - 1)) t102 _ A7.out).mono ?_); rintro e w' ⟨rfl, ⟨nd, rfl⟩⟩))
   go_ret
   exact ⟨by first | rfl | (simp; done) | (simp only [← hji6] <;> (first | rfl | simp)) | (simp [*]; done), by repeat (first | exact Drawn0.refl _ | apply Drawn0.step)⟩
  ·rw [if_neg c5] at H
   exact absurd H (by simp)
 ·replace c4 := Bool.eq_false_iff.mpr c4
  subst c4
  have H1 : (some false) = some r := by rw [if_neg (show ¬ (false = true) by decide)] at H; exact H
  clear H
  have H := H1
  clear H1
  obtain rfl := Option.some.inj H
  go_enter Try.func38, Try.ntmps38
  go_wp2_with (first | ((with_reducible refine gate_callee (f := 98) rfl ?_); refine goesL_ (some 6) rfl rfl Try.func98 (by kernel_rfl) rfl #[.int .i64 a0, .int .i64 1, .int .i64 4] rfl (by (try simp only [List.map_toArray, List.map_cons, List.map_nil]); first | done | rfl | (simp only [List.length_drop, List.length_take]; rfl)) ?_; (with_reducible refine (spec_l1In.calls a0 1 4 false _ A3.out).mono ?_); rintro e w' ⟨rfl, ⟨nd, rfl⟩⟩; refine ⟨_, rfl, ?_⟩))
  go_ret
  exact ⟨by first | rfl | (simp; done) | (simp [*]; done), by repeat (first | exact Drawn0.refl _ | apply Drawn0.step)⟩
end Go.Proofs.Ytpampekijfjlkab.X
/- Plain laws of worlds: which are ones. -/
namespace Go.Proofs.Ytpampekijfjlkab.L
open Go.RowKit Go.Proofs.Ytpampekijfjlkab.X Go.Proofs.YtpampekijfjlkabW.PrintWords Go.Proofs.YtpampekijfjlkabW.PrintLast Go.Proofs.YtpampekijfjlkabW.PrintMore
/-- A world of so many people. -/
def wok (p w : Int) : Bool := decide (1 ≤ p ∧ p ≤ 4 ∧ 0 ≤ w ∧ w < ((2 ^ p.toNat : Nat) : Int))
theorem wok_iff {p w : Int} : wok p w = true ↔ 1 ≤ p ∧ p ≤ 4 ∧ 0 ≤ w ∧ w < ((2 ^ p.toNat : Nat) : Int) := by unfold wok; simp
theorem wok_nat {p w : Int} (h : wok p w = true) : ∃ v : Nat, w = (v : Int) ∧ v < 16 ∧ v < 2 ^ p.toNat := by
 obtain ⟨h0, h1, h2, h3⟩ := wok_iff.1 h
 obtain ⟨q, rfl, _, _, hq, e⟩ := people_nat h0 h1
 obtain ⟨v, rfl⟩ := Int.eq_ofNat_of_zero_le h2
 rw [e] at h3 ⊢
 exact ⟨v, rfl, by omega, by omega⟩
theorem impl_WorldOk_eq (p w : Int) : impl_WorldOk.f p w = some (wok p w) := by
 unfold impl_WorldOk.f
 simp only [peopleOk_eq, Option.bind_some]
 by_cases h : 1 ≤ p ∧ p ≤ 4
 ·obtain ⟨q, rfl, _, hq4, hq, e⟩ := people_nat h.1 h.2
  rw [if_pos (decide_eq_true h)]
  by_cases h0 : w ≥ 0
  ·rw [if_pos h0, if_pos (by omega), shl_nat (by omega)]
   congr 1
   unfold wok
   rw [e]
   exact decide_eq_decide.mpr ⟨fun hw => ⟨h.1, h.2, h0, hw⟩, fun hw => hw.2.2.2⟩
  ·rw [if_neg h0]
   congr 1
   exact (decide_eq_false (fun hw => h0 hw.2.2.1)).symm
 ·rw [if_neg (by simpa using h)]
  congr 1
  exact (decide_eq_false (fun hw => h ⟨hw.1, hw.2.1⟩)).symm
theorem spec_WorldOk_eq (p w : Int) : spec_WorldOk.f p w = some (wok p w) := by
 unfold spec_WorldOk.f
 simp only [l1In_eq, Option.bind_some]
 by_cases h : 1 ≤ p ∧ p ≤ 4
 ·obtain ⟨q, rfl, _, hq4, hq, e⟩ := people_nat h.1 h.2
  have hpos : 1 ≤ 2 ^ q := Nat.one_le_two_pow
  rw [if_pos (decide_eq_true h), if_pos (by omega), shl_nat (by omega), w64 (by omega) (by omega)]
  congr 1
  unfold wok
  rw [e]
  exact decide_eq_decide.mpr ⟨fun hw => ⟨h.1, h.2, hw.1, by omega⟩, fun hw => ⟨hw.2.2.1, by omega⟩⟩
 ·rw [if_neg (by simpa using h)]
  congr 1
  exact (decide_eq_false (fun hw => h ⟨hw.1, hw.2.1⟩)).symm
theorem spec_may_ev {p i : Int} {t : List M} (h2 : tok p t = true) (h0 : 0 ≤ i) (h1 : i < p) {w : Nat} (hw : w < 16) : Ev (fun k => spec_l4May.f k i t (w : Int)) (may i t w) := by
 have h4 := (tok_iff.1 h2).2.1
 obtain ⟨j, rfl⟩ := Int.eq_ofNat_of_zero_le h0
 unfold spec_l4May.f
 refine Ev.yes h0 (Ev.bind (spec_holds_hv h2 hw) (Ev.cast (Ev.some _) ?_))
 rw [bit_mod' hw (show j < 4 by omega)]
 unfold may
 exact Bool.beq_comm
/-- What a person answers. -/
noncomputable def answer (p i : Int) (t : List M) (w : Int) : Int := if wok p w = true ∧ tok p t = true ∧ 0 ≤ i ∧ i < p then (if may i t w.toNat = true then 1 else 0) else -1
theorem answer_in {p i w : Int} {t : List M} (h : wok p w = true ∧ tok p t = true ∧ 0 ≤ i ∧ i < p) : answer p i t w = if may i t w.toNat = true then 1 else 0 := if_pos h
theorem answer_out {p i w : Int} {t : List M} (h : ¬ (wok p w = true ∧ tok p t = true ∧ 0 ≤ i ∧ i < p)) : answer p i t w = -1 := if_neg h
theorem impl_Answer_ev (p i : Int) (t : List M) (w : Int) : Ev (fun k => impl_AnswerIn.f k p i t w) (answer p i t w) := by
 unfold impl_AnswerIn.f
 have no : ¬ (wok p w = true ∧ tok p t = true ∧ 0 ≤ i ∧ i < p) → Ev (fun k => impl_AnswerIn.j0 k i t w true) (answer p i t w) := by
  intro h
  rw [answer_out h]
  refine Ev.step (fun k => by simp only [impl_AnswerIn.j0]; rfl) ?_
  exact Ev.yes (by simp) (Ev.some _)
 rw [impl_WorldOk_eq]
 simp only [Option.bind_some]
 by_cases hw : wok p w = true
 ·refine Ev.yes hw (Ev.bind (impl_TermOk_ev p t) ?_)
  by_cases hk : tok p t = true
  ·refine Ev.yes hk ?_
   by_cases h0 : i < 0
   ·exact Ev.yes h0 (no (by omega))
   refine Ev.no h0 ?_
   by_cases h1 : i ≥ p
   ·rw [decide_eq_true h1]; exact no (by omega)
   rw [decide_eq_false h1, answer_in ⟨hw, hk, by omega, by omega⟩]
   obtain ⟨v, rfl, hv, _⟩ := wok_nat hw
   have h4 := (tok_iff.1 hk).2.1
   obtain ⟨j, rfl⟩ := Int.eq_ofNat_of_zero_le (show 0 ≤ i by omega)
   refine Ev.step (fun k => by simp only [impl_AnswerIn.j0]; rfl) ?_
   refine Ev.no (by simp) (Ev.bind (impl_holds_hv hk hv) (Ev.yes (by omega) ?_))
   rw [bit_and' hv (show j < 4 by omega)]
   by_cases hm : may (j : Int) t v = true
   ·exact Ev.yes hm (Ev.cast (Ev.some _) (if_pos hm).symm)
   ·exact Ev.no hm (Ev.cast (Ev.some _) (if_neg hm).symm)
  ·exact Ev.no hk (no (fun h => hk h.2.1))
 ·exact Ev.no hw (no (fun h => hw h.1))
theorem alk_fin : ∀ w : Fin 16, ∀ i : Fin 4, Go.bits .xor .i64 ((w.val : Nat) : Int) (shl .i64 1 ((i.val : Nat) : Int)) = ((w.val ^^^ 2 ^ i.val : Nat) : Int) := by decide +kernel
theorem alk_xor {w i : Nat} (hw : w < 16) (hi : i < 4) : Go.bits .xor .i64 (w : Int) (shl .i64 1 (i : Int)) = ((w ^^^ 2 ^ i : Nat) : Int) := alk_fin ⟨w, hw⟩ ⟨i, hi⟩
theorem alk_lt {w i q : Nat} (hw : w < 2 ^ q) (hi : i < q) : w ^^^ 2 ^ i < 2 ^ q := Nat.xor_lt_two_pow hw (Nat.pow_lt_pow_right (by decide) hi)
/-- Whether the person's being the other way does not matter in the worlds from one on. -/
noncomputable def alikeFrom (q : Nat) (i : Nat) (t : List M) : Nat → Nat → Bool
 | 0, _ => true
 | d + 1, j => (may (i : Int) t j == may (i : Int) t (j ^^^ 2 ^ i)) && alikeFrom q i t d (j + 1)
noncomputable def alike (p i : Int) (t : List M) : Bool := if tok p t = true ∧ 0 ≤ i ∧ i < p then alikeFrom p.toNat i.toNat t (2 ^ p.toNat) 0 else false
theorem impl_Alike_l0 {q i : Nat} {t : List M} (hk : tok (q : Int) t = true) (hq1 : 1 ≤ q) (hq : q ≤ 4) (hq2 : 2 ^ q ≤ 16) (hi : i < q) : ∀ d j : Nat, d + j = 2 ^ q →
  Ev (fun k => impl_AlikeOk.l0 k (q : Int) (i : Int) t ((2 ^ q : Nat) : Int) (j : Int)) (alikeFrom q i t d j) := by
 intro d
 induction d with
 | zero =>
  intro j hj
  exact Ev.step (fun k => by simp only [impl_AlikeOk.l0]; rfl) (Ev.no (by omega) (Ev.some _))
 | succ d ih =>
  intro j hj
  have hx := alk_lt (w := j) (i := i) (q := q) (by omega) hi
  have a1 : answer (q : Int) (i : Int) t (j : Int) = if may (i : Int) t j = true then 1 else 0 := answer_in ⟨wok_iff.2 ⟨by omega, by omega, by omega, by rw [Int.toNat_natCast]; omega⟩, hk, by omega, by omega⟩
  have a2 : answer (q : Int) (i : Int) t ((j ^^^ 2 ^ i : Nat) : Int) = if may (i : Int) t (j ^^^ 2 ^ i) = true then 1 else 0 := answer_in ⟨wok_iff.2 ⟨by omega, by omega, by omega, by rw [Int.toNat_natCast]; omega⟩, hk, by omega, by omega⟩
  refine Ev.step (fun k => by simp only [impl_AlikeOk.l0]; rfl) ?_
  rw [alk_xor (by omega) (by omega), w64 (by omega) (by omega), show ((j : Int) + 1) = ((j + 1 : Nat) : Int) by omega]
  refine Ev.yes (by omega) (Ev.bind (impl_Answer_ev _ _ _ _) (Ev.yes (by omega) (Ev.bind (impl_Answer_ev _ _ _ _) ?_)))
  rw [a1, a2]
  have h := ih (j + 1) (by omega)
  cases e1 : may (i : Int) t j <;> cases e2 : may (i : Int) t (j ^^^ 2 ^ i)
  ·exact Ev.yes (by simp) (Ev.cast h (by simp [alikeFrom, e1, e2]))
  ·exact Ev.no (by simp) (Ev.cast (Ev.some _) (by simp [alikeFrom, e1, e2]))
  ·exact Ev.no (by simp) (Ev.cast (Ev.some _) (by simp [alikeFrom, e1, e2]))
  ·exact Ev.yes (by simp) (Ev.cast h (by simp [alikeFrom, e1, e2]))
theorem spec_Alike_l0 {q i : Nat} {t : List M} (hk : tok (q : Int) t = true) (hq1 : 1 ≤ q) (hq : q ≤ 4) (hq2 : 2 ^ q ≤ 16) (hi : i < q) : ∀ d j : Nat, d + j = 2 ^ q →
  Ev (fun k => spec_AlikeOk.l0 k (q : Int) (i : Int) t (j : Int)) (alikeFrom q i t d j) := by
 intro d
 induction d with
 | zero =>
  intro j hj
  refine Ev.step (fun k => by simp only [spec_AlikeOk.l0]; rfl) ?_
  rw [shl_nat (by omega)]
  exact Ev.yes (by omega) (Ev.no (by omega) (Ev.some _))
 | succ d ih =>
  intro j hj
  have hx := alk_lt (w := j) (i := i) (q := q) (by omega) hi
  refine Ev.step (fun k => by simp only [spec_AlikeOk.l0]; rfl) ?_
  rw [alk_xor (by omega) (by omega), shl_nat (i := q) (by omega), w64 (by omega) (by omega), show ((j : Int) + 1) = ((j + 1 : Nat) : Int) by omega]
  refine Ev.yes (by omega) (Ev.yes (by omega) (Ev.bind (spec_may_ev hk (by omega) (by omega) (by omega)) (Ev.yes (by omega) (Ev.bind (spec_may_ev hk (by omega) (by omega) (by omega)) ?_))))
  have h := ih (j + 1) (by omega)
  cases e1 : may (i : Int) t j <;> cases e2 : may (i : Int) t (j ^^^ 2 ^ i)
  ·exact Ev.no (by simp) (Ev.cast h (by simp [alikeFrom, e1, e2]))
  ·exact Ev.yes (by simp) (Ev.cast (Ev.some _) (by simp [alikeFrom, e1, e2]))
  ·exact Ev.yes (by simp) (Ev.cast (Ev.some _) (by simp [alikeFrom, e1, e2]))
  ·exact Ev.no (by simp) (Ev.cast h (by simp [alikeFrom, e1, e2]))
theorem impl_Alike_ev (p i : Int) (t : List M) : Ev (fun k => impl_AlikeOk.f k p i t) (alike p i t) := by
 unfold impl_AlikeOk.f
 have no : ¬ (tok p t = true ∧ 0 ≤ i ∧ i < p) → Ev (fun k => impl_AlikeOk.j0 k p i t true) (alike p i t) := by
  intro h
  rw [show alike p i t = false from if_neg h]
  refine Ev.step (fun k => by simp only [impl_AlikeOk.j0]; rfl) ?_
  exact Ev.yes (by simp) (Ev.some _)
 refine Ev.bind (impl_TermOk_ev p t) ?_
 by_cases hk : tok p t = true
 ·refine Ev.yes hk ?_
  by_cases h0 : i < 0
  ·exact Ev.yes h0 (no (by omega))
  refine Ev.no h0 ?_
  by_cases h1 : i ≥ p
  ·rw [decide_eq_true h1]; exact no (by omega)
  rw [decide_eq_false h1, show alike p i t = alikeFrom p.toNat i.toNat t (2 ^ p.toNat) 0 from if_pos ⟨hk, by omega, by omega⟩]
  obtain ⟨hp0, hp1, _⟩ := tok_iff.1 hk
  obtain ⟨q, rfl, hq1, hq, hq2, e⟩ := people_nat hp0 hp1
  obtain ⟨j, rfl⟩ := Int.eq_ofNat_of_zero_le (show 0 ≤ i by omega)
  refine Ev.step (fun k => by simp only [impl_AlikeOk.j0]; rfl) ?_
  rw [shl_nat (by omega), Int.toNat_natCast, Int.toNat_natCast]
  exact Ev.no (by simp) (Ev.yes (by omega) (impl_Alike_l0 hk hq1 hq hq2 (by omega) (2 ^ q) 0 (by omega)))
 ·exact Ev.no hk (no (fun h => hk h.1))
theorem spec_Alike_ev (p i : Int) (t : List M) (hl : t.length ≤ 4611686018427387904) (htw : ∀ m ∈ t, m.f1 ≤ 9223372036854775807) : Ev (fun k => spec_AlikeOk.f k p i t) (alike p i t) := by
 unfold spec_AlikeOk.f
 have no : ¬ (tok p t = true ∧ 0 ≤ i ∧ i < p) → Ev (fun k => spec_AlikeOk.j0 k p i t true) (alike p i t) := by
  intro h
  rw [show alike p i t = false from if_neg h]
  refine Ev.step (fun k => by simp only [spec_AlikeOk.j0]; rfl) ?_
  exact Ev.yes (by simp) (Ev.some _)
 simp only [l1In_eq, Option.bind_some]
 refine Ev.bind (spec_TermOk_ev p t hl htw) ?_
 by_cases hk : tok p t = true
 ·refine Ev.yes hk ?_
  obtain ⟨hp0, hp1, _⟩ := tok_iff.1 hk
  rw [w64 (by omega) (by omega)]
  by_cases h0 : 0 ≤ i ∧ i ≤ p - 1
  ·rw [decide_eq_true h0, show alike p i t = alikeFrom p.toNat i.toNat t (2 ^ p.toNat) 0 from if_pos ⟨hk, by omega, by omega⟩]
   obtain ⟨q, rfl, hq1, hq, hq2, e⟩ := people_nat hp0 hp1
   obtain ⟨j, rfl⟩ := Int.eq_ofNat_of_zero_le h0.1
   refine Ev.step (fun k => by simp only [spec_AlikeOk.j0]; rfl) ?_
   rw [Int.toNat_natCast, Int.toNat_natCast]
   exact Ev.no (by simp) (spec_Alike_l0 hk hq1 hq hq2 (by omega) (2 ^ q) 0 (by omega))
  ·rw [decide_eq_false h0]; exact no (by omega)
 ·exact Ev.no hk (no (fun h => hk h.1))
theorem xorb_fin : ∀ w : Fin 16, ∀ i : Fin 4, Go.bits .xor .i64 ((w.val : Nat) : Int) (shl .i64 1 ((i.val : Nat) : Int)) = ((w.val ^^^ 2 ^ i.val : Nat) : Int) := by decide +kernel
theorem xorb {w i : Nat} (hw : w < 16) (hi : i < 4) : Go.bits .xor .i64 (w : Int) (shl .i64 1 (i : Int)) = ((w ^^^ 2 ^ i : Nat) : Int) := xorb_fin ⟨w, hw⟩ ⟨i, hi⟩
theorem xorb_lt {w i q : Nat} (hw : w < 2 ^ q) (hi : i < q) : w ^^^ 2 ^ i < 2 ^ q := Nat.xor_lt_two_pow hw (Nat.pow_lt_pow_right (by decide) hi)
/-- Whether a person matters in one of the worlds below. -/
noncomputable def dfs (t : List M) (i : Nat) : Nat → Bool
 | 0 => false
 | w + 1 => dfs t i w || (hv t w != hv t (w ^^^ 2 ^ i))
theorem dfs_iff (t : List M) (i : Nat) : ∀ n, dfs t i n = true ↔ ∃ w, w < n ∧ hv t w ≠ hv t (w ^^^ 2 ^ i)
 | 0 => by simp [dfs]
 | n + 1 => by
  rw [dfs, Bool.or_eq_true, dfs_iff t i n, bne_iff_ne]
  constructor
  ·rintro (⟨w, h1, h2⟩ | h)
   ·exact ⟨w, by omega, h2⟩
   ·exact ⟨n, by omega, h⟩
  ·rintro ⟨w, h1, h2⟩
   by_cases e : w = n
   ·subst e; exact .inr h2
   ·exact .inl ⟨w, by omega, h2⟩
theorem dfs_false {t : List M} {i n : Nat} (h : dfs t i n = false) : ∀ w, w < n → hv t w = hv t (w ^^^ 2 ^ i) := by
 intro w hw
 by_cases e : hv t w = hv t (w ^^^ 2 ^ i)
 ·exact e
 ·have := (dfs_iff t i n).2 ⟨w, hw, e⟩
  rw [h] at this
  cases this
theorem or_upd {P : Nat → Bool} {q i : Nat} (hi : i < q) : tabL P q ||| 2 ^ i = tabL (fun j => P j || decide (j = i)) q := by
 apply Nat.eq_of_testBit_eq
 intro j
 rw [Nat.testBit_or, tabL_bit, tabL_bit, Nat.testBit_two_pow]
 by_cases e : j = i
 ·subst e; simp [hi]
 ·have e' : ¬ i = j := fun h => e h.symm
  simp [e, e']
/-- What is found when a world is being looked at. -/
noncomputable def mst (t : List M) (q w i : Nat) : Nat := tabL (fun j => if j < i then dfs t j (w + 1) else dfs t j w) q
theorem mst_done (t : List M) (q w : Nat) : mst t q w q = mst t q (w + 1) 0 := tabL_congr (fun j hj => by simp [hj])
theorem mst_step {t : List M} {q w i : Nat} (hi : i < q) : mst t q w (i + 1) = if (hv t w != hv t (w ^^^ 2 ^ i)) = true then mst t q w i ||| 2 ^ i else mst t q w i := by
 by_cases h : (hv t w != hv t (w ^^^ 2 ^ i)) = true
 ·rw [if_pos h, mst, mst, or_upd hi]
  refine tabL_congr (fun j hj => ?_)
  by_cases e : j = i
  ·subst e; simp [dfs, h]
  ·by_cases e2 : j < i
   ·have : j < i + 1 := by omega
    simp [e, e2, this]
   ·have : ¬ j < i + 1 := by omega
    simp [e, e2, this]
 ·rw [if_neg h, mst, mst]
  refine tabL_congr (fun j hj => ?_)
  by_cases e : j = i
  ·subst e
   rw [Bool.not_eq_true] at h
   simp [dfs, h]
  ·by_cases e2 : j < i
   ·have : j < i + 1 := by omega
    simp [e2, this]
   ·have : ¬ j < i + 1 := by omega
    simp [e2, this]
theorem mst_lt {t : List M} {q w i : Nat} (hq : q ≤ 4) : mst t q w i < 65536 := tabL_mono (by omega)
noncomputable def matter (t : List M) (q : Nat) : Nat := tabL (fun j => dfs t j (2 ^ q)) q
theorem matter_l {q : Nat} {t : List M} (hk : tok (q : Int) t = true) (hq1 : 1 ≤ q) (hq : q ≤ 4) (hq2 : 2 ^ q ≤ 16) : ∀ d w : Nat, d + w = 2 ^ q →
  Ev (fun k => impl_MatterIn.l0 k (q : Int) t ((mst t q w 0 : Nat) : Int) ((2 ^ q : Nat) : Int) (w : Int)) ((matter t q : Nat) : Int) := by
 intro d
 induction d with
 | zero =>
  intro w hw
  rw [Nat.zero_add] at hw
  refine Ev.step (fun k => by simp only [impl_MatterIn.l0]; rfl) (Ev.no (by omega) (Ev.cast (Ev.some _) ?_))
  rw [hw, mst, matter]
  simp
 | succ d ih =>
  intro w hw
  refine Ev.step (fun k => by simp only [impl_MatterIn.l0]; rfl) (Ev.yes (by omega) ?_)
  have inner : ∀ e i : Nat, e + i = q → Ev (fun k => impl_MatterIn.l1 k (q : Int) t ((mst t q w i : Nat) : Int) (w : Int) ((2 ^ q : Nat) : Int) (w : Int) (q : Int) (i : Int)) ((matter t q : Nat) : Int) := by
   intro e
   induction e with
   | zero =>
    intro i hi
    rw [Nat.zero_add] at hi
    subst hi
    refine Ev.step (fun k => by simp only [impl_MatterIn.l1]; rfl) (Ev.no (by omega) ?_)
    rw [mst_done, w64 (by omega) (by omega), show ((w : Int) + 1) = ((w + 1 : Nat) : Int) by omega]
    exact ih (w + 1) (by omega)
   | succ e ihe =>
    intro i hi
    have hx := xorb_lt (w := w) (i := i) (q := q) (by omega) (by omega)
    have hml : mst t q w i < 65536 := mst_lt hq
    have hp : (2 : Nat) ^ i ≤ 2 ^ 4 := Nat.pow_le_pow_right (by decide) (by omega)
    refine Ev.step (fun k => by simp only [impl_MatterIn.l1]; rfl) ?_
    rw [xorb (by omega) (by omega), shl_nat (by omega), or_nat (by omega) (by omega), w64 (by omega) (by omega), show ((i : Int) + 1) = ((i + 1 : Nat) : Int) by omega]
    refine Ev.yes (by omega) (Ev.bind (impl_holds_hv hk (by omega)) (Ev.yes (by omega) (Ev.bind (impl_holds_hv hk (by omega)) ?_)))
    have h := ihe (i + 1) (by omega)
    rw [mst_step (by omega)] at h
    by_cases hb : (hv t w != hv t (w ^^^ 2 ^ i)) = true
    ·rw [if_pos hb] at h
     exact Ev.yes hb h
    ·rw [if_neg hb] at h
     exact Ev.no hb h
  exact inner q 0 (by omega)
theorem impl_MatterIn_ev (p : Int) (t : List M) : Ev (fun k => impl_MatterIn.f k p t) (if tok p t = true then ((matter t p.toNat : Nat) : Int) else -1) := by
 unfold impl_MatterIn.f
 refine Ev.bind (impl_TermOk_ev p t) ?_
 by_cases hk : tok p t = true
 ·rw [if_pos hk]
  refine Ev.yes hk ?_
  obtain ⟨hp0, hp1, _⟩ := tok_iff.1 hk
  obtain ⟨q, rfl, hq1, hq, hq2, e⟩ := people_nat hp0 hp1
  refine Ev.yes (by omega) ?_
  rw [shl_nat (by omega), e]
  have h := matter_l hk hq1 hq hq2 (2 ^ q) 0 (by omega)
  have e0 : mst t q 0 0 = 0 := by
   apply Nat.eq_of_testBit_eq
   intro j
   rw [mst, tabL_bit]
   simp [dfs]
  rw [e0] at h
  exact h
 ·rw [if_neg hk]
  exact Ev.no hk (Ev.some _)
theorem matter_bit (t : List M) (q i : Nat) : (matter t q).testBit i = (decide (i < q) && dfs t i (2 ^ q)) := tabL_bit _ _ _
theorem matter_lt {t : List M} {q : Nat} (hq : q ≤ 4) : matter t q < 16 := by
 have h := tabL_lt (fun j => dfs t j (2 ^ q)) q
 have : (2 : Nat) ^ q ≤ 2 ^ 4 := Nat.pow_le_pow_right (by decide) hq
 unfold matter
 omega
theorem hv_wrap {p i : Int} {t : List M} (hk : tok p t = true) (h0 : 0 ≤ i) (h1 : i < p) {w : Nat} (hw : w < 16) : hv (wrapM i t) w = (w.testBit i.toNat == hv t w) := by
 obtain ⟨a, hg, rfl, h4, hl⟩ := tok_tree hk
 have hp4 := (tok_iff.1 hk).2.1
 obtain ⟨j, rfl⟩ := Int.eq_ofNat_of_zero_le h0
 have e : wrapM (j : Int) a.post = (Tm.bin 5 (.tell j) a).post := by simp [wrapM, Tm.post]
 rw [e, hv_post (a := .bin 5 (.tell j) a) ⟨by omega, by show (j : Int) < 4; omega, h4⟩ (by rw [← e, wrapM_length]; omega) hw, hv_post h4 (by omega) hw]
 simp [Tm.ev, bop]
theorem may_wrap {p i : Int} {t : List M} (hk : tok p t = true) (h0 : 0 ≤ i) (h1 : i < p) {w : Nat} (hw : w < 16) : may i (wrapM i t) w = hv t w := by
 unfold may
 rw [hv_wrap hk h0 h1 hw]
 cases w.testBit i.toNat <;> cases hv t w <;> rfl
theorem bit_int {w i : Nat} (hw : w < 16) (hi : i < 4) : Int.tmod (shr .i64 (w : Int) (i : Int)) 2 = if w.testBit i then 1 else 0 := by
 have : ∀ w : Fin 16, ∀ i : Fin 4, Int.tmod (shr .i64 ((w.val : Nat) : Int) ((i.val : Nat) : Int)) 2 = if w.val.testBit i.val then 1 else 0 := by decide +kernel
 exact this ⟨w, hw⟩ ⟨i, hi⟩
theorem alive_eq' : laws_alive.f = some true := by decide +kernel
end Go.Proofs.Ytpampekijfjlkab.L
