/- Joined by a program of this session's: X52, X106, X108, LH, LTB, LTY, LO, LCB, LST, LSTI, LSM, LCBS, LSTS, LCLA, LM, LME, LMD, LMS, LMSF. -/
import Derived.Test.YtpampekijfjlkabG92e1bf0f90
import Derived.Test.YtpampekijfjlkabG3947cea838
import Derived.Test.YtpampekijfjlkabG5e649942bf
import Derived.Test.YtpampekijfjlkabG282467001a
import Derived.Laws.BitsLemmas
import Derived.Test.YtpampekijfjlkabGcb15e06111

-- printed by a program of this session's (xprint)
namespace Go.Proofs.Ytpampekijfjlkab.X
open Go.RowKit Go.Proofs.YtpampekijfjlkabW.PrintWords Go.Proofs.YtpampekijfjlkabW.PrintLast Go.Proofs.YtpampekijfjlkabW.PrintMore
attribute [local go_sem] max2_int min2_int max_two min_two max_three min_three max_four min_four   -- for this text's walks alone
set_option linter.unusedVariables false
set_option linter.unusedSimpArgs false

/-! ### laws_eqClaim: function 33 -/
def laws_eqClaim.f (k : Nat) (a0_0 : Int) (l0_1 : List (S33)) (a1_0 : Int) (l1_1 : List (S33)) : Option (Bool) := if a0_0 = a1_0 then ((laws_eqMarkS.f k l0_1 l1_1).bind fun t485 => (if t485 = true then (some true) else (some false))) else (some false)
theorem laws_eqClaim.mono : ∀ a0 a1 a2 a3 k, LeO (laws_eqClaim.f k a0 a1 a2 a3) (laws_eqClaim.f (k + 1) a0 a1 a2 a3) := by
 intro a0 a1 a2 a3 k
 unfold laws_eqClaim.f
 repeat' first
   | (with_reducible exact laws_eqMarkS.mono _ _ _)
   | (with_reducible exact LeO.refl _)
   | (with_reducible exact LeO.none _)
   | (with_reducible refine LeO.ite ?_ ?_)
   | (with_reducible refine LeO.bind ?_ (fun _ => ?_))
   | exact laws_eqMarkS.mono _ _ _
   | exact LeO.none _
   | refine LeO.ite ?_ ?_
   | refine LeO.bind ?_ (fun _ => ?_)
set_option maxHeartbeats 8000000 in
set_option maxRecDepth 100000 in
theorem laws_eqClaim.calls (k : Nat) (a0_0 : Int) (A0_1 : Option Addr) (c0_1 : Nat) (l0_1 : List (S33)) (a1_0 : Int) (A1_1 : Option Addr) (c1_1 : Nat) (l1_1 : List (S33)) (r : Bool) (w : World) (hr0_1 : Kd.C k33 w A0_1 l0_1.length l0_1) (hc0_1 : l0_1.length ≤ c0_1) (hr1_1 : Kd.C k33 w A1_1 l1_1.length l1_1) (hc1_1 : l1_1.length ≤ c1_1) (h : laws_eqClaim.f k a0_0 l0_1 a1_0 l1_1 = some r) :
  Calls Try.prog 33 #[.agg #[.int .i64 a0_0, .slice A0_1 l0_1.length c0_1], .agg #[.int .i64 a1_0, .slice A1_1 l1_1.length c1_1]] w fun e w' => e = .returned (.bool r) ∧ Below w.heap.size w w' := by
 have hu36 := Try.underlying36
 have HR0_1 := Aside0.mk hr0_1
 have HC0_1 := Aside0.mk hc0_1
 clear hr0_1 hc0_1
 have HR1_1 := Aside0.mk hr1_1
 have HC1_1 := Aside0.mk hc1_1
 clear hr1_1 hc1_1
 have HB := Aside0.mk (Below.refl w.heap.size w)
 have H : (if a0_0 = a1_0 then ((laws_eqMarkS.f k l0_1 l1_1).bind fun t485 => (if t485 = true then (some true) else (some false))) else (some false)) = some r := h
 clear h
 by_cases c3 : a0_0 = a1_0
 ·rw [if_pos c3] at H
  have c3b0 : (a0_0 == a1_0) = true := beq_iff_eq.mpr c3
  have c3b1 : (a0_0 != a1_0) = false := bne_eq_false_iff_eq.mpr c3
  clear c3
  replace H := Option.bind_eq_some_iff.mp H
  obtain ⟨t485, A40, H⟩ := H
  replace H : (if t485 = true then (some true) else (some false)) = some r := H
  have A4 := Aside0.mk A40
  clear A40
  by_cases c5 : t485 = true
  ·subst c5
   have H1 : (some true) = some r := by rw [if_pos rfl] at H; exact H
   clear H
   have H := H1
   clear H1
   obtain rfl := Option.some.inj H
   go_enter Try.func33, Try.ntmps33
   go_wp2_with (first | ((with_reducible refine gate_dst (N := 2) rfl ?_); refine box_event ?hg (N := 2) ?hd (cs := #[.int .i64 a0_0, .slice A0_1 l0_1.length c0_1]) (t := 36) ?hr ?_; (case hd => rfl); (case hg => rfl); (case hr => first | (go_simp; done) | (go_simp; rfl)); intro gb483 hg w6 hbox hb; have n0_ := Aside0.mk (below_step (by repeat (first | (with_reducible first | exact HB.out | apply below_alloc | apply pw_below_drewN | apply below_drew1) | exact HB.out)) hb); have n1_ := Aside0.mk (hbox); have n2_ := Aside0.mk ((by rw [hg]; exact (below_size (by repeat (first | (with_reducible first | exact HB.out | apply below_alloc | apply pw_below_drewN | apply below_drew1) | exact HB.out))) : w.heap.size ≤ gb483)); have n3_ := Aside0.mk ((by rw [hg]; exact (below_size (by repeat (first | (with_reducible first | exact HB.out | apply below_alloc | apply pw_below_drewN | apply below_drew1) | exact HB.out))) : w.heap.size ≤ gb483)); clear HB; have HB := n0_; have BK483 := n1_; have GW483 := n2_; have GE483 := n3_; clear n0_ n1_ n2_ n3_; clear hb hbox hg) | ((with_reducible refine gate_dst (N := 3) rfl ?_); refine box_event ?hg (N := 3) ?hd (cs := #[.int .i64 a1_0, .slice A1_1 l1_1.length c1_1]) (t := 36) ?hr ?_; (case hd => rfl); (case hg => rfl); (case hr => first | (go_simp; done) | (go_simp; rfl)); intro gb484 hg w7 hbox hb; have n0_ := Aside0.mk (blk_below (g := gb483) (o := .cells #[.int .i64 a0_0, .slice A0_1 l0_1.length c0_1] 36 (0, 0)) (by (with_reducible repeat (first | refine blk_drewN ?_ _ | refine blk_drew ?_ | refine blk_alloc ?_ _)); exact BK483.out) hb); have n1_ := Aside0.mk (below_step (by repeat (first | (with_reducible first | exact HB.out | apply below_alloc | apply pw_below_drewN | apply below_drew1 | refine below_set ?_ GE483.out) | exact HB.out)) hb); have n2_ := Aside0.mk (hbox); have n3_ := Aside0.mk ((by rw [hg]; exact (below_size (by repeat (first | (with_reducible first | exact HB.out | apply below_alloc | apply pw_below_drewN | apply below_drew1 | refine below_set ?_ GE483.out) | exact HB.out))) : w.heap.size ≤ gb484)); have n4_ := Aside0.mk ((by rw [hg]; exact (below_size (by repeat (first | (with_reducible first | exact HB.out | apply below_alloc | apply pw_below_drewN | apply below_drew1 | refine below_set ?_ GE483.out) | exact HB.out))) : w.heap.size ≤ gb484)); have n5_ := Aside0.mk ((by rw [hg]; exact Nat.ne_of_lt (blk_lt (g := gb483) (o := .cells #[.int .i64 a0_0, .slice A0_1 l0_1.length c0_1] 36 (0, 0)) (by (with_reducible repeat (first | refine blk_drewN ?_ _ | refine blk_drew ?_ | refine blk_alloc ?_ _)); exact BK483.out)) : gb483 ≠ gb484)); have n6_ := Aside0.mk ((by rw [hg]; exact Nat.ne_of_gt (blk_lt (g := gb483) (o := .cells #[.int .i64 a0_0, .slice A0_1 l0_1.length c0_1] 36 (0, 0)) (by (with_reducible repeat (first | refine blk_drewN ?_ _ | refine blk_drew ?_ | refine blk_alloc ?_ _)); exact BK483.out)) : gb484 ≠ gb483)); clear BK483; clear HB; have BK483 := n0_; have HB := n1_; have BK484 := n2_; have GW484 := n3_; have GE484 := n4_; have NB483_484 := n5_; have NB484_483 := n6_; clear n0_ n1_ n2_ n3_ n4_ n5_ n6_; clear hb hbox hg; have hnb8 := NB483_484.out; have hnc8 := NB484_483.out; have hcz9_0 : w7.cell? ⟨gb483, 0, none⟩ = some (.int .i64 a0_0) := (blk_cell BK483.out 0).trans rfl; have hcz9_1 : w7.cell? ⟨gb483, 1, none⟩ = some (.slice A0_1 l0_1.length c0_1) := (blk_cell BK483.out 1).trans rfl; have hfz9_0 := blk_frozen BK483.out 0; have hfz9_1 := blk_frozen BK483.out 1; have hcz10_0 : w7.cell? ⟨gb484, 0, none⟩ = some (.int .i64 a1_0) := (blk_cell BK484.out 0).trans rfl; have hcz10_1 : w7.cell? ⟨gb484, 1, none⟩ = some (.slice A1_1 l1_1.length c1_1) := (blk_cell BK484.out 1).trans rfl; have hfz10_0 := blk_frozen BK484.out 0; have hfz10_1 := blk_frozen BK484.out 1) | ((with_reducible refine gate_callee (f := 106) rfl ?_); refine goesL_ (some 14) rfl rfl Try.func106 (by kernel_rfl) rfl #[.slice A0_1 l0_1.length c0_1, .slice A1_1 l1_1.length c1_1] rfl (by (try simp only [List.map_toArray, List.map_cons, List.map_nil]); first | done | rfl | (simp only [List.length_drop, List.length_take]; rfl)) ?_; (with_reducible refine (laws_eqMarkS.calls k _ _ l0_1 _ _ l1_1 true _ ?side1 ?side2 ?side3 ?side4 A4.out).mono ?_); (case side1 => repeat (first | exact (Kd.C_below HR0_1.out HB.out) | (with_reducible refine Kd.C_alloc ?_ _) | (with_reducible refine Kd.C_drewN ?_ _) | (with_reducible refine Kd.C_drew ?_))); (case side2 => exact HC0_1.out); (case side3 => repeat (first | exact (Kd.C_below HR1_1.out HB.out) | (with_reducible refine Kd.C_alloc ?_ _) | (with_reducible refine Kd.C_drewN ?_ _) | (with_reducible refine Kd.C_drew ?_))); (case side4 => exact HC1_1.out); rintro e w11 ⟨rfl, hb⟩; refine ⟨_, rfl, ?_⟩; have n0_ := Aside0.mk (blk_below (g := gb483) (o := .cells #[.int .i64 a0_0, .slice A0_1 l0_1.length c0_1] 36 (0, 0)) (by (with_reducible repeat (first | refine blk_drewN ?_ _ | refine blk_drew ?_ | refine blk_alloc ?_ _)); exact BK483.out) hb); have n1_ := Aside0.mk (blk_below (g := gb484) (o := .cells #[.int .i64 a1_0, .slice A1_1 l1_1.length c1_1] 36 (0, 0)) (by (with_reducible repeat (first | refine blk_drewN ?_ _ | refine blk_drew ?_ | refine blk_alloc ?_ _)); exact BK484.out) hb); have n2_ := Aside0.mk (below_step (by repeat (first | (with_reducible first | exact HB.out | apply below_alloc | apply pw_below_drewN | apply below_drew1 | refine below_set ?_ GE483.out | refine below_set ?_ GE484.out) | exact HB.out)) hb); clear BK483; clear BK484; clear HB; have BK483 := n0_; have BK484 := n1_; have HB := n2_; clear n0_ n1_ n2_; (try clear hb); (try clear hb2); (try clear hk); (try clear hi)))
   go_ret
   exact ⟨by first | rfl | (simp [errW_none, errW_some] <;> rfl) | (simp [*, errW_none, errW_some] <;> rfl), by repeat (first | (with_reducible first | exact HB.out | apply below_alloc | apply pw_below_drewN | apply below_drew1 | refine below_set ?_ GE483.out | refine below_set ?_ GE484.out) | exact HB.out)⟩
  ·replace c5 := Bool.eq_false_iff.mpr c5
   subst c5
   have H1 : (some false) = some r := by rw [if_neg (show ¬ (false = true) by decide)] at H; exact H
   clear H
   have H := H1
   clear H1
   obtain rfl := Option.some.inj H
   go_enter Try.func33, Try.ntmps33
   go_wp2_with (first | ((with_reducible refine gate_dst (N := 2) rfl ?_); refine box_event ?hg (N := 2) ?hd (cs := #[.int .i64 a0_0, .slice A0_1 l0_1.length c0_1]) (t := 36) ?hr ?_; (case hd => rfl); (case hg => rfl); (case hr => first | (go_simp; done) | (go_simp; rfl)); intro gb483 hg w12 hbox hb; have n0_ := Aside0.mk (below_step (by repeat (first | (with_reducible first | exact HB.out | apply below_alloc | apply pw_below_drewN | apply below_drew1) | exact HB.out)) hb); have n1_ := Aside0.mk (hbox); have n2_ := Aside0.mk ((by rw [hg]; exact (below_size (by repeat (first | (with_reducible first | exact HB.out | apply below_alloc | apply pw_below_drewN | apply below_drew1) | exact HB.out))) : w.heap.size ≤ gb483)); have n3_ := Aside0.mk ((by rw [hg]; exact (below_size (by repeat (first | (with_reducible first | exact HB.out | apply below_alloc | apply pw_below_drewN | apply below_drew1) | exact HB.out))) : w.heap.size ≤ gb483)); clear HB; have HB := n0_; have BK483 := n1_; have GW483 := n2_; have GE483 := n3_; clear n0_ n1_ n2_ n3_; clear hb hbox hg) | ((with_reducible refine gate_dst (N := 3) rfl ?_); refine box_event ?hg (N := 3) ?hd (cs := #[.int .i64 a1_0, .slice A1_1 l1_1.length c1_1]) (t := 36) ?hr ?_; (case hd => rfl); (case hg => rfl); (case hr => first | (go_simp; done) | (go_simp; rfl)); intro gb484 hg w13 hbox hb; have n0_ := Aside0.mk (blk_below (g := gb483) (o := .cells #[.int .i64 a0_0, .slice A0_1 l0_1.length c0_1] 36 (0, 0)) (by (with_reducible repeat (first | refine blk_drewN ?_ _ | refine blk_drew ?_ | refine blk_alloc ?_ _)); exact BK483.out) hb); have n1_ := Aside0.mk (below_step (by repeat (first | (with_reducible first | exact HB.out | apply below_alloc | apply pw_below_drewN | apply below_drew1 | refine below_set ?_ GE483.out) | exact HB.out)) hb); have n2_ := Aside0.mk (hbox); have n3_ := Aside0.mk ((by rw [hg]; exact (below_size (by repeat (first | (with_reducible first | exact HB.out | apply below_alloc | apply pw_below_drewN | apply below_drew1 | refine below_set ?_ GE483.out) | exact HB.out))) : w.heap.size ≤ gb484)); have n4_ := Aside0.mk ((by rw [hg]; exact (below_size (by repeat (first | (with_reducible first | exact HB.out | apply below_alloc | apply pw_below_drewN | apply below_drew1 | refine below_set ?_ GE483.out) | exact HB.out))) : w.heap.size ≤ gb484)); have n5_ := Aside0.mk ((by rw [hg]; exact Nat.ne_of_lt (blk_lt (g := gb483) (o := .cells #[.int .i64 a0_0, .slice A0_1 l0_1.length c0_1] 36 (0, 0)) (by (with_reducible repeat (first | refine blk_drewN ?_ _ | refine blk_drew ?_ | refine blk_alloc ?_ _)); exact BK483.out)) : gb483 ≠ gb484)); have n6_ := Aside0.mk ((by rw [hg]; exact Nat.ne_of_gt (blk_lt (g := gb483) (o := .cells #[.int .i64 a0_0, .slice A0_1 l0_1.length c0_1] 36 (0, 0)) (by (with_reducible repeat (first | refine blk_drewN ?_ _ | refine blk_drew ?_ | refine blk_alloc ?_ _)); exact BK483.out)) : gb484 ≠ gb483)); clear BK483; clear HB; have BK483 := n0_; have HB := n1_; have BK484 := n2_; have GW484 := n3_; have GE484 := n4_; have NB483_484 := n5_; have NB484_483 := n6_; clear n0_ n1_ n2_ n3_ n4_ n5_ n6_; clear hb hbox hg; have hnb14 := NB483_484.out; have hnc14 := NB484_483.out; have hcz15_0 : w13.cell? ⟨gb483, 0, none⟩ = some (.int .i64 a0_0) := (blk_cell BK483.out 0).trans rfl; have hcz15_1 : w13.cell? ⟨gb483, 1, none⟩ = some (.slice A0_1 l0_1.length c0_1) := (blk_cell BK483.out 1).trans rfl; have hfz15_0 := blk_frozen BK483.out 0; have hfz15_1 := blk_frozen BK483.out 1; have hcz16_0 : w13.cell? ⟨gb484, 0, none⟩ = some (.int .i64 a1_0) := (blk_cell BK484.out 0).trans rfl; have hcz16_1 : w13.cell? ⟨gb484, 1, none⟩ = some (.slice A1_1 l1_1.length c1_1) := (blk_cell BK484.out 1).trans rfl; have hfz16_0 := blk_frozen BK484.out 0; have hfz16_1 := blk_frozen BK484.out 1) | ((with_reducible refine gate_callee (f := 106) rfl ?_); refine goesL_ (some 14) rfl rfl Try.func106 (by kernel_rfl) rfl #[.slice A0_1 l0_1.length c0_1, .slice A1_1 l1_1.length c1_1] rfl (by (try simp only [List.map_toArray, List.map_cons, List.map_nil]); first | done | rfl | (simp only [List.length_drop, List.length_take]; rfl)) ?_; (with_reducible refine (laws_eqMarkS.calls k _ _ l0_1 _ _ l1_1 false _ ?side1 ?side2 ?side3 ?side4 A4.out).mono ?_); (case side1 => repeat (first | exact (Kd.C_below HR0_1.out HB.out) | (with_reducible refine Kd.C_alloc ?_ _) | (with_reducible refine Kd.C_drewN ?_ _) | (with_reducible refine Kd.C_drew ?_))); (case side2 => exact HC0_1.out); (case side3 => repeat (first | exact (Kd.C_below HR1_1.out HB.out) | (with_reducible refine Kd.C_alloc ?_ _) | (with_reducible refine Kd.C_drewN ?_ _) | (with_reducible refine Kd.C_drew ?_))); (case side4 => exact HC1_1.out); rintro e w17 ⟨rfl, hb⟩; refine ⟨_, rfl, ?_⟩; have n0_ := Aside0.mk (blk_below (g := gb483) (o := .cells #[.int .i64 a0_0, .slice A0_1 l0_1.length c0_1] 36 (0, 0)) (by (with_reducible repeat (first | refine blk_drewN ?_ _ | refine blk_drew ?_ | refine blk_alloc ?_ _)); exact BK483.out) hb); have n1_ := Aside0.mk (blk_below (g := gb484) (o := .cells #[.int .i64 a1_0, .slice A1_1 l1_1.length c1_1] 36 (0, 0)) (by (with_reducible repeat (first | refine blk_drewN ?_ _ | refine blk_drew ?_ | refine blk_alloc ?_ _)); exact BK484.out) hb); have n2_ := Aside0.mk (below_step (by repeat (first | (with_reducible first | exact HB.out | apply below_alloc | apply pw_below_drewN | apply below_drew1 | refine below_set ?_ GE483.out | refine below_set ?_ GE484.out) | exact HB.out)) hb); clear BK483; clear BK484; clear HB; have BK483 := n0_; have BK484 := n1_; have HB := n2_; clear n0_ n1_ n2_; (try clear hb); (try clear hb2); (try clear hk); (try clear hi)))
   go_ret
   exact ⟨by first | rfl | (simp [errW_none, errW_some] <;> rfl) | (simp [*, errW_none, errW_some] <;> rfl), by repeat (first | (with_reducible first | exact HB.out | apply below_alloc | apply pw_below_drewN | apply below_drew1 | refine below_set ?_ GE483.out | refine below_set ?_ GE484.out) | exact HB.out)⟩
 ·rw [if_neg c3] at H
  have c3b0 : (a0_0 == a1_0) = false := beq_eq_false_iff_ne.mpr c3
  have c3b1 : (a0_0 != a1_0) = true := bne_iff_ne.mpr c3
  obtain rfl := Option.some.inj H
  go_enter Try.func33, Try.ntmps33
  go_wp2_with (first | ((with_reducible refine gate_dst (N := 2) rfl ?_); refine box_event ?hg (N := 2) ?hd (cs := #[.int .i64 a0_0, .slice A0_1 l0_1.length c0_1]) (t := 36) ?hr ?_; (case hd => rfl); (case hg => rfl); (case hr => first | (go_simp; done) | (go_simp; rfl)); intro gb483 hg w18 hbox hb; have n0_ := Aside0.mk (below_step (by repeat (first | (with_reducible first | exact HB.out | apply below_alloc | apply pw_below_drewN | apply below_drew1) | exact HB.out)) hb); have n1_ := Aside0.mk (hbox); have n2_ := Aside0.mk ((by rw [hg]; exact (below_size (by repeat (first | (with_reducible first | exact HB.out | apply below_alloc | apply pw_below_drewN | apply below_drew1) | exact HB.out))) : w.heap.size ≤ gb483)); have n3_ := Aside0.mk ((by rw [hg]; exact (below_size (by repeat (first | (with_reducible first | exact HB.out | apply below_alloc | apply pw_below_drewN | apply below_drew1) | exact HB.out))) : w.heap.size ≤ gb483)); clear HB; have HB := n0_; have BK483 := n1_; have GW483 := n2_; have GE483 := n3_; clear n0_ n1_ n2_ n3_; clear hb hbox hg) | ((with_reducible refine gate_dst (N := 3) rfl ?_); refine box_event ?hg (N := 3) ?hd (cs := #[.int .i64 a1_0, .slice A1_1 l1_1.length c1_1]) (t := 36) ?hr ?_; (case hd => rfl); (case hg => rfl); (case hr => first | (go_simp; done) | (go_simp; rfl)); intro gb484 hg w19 hbox hb; have n0_ := Aside0.mk (blk_below (g := gb483) (o := .cells #[.int .i64 a0_0, .slice A0_1 l0_1.length c0_1] 36 (0, 0)) (by (with_reducible repeat (first | refine blk_drewN ?_ _ | refine blk_drew ?_ | refine blk_alloc ?_ _)); exact BK483.out) hb); have n1_ := Aside0.mk (below_step (by repeat (first | (with_reducible first | exact HB.out | apply below_alloc | apply pw_below_drewN | apply below_drew1 | refine below_set ?_ GE483.out) | exact HB.out)) hb); have n2_ := Aside0.mk (hbox); have n3_ := Aside0.mk ((by rw [hg]; exact (below_size (by repeat (first | (with_reducible first | exact HB.out | apply below_alloc | apply pw_below_drewN | apply below_drew1 | refine below_set ?_ GE483.out) | exact HB.out))) : w.heap.size ≤ gb484)); have n4_ := Aside0.mk ((by rw [hg]; exact (below_size (by repeat (first | (with_reducible first | exact HB.out | apply below_alloc | apply pw_below_drewN | apply below_drew1 | refine below_set ?_ GE483.out) | exact HB.out))) : w.heap.size ≤ gb484)); have n5_ := Aside0.mk ((by rw [hg]; exact Nat.ne_of_lt (blk_lt (g := gb483) (o := .cells #[.int .i64 a0_0, .slice A0_1 l0_1.length c0_1] 36 (0, 0)) (by (with_reducible repeat (first | refine blk_drewN ?_ _ | refine blk_drew ?_ | refine blk_alloc ?_ _)); exact BK483.out)) : gb483 ≠ gb484)); have n6_ := Aside0.mk ((by rw [hg]; exact Nat.ne_of_gt (blk_lt (g := gb483) (o := .cells #[.int .i64 a0_0, .slice A0_1 l0_1.length c0_1] 36 (0, 0)) (by (with_reducible repeat (first | refine blk_drewN ?_ _ | refine blk_drew ?_ | refine blk_alloc ?_ _)); exact BK483.out)) : gb484 ≠ gb483)); clear BK483; clear HB; have BK483 := n0_; have HB := n1_; have BK484 := n2_; have GW484 := n3_; have GE484 := n4_; have NB483_484 := n5_; have NB484_483 := n6_; clear n0_ n1_ n2_ n3_ n4_ n5_ n6_; clear hb hbox hg; have hnb20 := NB483_484.out; have hnc20 := NB484_483.out; have hcz21_0 : w19.cell? ⟨gb483, 0, none⟩ = some (.int .i64 a0_0) := (blk_cell BK483.out 0).trans rfl; have hcz21_1 : w19.cell? ⟨gb483, 1, none⟩ = some (.slice A0_1 l0_1.length c0_1) := (blk_cell BK483.out 1).trans rfl; have hfz21_0 := blk_frozen BK483.out 0; have hfz21_1 := blk_frozen BK483.out 1; have hcz22_0 : w19.cell? ⟨gb484, 0, none⟩ = some (.int .i64 a1_0) := (blk_cell BK484.out 0).trans rfl; have hcz22_1 : w19.cell? ⟨gb484, 1, none⟩ = some (.slice A1_1 l1_1.length c1_1) := (blk_cell BK484.out 1).trans rfl; have hfz22_0 := blk_frozen BK484.out 0; have hfz22_1 := blk_frozen BK484.out 1))
  go_ret
  exact ⟨by first | rfl | (simp [errW_none, errW_some] <;> rfl) | (simp [*, errW_none, errW_some] <;> rfl), by repeat (first | (with_reducible first | exact HB.out | apply below_alloc | apply pw_below_drewN | apply below_drew1 | refine below_set ?_ GE483.out | refine below_set ?_ GE484.out) | exact HB.out)⟩

end Go.Proofs.Ytpampekijfjlkab.X

-- printed by a program of this session's (xprint)
namespace Go.Proofs.Ytpampekijfjlkab.X
open Go.RowKit Go.Proofs.YtpampekijfjlkabW.PrintWords Go.Proofs.YtpampekijfjlkabW.PrintLast Go.Proofs.YtpampekijfjlkabW.PrintMore
attribute [local go_sem] max2_int min2_int max_two min_two max_three min_three max_four min_four   -- for this text's walks alone
set_option linter.unusedVariables false
set_option linter.unusedSimpArgs false

/-! ### laws_eqClaimS: function 73 -/
def laws_eqClaimS.l0 : Nat → List (S36) → List (S36) → Int → Option (Bool)
 | 0, _, _, _ => none
 | k + 1, x0, x1, x5 => if x5 < (x0.length : Int) then (if 0 ≤ x5 then (if x5 < (x1.length : Int) then ((laws_eqClaim.f k ((rd_T36 x0 x5).f0) ((rd_T36 x0 x5).f1) ((rd_T36 x1 x5).f0) ((rd_T36 x1 x5).f1)).bind fun t980 => (if t980 = true then (laws_eqClaimS.l0 k x0 x1 (wrap64 (x5 + 1))) else (some false))) else (none)) else (none)) else (some true)
def laws_eqClaimS.f (k : Nat) (l0 : List (S36)) (l1 : List (S36)) : Option (Bool) := if (l0.length : Int) = (l1.length : Int) then (laws_eqClaimS.l0 k l0 l1 0) else (some false)
theorem laws_eqClaimS.mono_l : ∀ k, (∀ y0 y1 y2, LeO (laws_eqClaimS.l0 k y0 y1 y2) (laws_eqClaimS.l0 (k + 1) y0 y1 y2))
 | 0 => fun _ _ _ r h => by simp [laws_eqClaimS.l0] at h
 | k + 1 => by
  have ih0 := laws_eqClaimS.mono_l k
  ·intro y0 y1 y2
   unfold laws_eqClaimS.l0
   repeat' first
   | (with_reducible exact ih0 _ _ _)
   | (with_reducible exact laws_eqClaim.mono _ _ _ _ _)
   | (with_reducible exact LeO.refl _)
   | (with_reducible exact LeO.none _)
   | (with_reducible refine LeO.ite ?_ ?_)
   | (with_reducible refine LeO.bind ?_ (fun _ => ?_))
   | exact ih0 _ _ _
   | exact laws_eqClaim.mono _ _ _ _ _
   | exact LeO.none _
   | refine LeO.ite ?_ ?_
   | refine LeO.bind ?_ (fun _ => ?_)
theorem laws_eqClaimS.mono : ∀ a0 a1 k, LeO (laws_eqClaimS.f k a0 a1) (laws_eqClaimS.f (k + 1) a0 a1) := by
 intro a0 a1 k
 have ih0 := laws_eqClaimS.mono_l k
 unfold laws_eqClaimS.f
 repeat' first
   | (with_reducible exact ih0 _ _ _)
   | (with_reducible exact laws_eqClaim.mono _ _ _ _ _)
   | (with_reducible exact LeO.refl _)
   | (with_reducible exact LeO.none _)
   | (with_reducible refine LeO.ite ?_ ?_)
   | (with_reducible refine LeO.bind ?_ (fun _ => ?_))
   | exact ih0 _ _ _
   | exact laws_eqClaim.mono _ _ _ _ _
   | exact LeO.none _
   | refine LeO.ite ?_ ?_
   | refine LeO.bind ?_ (fun _ => ?_)
def laws_eqClaimS.T6 : Bool × List (List Nat × List Nat) := (true, [([], []), ([], []), ([0, 1], [0, 1]), ([2], [2]), ([], []), ([], []), ([4, 5], [4, 5]), ([6], [6]), ([3, 7], [3, 7]), ([8], [8])])
def laws_eqClaimS.B6 : List Nat := [0, 0, 3, 7, 0, 0, 48, 112, 255, 511]
theorem laws_eqClaimS.tab6 : rtab .any (opsOf Try.f73 6) = laws_eqClaimS.T6 := by kernel_rfl
theorem laws_eqClaimS.bits6 : waitsOk laws_eqClaimS.T6.2 laws_eqClaimS.B6 = true := by kernel_rfl
set_option maxHeartbeats 8000000 in
set_option maxRecDepth 100000 in
theorem laws_eqClaimS.calls (k : Nat) (A0 : Option Addr) (c0 : Nat) (l0 : List (S36)) (A1 : Option Addr) (c1 : Nat) (l1 : List (S36)) (r : Bool) (w : World) (hr0 : Kd.C k36 w A0 l0.length l0) (hc0 : l0.length ≤ c0) (hr1 : Kd.C k36 w A1 l1.length l1) (hc1 : l1.length ≤ c1) (h : laws_eqClaimS.f k l0 l1 = some r) :
  Calls Try.prog 73 #[.slice A0 l0.length c0, .slice A1 l1.length c1] w fun e w' => e = .returned (.bool r) ∧ Below w.heap.size w w' := by
 have hu36 := Try.underlying36
 have HR0 := Aside0.mk hr0
 have HC0 := Aside0.mk hc0
 clear hr0 hc0
 have HR1 := Aside0.mk hr1
 have HC1 := Aside0.mk hc1
 clear hr1 hc1
 have HB := Aside0.mk (Below.refl w.heap.size w)
 have H : (if (l0.length : Int) = (l1.length : Int) then (laws_eqClaimS.l0 k l0 l1 0) else (some false)) = some r := h
 clear h
 by_cases c3 : (l0.length : Int) = (l1.length : Int)
 ·rw [if_pos c3] at H
  have c3b0 : ((l0.length : Int) == (l1.length : Int)) = true := beq_iff_eq.mpr c3
  have c3b1 : ((l0.length : Int) != (l1.length : Int)) = false := bne_eq_false_iff_eq.mpr c3
  have c3b2 : (l0.length == l1.length) = true := by first | simpa using c3 | (simp at c3 ⊢; omega)
  clear c3
  have H' := Aside0.mk H
  clear H
  go_enter Try.func73, Try.ntmps73
  go_wp2
  go_loopg [5] k (fun kq v5 w' => ∃ (x5_1 : Int), v5 = .int .i64 x5_1 ∧ Aside0 (laws_eqClaimS.l0 kq l0 l1 x5_1 = some r) ∧ Aside0 (kq ≤ k) ∧ Aside0 (Below w.heap.size w w'))
  case atStart => exact ⟨(0), (by first | rfl | (simp; done) | (simp [*]; done)), H', ⟨Nat.le_refl _⟩, ⟨by repeat (first | (with_reducible first | exact HB.out | apply below_alloc | apply pw_below_drewN | apply below_drew1) | exact HB.out)⟩⟩
  case round =>
   clear H'
   try clear c1
   try clear p2
   try clear c3
   try clear c3b0
   try clear c3b1
   try clear c3b2
   obtain ⟨x5_1, rfl, HA, HK1, HB⟩ := hrel
   cases gk with
   | zero => exact absurd HA.out (by simp [laws_eqClaimS.l0])
   | succ k1 =>
    have H := HA.out
    clear HA
    simp only [laws_eqClaimS.l0] at H
    by_cases c4 : x5_1 < (l0.length : Int)
    ·rw [if_pos c4] at H
     have c4b0 : decide (x5_1 < (l0.length : Int)) = true := decide_eq_true c4
     clear c4
     by_cases c5 : 0 ≤ x5_1
     ·rw [if_pos c5] at H
      have c5b0 : decide (0 ≤ x5_1) = true := decide_eq_true c5
      clear c5
      by_cases c6 : x5_1 < (l1.length : Int)
      ·rw [if_pos c6] at H
       have c6b0 : decide (x5_1 < (l1.length : Int)) = true := decide_eq_true c6
       clear c6
       replace H := Option.bind_eq_some_iff.mp H
       obtain ⟨t980, A70, H⟩ := H
       replace H : (if t980 = true then (laws_eqClaimS.l0 k1 l0 l1 (wrap64 (x5_1 + 1))) else (some false)) = some r := H
       have A7 := Aside0.mk A70
       clear A70
       by_cases c8 : t980 = true
       ·subst c8
        have H1 : (laws_eqClaimS.l0 k1 l0 l1 (wrap64 (x5_1 + 1))) = some r := by rw [if_pos rfl] at H; exact H
        clear H
        have H := H1
        clear H1
        have H' := Aside0.mk H
        clear H
        try go_wp2
        have n0_ := Aside0.mk (below_drew1 HB.out)
        clear HB
        have HB := n0_
        clear n0_
        have p978 : 0 ≤ (x5_1 : Int) := of_decide_eq_true (by first | (with_reducible assumption) | assumption)
        have q978 : x5_1 < (l0.length : Int) := of_decide_eq_true (by first | (with_reducible assumption) | assumption)
        obtain ⟨ad978, A978_1, c978_1, e978, hx978_0, hx978_1, hl978_1, hi978_1⟩ := at_T36 HR0.out x5_1 p978 q978
        have hw978_1 := hx978_1
        have hw978_0 := hx978_0
        cases e978
        replace hx978_0 := (HB.out.cell (World.block_lt_of_cell? w _ hx978_0)).trans hx978_0
        replace hx978_1 := (HB.out.cell (World.block_lt_of_cell? w _ hx978_1)).trans hx978_1
        have HR978_1 := Aside0.mk hi978_1
        have HC978_1 := Aside0.mk hl978_1
        clear hi978_1 hl978_1
        replace p978 := eq_true p978
        replace q978 := eq_true q978
        have p979 : 0 ≤ (x5_1 : Int) := of_decide_eq_true (by first | (with_reducible assumption) | assumption)
        have q979 : x5_1 < (l1.length : Int) := of_decide_eq_true (by first | (with_reducible assumption) | assumption)
        obtain ⟨ad979, A979_1, c979_1, e979, hx979_0, hx979_1, hl979_1, hi979_1⟩ := at_T36 HR1.out x5_1 p979 q979
        have hw979_1 := hx979_1
        have hw979_0 := hx979_0
        cases e979
        replace hx979_0 := (HB.out.cell (World.block_lt_of_cell? w _ hx979_0)).trans hx979_0
        replace hx979_1 := (HB.out.cell (World.block_lt_of_cell? w _ hx979_1)).trans hx979_1
        have HR979_1 := Aside0.mk hi979_1
        have HC979_1 := Aside0.mk hl979_1
        clear hi979_1 hl979_1
        replace p979 := eq_true p979
        replace q979 := eq_true q979
        refine start_ (n := 10) (S := fun w' => w'.cell? (ad978.add ((x5_1).toNat * 2)) = some (.int .i64 ((rd_T36 l0 x5_1).f0)) ∧ w'.cell? ⟨(ad978.add ((x5_1).toNat * 2)).block, (ad978.add ((x5_1).toNat * 2)).off + 1, none⟩ = some (.slice A978_1 ((rd_T36 l0 x5_1).f1).length c978_1) ∧ w'.cell? (ad979.add ((x5_1).toNat * 2)) = some (.int .i64 ((rd_T36 l1 x5_1).f0)) ∧ w'.cell? ⟨(ad979.add ((x5_1).toNat * 2)).block, (ad979.add ((x5_1).toNat * 2)).off + 1, none⟩ = some (.slice A979_1 ((rd_T36 l1 x5_1).f1).length c979_1)) (ds := []) #[false, false, false, false, false, false, false, false, false, false] (by kernel_rfl) rfl rfl ⟨((HB.out.cell (World.block_lt_of_cell? w _ hw978_0)).trans hw978_0), ((HB.out.cell (World.block_lt_of_cell? w _ hw978_1)).trans hw978_1), ((HB.out.cell (World.block_lt_of_cell? w _ hw979_0)).trans hw979_0), ((HB.out.cell (World.block_lt_of_cell? w _ hw979_1)).trans hw979_1)⟩ (fun hHeld => ?_); refine with_tabW laws_eqClaimS.tab6 laws_eqClaimS.bits6 (fun HT_ HW_ => ?_)
        generalize wr.drew = w9 at HB HR978_1 HR979_1 hx978_0 hx978_1 hx979_0 hx979_1 hHeld ⊢
        refine pure_ (i := 0) (N := some 17) (v := ?_) (a' := ?_) #[true, false, false, false, false, false, false, false, false, false] rfl rfl (any_of HT_.out (by kernel_rfl)) (fun _ _ _ h => h) (Or.inl ⟨by rfl, ?_⟩) ?_ ?_
        rotate_left
        ·intro w'
         go_simp
         with_reducible rfl
        rotate_left
        ·simp only [Act.put, List.setIfInBounds_toArray, List.set_cons_zero, List.set_cons_succ, i64_w, i32_w]
         rfl
        refine pure_ (i := 1) (N := some 18) (v := ?_) (a' := ?_) #[true, true, false, false, false, false, false, false, false, false] rfl rfl (any_of HT_.out (by kernel_rfl)) (fun _ _ _ h => h) (Or.inl ⟨by rfl, ?_⟩) ?_ ?_
        rotate_left
        ·intro w'
         go_simp
         with_reducible rfl
        rotate_left
        ·simp only [Act.put, List.setIfInBounds_toArray, List.set_cons_zero, List.set_cons_succ, i64_w, i32_w]
         rfl
        refine pure_ (i := 2) (N := some 19) (v := ?_) (a' := ?_) #[true, true, true, false, false, false, false, false, false, false] rfl rfl (any_of HT_.out (by kernel_rfl)) (fun _ _ _ h => h) (Or.inl ⟨by rfl, ?_⟩) ?_ ?_
        rotate_left
        ·intro w'
         go_simp
         with_reducible rfl
        rotate_left
        ·simp only [Act.put, List.setIfInBounds_toArray, List.set_cons_zero, List.set_cons_succ, i64_w, i32_w]
         rfl
        refine pure_ (i := 4) (N := some 21) (v := ?_) (a' := ?_) #[true, true, true, false, true, false, false, false, false, false] rfl rfl (any_of HT_.out (by kernel_rfl)) (fun _ _ _ h => h) (Or.inl ⟨by rfl, ?_⟩) ?_ ?_
        rotate_left
        ·intro w'
         go_simp
         with_reducible rfl
        rotate_left
        ·simp only [Act.put, List.setIfInBounds_toArray, List.set_cons_zero, List.set_cons_succ, i64_w, i32_w]
         rfl
        refine pure_ (i := 5) (N := some 22) (v := ?_) (a' := ?_) #[true, true, true, false, true, true, false, false, false, false] rfl rfl (any_of HT_.out (by kernel_rfl)) (fun _ _ _ h => h) (Or.inl ⟨by rfl, ?_⟩) ?_ ?_
        rotate_left
        ·intro w'
         go_simp
         with_reducible rfl
        rotate_left
        ·simp only [Act.put, List.setIfInBounds_toArray, List.set_cons_zero, List.set_cons_succ, i64_w, i32_w]
         rfl
        refine pure_ (i := 6) (N := some 23) (v := ?_) (a' := ?_) #[true, true, true, false, true, true, true, false, false, false] rfl rfl (any_of HT_.out (by kernel_rfl)) (fun _ _ _ h => h) (Or.inl ⟨by rfl, ?_⟩) ?_ ?_
        rotate_left
        ·intro w'
         go_simp
         with_reducible rfl
        rotate_left
        ·simp only [Act.put, List.setIfInBounds_toArray, List.set_cons_zero, List.set_cons_succ, i64_w, i32_w]
         rfl
        refine take_ (i := 3) (N := some 20) (v := ?_) (a' := ?_) #[true, true, true, true, true, true, true, false, false, false] rfl rfl (take_ofW HT_.out HW_.out (by kernel_rfl)) (fun _ _ _ h => h) (Or.inl ⟨by rfl, ?_⟩) hHeld ?_ ?_
        rotate_left
        ·rintro w' ⟨s0, s1, s2, s3⟩
         go_simp
         with_reducible rfl
        rotate_left
        ·simp only [Act.put, List.setIfInBounds_toArray, List.set_cons_zero, List.set_cons_succ, i64_w, i32_w]
         rfl
        refine take_ (i := 7) (N := some 24) (v := ?_) (a' := ?_) #[true, true, true, true, true, true, true, true, false, false] rfl rfl (take_ofW HT_.out HW_.out (by kernel_rfl)) (fun _ _ _ h => h) (Or.inl ⟨by rfl, ?_⟩) hHeld ?_ ?_
        rotate_left
        ·rintro w' ⟨s0, s1, s2, s3⟩
         go_simp
         with_reducible rfl
        rotate_left
        ·simp only [Act.put, List.setIfInBounds_toArray, List.set_cons_zero, List.set_cons_succ, i64_w, i32_w]
         rfl
        refine one_ (i := 8) (N := some 25) #[true, true, true, true, true, true, true, true, true, false] rfl rfl (one_of HT_.out (by kernel_rfl)) (by decide) (fun K hK => ?_)
        refine goes_ Try.func33 (by kernel_rfl) rfl #[.agg #[.int .i64 ((rd_T36 l0 x5_1).f0), .slice A978_1 ((rd_T36 l0 x5_1).f1).length c978_1], .agg #[.int .i64 ((rd_T36 l1 x5_1).f0), .slice A979_1 ((rd_T36 l1 x5_1).f1).length c979_1]] (by rfl) rfl rfl (by (try simp only [List.map_toArray, List.map_cons, List.map_nil]); first | done | rfl | (simp only [List.length_drop, List.length_take]; rfl)) ?_
        with_reducible refine (laws_eqClaim.calls k1 ((rd_T36 l0 x5_1).f0) _ _ ((rd_T36 l0 x5_1).f1) ((rd_T36 l1 x5_1).f0) _ _ ((rd_T36 l1 x5_1).f1) true _ ?side1 ?side2 ?side3 ?side4 A7.out).mono ?_
        (case side1 => repeat (first | exact (Kd.C_below HR978_1.out HB.out) | (with_reducible refine Kd.C_alloc ?_ _) | (with_reducible refine Kd.C_drewN ?_ _) | (with_reducible refine Kd.C_drew ?_)))
        (case side2 => exact HC978_1.out)
        (case side3 => repeat (first | exact (Kd.C_below HR979_1.out HB.out) | (with_reducible refine Kd.C_alloc ?_ _) | (with_reducible refine Kd.C_drewN ?_ _) | (with_reducible refine Kd.C_drew ?_)))
        (case side4 => exact HC979_1.out)
        rintro e w10 ⟨rfl, hb⟩
        refine ⟨_, rfl, ?_⟩
        have n0_ := Aside0.mk (below_step (by repeat (first | (with_reducible first | exact HB.out | apply below_alloc | apply pw_below_drewN | apply below_drew1) | exact HB.out)) hb)
        clear HB
        have HB := n0_
        clear n0_
        (try clear hb)
        (try clear hb2)
        (try clear hk)
        (try clear hi)
        refine hK.out _ _ ⟨((HB.out.cell (World.block_lt_of_cell? w _ hw978_0)).trans hw978_0), ((HB.out.cell (World.block_lt_of_cell? w _ hw978_1)).trans hw978_1), ((HB.out.cell (World.block_lt_of_cell? w _ hw979_0)).trans hw979_0), ((HB.out.cell (World.block_lt_of_cell? w _ hw979_1)).trans hw979_1)⟩ (fun hHeld => ?_)
        clear hK K
        refine norm_ (a' := ?_) ?_ ?_
        rotate_left
        ·show Act.put _ (some 25) _ = _
         simp only [Act.put, List.setIfInBounds_toArray, List.set_cons_zero, List.set_cons_succ, i64_w, i32_w]
         rfl
        refine pure_ (i := 9) (N := some 26) (v := ?_) (a' := ?_) #[true, true, true, true, true, true, true, true, true, true] rfl rfl (any_of HT_.out (by kernel_rfl)) (fun _ _ _ h => h) (Or.inl ⟨by rfl, ?_⟩) ?_ ?_
        rotate_left
        ·intro w'
         go_simp
         with_reducible rfl
        rotate_left
        ·simp only [Act.put, List.setIfInBounds_toArray, List.set_cons_zero, List.set_cons_succ, i64_w, i32_w]
         rfl
        refine done_ (done_of HT_.out (by kernel_rfl)) ?_
        try go_wp2
        go_roundg k1
        case measure => have := HK1.out; omega
        case rel => exact ⟨(wrap64 (x5_1 + 1)), (by first | rfl | (simp; done) | (simp [*]; done)), H', ⟨by have := HK1.out; omega⟩, ⟨by repeat (first | (with_reducible first | exact HB.out | apply below_alloc | apply pw_below_drewN | apply below_drew1) | exact HB.out)⟩⟩
       ·replace c8 := Bool.eq_false_iff.mpr c8
        subst c8
        have H1 : (some false) = some r := by rw [if_neg (show ¬ (false = true) by decide)] at H; exact H
        clear H
        have H := H1
        clear H1
        obtain rfl := Option.some.inj H
        try go_wp2
        have n0_ := Aside0.mk (below_drew1 HB.out)
        clear HB
        have HB := n0_
        clear n0_
        have p978 : 0 ≤ (x5_1 : Int) := of_decide_eq_true (by first | (with_reducible assumption) | assumption)
        have q978 : x5_1 < (l0.length : Int) := of_decide_eq_true (by first | (with_reducible assumption) | assumption)
        obtain ⟨ad978, A978_1, c978_1, e978, hx978_0, hx978_1, hl978_1, hi978_1⟩ := at_T36 HR0.out x5_1 p978 q978
        have hw978_1 := hx978_1
        have hw978_0 := hx978_0
        cases e978
        replace hx978_0 := (HB.out.cell (World.block_lt_of_cell? w _ hx978_0)).trans hx978_0
        replace hx978_1 := (HB.out.cell (World.block_lt_of_cell? w _ hx978_1)).trans hx978_1
        have HR978_1 := Aside0.mk hi978_1
        have HC978_1 := Aside0.mk hl978_1
        clear hi978_1 hl978_1
        replace p978 := eq_true p978
        replace q978 := eq_true q978
        have p979 : 0 ≤ (x5_1 : Int) := of_decide_eq_true (by first | (with_reducible assumption) | assumption)
        have q979 : x5_1 < (l1.length : Int) := of_decide_eq_true (by first | (with_reducible assumption) | assumption)
        obtain ⟨ad979, A979_1, c979_1, e979, hx979_0, hx979_1, hl979_1, hi979_1⟩ := at_T36 HR1.out x5_1 p979 q979
        have hw979_1 := hx979_1
        have hw979_0 := hx979_0
        cases e979
        replace hx979_0 := (HB.out.cell (World.block_lt_of_cell? w _ hx979_0)).trans hx979_0
        replace hx979_1 := (HB.out.cell (World.block_lt_of_cell? w _ hx979_1)).trans hx979_1
        have HR979_1 := Aside0.mk hi979_1
        have HC979_1 := Aside0.mk hl979_1
        clear hi979_1 hl979_1
        replace p979 := eq_true p979
        replace q979 := eq_true q979
        refine start_ (n := 10) (S := fun w' => w'.cell? (ad978.add ((x5_1).toNat * 2)) = some (.int .i64 ((rd_T36 l0 x5_1).f0)) ∧ w'.cell? ⟨(ad978.add ((x5_1).toNat * 2)).block, (ad978.add ((x5_1).toNat * 2)).off + 1, none⟩ = some (.slice A978_1 ((rd_T36 l0 x5_1).f1).length c978_1) ∧ w'.cell? (ad979.add ((x5_1).toNat * 2)) = some (.int .i64 ((rd_T36 l1 x5_1).f0)) ∧ w'.cell? ⟨(ad979.add ((x5_1).toNat * 2)).block, (ad979.add ((x5_1).toNat * 2)).off + 1, none⟩ = some (.slice A979_1 ((rd_T36 l1 x5_1).f1).length c979_1)) (ds := []) #[false, false, false, false, false, false, false, false, false, false] (by kernel_rfl) rfl rfl ⟨((HB.out.cell (World.block_lt_of_cell? w _ hw978_0)).trans hw978_0), ((HB.out.cell (World.block_lt_of_cell? w _ hw978_1)).trans hw978_1), ((HB.out.cell (World.block_lt_of_cell? w _ hw979_0)).trans hw979_0), ((HB.out.cell (World.block_lt_of_cell? w _ hw979_1)).trans hw979_1)⟩ (fun hHeld => ?_); refine with_tabW laws_eqClaimS.tab6 laws_eqClaimS.bits6 (fun HT_ HW_ => ?_)
        generalize wr.drew = w11 at HB HR978_1 HR979_1 hx978_0 hx978_1 hx979_0 hx979_1 hHeld ⊢
        refine pure_ (i := 0) (N := some 17) (v := ?_) (a' := ?_) #[true, false, false, false, false, false, false, false, false, false] rfl rfl (any_of HT_.out (by kernel_rfl)) (fun _ _ _ h => h) (Or.inl ⟨by rfl, ?_⟩) ?_ ?_
        rotate_left
        ·intro w'
         go_simp
         with_reducible rfl
        rotate_left
        ·simp only [Act.put, List.setIfInBounds_toArray, List.set_cons_zero, List.set_cons_succ, i64_w, i32_w]
         rfl
        refine pure_ (i := 1) (N := some 18) (v := ?_) (a' := ?_) #[true, true, false, false, false, false, false, false, false, false] rfl rfl (any_of HT_.out (by kernel_rfl)) (fun _ _ _ h => h) (Or.inl ⟨by rfl, ?_⟩) ?_ ?_
        rotate_left
        ·intro w'
         go_simp
         with_reducible rfl
        rotate_left
        ·simp only [Act.put, List.setIfInBounds_toArray, List.set_cons_zero, List.set_cons_succ, i64_w, i32_w]
         rfl
        refine pure_ (i := 2) (N := some 19) (v := ?_) (a' := ?_) #[true, true, true, false, false, false, false, false, false, false] rfl rfl (any_of HT_.out (by kernel_rfl)) (fun _ _ _ h => h) (Or.inl ⟨by rfl, ?_⟩) ?_ ?_
        rotate_left
        ·intro w'
         go_simp
         with_reducible rfl
        rotate_left
        ·simp only [Act.put, List.setIfInBounds_toArray, List.set_cons_zero, List.set_cons_succ, i64_w, i32_w]
         rfl
        refine pure_ (i := 4) (N := some 21) (v := ?_) (a' := ?_) #[true, true, true, false, true, false, false, false, false, false] rfl rfl (any_of HT_.out (by kernel_rfl)) (fun _ _ _ h => h) (Or.inl ⟨by rfl, ?_⟩) ?_ ?_
        rotate_left
        ·intro w'
         go_simp
         with_reducible rfl
        rotate_left
        ·simp only [Act.put, List.setIfInBounds_toArray, List.set_cons_zero, List.set_cons_succ, i64_w, i32_w]
         rfl
        refine pure_ (i := 5) (N := some 22) (v := ?_) (a' := ?_) #[true, true, true, false, true, true, false, false, false, false] rfl rfl (any_of HT_.out (by kernel_rfl)) (fun _ _ _ h => h) (Or.inl ⟨by rfl, ?_⟩) ?_ ?_
        rotate_left
        ·intro w'
         go_simp
         with_reducible rfl
        rotate_left
        ·simp only [Act.put, List.setIfInBounds_toArray, List.set_cons_zero, List.set_cons_succ, i64_w, i32_w]
         rfl
        refine pure_ (i := 6) (N := some 23) (v := ?_) (a' := ?_) #[true, true, true, false, true, true, true, false, false, false] rfl rfl (any_of HT_.out (by kernel_rfl)) (fun _ _ _ h => h) (Or.inl ⟨by rfl, ?_⟩) ?_ ?_
        rotate_left
        ·intro w'
         go_simp
         with_reducible rfl
        rotate_left
        ·simp only [Act.put, List.setIfInBounds_toArray, List.set_cons_zero, List.set_cons_succ, i64_w, i32_w]
         rfl
        refine take_ (i := 3) (N := some 20) (v := ?_) (a' := ?_) #[true, true, true, true, true, true, true, false, false, false] rfl rfl (take_ofW HT_.out HW_.out (by kernel_rfl)) (fun _ _ _ h => h) (Or.inl ⟨by rfl, ?_⟩) hHeld ?_ ?_
        rotate_left
        ·rintro w' ⟨s0, s1, s2, s3⟩
         go_simp
         with_reducible rfl
        rotate_left
        ·simp only [Act.put, List.setIfInBounds_toArray, List.set_cons_zero, List.set_cons_succ, i64_w, i32_w]
         rfl
        refine take_ (i := 7) (N := some 24) (v := ?_) (a' := ?_) #[true, true, true, true, true, true, true, true, false, false] rfl rfl (take_ofW HT_.out HW_.out (by kernel_rfl)) (fun _ _ _ h => h) (Or.inl ⟨by rfl, ?_⟩) hHeld ?_ ?_
        rotate_left
        ·rintro w' ⟨s0, s1, s2, s3⟩
         go_simp
         with_reducible rfl
        rotate_left
        ·simp only [Act.put, List.setIfInBounds_toArray, List.set_cons_zero, List.set_cons_succ, i64_w, i32_w]
         rfl
        refine one_ (i := 8) (N := some 25) #[true, true, true, true, true, true, true, true, true, false] rfl rfl (one_of HT_.out (by kernel_rfl)) (by decide) (fun K hK => ?_)
        refine goes_ Try.func33 (by kernel_rfl) rfl #[.agg #[.int .i64 ((rd_T36 l0 x5_1).f0), .slice A978_1 ((rd_T36 l0 x5_1).f1).length c978_1], .agg #[.int .i64 ((rd_T36 l1 x5_1).f0), .slice A979_1 ((rd_T36 l1 x5_1).f1).length c979_1]] (by rfl) rfl rfl (by (try simp only [List.map_toArray, List.map_cons, List.map_nil]); first | done | rfl | (simp only [List.length_drop, List.length_take]; rfl)) ?_
        with_reducible refine (laws_eqClaim.calls k1 ((rd_T36 l0 x5_1).f0) _ _ ((rd_T36 l0 x5_1).f1) ((rd_T36 l1 x5_1).f0) _ _ ((rd_T36 l1 x5_1).f1) false _ ?side1 ?side2 ?side3 ?side4 A7.out).mono ?_
        (case side1 => repeat (first | exact (Kd.C_below HR978_1.out HB.out) | (with_reducible refine Kd.C_alloc ?_ _) | (with_reducible refine Kd.C_drewN ?_ _) | (with_reducible refine Kd.C_drew ?_)))
        (case side2 => exact HC978_1.out)
        (case side3 => repeat (first | exact (Kd.C_below HR979_1.out HB.out) | (with_reducible refine Kd.C_alloc ?_ _) | (with_reducible refine Kd.C_drewN ?_ _) | (with_reducible refine Kd.C_drew ?_)))
        (case side4 => exact HC979_1.out)
        rintro e w12 ⟨rfl, hb⟩
        refine ⟨_, rfl, ?_⟩
        have n0_ := Aside0.mk (below_step (by repeat (first | (with_reducible first | exact HB.out | apply below_alloc | apply pw_below_drewN | apply below_drew1) | exact HB.out)) hb)
        clear HB
        have HB := n0_
        clear n0_
        (try clear hb)
        (try clear hb2)
        (try clear hk)
        (try clear hi)
        refine hK.out _ _ ⟨((HB.out.cell (World.block_lt_of_cell? w _ hw978_0)).trans hw978_0), ((HB.out.cell (World.block_lt_of_cell? w _ hw978_1)).trans hw978_1), ((HB.out.cell (World.block_lt_of_cell? w _ hw979_0)).trans hw979_0), ((HB.out.cell (World.block_lt_of_cell? w _ hw979_1)).trans hw979_1)⟩ (fun hHeld => ?_)
        clear hK K
        refine norm_ (a' := ?_) ?_ ?_
        rotate_left
        ·show Act.put _ (some 25) _ = _
         simp only [Act.put, List.setIfInBounds_toArray, List.set_cons_zero, List.set_cons_succ, i64_w, i32_w]
         rfl
        refine pure_ (i := 9) (N := some 26) (v := ?_) (a' := ?_) #[true, true, true, true, true, true, true, true, true, true] rfl rfl (any_of HT_.out (by kernel_rfl)) (fun _ _ _ h => h) (Or.inl ⟨by rfl, ?_⟩) ?_ ?_
        rotate_left
        ·intro w'
         go_simp
         with_reducible rfl
        rotate_left
        ·simp only [Act.put, List.setIfInBounds_toArray, List.set_cons_zero, List.set_cons_succ, i64_w, i32_w]
         rfl
        refine done_ (done_of HT_.out (by kernel_rfl)) ?_
        try go_wp2
        go_ret
        exact ⟨by first | rfl | (simp [errW_none, errW_some] <;> rfl) | (simp [*, errW_none, errW_some] <;> rfl), by repeat (first | (with_reducible first | exact HB.out | apply below_alloc | apply pw_below_drewN | apply below_drew1) | exact HB.out)⟩
      ·rw [if_neg c6] at H
       exact absurd H (by simp)
     ·rw [if_neg c5] at H
      exact absurd H (by simp)
    ·rw [if_neg c4] at H
     have c4b0 : decide (x5_1 < (l0.length : Int)) = false := decide_eq_false c4
     clear c4
     obtain rfl := Option.some.inj H
     go_wp2
     go_ret
     exact ⟨by first | rfl | (simp [errW_none, errW_some] <;> rfl) | (simp [*, errW_none, errW_some] <;> rfl), by repeat (first | (with_reducible first | exact HB.out | apply below_alloc | apply pw_below_drewN | apply below_drew1) | exact HB.out)⟩
 ·rw [if_neg c3] at H
  have c3b0 : ((l0.length : Int) == (l1.length : Int)) = false := beq_eq_false_iff_ne.mpr c3
  have c3b1 : ((l0.length : Int) != (l1.length : Int)) = true := bne_iff_ne.mpr c3
  have c3b2 : (l0.length == l1.length) = false := by first | simpa using c3 | (simp at c3 ⊢; omega)
  obtain rfl := Option.some.inj H
  go_enter Try.func73, Try.ntmps73
  go_wp2
  go_ret
  exact ⟨by first | rfl | (simp [errW_none, errW_some] <;> rfl) | (simp [*, errW_none, errW_some] <;> rfl), by repeat (first | (with_reducible first | exact HB.out | apply below_alloc | apply pw_below_drewN | apply below_drew1) | exact HB.out)⟩

end Go.Proofs.Ytpampekijfjlkab.X

-- printed by a program of this session's (xprint)
namespace Go.Proofs.Ytpampekijfjlkab.X
open Go.RowKit Go.Proofs.YtpampekijfjlkabW.PrintWords Go.Proofs.YtpampekijfjlkabW.PrintLast Go.Proofs.YtpampekijfjlkabW.PrintMore
attribute [local go_sem] max2_int min2_int max_two min_two max_three min_three max_four min_four   -- for this text's walks alone
set_option linter.unusedVariables false
set_option linter.unusedSimpArgs false

/-! ### laws_FnExactClashOk: function 13 -/
def laws_FnExactClashOk.f (k : Nat) (a0 : Int) (l1 : List (S40)) : Option (Bool) := (laws_szClaimS.f k l1 1048576).bind fun t994 => (if t994 < 0 then (some true) else ((laws_toClaimS.f k l1).bind fun t995 => ((spec_ClashOk.f k a0 t995).bind fun t998 => ((laws_toClaimS.f k l1).bind fun t999 => ((impl_ClashOk.f k a0 t999).bind fun t1002 => (if (t1002 != t998) = true then (some false) else ((laws_toClaimS.f k l1).bind fun t1003 => ((laws_eqClaimS.f k t999 t1003).bind fun t1006 => (if t1006 = true then (some true) else (some false))))))))))
theorem laws_FnExactClashOk.mono : ∀ a0 a1 k, LeO (laws_FnExactClashOk.f k a0 a1) (laws_FnExactClashOk.f (k + 1) a0 a1) := by
 intro a0 a1 k
 unfold laws_FnExactClashOk.f
 repeat' first
   | (with_reducible exact impl_ClashOk.mono _ _ _)
   | (with_reducible exact laws_eqClaimS.mono _ _ _)
   | (with_reducible exact laws_szClaimS.mono _ _ _)
   | (with_reducible exact laws_toClaimS.mono _ _)
   | (with_reducible exact spec_ClashOk.mono _ _ _)
   | (with_reducible exact LeO.refl _)
   | (with_reducible exact LeO.none _)
   | (with_reducible refine LeO.ite ?_ ?_)
   | (with_reducible refine LeO.bind ?_ (fun _ => ?_))
   | exact impl_ClashOk.mono _ _ _
   | exact laws_eqClaimS.mono _ _ _
   | exact laws_szClaimS.mono _ _ _
   | exact laws_toClaimS.mono _ _
   | exact spec_ClashOk.mono _ _ _
   | exact LeO.none _
   | refine LeO.ite ?_ ?_
   | refine LeO.bind ?_ (fun _ => ?_)
set_option maxHeartbeats 8000000 in
set_option maxRecDepth 100000 in
theorem laws_FnExactClashOk.calls (k : Nat) (a0 : Int) (A1 : Option Addr) (c1 : Nat) (l1 : List (S40)) (r : Bool) (w : World) (hr1 : Kd.C k40 w A1 l1.length l1) (hc1 : l1.length ≤ c1) (h : laws_FnExactClashOk.f k a0 l1 = some r) :
  Calls Try.prog 13 #[.int .i64 a0, .slice A1 l1.length c1] w fun e w' => e = .returned (.bool r) ∧ Below w.heap.size w w' := by
 have HR1 := Aside0.mk hr1
 have HC1 := Aside0.mk hc1
 clear hr1 hc1
 have HB := Aside0.mk (Below.refl w.heap.size w)
 have H : ((laws_szClaimS.f k l1 1048576).bind fun t994 => (if t994 < 0 then (some true) else ((laws_toClaimS.f k l1).bind fun t995 => ((spec_ClashOk.f k a0 t995).bind fun t998 => ((laws_toClaimS.f k l1).bind fun t999 => ((impl_ClashOk.f k a0 t999).bind fun t1002 => (if (t1002 != t998) = true then (some false) else ((laws_toClaimS.f k l1).bind fun t1003 => ((laws_eqClaimS.f k t999 t1003).bind fun t1006 => (if t1006 = true then (some true) else (some false))))))))))) = some r := h
 clear h
 replace H := Option.bind_eq_some_iff.mp H
 obtain ⟨t994, A30, H⟩ := H
 replace H : (if t994 < 0 then (some true) else ((laws_toClaimS.f k l1).bind fun t995 => ((spec_ClashOk.f k a0 t995).bind fun t998 => ((laws_toClaimS.f k l1).bind fun t999 => ((impl_ClashOk.f k a0 t999).bind fun t1002 => (if (t1002 != t998) = true then (some false) else ((laws_toClaimS.f k l1).bind fun t1003 => ((laws_eqClaimS.f k t999 t1003).bind fun t1006 => (if t1006 = true then (some true) else (some false)))))))))) = some r := H
 have A3 := Aside0.mk A30
 clear A30
 by_cases c4 : t994 < 0
 ·rw [if_pos c4] at H
  have c4b0 : decide (t994 < 0) = true := decide_eq_true c4
  clear c4
  obtain rfl := Option.some.inj H
  go_enter Try.func13, Try.ntmps13
  go_wp2_with (first | ((with_reducible refine gate_callee (f := 71) rfl ?_); refine goesL_ (some 11) rfl rfl Try.func71 (by kernel_rfl) rfl #[.slice A1 l1.length c1, .int .i64 1048576] rfl (by (try simp only [List.map_toArray, List.map_cons, List.map_nil]); first | done | rfl | (simp only [List.length_drop, List.length_take]; rfl)) ?_; (with_reducible refine (laws_szClaimS.calls k _ _ l1 1048576 t994 _ ?side1 ?side2 A3.out).mono ?_); (case side1 => repeat (first | exact HR1.out | (with_reducible refine Kd.C_alloc ?_ _) | (with_reducible refine Kd.C_drewN ?_ _) | (with_reducible refine Kd.C_drew ?_))); (case side2 => exact HC1.out); rintro e w5 ⟨rfl, hb⟩; refine ⟨_, rfl, ?_⟩; have n0_ := Aside0.mk (below_step (by repeat (first | (with_reducible first | exact HB.out | apply below_alloc | apply pw_below_drewN | apply below_drew1) | exact HB.out)) hb); clear HB; have HB := n0_; clear n0_; (try clear hb); (try clear hb2); (try clear hk); (try clear hi)))
  go_ret
  exact ⟨by first | rfl | (simp [errW_none, errW_some] <;> rfl) | (simp [*, errW_none, errW_some] <;> rfl), by repeat (first | (with_reducible first | exact HB.out | apply below_alloc | apply pw_below_drewN | apply below_drew1) | exact HB.out)⟩
 ·rw [if_neg c4] at H
  have c4b0 : decide (t994 < 0) = false := decide_eq_false c4
  clear c4
  replace H := Option.bind_eq_some_iff.mp H
  obtain ⟨t995, A60, H⟩ := H
  replace H : ((spec_ClashOk.f k a0 t995).bind fun t998 => ((laws_toClaimS.f k l1).bind fun t999 => ((impl_ClashOk.f k a0 t999).bind fun t1002 => (if (t1002 != t998) = true then (some false) else ((laws_toClaimS.f k l1).bind fun t1003 => ((laws_eqClaimS.f k t999 t1003).bind fun t1006 => (if t1006 = true then (some true) else (some false)))))))) = some r := H
  have A6 := Aside0.mk A60
  clear A60
  replace H := Option.bind_eq_some_iff.mp H
  obtain ⟨t998, A70, H⟩ := H
  replace H : ((laws_toClaimS.f k l1).bind fun t999 => ((impl_ClashOk.f k a0 t999).bind fun t1002 => (if (t1002 != t998) = true then (some false) else ((laws_toClaimS.f k l1).bind fun t1003 => ((laws_eqClaimS.f k t999 t1003).bind fun t1006 => (if t1006 = true then (some true) else (some false))))))) = some r := H
  have A7 := Aside0.mk A70
  clear A70
  replace H := Option.bind_eq_some_iff.mp H
  obtain ⟨t999, A80, H⟩ := H
  replace H : ((impl_ClashOk.f k a0 t999).bind fun t1002 => (if (t1002 != t998) = true then (some false) else ((laws_toClaimS.f k l1).bind fun t1003 => ((laws_eqClaimS.f k t999 t1003).bind fun t1006 => (if t1006 = true then (some true) else (some false)))))) = some r := H
  have A8 := Aside0.mk A80
  clear A80
  replace H := Option.bind_eq_some_iff.mp H
  obtain ⟨t1002, A90, H⟩ := H
  replace H : (if (t1002 != t998) = true then (some false) else ((laws_toClaimS.f k l1).bind fun t1003 => ((laws_eqClaimS.f k t999 t1003).bind fun t1006 => (if t1006 = true then (some true) else (some false))))) = some r := H
  have A9 := Aside0.mk A90
  clear A90
  by_cases c10 : (t1002 != t998) = true
  ·rw [if_pos c10] at H
   have c10b0 : (t1002 != t998) = true := c10
   (try (have c10b1 : decide (t1002 = t998) = false := by simpa using c10))
   (try (have c10b2 : (t1002 == t998) = false := by simpa using c10))
   (try (have c10b3 : ¬ (t1002 = t998) := by simpa using c10))
   clear c10
   obtain rfl := Option.some.inj H
   go_enter Try.func13, Try.ntmps13
   go_wp2_with (first | ((with_reducible refine gate_callee (f := 71) rfl ?_); refine goesL_ (some 11) rfl rfl Try.func71 (by kernel_rfl) rfl #[.slice A1 l1.length c1, .int .i64 1048576] rfl (by (try simp only [List.map_toArray, List.map_cons, List.map_nil]); first | done | rfl | (simp only [List.length_drop, List.length_take]; rfl)) ?_; (with_reducible refine (laws_szClaimS.calls k _ _ l1 1048576 t994 _ ?side1 ?side2 A3.out).mono ?_); (case side1 => repeat (first | exact HR1.out | (with_reducible refine Kd.C_alloc ?_ _) | (with_reducible refine Kd.C_drewN ?_ _) | (with_reducible refine Kd.C_drew ?_))); (case side2 => exact HC1.out); rintro e w11 ⟨rfl, hb⟩; refine ⟨_, rfl, ?_⟩; have n0_ := Aside0.mk (below_step (by repeat (first | (with_reducible first | exact HB.out | apply below_alloc | apply pw_below_drewN | apply below_drew1) | exact HB.out)) hb); clear HB; have HB := n0_; clear n0_; (try clear hb); (try clear hb2); (try clear hk); (try clear hi)) | ((with_reducible refine gate_callee (f := 72) rfl ?_); refine goesL_ (some 16) rfl rfl Try.func72 (by kernel_rfl) rfl #[.slice A1 l1.length c1] rfl (by (try simp only [List.map_toArray, List.map_cons, List.map_nil]); first | done | rfl | (simp only [List.length_drop, List.length_take]; rfl)) ?_; (with_reducible refine (laws_toClaimS.calls k _ _ l1 t995 _ ?side1 ?side2 A6.out).mono ?_); (case side1 => repeat (first | exact (Kd.C_below HR1.out HB.out) | (with_reducible refine Kd.C_alloc ?_ _) | (with_reducible refine Kd.C_drewN ?_ _) | (with_reducible refine Kd.C_drew ?_))); (case side2 => exact HC1.out); rintro e w12 ⟨v996, rfl, ho0, hb⟩; refine ⟨_, rfl, ?_⟩; have n0_ := Aside0.mk (Kd.S_lower ho0 (below_size (by repeat (first | (with_reducible first | exact HB.out | apply below_alloc | apply pw_below_drewN | apply below_drew1) | exact HB.out)))); have n1_ := Aside0.mk (below_step (by repeat (first | (with_reducible first | exact HB.out | apply below_alloc | apply pw_below_drewN | apply below_drew1) | exact HB.out)) hb); clear HB; have HO997 := n0_; have HB := n1_; clear n0_ n1_; (try clear hb); (try clear hb2); (try clear hk); (try clear hi); (try clear ho0); obtain ⟨Ao13, co13, eo13⟩ := Kd.S_slice HO997.out; subst eo13) | ((with_reducible refine gate_callee (f := 64) rfl ?_); refine goesL_ (some 17) rfl rfl Try.func64 (by kernel_rfl) rfl #[.int .i64 a0, .slice Ao13 t995.length co13] rfl (by (try simp only [List.map_toArray, List.map_cons, List.map_nil]); first | done | rfl | (simp only [List.length_drop, List.length_take]; rfl)) ?_; (with_reducible refine (spec_ClashOk.calls k a0 _ _ t995 t998 _ ?side1 ?side2 A7.out).mono ?_); (case side1 => repeat (first | exact (Kd.S_reads' HO997.out).2.2 | (with_reducible refine Kd.C_alloc ?_ _) | (with_reducible refine Kd.C_drewN ?_ _) | (with_reducible refine Kd.C_drew ?_))); (case side2 => exact (Kd.S_reads' HO997.out).2.1); rintro e w14 ⟨rfl, hb⟩; refine ⟨_, rfl, ?_⟩; have n0_ := Aside0.mk (Kd.S_below (by (with_reducible repeat (first | apply Kd.S_alloc | apply Kd.S_drewN | apply Kd.S_drew)); exact HO997.out) hb); have n1_ := Aside0.mk (below_step (by repeat (first | (with_reducible first | exact HB.out | apply below_alloc | apply pw_below_drewN | apply below_drew1) | exact HB.out)) hb); clear HO997; clear HB; have HO997 := n0_; have HB := n1_; clear n0_ n1_; (try clear hb); (try clear hb2); (try clear hk); (try clear hi)) | ((with_reducible refine gate_callee (f := 72) rfl ?_); refine goesL_ (some 19) rfl rfl Try.func72 (by kernel_rfl) rfl #[.slice A1 l1.length c1] rfl (by (try simp only [List.map_toArray, List.map_cons, List.map_nil]); first | done | rfl | (simp only [List.length_drop, List.length_take]; rfl)) ?_; (with_reducible refine (laws_toClaimS.calls k _ _ l1 t999 _ ?side1 ?side2 A8.out).mono ?_); (case side1 => repeat (first | exact (Kd.C_below HR1.out HB.out) | (with_reducible refine Kd.C_alloc ?_ _) | (with_reducible refine Kd.C_drewN ?_ _) | (with_reducible refine Kd.C_drew ?_))); (case side2 => exact HC1.out); rintro e w15 ⟨v1000, rfl, ho0, hb⟩; refine ⟨_, rfl, ?_⟩; have n0_ := Aside0.mk (Kd.S_elder' (by (with_reducible repeat (first | apply Kd.S_alloc | apply Kd.S_drewN | apply Kd.S_drew)); exact HO997.out) (Kd.S_base ho0) hb); have n1_ := Aside0.mk (Kd.S_lower (Kd.S_new' ho0 (Kd.S_lt (by (with_reducible repeat (first | apply Kd.S_alloc | apply Kd.S_drewN | apply Kd.S_drew)); exact HO997.out))) (below_size (by repeat (first | (with_reducible first | exact HB.out | apply below_alloc | apply pw_below_drewN | apply below_drew1) | exact HB.out)))); have n2_ := Aside0.mk (below_step (by repeat (first | (with_reducible first | exact HB.out | apply below_alloc | apply pw_below_drewN | apply below_drew1) | exact HB.out)) hb); clear HO997; clear HB; have HO997 := n0_; have HO1001 := n1_; have HB := n2_; clear n0_ n1_ n2_; (try clear hb); (try clear hb2); (try clear hk); (try clear hi); (try clear ho0); obtain ⟨Ao16, co16, eo16⟩ := Kd.S_slice HO1001.out; subst eo16) | ((with_reducible refine gate_callee (f := 63) rfl ?_); refine goesL_ (some 22) rfl rfl Try.func63 (by kernel_rfl) rfl #[.int .i64 a0, .slice Ao16 t999.length co16] rfl (by (try simp only [List.map_toArray, List.map_cons, List.map_nil]); first | done | rfl | (simp only [List.length_drop, List.length_take]; rfl)) ?_; (with_reducible refine (impl_ClashOk.calls k a0 _ _ t999 t1002 _ ?side1 ?side2 A9.out).mono ?_); (case side1 => repeat (first | exact (Kd.S_reads' HO1001.out).2.2 | (with_reducible refine Kd.C_alloc ?_ _) | (with_reducible refine Kd.C_drewN ?_ _) | (with_reducible refine Kd.C_drew ?_))); (case side2 => exact (Kd.S_reads' HO1001.out).2.1); rintro e w17 ⟨rfl, hb⟩; refine ⟨_, rfl, ?_⟩; have n0_ := Aside0.mk (Kd.S_below (by (with_reducible repeat (first | apply Kd.S_alloc | apply Kd.S_drewN | apply Kd.S_drew)); exact HO997.out) hb); have n1_ := Aside0.mk (Kd.S_below (by (with_reducible repeat (first | apply Kd.S_alloc | apply Kd.S_drewN | apply Kd.S_drew)); exact HO1001.out) hb); have n2_ := Aside0.mk (below_step (by repeat (first | (with_reducible first | exact HB.out | apply below_alloc | apply pw_below_drewN | apply below_drew1) | exact HB.out)) hb); clear HO997; clear HO1001; clear HB; have HO997 := n0_; have HO1001 := n1_; have HB := n2_; clear n0_ n1_ n2_; (try clear hb); (try clear hb2); (try clear hk); (try clear hi)))
   go_ret
   exact ⟨by first | rfl | (simp [errW_none, errW_some] <;> rfl) | (simp [*, errW_none, errW_some] <;> rfl), by repeat (first | (with_reducible first | exact HB.out | apply below_alloc | apply pw_below_drewN | apply below_drew1) | exact HB.out)⟩
  ·rw [if_neg c10] at H
   have c10b0 : (t1002 != t998) = false := by simpa using c10
   (try (have c10b1 : decide (t1002 = t998) = true := by simpa using c10))
   (try (have c10b2 : (t1002 == t998) = true := by simpa using c10))
   clear c10
   replace H := Option.bind_eq_some_iff.mp H
   obtain ⟨t1003, A180, H⟩ := H
   replace H : ((laws_eqClaimS.f k t999 t1003).bind fun t1006 => (if t1006 = true then (some true) else (some false))) = some r := H
   have A18 := Aside0.mk A180
   clear A180
   replace H := Option.bind_eq_some_iff.mp H
   obtain ⟨t1006, A190, H⟩ := H
   replace H : (if t1006 = true then (some true) else (some false)) = some r := H
   have A19 := Aside0.mk A190
   clear A190
   by_cases c20 : t1006 = true
   ·subst c20
    have H1 : (some true) = some r := by rw [if_pos rfl] at H; exact H
    clear H
    have H := H1
    clear H1
    obtain rfl := Option.some.inj H
    go_enter Try.func13, Try.ntmps13
    go_wp2_with (first | ((with_reducible refine gate_callee (f := 71) rfl ?_); refine goesL_ (some 11) rfl rfl Try.func71 (by kernel_rfl) rfl #[.slice A1 l1.length c1, .int .i64 1048576] rfl (by (try simp only [List.map_toArray, List.map_cons, List.map_nil]); first | done | rfl | (simp only [List.length_drop, List.length_take]; rfl)) ?_; (with_reducible refine (laws_szClaimS.calls k _ _ l1 1048576 t994 _ ?side1 ?side2 A3.out).mono ?_); (case side1 => repeat (first | exact HR1.out | (with_reducible refine Kd.C_alloc ?_ _) | (with_reducible refine Kd.C_drewN ?_ _) | (with_reducible refine Kd.C_drew ?_))); (case side2 => exact HC1.out); rintro e w21 ⟨rfl, hb⟩; refine ⟨_, rfl, ?_⟩; have n0_ := Aside0.mk (below_step (by repeat (first | (with_reducible first | exact HB.out | apply below_alloc | apply pw_below_drewN | apply below_drew1) | exact HB.out)) hb); clear HB; have HB := n0_; clear n0_; (try clear hb); (try clear hb2); (try clear hk); (try clear hi)) | ((with_reducible refine gate_callee (f := 72) rfl ?_); refine goesL_ (some 16) rfl rfl Try.func72 (by kernel_rfl) rfl #[.slice A1 l1.length c1] rfl (by (try simp only [List.map_toArray, List.map_cons, List.map_nil]); first | done | rfl | (simp only [List.length_drop, List.length_take]; rfl)) ?_; (with_reducible refine (laws_toClaimS.calls k _ _ l1 t995 _ ?side1 ?side2 A6.out).mono ?_); (case side1 => repeat (first | exact (Kd.C_below HR1.out HB.out) | (with_reducible refine Kd.C_alloc ?_ _) | (with_reducible refine Kd.C_drewN ?_ _) | (with_reducible refine Kd.C_drew ?_))); (case side2 => exact HC1.out); rintro e w22 ⟨v996, rfl, ho0, hb⟩; refine ⟨_, rfl, ?_⟩; have n0_ := Aside0.mk (Kd.S_lower ho0 (below_size (by repeat (first | (with_reducible first | exact HB.out | apply below_alloc | apply pw_below_drewN | apply below_drew1) | exact HB.out)))); have n1_ := Aside0.mk (below_step (by repeat (first | (with_reducible first | exact HB.out | apply below_alloc | apply pw_below_drewN | apply below_drew1) | exact HB.out)) hb); clear HB; have HO997 := n0_; have HB := n1_; clear n0_ n1_; (try clear hb); (try clear hb2); (try clear hk); (try clear hi); (try clear ho0); obtain ⟨Ao23, co23, eo23⟩ := Kd.S_slice HO997.out; subst eo23) | ((with_reducible refine gate_callee (f := 64) rfl ?_); refine goesL_ (some 17) rfl rfl Try.func64 (by kernel_rfl) rfl #[.int .i64 a0, .slice Ao23 t995.length co23] rfl (by (try simp only [List.map_toArray, List.map_cons, List.map_nil]); first | done | rfl | (simp only [List.length_drop, List.length_take]; rfl)) ?_; (with_reducible refine (spec_ClashOk.calls k a0 _ _ t995 t998 _ ?side1 ?side2 A7.out).mono ?_); (case side1 => repeat (first | exact (Kd.S_reads' HO997.out).2.2 | (with_reducible refine Kd.C_alloc ?_ _) | (with_reducible refine Kd.C_drewN ?_ _) | (with_reducible refine Kd.C_drew ?_))); (case side2 => exact (Kd.S_reads' HO997.out).2.1); rintro e w24 ⟨rfl, hb⟩; refine ⟨_, rfl, ?_⟩; have n0_ := Aside0.mk (Kd.S_below (by (with_reducible repeat (first | apply Kd.S_alloc | apply Kd.S_drewN | apply Kd.S_drew)); exact HO997.out) hb); have n1_ := Aside0.mk (below_step (by repeat (first | (with_reducible first | exact HB.out | apply below_alloc | apply pw_below_drewN | apply below_drew1) | exact HB.out)) hb); clear HO997; clear HB; have HO997 := n0_; have HB := n1_; clear n0_ n1_; (try clear hb); (try clear hb2); (try clear hk); (try clear hi)) | ((with_reducible refine gate_callee (f := 72) rfl ?_); refine goesL_ (some 19) rfl rfl Try.func72 (by kernel_rfl) rfl #[.slice A1 l1.length c1] rfl (by (try simp only [List.map_toArray, List.map_cons, List.map_nil]); first | done | rfl | (simp only [List.length_drop, List.length_take]; rfl)) ?_; (with_reducible refine (laws_toClaimS.calls k _ _ l1 t999 _ ?side1 ?side2 A8.out).mono ?_); (case side1 => repeat (first | exact (Kd.C_below HR1.out HB.out) | (with_reducible refine Kd.C_alloc ?_ _) | (with_reducible refine Kd.C_drewN ?_ _) | (with_reducible refine Kd.C_drew ?_))); (case side2 => exact HC1.out); rintro e w25 ⟨v1000, rfl, ho0, hb⟩; refine ⟨_, rfl, ?_⟩; have n0_ := Aside0.mk (Kd.S_elder' (by (with_reducible repeat (first | apply Kd.S_alloc | apply Kd.S_drewN | apply Kd.S_drew)); exact HO997.out) (Kd.S_base ho0) hb); have n1_ := Aside0.mk (Kd.S_lower (Kd.S_new' ho0 (Kd.S_lt (by (with_reducible repeat (first | apply Kd.S_alloc | apply Kd.S_drewN | apply Kd.S_drew)); exact HO997.out))) (below_size (by repeat (first | (with_reducible first | exact HB.out | apply below_alloc | apply pw_below_drewN | apply below_drew1) | exact HB.out)))); have n2_ := Aside0.mk (below_step (by repeat (first | (with_reducible first | exact HB.out | apply below_alloc | apply pw_below_drewN | apply below_drew1) | exact HB.out)) hb); clear HO997; clear HB; have HO997 := n0_; have HO1001 := n1_; have HB := n2_; clear n0_ n1_ n2_; (try clear hb); (try clear hb2); (try clear hk); (try clear hi); (try clear ho0); obtain ⟨Ao26, co26, eo26⟩ := Kd.S_slice HO1001.out; subst eo26) | ((with_reducible refine gate_callee (f := 63) rfl ?_); refine goesL_ (some 22) rfl rfl Try.func63 (by kernel_rfl) rfl #[.int .i64 a0, .slice Ao26 t999.length co26] rfl (by (try simp only [List.map_toArray, List.map_cons, List.map_nil]); first | done | rfl | (simp only [List.length_drop, List.length_take]; rfl)) ?_; (with_reducible refine (impl_ClashOk.calls k a0 _ _ t999 t1002 _ ?side1 ?side2 A9.out).mono ?_); (case side1 => repeat (first | exact (Kd.S_reads' HO1001.out).2.2 | (with_reducible refine Kd.C_alloc ?_ _) | (with_reducible refine Kd.C_drewN ?_ _) | (with_reducible refine Kd.C_drew ?_))); (case side2 => exact (Kd.S_reads' HO1001.out).2.1); rintro e w27 ⟨rfl, hb⟩; refine ⟨_, rfl, ?_⟩; have n0_ := Aside0.mk (Kd.S_below (by (with_reducible repeat (first | apply Kd.S_alloc | apply Kd.S_drewN | apply Kd.S_drew)); exact HO997.out) hb); have n1_ := Aside0.mk (Kd.S_below (by (with_reducible repeat (first | apply Kd.S_alloc | apply Kd.S_drewN | apply Kd.S_drew)); exact HO1001.out) hb); have n2_ := Aside0.mk (below_step (by repeat (first | (with_reducible first | exact HB.out | apply below_alloc | apply pw_below_drewN | apply below_drew1) | exact HB.out)) hb); clear HO997; clear HO1001; clear HB; have HO997 := n0_; have HO1001 := n1_; have HB := n2_; clear n0_ n1_ n2_; (try clear hb); (try clear hb2); (try clear hk); (try clear hi)) | ((with_reducible refine gate_callee (f := 72) rfl ?_); refine goesL_ (some 28) rfl rfl Try.func72 (by kernel_rfl) rfl #[.slice A1 l1.length c1] rfl (by (try simp only [List.map_toArray, List.map_cons, List.map_nil]); first | done | rfl | (simp only [List.length_drop, List.length_take]; rfl)) ?_; (with_reducible refine (laws_toClaimS.calls k _ _ l1 t1003 _ ?side1 ?side2 A18.out).mono ?_); (case side1 => repeat (first | exact (Kd.C_below HR1.out HB.out) | (with_reducible refine Kd.C_alloc ?_ _) | (with_reducible refine Kd.C_drewN ?_ _) | (with_reducible refine Kd.C_drew ?_))); (case side2 => exact HC1.out); rintro e w28 ⟨v1004, rfl, ho0, hb⟩; refine ⟨_, rfl, ?_⟩; have n0_ := Aside0.mk (Kd.S_elder' (by (with_reducible repeat (first | apply Kd.S_alloc | apply Kd.S_drewN | apply Kd.S_drew)); exact HO997.out) (Kd.S_base ho0) hb); have n1_ := Aside0.mk (Kd.S_elder' (by (with_reducible repeat (first | apply Kd.S_alloc | apply Kd.S_drewN | apply Kd.S_drew)); exact HO1001.out) (Kd.S_base ho0) hb); have n2_ := Aside0.mk (Kd.S_lower (Kd.S_new' (Kd.S_new' ho0 (Kd.S_lt (by (with_reducible repeat (first | apply Kd.S_alloc | apply Kd.S_drewN | apply Kd.S_drew)); exact HO997.out))) (Kd.S_lt (by (with_reducible repeat (first | apply Kd.S_alloc | apply Kd.S_drewN | apply Kd.S_drew)); exact HO1001.out))) (below_size (by repeat (first | (with_reducible first | exact HB.out | apply below_alloc | apply pw_below_drewN | apply below_drew1) | exact HB.out)))); have n3_ := Aside0.mk (below_step (by repeat (first | (with_reducible first | exact HB.out | apply below_alloc | apply pw_below_drewN | apply below_drew1) | exact HB.out)) hb); clear HO997; clear HO1001; clear HB; have HO997 := n0_; have HO1001 := n1_; have HO1005 := n2_; have HB := n3_; clear n0_ n1_ n2_ n3_; (try clear hb); (try clear hb2); (try clear hk); (try clear hi); (try clear ho0); obtain ⟨Ao29, co29, eo29⟩ := Kd.S_slice HO1005.out; subst eo29) | ((with_reducible refine gate_callee (f := 73) rfl ?_); refine goesL_ (some 29) rfl rfl Try.func73 (by kernel_rfl) rfl #[.slice Ao26 t999.length co26, .slice Ao29 t1003.length co29] rfl (by (try simp only [List.map_toArray, List.map_cons, List.map_nil]); first | done | rfl | (simp only [List.length_drop, List.length_take]; rfl)) ?_; (with_reducible refine (laws_eqClaimS.calls k _ _ t999 _ _ t1003 true _ ?side1 ?side2 ?side3 ?side4 A19.out).mono ?_); (case side1 => repeat (first | exact (Kd.S_reads' HO1001.out).2.2 | (with_reducible refine Kd.C_alloc ?_ _) | (with_reducible refine Kd.C_drewN ?_ _) | (with_reducible refine Kd.C_drew ?_))); (case side2 => exact (Kd.S_reads' HO1001.out).2.1); (case side3 => repeat (first | exact (Kd.S_reads' HO1005.out).2.2 | (with_reducible refine Kd.C_alloc ?_ _) | (with_reducible refine Kd.C_drewN ?_ _) | (with_reducible refine Kd.C_drew ?_))); (case side4 => exact (Kd.S_reads' HO1005.out).2.1); rintro e w30 ⟨rfl, hb⟩; refine ⟨_, rfl, ?_⟩; have n0_ := Aside0.mk (Kd.S_below (by (with_reducible repeat (first | apply Kd.S_alloc | apply Kd.S_drewN | apply Kd.S_drew)); exact HO997.out) hb); have n1_ := Aside0.mk (Kd.S_below (by (with_reducible repeat (first | apply Kd.S_alloc | apply Kd.S_drewN | apply Kd.S_drew)); exact HO1001.out) hb); have n2_ := Aside0.mk (Kd.S_below (by (with_reducible repeat (first | apply Kd.S_alloc | apply Kd.S_drewN | apply Kd.S_drew)); exact HO1005.out) hb); have n3_ := Aside0.mk (below_step (by repeat (first | (with_reducible first | exact HB.out | apply below_alloc | apply pw_below_drewN | apply below_drew1) | exact HB.out)) hb); clear HO997; clear HO1001; clear HO1005; clear HB; have HO997 := n0_; have HO1001 := n1_; have HO1005 := n2_; have HB := n3_; clear n0_ n1_ n2_ n3_; (try clear hb); (try clear hb2); (try clear hk); (try clear hi)))
    go_ret
    exact ⟨by first | rfl | (simp [errW_none, errW_some] <;> rfl) | (simp [*, errW_none, errW_some] <;> rfl), by repeat (first | (with_reducible first | exact HB.out | apply below_alloc | apply pw_below_drewN | apply below_drew1) | exact HB.out)⟩
   ·replace c20 := Bool.eq_false_iff.mpr c20
    subst c20
    have H1 : (some false) = some r := by rw [if_neg (show ¬ (false = true) by decide)] at H; exact H
    clear H
    have H := H1
    clear H1
    obtain rfl := Option.some.inj H
    go_enter Try.func13, Try.ntmps13
    go_wp2_with (first | ((with_reducible refine gate_callee (f := 71) rfl ?_); refine goesL_ (some 11) rfl rfl Try.func71 (by kernel_rfl) rfl #[.slice A1 l1.length c1, .int .i64 1048576] rfl (by (try simp only [List.map_toArray, List.map_cons, List.map_nil]); first | done | rfl | (simp only [List.length_drop, List.length_take]; rfl)) ?_; (with_reducible refine (laws_szClaimS.calls k _ _ l1 1048576 t994 _ ?side1 ?side2 A3.out).mono ?_); (case side1 => repeat (first | exact HR1.out | (with_reducible refine Kd.C_alloc ?_ _) | (with_reducible refine Kd.C_drewN ?_ _) | (with_reducible refine Kd.C_drew ?_))); (case side2 => exact HC1.out); rintro e w31 ⟨rfl, hb⟩; refine ⟨_, rfl, ?_⟩; have n0_ := Aside0.mk (below_step (by repeat (first | (with_reducible first | exact HB.out | apply below_alloc | apply pw_below_drewN | apply below_drew1) | exact HB.out)) hb); clear HB; have HB := n0_; clear n0_; (try clear hb); (try clear hb2); (try clear hk); (try clear hi)) | ((with_reducible refine gate_callee (f := 72) rfl ?_); refine goesL_ (some 16) rfl rfl Try.func72 (by kernel_rfl) rfl #[.slice A1 l1.length c1] rfl (by (try simp only [List.map_toArray, List.map_cons, List.map_nil]); first | done | rfl | (simp only [List.length_drop, List.length_take]; rfl)) ?_; (with_reducible refine (laws_toClaimS.calls k _ _ l1 t995 _ ?side1 ?side2 A6.out).mono ?_); (case side1 => repeat (first | exact (Kd.C_below HR1.out HB.out) | (with_reducible refine Kd.C_alloc ?_ _) | (with_reducible refine Kd.C_drewN ?_ _) | (with_reducible refine Kd.C_drew ?_))); (case side2 => exact HC1.out); rintro e w32 ⟨v996, rfl, ho0, hb⟩; refine ⟨_, rfl, ?_⟩; have n0_ := Aside0.mk (Kd.S_lower ho0 (below_size (by repeat (first | (with_reducible first | exact HB.out | apply below_alloc | apply pw_below_drewN | apply below_drew1) | exact HB.out)))); have n1_ := Aside0.mk (below_step (by repeat (first | (with_reducible first | exact HB.out | apply below_alloc | apply pw_below_drewN | apply below_drew1) | exact HB.out)) hb); clear HB; have HO997 := n0_; have HB := n1_; clear n0_ n1_; (try clear hb); (try clear hb2); (try clear hk); (try clear hi); (try clear ho0); obtain ⟨Ao33, co33, eo33⟩ := Kd.S_slice HO997.out; subst eo33) | ((with_reducible refine gate_callee (f := 64) rfl ?_); refine goesL_ (some 17) rfl rfl Try.func64 (by kernel_rfl) rfl #[.int .i64 a0, .slice Ao33 t995.length co33] rfl (by (try simp only [List.map_toArray, List.map_cons, List.map_nil]); first | done | rfl | (simp only [List.length_drop, List.length_take]; rfl)) ?_; (with_reducible refine (spec_ClashOk.calls k a0 _ _ t995 t998 _ ?side1 ?side2 A7.out).mono ?_); (case side1 => repeat (first | exact (Kd.S_reads' HO997.out).2.2 | (with_reducible refine Kd.C_alloc ?_ _) | (with_reducible refine Kd.C_drewN ?_ _) | (with_reducible refine Kd.C_drew ?_))); (case side2 => exact (Kd.S_reads' HO997.out).2.1); rintro e w34 ⟨rfl, hb⟩; refine ⟨_, rfl, ?_⟩; have n0_ := Aside0.mk (Kd.S_below (by (with_reducible repeat (first | apply Kd.S_alloc | apply Kd.S_drewN | apply Kd.S_drew)); exact HO997.out) hb); have n1_ := Aside0.mk (below_step (by repeat (first | (with_reducible first | exact HB.out | apply below_alloc | apply pw_below_drewN | apply below_drew1) | exact HB.out)) hb); clear HO997; clear HB; have HO997 := n0_; have HB := n1_; clear n0_ n1_; (try clear hb); (try clear hb2); (try clear hk); (try clear hi)) | ((with_reducible refine gate_callee (f := 72) rfl ?_); refine goesL_ (some 19) rfl rfl Try.func72 (by kernel_rfl) rfl #[.slice A1 l1.length c1] rfl (by (try simp only [List.map_toArray, List.map_cons, List.map_nil]); first | done | rfl | (simp only [List.length_drop, List.length_take]; rfl)) ?_; (with_reducible refine (laws_toClaimS.calls k _ _ l1 t999 _ ?side1 ?side2 A8.out).mono ?_); (case side1 => repeat (first | exact (Kd.C_below HR1.out HB.out) | (with_reducible refine Kd.C_alloc ?_ _) | (with_reducible refine Kd.C_drewN ?_ _) | (with_reducible refine Kd.C_drew ?_))); (case side2 => exact HC1.out); rintro e w35 ⟨v1000, rfl, ho0, hb⟩; refine ⟨_, rfl, ?_⟩; have n0_ := Aside0.mk (Kd.S_elder' (by (with_reducible repeat (first | apply Kd.S_alloc | apply Kd.S_drewN | apply Kd.S_drew)); exact HO997.out) (Kd.S_base ho0) hb); have n1_ := Aside0.mk (Kd.S_lower (Kd.S_new' ho0 (Kd.S_lt (by (with_reducible repeat (first | apply Kd.S_alloc | apply Kd.S_drewN | apply Kd.S_drew)); exact HO997.out))) (below_size (by repeat (first | (with_reducible first | exact HB.out | apply below_alloc | apply pw_below_drewN | apply below_drew1) | exact HB.out)))); have n2_ := Aside0.mk (below_step (by repeat (first | (with_reducible first | exact HB.out | apply below_alloc | apply pw_below_drewN | apply below_drew1) | exact HB.out)) hb); clear HO997; clear HB; have HO997 := n0_; have HO1001 := n1_; have HB := n2_; clear n0_ n1_ n2_; (try clear hb); (try clear hb2); (try clear hk); (try clear hi); (try clear ho0); obtain ⟨Ao36, co36, eo36⟩ := Kd.S_slice HO1001.out; subst eo36) | ((with_reducible refine gate_callee (f := 63) rfl ?_); refine goesL_ (some 22) rfl rfl Try.func63 (by kernel_rfl) rfl #[.int .i64 a0, .slice Ao36 t999.length co36] rfl (by (try simp only [List.map_toArray, List.map_cons, List.map_nil]); first | done | rfl | (simp only [List.length_drop, List.length_take]; rfl)) ?_; (with_reducible refine (impl_ClashOk.calls k a0 _ _ t999 t1002 _ ?side1 ?side2 A9.out).mono ?_); (case side1 => repeat (first | exact (Kd.S_reads' HO1001.out).2.2 | (with_reducible refine Kd.C_alloc ?_ _) | (with_reducible refine Kd.C_drewN ?_ _) | (with_reducible refine Kd.C_drew ?_))); (case side2 => exact (Kd.S_reads' HO1001.out).2.1); rintro e w37 ⟨rfl, hb⟩; refine ⟨_, rfl, ?_⟩; have n0_ := Aside0.mk (Kd.S_below (by (with_reducible repeat (first | apply Kd.S_alloc | apply Kd.S_drewN | apply Kd.S_drew)); exact HO997.out) hb); have n1_ := Aside0.mk (Kd.S_below (by (with_reducible repeat (first | apply Kd.S_alloc | apply Kd.S_drewN | apply Kd.S_drew)); exact HO1001.out) hb); have n2_ := Aside0.mk (below_step (by repeat (first | (with_reducible first | exact HB.out | apply below_alloc | apply pw_below_drewN | apply below_drew1) | exact HB.out)) hb); clear HO997; clear HO1001; clear HB; have HO997 := n0_; have HO1001 := n1_; have HB := n2_; clear n0_ n1_ n2_; (try clear hb); (try clear hb2); (try clear hk); (try clear hi)) | ((with_reducible refine gate_callee (f := 72) rfl ?_); refine goesL_ (some 28) rfl rfl Try.func72 (by kernel_rfl) rfl #[.slice A1 l1.length c1] rfl (by (try simp only [List.map_toArray, List.map_cons, List.map_nil]); first | done | rfl | (simp only [List.length_drop, List.length_take]; rfl)) ?_; (with_reducible refine (laws_toClaimS.calls k _ _ l1 t1003 _ ?side1 ?side2 A18.out).mono ?_); (case side1 => repeat (first | exact (Kd.C_below HR1.out HB.out) | (with_reducible refine Kd.C_alloc ?_ _) | (with_reducible refine Kd.C_drewN ?_ _) | (with_reducible refine Kd.C_drew ?_))); (case side2 => exact HC1.out); rintro e w38 ⟨v1004, rfl, ho0, hb⟩; refine ⟨_, rfl, ?_⟩; have n0_ := Aside0.mk (Kd.S_elder' (by (with_reducible repeat (first | apply Kd.S_alloc | apply Kd.S_drewN | apply Kd.S_drew)); exact HO997.out) (Kd.S_base ho0) hb); have n1_ := Aside0.mk (Kd.S_elder' (by (with_reducible repeat (first | apply Kd.S_alloc | apply Kd.S_drewN | apply Kd.S_drew)); exact HO1001.out) (Kd.S_base ho0) hb); have n2_ := Aside0.mk (Kd.S_lower (Kd.S_new' (Kd.S_new' ho0 (Kd.S_lt (by (with_reducible repeat (first | apply Kd.S_alloc | apply Kd.S_drewN | apply Kd.S_drew)); exact HO997.out))) (Kd.S_lt (by (with_reducible repeat (first | apply Kd.S_alloc | apply Kd.S_drewN | apply Kd.S_drew)); exact HO1001.out))) (below_size (by repeat (first | (with_reducible first | exact HB.out | apply below_alloc | apply pw_below_drewN | apply below_drew1) | exact HB.out)))); have n3_ := Aside0.mk (below_step (by repeat (first | (with_reducible first | exact HB.out | apply below_alloc | apply pw_below_drewN | apply below_drew1) | exact HB.out)) hb); clear HO997; clear HO1001; clear HB; have HO997 := n0_; have HO1001 := n1_; have HO1005 := n2_; have HB := n3_; clear n0_ n1_ n2_ n3_; (try clear hb); (try clear hb2); (try clear hk); (try clear hi); (try clear ho0); obtain ⟨Ao39, co39, eo39⟩ := Kd.S_slice HO1005.out; subst eo39) | ((with_reducible refine gate_callee (f := 73) rfl ?_); refine goesL_ (some 29) rfl rfl Try.func73 (by kernel_rfl) rfl #[.slice Ao36 t999.length co36, .slice Ao39 t1003.length co39] rfl (by (try simp only [List.map_toArray, List.map_cons, List.map_nil]); first | done | rfl | (simp only [List.length_drop, List.length_take]; rfl)) ?_; (with_reducible refine (laws_eqClaimS.calls k _ _ t999 _ _ t1003 false _ ?side1 ?side2 ?side3 ?side4 A19.out).mono ?_); (case side1 => repeat (first | exact (Kd.S_reads' HO1001.out).2.2 | (with_reducible refine Kd.C_alloc ?_ _) | (with_reducible refine Kd.C_drewN ?_ _) | (with_reducible refine Kd.C_drew ?_))); (case side2 => exact (Kd.S_reads' HO1001.out).2.1); (case side3 => repeat (first | exact (Kd.S_reads' HO1005.out).2.2 | (with_reducible refine Kd.C_alloc ?_ _) | (with_reducible refine Kd.C_drewN ?_ _) | (with_reducible refine Kd.C_drew ?_))); (case side4 => exact (Kd.S_reads' HO1005.out).2.1); rintro e w40 ⟨rfl, hb⟩; refine ⟨_, rfl, ?_⟩; have n0_ := Aside0.mk (Kd.S_below (by (with_reducible repeat (first | apply Kd.S_alloc | apply Kd.S_drewN | apply Kd.S_drew)); exact HO997.out) hb); have n1_ := Aside0.mk (Kd.S_below (by (with_reducible repeat (first | apply Kd.S_alloc | apply Kd.S_drewN | apply Kd.S_drew)); exact HO1001.out) hb); have n2_ := Aside0.mk (Kd.S_below (by (with_reducible repeat (first | apply Kd.S_alloc | apply Kd.S_drewN | apply Kd.S_drew)); exact HO1005.out) hb); have n3_ := Aside0.mk (below_step (by repeat (first | (with_reducible first | exact HB.out | apply below_alloc | apply pw_below_drewN | apply below_drew1) | exact HB.out)) hb); clear HO997; clear HO1001; clear HO1005; clear HB; have HO997 := n0_; have HO1001 := n1_; have HO1005 := n2_; have HB := n3_; clear n0_ n1_ n2_ n3_; (try clear hb); (try clear hb2); (try clear hk); (try clear hi)))
    go_ret
    exact ⟨by first | rfl | (simp [errW_none, errW_some] <;> rfl) | (simp [*, errW_none, errW_some] <;> rfl), by repeat (first | (with_reducible first | exact HB.out | apply below_alloc | apply pw_below_drewN | apply below_drew1) | exact HB.out)⟩

/-- THE ONE PURE STATEMENT of laws_FnExactClashOk: this session's. -/
def laws_FnExactClashOk.Pure : Prop := ∀ (a0 : Int) (l1 : List (S40)), (Lit.int .i64 a0).wf = true → l1.length ≤ 9223372036854775807 → (∀ y ∈ l1, wf40 y) → (∀ y ∈ l1, y.f1.length ≤ 9223372036854775807) → ∃ k, laws_FnExactClashOk.f k a0 l1 = some true
theorem laws_FnExactClashOk.walk (P : laws_FnExactClashOk.Pure) (a0 : Int) (A1 : Option Addr) (c1 : Nat) (l1 : List (S40)) (w : World) (hw0 : (Lit.int .i64 a0).wf = true) (hr1 : Kd.C k40 w A1 l1.length l1) (hc1 : l1.length ≤ c1) (hw1 : (∀ y ∈ l1, wf40 y)) :
  Calls Try.prog 13 #[.int .i64 a0, .slice A1 l1.length c1] w fun e w' => e = .returned (.bool true) ∧ Below w.heap.size w w' := by
 obtain ⟨k, h⟩ := P a0 l1 hw0 hr1.2.1 hw1 (fun y hy => by obtain ⟨i_, hi_, rfl⟩ := List.mem_iff_getElem.1 hy; obtain ⟨_, _, _, _, _, _, _, hC_⟩ := at_T40 hr1 (i_ : Int) (by omega) (by omega); have h_ := hC_.2.1; simpa [rd_T40, List.getD, hi_] using h_)
 refine (laws_FnExactClashOk.calls k a0 A1 c1 l1 true w hr1 hc1 h).mono ?_
 rintro e w' ⟨rfl, hd⟩
 exact ⟨rfl, hd⟩

end Go.Proofs.Ytpampekijfjlkab.X

/- Plain laws of terms, third text: what a valid row of marks says in a world, as a function of the row alone. -/
namespace Go.Proofs.Ytpampekijfjlkab.L
open Go.RowKit Go.Proofs.Ytpampekijfjlkab.X Go.Proofs.YtpampekijfjlkabW.PrintWords Go.Proofs.YtpampekijfjlkabW.PrintLast Go.Proofs.YtpampekijfjlkabW.PrintMore

theorem Tm.good_four {p : Int} (hp : p ≤ 4) : ∀ a : Tm, a.good p → a.good 4
 | .tell i, h => by have h' : (i : Int) < p := h; show (i : Int) < 4; omega
 | .cnt n, h => by have h' : (n : Int) ≤ p + 1 := h; show (n : Int) ≤ 4 + 1; omega
 | .neg a, h => good_four hp a h
 | .bin o a b, h => ⟨h.1, good_four hp a h.2.1, good_four hp b h.2.2⟩
open Classical in
/-- The tree of a row of marks. -/
noncomputable def tree (t : List M) : Tm := if h : ∃ a : Tm, a.good 4 ∧ t = a.post then Classical.choose h else .tell 0
theorem tree_post {a : Tm} (h : a.good 4) : (tree a.post).good 4 ∧ a.post = (tree a.post).post := by
 have h' : ∃ b : Tm, b.good 4 ∧ a.post = b.post := ⟨a, h, rfl⟩
 unfold tree
 rw [dif_pos h']
 exact Classical.choose_spec h'
/-- Whether a row of marks holds in a world. -/
noncomputable def hv (t : List M) (w : Nat) : Bool := (tree t).ev w
theorem hv_post {a : Tm} (h : a.good 4) (hl : a.post.length ≤ 500) {w : Nat} (hw : w < 16) : hv a.post w = a.ev w := by
 obtain ⟨h1, h2⟩ := tree_post h
 have e1 := impl_holds_ev (by decide) hw h hl
 have e2 := impl_holds_ev (by decide) hw h1 (by rw [← h2]; exact hl)
 rw [← h2] at e2
 exact Ev.uniq e2 e1
theorem tok_tree {p : Int} {t : List M} (h : tok p t = true) : ∃ a : Tm, a.good p ∧ t = a.post ∧ a.good 4 ∧ t.length ≤ 15 := by
 obtain ⟨a, h1, h2⟩ := parse h
 obtain ⟨_, h3, _, h4, _⟩ := tok_iff.1 h
 exact ⟨a, h1, h2, a.good_four h3 h1, h4⟩
theorem impl_holds_hv {p : Int} {t : List M} (h : tok p t = true) {w : Nat} (hw : w < 16) : Ev (fun k => impl_holds.f k t (w : Int)) (hv t w) := by
 obtain ⟨a, _, rfl, h4, hl⟩ := tok_tree h
 rw [hv_post h4 (by omega) hw]
 exact impl_holds_ev (by decide) hw h4 (by omega)
theorem spec_holds_hv {p : Int} {t : List M} (h : tok p t = true) {w : Nat} (hw : w < 16) : Ev (fun k => spec_l3Holds.f k t (w : Int)) (hv t w) := by
 obtain ⟨a, _, rfl, h4, hl⟩ := tok_tree h
 rw [hv_post h4 (by omega) hw]
 exact l3Holds_ev (by decide) hw a h4 (by omega)
/-- Whether a claim may be made in a world. -/
noncomputable def may (i : Int) (t : List M) (w : Nat) : Bool := hv t w == w.testBit i.toNat
/-- The trick: a person's mark ahead, and the mark of sameness behind. -/
def wrapT (i : Int) (t : List M) : List M := ⟨0, i⟩ :: (t ++ [⟨5, 0⟩])
theorem scan_app {p : Int} : ∀ (s t : List M) (n m : Nat), scan p s n = some m → scan p (s ++ t) n = scan p t m
 | [], t, n, m, h => by simp only [scan] at h; cases h; rfl
 | ⟨f0, f1⟩ :: s, t, n, m, h => by
  simp only [scan, List.cons_append] at h ⊢
  by_cases h0 : f0 = 0
  ·rw [if_pos h0] at h ⊢
   by_cases h1 : 0 ≤ f1 ∧ f1 < p
   ·rw [if_pos h1] at h ⊢; exact scan_app s t _ m h
   ·rw [if_neg h1] at h; cases h
  rw [if_neg h0] at h ⊢
  by_cases h1 : f0 = 1
  ·rw [if_pos h1] at h ⊢
   by_cases h2 : 0 ≤ f1 ∧ f1 ≤ p + 1
   ·rw [if_pos h2] at h ⊢; exact scan_app s t _ m h
   ·rw [if_neg h2] at h; cases h
  rw [if_neg h1] at h ⊢
  by_cases h2 : f0 = 2
  ·rw [if_pos h2] at h ⊢
   by_cases h3 : f1 = 0 ∧ 1 ≤ n
   ·rw [if_pos h3] at h ⊢; exact scan_app s t _ m h
   ·rw [if_neg h3] at h; cases h
  rw [if_neg h2] at h ⊢
  by_cases h3 : f0 = 3 ∨ f0 = 4 ∨ f0 = 5
  ·rw [if_pos h3] at h ⊢
   by_cases h4 : f1 = 0 ∧ 2 ≤ n
   ·rw [if_pos h4] at h ⊢; exact scan_app s t _ m h
   ·rw [if_neg h4] at h; cases h
  ·rw [if_neg h3] at h; cases h
theorem scan_up {p : Int} : ∀ (s : List M) (n m d : Nat), scan p s n = some m → scan p s (n + d) = some (m + d)
 | [], n, m, d, h => by simp only [scan] at h ⊢; cases h; rfl
 | ⟨f0, f1⟩ :: s, n, m, d, h => by
  simp only [scan] at h ⊢
  by_cases h0 : f0 = 0
  ·rw [if_pos h0] at h ⊢
   by_cases h1 : 0 ≤ f1 ∧ f1 < p
   ·rw [if_pos h1] at h ⊢; rw [show n + d + 1 = n + 1 + d by omega]; exact scan_up s _ m d h
   ·rw [if_neg h1] at h; cases h
  rw [if_neg h0] at h ⊢
  by_cases h1 : f0 = 1
  ·rw [if_pos h1] at h ⊢
   by_cases h2 : 0 ≤ f1 ∧ f1 ≤ p + 1
   ·rw [if_pos h2] at h ⊢; rw [show n + d + 1 = n + 1 + d by omega]; exact scan_up s _ m d h
   ·rw [if_neg h2] at h; cases h
  rw [if_neg h1] at h ⊢
  by_cases h2 : f0 = 2
  ·rw [if_pos h2] at h ⊢
   by_cases h3 : f1 = 0 ∧ 1 ≤ n
   ·rw [if_pos h3] at h; rw [if_pos ⟨h3.1, by omega⟩]; exact scan_up s _ m d h
   ·rw [if_neg h3] at h; cases h
  rw [if_neg h2] at h ⊢
  by_cases h3 : f0 = 3 ∨ f0 = 4 ∨ f0 = 5
  ·rw [if_pos h3] at h ⊢
   by_cases h4 : f1 = 0 ∧ 2 ≤ n
   ·rw [if_pos h4] at h; rw [if_pos ⟨h4.1, by omega⟩, show n + d - 1 = n - 1 + d by omega]; exact scan_up s _ m d h
   ·rw [if_neg h4] at h; cases h
  ·rw [if_neg h3] at h; cases h
end Go.Proofs.Ytpampekijfjlkab.L

/- Plain laws of tables: the worlds in which something holds, as the bits of a number. -/
namespace Go.Proofs.Ytpampekijfjlkab.L
open Go.RowKit Go.Proofs.Ytpampekijfjlkab.X Go.Proofs.YtpampekijfjlkabW.PrintWords Go.Proofs.YtpampekijfjlkabW.PrintLast Go.Proofs.YtpampekijfjlkabW.PrintMore

/-- The worlds below n in which P holds, as bits. -/
def tabL (P : Nat → Bool) : Nat → Nat
 | 0 => 0
 | n + 1 => tabL P n ||| (if P n = true then 2 ^ n else 0)
theorem tabL_bit (P : Nat → Bool) : ∀ n w, (tabL P n).testBit w = (decide (w < n) && P w)
 | 0, w => by simp [tabL]
 | n + 1, w => by
  rw [tabL, Nat.testBit_or, tabL_bit P n w]
  by_cases e : w = n
  ·subst e
   by_cases h : P w = true
   ·rw [if_pos h, Nat.testBit_two_pow_self, h]; simp
   ·rw [if_neg h, Nat.zero_testBit]; simp at h; simp [h]
  ·have h1 : (if P n = true then 2 ^ n else 0).testBit w = false := by
    by_cases h : P n = true
    ·rw [if_pos h, Nat.testBit_two_pow]; simp; omega
    ·rw [if_neg h, Nat.zero_testBit]
   rw [h1, Bool.or_false]
   congr 1
   exact decide_eq_decide.mpr (by omega)
theorem lt_of_bits {x n : Nat} (h : ∀ w, n ≤ w → x.testBit w = false) : x < 2 ^ n := Nat.lt_pow_two_of_testBit x (fun w hw => h w hw)
theorem tabL_lt (P : Nat → Bool) (n : Nat) : tabL P n < 2 ^ n := lt_of_bits (fun w hw => by rw [tabL_bit]; simp; omega)
theorem tabL_congr {P Q : Nat → Bool} {n : Nat} (h : ∀ w, w < n → P w = Q w) : tabL P n = tabL Q n := by
 apply Nat.eq_of_testBit_eq
 intro w
 rw [tabL_bit, tabL_bit]
 by_cases hw : w < n
 ·rw [h w hw]
 ·simp [hw]
theorem tabL_inj {P Q : Nat → Bool} {n : Nat} (h : tabL P n = tabL Q n) : ∀ w, w < n → P w = Q w := by
 intro w hw
 have := tabL_bit P n w
 rw [h, tabL_bit] at this
 simpa [hw] using this.symm
theorem tabL_mono {P : Nat → Bool} {n : Nat} (hn : n ≤ 16) : tabL P n < 65536 := by
 have := tabL_lt P n
 have h : (2 : Nat) ^ n ≤ 2 ^ 16 := Nat.pow_le_pow_right (by decide) hn
 omega
/-! ### The machine's words of bits -/
theorem wrap_i64_small (n : Int) (h0 : 0 ≤ n) (h1 : n < 2 ^ 32) : IntKind.i64.wrap n = n := by rw [IntKind.wrap_i64]; omega
theorem or_nat {a b : Nat} (ha : a < 2 ^ 32) (hb : b < 2 ^ 32) : Go.bits .or .i64 (a : Int) (b : Int) = ((a ||| b : Nat) : Int) := (bits_nat .i64 32 (by decide) wrap_i64_small a b ha hb).2
theorem and_nat {a b : Nat} (ha : a < 2 ^ 32) (hb : b < 2 ^ 32) : Go.bits .and .i64 (a : Int) (b : Int) = ((a &&& b : Nat) : Int) := (bits_nat .i64 32 (by decide) wrap_i64_small a b ha hb).1
theorem shl_fin : ∀ i : Fin 31, shl .i64 1 ((i.val : Nat) : Int) = ((2 ^ i.val : Nat) : Int) := by decide +kernel
theorem shl_nat {i : Nat} (hi : i < 31) : shl .i64 1 (i : Int) = ((2 ^ i : Nat) : Int) := shl_fin ⟨i, hi⟩
theorem shlu_fin : ∀ i : Fin 6, shl .u64 1 ((i.val : Nat) : Int) = ((2 ^ i.val : Nat) : Int) := by decide +kernel
theorem shlu_nat {i : Nat} (hi : i < 6) : shl .u64 1 (i : Int) = ((2 ^ i : Nat) : Int) := shlu_fin ⟨i, hi⟩
theorem or_step {P : Nat → Bool} {i : Nat} (hi : i < 16) (h : P i = true) : Go.bits .or .i64 ((tabL P i : Nat) : Int) (shl .i64 1 (i : Int)) = ((tabL P (i + 1) : Nat) : Int) := by
 have h1 := tabL_lt P i
 have h2 : (2 : Nat) ^ i < 2 ^ 16 := Nat.pow_lt_pow_right (by decide) hi
 rw [shl_nat (by omega), or_nat (by omega) (by omega), tabL, if_pos h]
theorem not_step {P : Nat → Bool} {i : Nat} (h : ¬ P i = true) : tabL P (i + 1) = tabL P i := by rw [tabL, if_neg h, Nat.or_zero]
theorem people_nat {p : Int} (h0 : 1 ≤ p) (h1 : p ≤ 4) : ∃ q : Nat, p = (q : Int) ∧ 1 ≤ q ∧ q ≤ 4 ∧ 2 ^ q ≤ 16 ∧ p.toNat = q := by
 obtain ⟨q, rfl⟩ := Int.eq_ofNat_of_zero_le (show 0 ≤ p by omega)
 refine ⟨q, rfl, by omega, by omega, ?_, by simp⟩
 have : (2 : Nat) ^ q ≤ 2 ^ 4 := Nat.pow_le_pow_right (by decide) (by omega)
 omega
end Go.Proofs.Ytpampekijfjlkab.L

/- Plain law of the program's maker of tables. -/
namespace Go.Proofs.Ytpampekijfjlkab.L
open Go.RowKit Go.Proofs.Ytpampekijfjlkab.X Go.Proofs.YtpampekijfjlkabW.PrintWords Go.Proofs.YtpampekijfjlkabW.PrintLast Go.Proofs.YtpampekijfjlkabW.PrintMore

theorem tableBy_l0 {F : Nat → Int → Option Bool} {P : Nat → Bool} {n : Nat} (hn : n ≤ 16) (hF : ∀ w : Nat, w < n → Ev (fun k => F k (w : Int)) (P w)) : ∀ d i, d + i = n →
  Ev (fun k => impl_tableBy.l0 F k ((tabL P i : Nat) : Int) (n : Int) (i : Int)) ((tabL P n : Nat) : Int) := by
 intro d
 induction d with
 | zero =>
  intro i hi
  rw [Nat.zero_add] at hi
  subst hi
  exact Ev.step (fun k => by simp only [impl_tableBy.l0]; rfl) (Ev.no (by omega) (Ev.some _))
 | succ d ih =>
  intro i hi
  refine Ev.step (fun k => by simp only [impl_tableBy.l0]; rfl) ?_
  refine Ev.yes (by omega) (Ev.bind (hF i (by omega)) ?_)
  rw [w64 (by omega) (by omega), show ((i : Int) + 1) = ((i + 1 : Nat) : Int) by omega]
  by_cases h : P i = true
  ·refine Ev.yes h (Ev.yes (by omega) ?_)
   rw [or_step (by omega) h]
   exact ih (i + 1) (by omega)
  ·refine Ev.no h ?_
   have := ih (i + 1) (by omega)
   rwa [not_step h] at this
theorem tableBy_ev {F : Nat → Int → Option Bool} {P : Nat → Bool} {q : Nat} (hq : q ≤ 4) (hF : ∀ w : Nat, w < 2 ^ q → Ev (fun k => F k (w : Int)) (P w)) : Ev (fun k => impl_tableBy.f F k (q : Int)) ((tabL P (2 ^ q) : Nat) : Int) := by
 unfold impl_tableBy.f
 refine Ev.yes (by omega) ?_
 rw [shl_nat (by omega)]
 have h16 : (2 : Nat) ^ q ≤ 2 ^ 4 := Nat.pow_le_pow_right (by decide) hq
 exact tableBy_l0 (by omega) hF (2 ^ q) 0 (by omega)
end Go.Proofs.Ytpampekijfjlkab.L

/- Plain laws of claims: which are ones. -/
namespace Go.Proofs.Ytpampekijfjlkab.L
open Go.RowKit Go.Proofs.Ytpampekijfjlkab.X Go.Proofs.YtpampekijfjlkabW.PrintWords Go.Proofs.YtpampekijfjlkabW.PrintLast Go.Proofs.YtpampekijfjlkabW.PrintMore

/-- A claim by one of so many people. -/
def clok (p i : Int) (t : List M) : Bool := decide (0 ≤ i ∧ i < p) && (tok p t && decide (t.length ≤ 13))
theorem clok_iff {p i : Int} {t : List M} : clok p i t = true ↔ 0 ≤ i ∧ i < p ∧ tok p t = true ∧ t.length ≤ 13 := by
 unfold clok
 simp only [Bool.and_eq_true, decide_eq_true_eq]
 exact ⟨fun h => ⟨h.1.1, h.1.2, h.2.1, h.2.2⟩, fun h => ⟨⟨h.1, h.2.1⟩, h.2.2.1, h.2.2.2⟩⟩
theorem clok_false {p i : Int} {t : List M} (h : ¬ (0 ≤ i ∧ i < p ∧ tok p t = true ∧ t.length ≤ 13)) : false = clok p i t := by
 cases e : clok p i t with
 | false => rfl
 | true => exact absurd (clok_iff.1 e) h
theorem impl_ClaimOk_ev (p i : Int) (t : List M) : Ev (fun k => impl_ClaimOk.f k p i t) (clok p i t) := by
 unfold impl_ClaimOk.f
 simp only [peopleOk_eq, Option.bind_some]
 by_cases h0 : 1 ≤ p ∧ p ≤ 4
 ·refine Ev.yes (decide_eq_true h0) ?_
  by_cases h1 : i ≥ 0
  ·refine Ev.yes h1 ?_
   by_cases h2 : i < p
   ·refine Ev.yes h2 (Ev.bind (impl_TermOk_ev p t) ?_)
    by_cases h3 : tok p t = true
    ·refine Ev.yes h3 (Ev.cast (Ev.some _) ?_)
     by_cases h4 : t.length ≤ 13
     ·rw [clok_iff.2 ⟨h1, h2, h3, h4⟩]; exact decide_eq_true (by omega)
     ·rw [← clok_false (fun h => h4 h.2.2.2)]; exact decide_eq_false (by omega)
    ·exact Ev.no h3 (Ev.cast (Ev.some _) (clok_false (fun h => h3 h.2.2.1)))
   ·exact Ev.no h2 (Ev.cast (Ev.some _) (clok_false (fun h => h2 h.2.1)))
  ·exact Ev.no h1 (Ev.cast (Ev.some _) (clok_false (fun h => h1 h.1)))
 ·refine Ev.no (by simpa using h0) (Ev.cast (Ev.some _) (clok_false (fun h => h0 ?_)))
  have := tok_iff.1 h.2.2.1
  omega
theorem spec_ClaimOk_ev (p i : Int) (t : List M) (hl : t.length ≤ 4611686018427387904) (hw : ∀ m ∈ t, m.f1 ≤ 9223372036854775807) : Ev (fun k => spec_ClaimOk.f k p i t) (clok p i t) := by
 unfold spec_ClaimOk.f
 by_cases h1 : i ≥ 0
 ·refine Ev.yes h1 ?_
  by_cases h2 : i < p
  ·refine Ev.yes h2 (Ev.bind (spec_TermOk_ev p t hl hw) ?_)
   by_cases h3 : tok p t = true
   ·refine Ev.yes h3 (Ev.cast (Ev.some _) ?_)
    by_cases h4 : t.length ≤ 13
    ·rw [clok_iff.2 ⟨h1, h2, h3, h4⟩]; exact decide_eq_true (by omega)
    ·rw [← clok_false (fun h => h4 h.2.2.2)]; exact decide_eq_false (by omega)
   ·exact Ev.no h3 (Ev.cast (Ev.some _) (clok_false (fun h => h3 h.2.2.1)))
  ·exact Ev.no h2 (Ev.cast (Ev.some _) (clok_false (fun h => h2 h.2.1)))
 ·exact Ev.no h1 (Ev.cast (Ev.some _) (clok_false (fun h => h1 h.1)))
/-- A claim, and whether it is one. -/
def claimR (p i : Int) (t : List M) : Int × List M × Bool := if clok p i t = true then (i, t, true) else (0, [], false)
theorem claimR_length {p i : Int} {t : List M} : (claimR p i t).2.1.length ≤ 13 := by
 unfold claimR
 split
 ·rename_i h; exact (clok_iff.1 h).2.2.2
 ·simp
end Go.Proofs.Ytpampekijfjlkab.L

/- Plain laws of the tables of claims. -/
namespace Go.Proofs.Ytpampekijfjlkab.L
open Go.RowKit Go.Proofs.Ytpampekijfjlkab.X Go.Proofs.YtpampekijfjlkabW.PrintWords Go.Proofs.YtpampekijfjlkabW.PrintLast Go.Proofs.YtpampekijfjlkabW.PrintMore

theorem impl_maySay_ev {p i : Int} {t : List M} (h : clok p i t = true) {w : Nat} (hw : w < 16) : Ev (fun k => impl_maySay.f k i t (w : Int)) (may i t w) := by
 obtain ⟨h0, h1, h2, _⟩ := clok_iff.1 h
 have h4 := (tok_iff.1 h2).2.1
 obtain ⟨j, rfl⟩ := Int.eq_ofNat_of_zero_le h0
 unfold impl_maySay.f
 refine Ev.bind (impl_holds_hv h2 hw) (Ev.yes h0 (Ev.cast (Ev.some _) ?_))
 rw [bit_and' hw (show j < 4 by omega)]
 rfl
/-- The table of a claim. -/
noncomputable def ctab (p i : Int) (t : List M) : Nat := tabL (may i t) (2 ^ p.toNat)
theorem impl_ClaimTable_ev (p i : Int) (t : List M) : Ev (fun k => impl_ClaimTable.f k p i t) (if clok p i t = true then ((ctab p i t : Nat) : Int) else -1) := by
 unfold impl_ClaimTable.f
 refine Ev.bind (impl_ClaimOk_ev p i t) ?_
 by_cases h : clok p i t = true
 ·rw [if_pos h]
  refine Ev.yes h ?_
  obtain ⟨hp0, hp1, _⟩ := tok_iff.1 (clok_iff.1 h).2.2.1
  obtain ⟨q, rfl, _, hq, hq2, _⟩ := people_nat hp0 hp1
  exact tableBy_ev hq (fun w hw => impl_maySay_ev h (by omega))
 ·rw [if_neg h]
  exact Ev.no h (Ev.some _)
end Go.Proofs.Ytpampekijfjlkab.L

/- Plain laws of stories: which are ones, and their tables; the program's. -/
namespace Go.Proofs.Ytpampekijfjlkab.L
open Go.RowKit Go.Proofs.Ytpampekijfjlkab.X Go.Proofs.YtpampekijfjlkabW.PrintWords Go.Proofs.YtpampekijfjlkabW.PrintLast Go.Proofs.YtpampekijfjlkabW.PrintMore

abbrev C := S36
theorem rdC_at (pre : List C) (c : C) (suf : List C) : rd_T36 (pre ++ c :: suf) ((pre.length : Nat) : Int) = c := by
 unfold rd_T36
 simp [List.getD]
/-- A story of so many people. -/
def sok (p : Int) (l : List C) : Bool := l.all (fun c => clok p c.f0 c.f1) && decide (1 ≤ p ∧ p ≤ 4 ∧ l.length ≤ 6)
theorem sok_iff {p : Int} {l : List C} : sok p l = true ↔ (∀ c ∈ l, clok p c.f0 c.f1 = true) ∧ 1 ≤ p ∧ p ≤ 4 ∧ l.length ≤ 6 := by
 unfold sok
 rw [Bool.and_eq_true, List.all_eq_true, decide_eq_true_eq]
theorem impl_StoryOk_l0 {p : Int} {l : List C} (hl : l.length ≤ 4611686018427387904) : ∀ (suf pre : List C), l = pre ++ suf →
  Ev (fun k => impl_StoryOk.l0 k p l l ((l.length : Nat) : Int) ((pre.length : Nat) : Int)) (suf.all (fun c => clok p c.f0 c.f1) && decide (1 ≤ p ∧ p ≤ 4 ∧ l.length ≤ 6)) := by
 intro suf
 induction suf with
 | nil =>
  intro pre he
  have hle : l.length = pre.length := by rw [he]; simp
  refine Ev.step (fun k => by simp only [impl_StoryOk.l0]; rfl) ?_
  refine Ev.no (by omega) ?_
  simp only [peopleOk_eq, Option.bind_some, List.all_nil, Bool.true_and]
  by_cases h : 1 ≤ p ∧ p ≤ 4
  ·refine Ev.yes (decide_eq_true h) (Ev.cast (Ev.some _) ?_)
   exact decide_eq_decide.mpr (by omega)
  ·refine Ev.no (by simpa using h) (Ev.cast (Ev.some _) ?_)
   exact (decide_eq_false (fun hh => h ⟨hh.1, hh.2.1⟩)).symm
 | cons c t ih =>
  intro pre he
  have hle : l.length = pre.length + (t.length + 1) := by rw [he]; simp
  have hc : rd_T36 l ((pre.length : Nat) : Int) = c := by rw [he]; exact rdC_at pre c t
  refine Ev.step (fun k => by simp only [impl_StoryOk.l0]; rfl) ?_
  rw [hc, w64 (by omega) (by omega), show (((pre.length : Nat) : Int) + 1) = (((pre ++ [c]).length : Nat) : Int) by simp]
  refine Ev.yes (by omega) (Ev.yes (by omega) (Ev.yes (by omega) (Ev.bind (impl_ClaimOk_ev p c.f0 c.f1) ?_)))
  by_cases h : clok p c.f0 c.f1 = true
  ·exact Ev.yes h (Ev.cast (ih (pre ++ [c]) (by rw [he]; simp)) (by rw [List.all_cons, h, Bool.true_and]))
  ·rw [Bool.not_eq_true] at h
   rw [h]
   exact Ev.no (by simp) (Ev.cast (Ev.some _) (by rw [List.all_cons, h]; simp))
theorem impl_StoryOk_ev (p : Int) (l : List C) (hl : l.length ≤ 4611686018427387904) : Ev (fun k => impl_StoryOk.f k p l) (sok p l) := by
 unfold impl_StoryOk.f
 exact impl_StoryOk_l0 hl l [] rfl
/-- All worlds, as bits. -/
def fullT (q : Nat) : Nat := 2 ^ (2 ^ q) - 1
theorem full_eq {q : Nat} (h1 : 1 ≤ q) (h4 : q ≤ 4) : wrap64 (shl .i64 1 (shl .u64 1 (q : Int)) - 1) = ((fullT q : Nat) : Int) := by
 have : ∀ q : Fin 5, 1 ≤ q.val → wrap64 (shl .i64 1 (shl .u64 1 ((q.val : Nat) : Int)) - 1) = ((fullT q.val : Nat) : Int) := by decide +kernel
 exact this ⟨q, by omega⟩ h1
theorem full_lt {q : Nat} (h4 : q ≤ 4) : fullT q < 65536 := by
 have : (2 : Nat) ^ q ≤ 2 ^ 4 := Nat.pow_le_pow_right (by decide) h4
 have h2 : (2 : Nat) ^ (2 ^ q) ≤ 2 ^ 16 := Nat.pow_le_pow_right (by decide) (by omega)
 unfold fullT
 omega
/-- The table of a story, from some worlds on. -/
noncomputable def stabFrom (p : Int) : Nat → List C → Nat
 | a, [] => a
 | a, c :: l => stabFrom p (a &&& ctab p c.f0 c.f1) l
noncomputable def stab (p : Int) (l : List C) : Nat := stabFrom p (fullT p.toNat) l
theorem and_lt {a b n : Nat} (h : a < n) : a &&& b < n := Nat.lt_of_le_of_lt Nat.and_le_left h
theorem ctab_lt' {p i : Int} {t : List M} (h : clok p i t = true) : ctab p i t < 65536 := by
 obtain ⟨hp0, hp1, _⟩ := tok_iff.1 (clok_iff.1 h).2.2.1
 obtain ⟨q, rfl, _, hq, hq2, e⟩ := people_nat hp0 hp1
 unfold ctab
 rw [e]
 exact tabL_mono hq2
theorem stabFrom_lt {p : Int} : ∀ (l : List C) (a : Nat), a < 65536 → stabFrom p a l < 65536
 | [], _, h => h
 | _ :: l, _, h => stabFrom_lt l _ (and_lt h)
theorem impl_storyTable_l0 {p : Int} {l : List C} (hl : l.length ≤ 4611686018427387904) : ∀ (suf pre : List C) (a : Nat), l = pre ++ suf → (∀ c ∈ suf, clok p c.f0 c.f1 = true) → a < 65536 →
  Ev (fun k => impl_storyTable.l0 k p (a : Int) l ((l.length : Nat) : Int) ((pre.length : Nat) : Int)) ((stabFrom p a suf : Nat) : Int) := by
 intro suf
 induction suf with
 | nil =>
  intro pre a he _ _
  have hle : l.length = pre.length := by rw [he]; simp
  exact Ev.step (fun k => by simp only [impl_storyTable.l0]; rfl) (Ev.no (by omega) (Ev.some _))
 | cons c t ih =>
  intro pre a he hc0 ha
  have hle : l.length = pre.length + (t.length + 1) := by rw [he]; simp
  have hc : rd_T36 l ((pre.length : Nat) : Int) = c := by rw [he]; exact rdC_at pre c t
  have hk := hc0 c (by simp)
  refine Ev.step (fun k => by simp only [impl_storyTable.l0]; rfl) ?_
  rw [hc, w64 (by omega) (by omega), show (((pre.length : Nat) : Int) + 1) = (((pre ++ [c]).length : Nat) : Int) by simp]
  refine Ev.yes (by omega) (Ev.yes (by omega) (Ev.yes (by omega) (Ev.bind (impl_ClaimTable_ev p c.f0 c.f1) ?_)))
  rw [if_pos hk]
  have hb := ctab_lt' hk
  rw [and_nat (by omega) (by omega)]
  exact ih (pre ++ [c]) _ (by rw [he]; simp) (fun x hx => hc0 x (List.mem_cons_of_mem _ hx)) (and_lt ha)
theorem impl_storyTable_ev {p : Int} {l : List C} (h : sok p l = true) : Ev (fun k => impl_storyTable.f k p l) ((stab p l : Nat) : Int) := by
 obtain ⟨h1, hp0, hp1, h6⟩ := sok_iff.1 h
 obtain ⟨q, rfl, hq1, hq, hq2, e⟩ := people_nat hp0 hp1
 unfold impl_storyTable.f stab
 rw [full_eq hq1 hq, e]
 exact Ev.yes (by omega) (impl_storyTable_l0 (by omega) l [] _ rfl h1 (full_lt hq))
theorem stab_lt {p : Int} {l : List C} (h : sok p l = true) : stab p l < 65536 := by
 obtain ⟨h1, hp0, hp1, h6⟩ := sok_iff.1 h
 obtain ⟨q, rfl, hq1, hq, hq2, e⟩ := people_nat hp0 hp1
 unfold stab
 rw [e]
 exact stabFrom_lt l _ (full_lt hq)
end Go.Proofs.Ytpampekijfjlkab.L

/- Plain law of the program's table of a story, whole. -/
namespace Go.Proofs.Ytpampekijfjlkab.L
open Go.RowKit Go.Proofs.Ytpampekijfjlkab.X Go.Proofs.YtpampekijfjlkabW.PrintWords Go.Proofs.YtpampekijfjlkabW.PrintLast Go.Proofs.YtpampekijfjlkabW.PrintMore

theorem impl_StoryTable_ev (p : Int) (l : List C) (hl : l.length ≤ 4611686018427387904) : Ev (fun k => impl_StoryTable.f k p l) (if sok p l = true then ((stab p l : Nat) : Int) else -1) := by
 unfold impl_StoryTable.f
 refine Ev.bind (impl_StoryOk_ev p l hl) ?_
 by_cases h : sok p l = true
 ·rw [if_pos h]
  exact Ev.yes h (Ev.bind (impl_storyTable_ev h) (Ev.some _))
 ·rw [if_neg h]
  exact Ev.no h (Ev.some _)
end Go.Proofs.Ytpampekijfjlkab.L

/- Plain law of the reference's test whether a claim may be made. -/
namespace Go.Proofs.Ytpampekijfjlkab.L
open Go.RowKit Go.Proofs.Ytpampekijfjlkab.X Go.Proofs.YtpampekijfjlkabW.PrintWords Go.Proofs.YtpampekijfjlkabW.PrintLast Go.Proofs.YtpampekijfjlkabW.PrintMore

theorem spec_may_ev {p i : Int} {t : List M} (h2 : tok p t = true) (h0 : 0 ≤ i) (h1 : i < p) {w : Nat} (hw : w < 16) : Ev (fun k => spec_l4May.f k i t (w : Int)) (may i t w) := by
 have h4 := (tok_iff.1 h2).2.1
 obtain ⟨j, rfl⟩ := Int.eq_ofNat_of_zero_le h0
 unfold spec_l4May.f
 refine Ev.yes h0 (Ev.bind (spec_holds_hv h2 hw) (Ev.cast (Ev.some _) ?_))
 rw [bit_mod' hw (show j < 4 by omega)]
 unfold may
 exact Bool.beq_comm
end Go.Proofs.Ytpampekijfjlkab.L

/- Plain laws of the reference's tables of claims. -/
namespace Go.Proofs.Ytpampekijfjlkab.L
open Go.RowKit Go.Proofs.Ytpampekijfjlkab.X Go.Proofs.YtpampekijfjlkabW.PrintWords Go.Proofs.YtpampekijfjlkabW.PrintLast Go.Proofs.YtpampekijfjlkabW.PrintMore

theorem spec_l4May_ev {p i : Int} {t : List M} (h : clok p i t = true) {w : Nat} (hw : w < 16) : Ev (fun k => spec_l4May.f k i t (w : Int)) (may i t w) := by
 obtain ⟨h0, h1, h2, _⟩ := clok_iff.1 h
 exact spec_may_ev h2 h0 h1 hw
theorem l4Table_l0 {q : Nat} {i : Int} {t : List M} (hq : q ≤ 4) (hq2 : 2 ^ q ≤ 16) (h : clok (q : Int) i t = true) : ∀ d j, d + j = 2 ^ q →
  Ev (fun k => spec_l4Table.l0 k (q : Int) ((tabL (may i t) j : Nat) : Int) (j : Int) i t) ((tabL (may i t) (2 ^ q) : Nat) : Int) := by
 intro d
 induction d with
 | zero =>
  intro j hj
  rw [Nat.zero_add] at hj
  refine Ev.step (fun k => by simp only [spec_l4Table.l0]; rfl) ?_
  rw [shl_nat (by omega)]
  refine Ev.yes (by omega) (Ev.no (by omega) (Ev.cast (Ev.some _) ?_))
  rw [hj]
 | succ d ih =>
  intro j hj
  refine Ev.step (fun k => by simp only [spec_l4Table.l0]; rfl) ?_
  rw [shl_nat (by omega)]
  refine Ev.yes (by omega) (Ev.yes (by omega) (Ev.bind (spec_l4May_ev h (by omega)) ?_))
  rw [w64 (by omega) (by omega), show ((j : Int) + 1) = ((j + 1 : Nat) : Int) by omega]
  by_cases hb : may i t j = true
  ·refine Ev.yes hb (Ev.yes (by omega) ?_)
   rw [or_step (by omega) hb]
   exact ih (j + 1) (by omega)
  ·refine Ev.no hb ?_
   have := ih (j + 1) (by omega)
   rwa [not_step hb] at this
theorem spec_l4Table_ev {p i : Int} {t : List M} (h : clok p i t = true) : Ev (fun k => spec_l4Table.f k p i t) ((ctab p i t : Nat) : Int) := by
 unfold spec_l4Table.f
 obtain ⟨hp0, hp1, _⟩ := tok_iff.1 (clok_iff.1 h).2.2.1
 obtain ⟨q, rfl, _, hq, hq2, _⟩ := people_nat hp0 hp1
 exact l4Table_l0 hq hq2 h (2 ^ q) 0 (by omega)
end Go.Proofs.Ytpampekijfjlkab.L

/- Plain laws of the reference's stories and their tables. -/
namespace Go.Proofs.Ytpampekijfjlkab.L
open Go.RowKit Go.Proofs.Ytpampekijfjlkab.X Go.Proofs.YtpampekijfjlkabW.PrintWords Go.Proofs.YtpampekijfjlkabW.PrintLast Go.Proofs.YtpampekijfjlkabW.PrintMore

/-- Small enough for the reference's tests. -/
def Fit (l : List C) : Prop := ∀ c ∈ l, c.f1.length ≤ 4611686018427387904 ∧ ∀ m ∈ c.f1, m.f1 ≤ 9223372036854775807
theorem spec_StoryOk_l0 {p : Int} {l : List C} (hl : l.length ≤ 4611686018427387904) : ∀ (suf pre : List C), l = pre ++ suf → Fit suf →
  Ev (fun k => spec_StoryOk.l0 k p l ((pre.length : Nat) : Int)) (suf.all (fun c => clok p c.f0 c.f1) && decide (1 ≤ p ∧ p ≤ 4 ∧ l.length ≤ 6)) := by
 intro suf
 induction suf with
 | nil =>
  intro pre he _
  have hle : l.length = pre.length := by rw [he]; simp
  refine Ev.step (fun k => by simp only [spec_StoryOk.l0]; rfl) ?_
  refine Ev.no (by omega) ?_
  simp only [l1In_eq, Option.bind_some, List.all_nil, Bool.true_and]
  by_cases h : 1 ≤ p ∧ p ≤ 4
  ·refine Ev.yes (decide_eq_true h) (Ev.cast (Ev.some _) ?_)
   exact decide_eq_decide.mpr (by omega)
  ·refine Ev.no (by simpa using h) (Ev.cast (Ev.some _) ?_)
   exact (decide_eq_false (fun hh => h ⟨hh.1, hh.2.1⟩)).symm
 | cons c t ih =>
  intro pre he hf
  have hle : l.length = pre.length + (t.length + 1) := by rw [he]; simp
  have hc : rd_T36 l ((pre.length : Nat) : Int) = c := by rw [he]; exact rdC_at pre c t
  have hfc := hf c (by simp)
  refine Ev.step (fun k => by simp only [spec_StoryOk.l0]; rfl) ?_
  rw [hc, w64 (by omega) (by omega), show (((pre.length : Nat) : Int) + 1) = (((pre ++ [c]).length : Nat) : Int) by simp]
  refine Ev.yes (by omega) (Ev.yes (by omega) (Ev.bind (spec_ClaimOk_ev p c.f0 c.f1 hfc.1 hfc.2) ?_))
  by_cases h : clok p c.f0 c.f1 = true
  ·exact Ev.yes h (Ev.cast (ih (pre ++ [c]) (by rw [he]; simp) (fun x hx => hf x (List.mem_cons_of_mem _ hx))) (by rw [List.all_cons, h, Bool.true_and]))
  ·rw [Bool.not_eq_true] at h
   rw [h]
   exact Ev.no (by simp) (Ev.cast (Ev.some _) (by rw [List.all_cons, h]; simp))
theorem spec_StoryOk_ev (p : Int) (l : List C) (hl : l.length ≤ 4611686018427387904) (hf : Fit l) : Ev (fun k => spec_StoryOk.f k p l) (sok p l) := by
 unfold spec_StoryOk.f
 exact spec_StoryOk_l0 hl l [] rfl hf
theorem spec_l4Story_l0 {p : Int} {l : List C} (hl : l.length ≤ 4611686018427387904) : ∀ (suf pre : List C) (a : Nat), l = pre ++ suf → (∀ c ∈ suf, clok p c.f0 c.f1 = true) → a < 65536 →
  Ev (fun k => spec_l4Story.l0 k p l (a : Int) ((pre.length : Nat) : Int)) ((stabFrom p a suf : Nat) : Int) := by
 intro suf
 induction suf with
 | nil =>
  intro pre a he _ _
  have hle : l.length = pre.length := by rw [he]; simp
  exact Ev.step (fun k => by simp only [spec_l4Story.l0]; rfl) (Ev.no (by omega) (Ev.some _))
 | cons c t ih =>
  intro pre a he hc0 ha
  have hle : l.length = pre.length + (t.length + 1) := by rw [he]; simp
  have hc : rd_T36 l ((pre.length : Nat) : Int) = c := by rw [he]; exact rdC_at pre c t
  have hk := hc0 c (by simp)
  refine Ev.step (fun k => by simp only [spec_l4Story.l0]; rfl) ?_
  rw [hc, w64 (by omega) (by omega), show (((pre.length : Nat) : Int) + 1) = (((pre ++ [c]).length : Nat) : Int) by simp]
  refine Ev.yes (by omega) (Ev.yes (by omega) (Ev.bind (spec_l4Table_ev hk) ?_))
  have hb := ctab_lt' hk
  rw [and_nat (by omega) (by omega)]
  exact ih (pre ++ [c]) _ (by rw [he]; simp) (fun x hx => hc0 x (List.mem_cons_of_mem _ hx)) (and_lt ha)
theorem spec_l4Story_ev {p : Int} {l : List C} (h : sok p l = true) : Ev (fun k => spec_l4Story.f k p l) ((stab p l : Nat) : Int) := by
 obtain ⟨h1, hp0, hp1, h6⟩ := sok_iff.1 h
 obtain ⟨q, rfl, hq1, hq, hq2, e⟩ := people_nat hp0 hp1
 unfold spec_l4Story.f stab
 rw [full_eq hq1 hq, e]
 exact Ev.yes (by omega) (spec_l4Story_l0 (by omega) l [] _ rfl h1 (full_lt hq))
end Go.Proofs.Ytpampekijfjlkab.L

/- Plain laws of stories without worlds. -/
namespace Go.Proofs.Ytpampekijfjlkab.L
open Go.RowKit Go.Proofs.Ytpampekijfjlkab.X Go.Proofs.YtpampekijfjlkabW.PrintWords Go.Proofs.YtpampekijfjlkabW.PrintLast Go.Proofs.YtpampekijfjlkabW.PrintMore

noncomputable def clash (p : Int) (l : List C) : Bool := if sok p l = true then ((stab p l : Nat) : Int) == 0 else false
theorem impl_ClashOk_ev (p : Int) (l : List C) (hl : l.length ≤ 4611686018427387904) : Ev (fun k => impl_ClashOk.f k p l) (clash p l) := by
 unfold impl_ClashOk.f
 refine Ev.bind (impl_StoryTable_ev p l hl) (Ev.cast (Ev.some _) ?_)
 unfold clash
 by_cases h : sok p l = true
 ·rw [if_pos h, if_pos h]
 ·rw [if_neg h, if_neg h]; rfl
theorem spec_ClashOk_ev (p : Int) (l : List C) (hl : l.length ≤ 4611686018427387904) (hf : Fit l) : Ev (fun k => spec_ClashOk.f k p l) (clash p l) := by
 unfold spec_ClashOk.f
 refine Ev.bind (spec_StoryOk_ev p l hl hf) ?_
 by_cases h : sok p l = true
 ·exact Ev.yes h (Ev.bind (spec_l4Story_ev h) (Ev.cast (Ev.some _) (by rw [clash, if_pos h])))
 ·exact Ev.no h (Ev.cast (Ev.some _) (if_neg h).symm)
end Go.Proofs.Ytpampekijfjlkab.L

/- Plain laws of the exact laws' own helpers at rows of marks: copied, compared, marked and held. -/
namespace Go.Proofs.Ytpampekijfjlkab.L
open Go.RowKit Go.Proofs.Ytpampekijfjlkab.X Go.Proofs.YtpampekijfjlkabW.PrintWords Go.Proofs.YtpampekijfjlkabW.PrintLast Go.Proofs.YtpampekijfjlkabW.PrintMore

/-- A row of the law's marks as one of the program's. -/
def conv (l : List S115) : List M := l.map fun m => ⟨m.f0, m.f1⟩
theorem conv_length (l : List S115) : (conv l).length = l.length := by simp [conv]
theorem i64_wf {x : Int} (h : (Lit.int .i64 x).wf = true) : -9223372036854775808 ≤ x ∧ x ≤ 9223372036854775807 := by
 simp only [Lit.wf, IntKind.min, IntKind.max, IntKind.signed, IntKind.bits, Bool.and_eq_true, decide_eq_true_eq, if_true] at h
 simp at h
 omega
theorem conv_wf {l : List S115} (h : ∀ y ∈ l, wf115 y) : ∀ m ∈ conv l, m.f1 ≤ 9223372036854775807 := by
 intro m hm
 obtain ⟨y, hy, rfl⟩ := List.mem_map.1 hm
 exact (i64_wf (h y hy).2).2
theorem rdLM_at (pre : List S115) (m : S115) (suf : List S115) : rd_T115 (pre ++ m :: suf) ((pre.length : Nat) : Int) = m := by
 unfold rd_T115
 simp [List.getD]
theorem szMarkS_eq (l : List S115) (n : Nat) (hn : n ≤ 1048576) (hl : l.length ≤ 9223372036854775807) : laws_szMarkS.f l (n : Int) = some (if (n : Int) - l.length < 0 then -1 else (n : Int) - l.length) := by
 unfold laws_szMarkS.f
 rw [w64 (by omega) (by omega)]
 by_cases h : (n : Int) - l.length < 0
 ·rw [if_pos h, if_pos h]
 ·rw [if_neg h, if_neg h]
theorem szMarkS_big (l : List S115) (hl : l.length ≤ 9223372036854775807) : laws_szMarkS.f l 1048576 = some (if (1048576 : Int) - l.length < 0 then (-1 : Int) else (1048576 : Int) - l.length) := szMarkS_eq l 1048576 (by omega) hl
theorem toMarkS_l0 (l : List S115) (hl : l.length ≤ 4611686018427387904) : ∀ (suf pre : List S115), l = pre ++ suf →
  Ev (fun k => laws_toMarkS.l0 k l (conv pre ++ List.replicate suf.length z33) ((pre.length : Nat) : Int)) (conv l) := by
 intro suf
 induction suf with
 | nil =>
  intro pre he
  have hle : l.length = pre.length := by rw [he]; simp
  refine Ev.step (fun k => by simp only [laws_toMarkS.l0]; rfl) ?_
  exact Ev.no (by omega) (Ev.cast (Ev.some _) (by rw [he]; simp))
 | cons m t ih =>
  intro pre he
  have hle : l.length = pre.length + (t.length + 1) := by rw [he]; simp
  have hm : rd_T115 l ((pre.length : Nat) : Int) = m := by rw [he]; exact rdLM_at pre m t
  have hnext : wrap64 (((pre.length : Nat) : Int) + 1) = (((pre ++ [m]).length : Nat) : Int) := by rw [w64 (by omega) (by omega)]; simp
  refine Ev.step (fun k => by simp only [laws_toMarkS.l0]; rfl) ?_
  refine Ev.yes (by omega) (Ev.yes (by omega) ?_)
  simp only [laws_toMark.f, Option.bind_some, hm, hnext]
  refine Ev.yes (by simp [conv]; omega) ?_
  have e : (conv pre ++ List.replicate (m :: t).length z33).set ((pre.length : Nat) : Int).toNat ⟨m.f0, m.f1⟩ = conv (pre ++ [m]) ++ List.replicate t.length z33 := by
   have : pre.length = (conv pre).length := by simp [conv]
   rw [Int.toNat_natCast, this, List.set_append_right _ _ (Nat.le_refl _)]
   simp [List.replicate_succ, conv]
  rw [e]
  exact ih (pre ++ [m]) (by rw [he]; simp)
theorem toMarkS_ev (l : List S115) (hl : l.length ≤ 1048576) : Ev (fun k => laws_toMarkS.f k l) (conv l) := by
 unfold laws_toMarkS.f
 refine Ev.yes (by omega) (Ev.yes (by omega) ?_)
 have := toMarkS_l0 l (by omega) l [] rfl
 simpa [conv] using this
theorem eqMarkS_l0 (l : List M) (hl : l.length ≤ 4611686018427387904) : ∀ (suf pre : List M), l = pre ++ suf → Ev (fun k => laws_eqMarkS.l0 k l l ((pre.length : Nat) : Int)) true := by
 intro suf
 induction suf with
 | nil =>
  intro pre he
  have hle : l.length = pre.length := by rw [he]; simp
  refine Ev.step (fun k => by simp only [laws_eqMarkS.l0]; rfl) ?_
  exact Ev.no (by omega) (Ev.some _)
 | cons m t ih =>
  intro pre he
  have hle : l.length = pre.length + (t.length + 1) := by rw [he]; simp
  have hnext : wrap64 (((pre.length : Nat) : Int) + 1) = (((pre ++ [m]).length : Nat) : Int) := by rw [w64 (by omega) (by omega)]; simp
  refine Ev.step (fun k => by simp only [laws_eqMarkS.l0]; rfl) ?_
  refine Ev.yes (by omega) (Ev.yes (by omega) (Ev.yes (by omega) ?_))
  simp only [laws_eqMark.f, if_true, Option.bind_some]
  rw [hnext]
  exact ih (pre ++ [m]) (by rw [he]; simp)
theorem eqMarkS_ev (l : List M) (hl : l.length ≤ 4611686018427387904) : Ev (fun k => laws_eqMarkS.f k l l) true := by
 unfold laws_eqMarkS.f
 exact Ev.yes rfl (eqMarkS_l0 l hl l [] rfl)
end Go.Proofs.Ytpampekijfjlkab.L

/- Plain law of comparing claims. -/
namespace Go.Proofs.Ytpampekijfjlkab.L
open Go.RowKit Go.Proofs.Ytpampekijfjlkab.X Go.Proofs.YtpampekijfjlkabW.PrintWords Go.Proofs.YtpampekijfjlkabW.PrintLast Go.Proofs.YtpampekijfjlkabW.PrintMore

theorem eqClaim_ev (i : Int) (l : List M) (hl : l.length ≤ 4611686018427387904) : Ev (fun k => laws_eqClaim.f k i l i l) true := by
 unfold laws_eqClaim.f
 exact Ev.yes rfl (Ev.bind (eqMarkS_ev l hl) (Ev.yes rfl (Ev.some _)))
end Go.Proofs.Ytpampekijfjlkab.L

/- Plain laws of the exact laws' own helpers at claims that come in. -/
namespace Go.Proofs.Ytpampekijfjlkab.L
open Go.RowKit Go.Proofs.Ytpampekijfjlkab.X Go.Proofs.YtpampekijfjlkabW.PrintWords Go.Proofs.YtpampekijfjlkabW.PrintLast Go.Proofs.YtpampekijfjlkabW.PrintMore

theorem szClaim_big (i : Int) (l : List S115) (hl : l.length ≤ 9223372036854775807) : laws_szClaim.f i l 1048576 = some (if (1048576 : Int) - l.length < 0 then (-1 : Int) else (1048576 : Int) - l.length) := by
 unfold laws_szClaim.f
 rw [szMarkS_big l hl, Option.bind_some]
 by_cases h : (1048576 : Int) - l.length < 0
 ·rw [if_pos h, if_pos (by omega)]
 ·rw [if_neg h, if_neg h]
theorem toClaim_ev (i : Int) (l : List S115) (hl : l.length ≤ 1048576) : Ev (fun k => laws_toClaim.f k i l) (i, conv l) := by
 unfold laws_toClaim.f
 exact Ev.bind (toMarkS_ev l hl) (Ev.some _)
end Go.Proofs.Ytpampekijfjlkab.L

/- Plain laws of the exact laws' own helpers at rows of claims. -/
namespace Go.Proofs.Ytpampekijfjlkab.L
open Go.RowKit Go.Proofs.Ytpampekijfjlkab.X Go.Proofs.YtpampekijfjlkabW.PrintWords Go.Proofs.YtpampekijfjlkabW.PrintLast Go.Proofs.YtpampekijfjlkabW.PrintMore

/-- A row of the law's claims as one of the program's. -/
def convC (l : List S40) : List C := l.map fun c => ⟨c.f0, conv c.f1⟩
theorem convC_length (l : List S40) : (convC l).length = l.length := by simp [convC]
theorem rdLC_at (pre : List S40) (m : S40) (suf : List S40) : rd_T40 (pre ++ m :: suf) ((pre.length : Nat) : Int) = m := by
 unfold rd_T40
 simp [List.getD]
theorem szClaimS_l0 {l : List S40} (hl : l.length ≤ 4611686018427387904) (hb : ∀ y ∈ l, y.f1.length ≤ 9223372036854775807) : ∀ (suf pre : List S40) (n : Nat), l = pre ++ suf → n ≤ 1048576 →
  ∃ r : Int, Ev (fun k => laws_szClaimS.l0 k l (n : Int) ((pre.length : Nat) : Int)) r ∧ (r < 0 ∨ ∀ y ∈ suf, y.f1.length ≤ 1048576) := by
 intro suf
 induction suf with
 | nil =>
  intro pre n he hn
  have hle : l.length = pre.length := by rw [he]; simp
  exact ⟨(n : Int), Ev.step (fun k => by simp only [laws_szClaimS.l0]; rfl) (Ev.no (by omega) (Ev.some _)), .inr (fun y hy => by cases hy)⟩
 | cons c t ih =>
  intro pre n he hn
  have hle : l.length = pre.length + (t.length + 1) := by rw [he]; simp
  have hc : rd_T40 l ((pre.length : Nat) : Int) = c := by rw [he]; exact rdLC_at pre c t
  have hcb := hb c (by rw [he]; simp)
  have hsz : laws_szClaim.f c.f0 c.f1 (n : Int) = some (if (n : Int) - c.f1.length < 0 then (-1 : Int) else (n : Int) - c.f1.length) := by
   unfold laws_szClaim.f
   rw [szMarkS_eq c.f1 n hn hcb, Option.bind_some]
   by_cases h : (n : Int) - c.f1.length < 0
   ·rw [if_pos h, if_pos (by omega)]
   ·rw [if_neg h, if_neg h]
  by_cases h : (n : Int) - c.f1.length < 0
  ·refine ⟨-1, Ev.step (fun k => by simp only [laws_szClaimS.l0]; rfl) ?_, .inl (by omega)⟩
   rw [hc, hsz, if_pos h]
   simp only [Option.bind_some]
   exact Ev.yes (by omega) (Ev.yes (by omega) (Ev.yes (by omega) (Ev.some _)))
  ·obtain ⟨m, hm⟩ := Int.eq_ofNat_of_zero_le (show 0 ≤ (n : Int) - c.f1.length by omega)
   obtain ⟨r, hr, hx⟩ := ih (pre ++ [c]) m (by rw [he]; simp) (by omega)
   refine ⟨r, Ev.step (fun k => by simp only [laws_szClaimS.l0]; rfl) ?_, ?_⟩
   ·rw [hc, hsz, if_neg h, w64 (by omega) (by omega), show (((pre.length : Nat) : Int) + 1) = (((pre ++ [c]).length : Nat) : Int) by simp]
    simp only [Option.bind_some]
    rw [hm]
    exact Ev.yes (by omega) (Ev.yes (by omega) (Ev.no (by omega) hr))
   ·rcases hx with hx | hx
    ·exact .inl hx
    ·refine .inr (fun y hy => ?_)
     rcases List.mem_cons.1 hy with rfl | hy
     ·omega
     ·exact hx y hy
theorem szClaimS_ev (l : List S40) (hl : l.length ≤ 9223372036854775807) (hb : ∀ y ∈ l, y.f1.length ≤ 9223372036854775807) : ∃ r : Int, Ev (fun k => laws_szClaimS.f k l 1048576) r ∧ (r < 0 ∨ (l.length ≤ 1048576 ∧ ∀ y ∈ l, y.f1.length ≤ 1048576)) := by
 unfold laws_szClaimS.f
 rw [w64 (by omega) (by omega)]
 by_cases h : (1048576 : Int) - (l.length : Int) < 0
 ·exact ⟨-1, Ev.yes h (Ev.some _), .inl (by omega)⟩
 ·obtain ⟨n, hn⟩ := Int.eq_ofNat_of_zero_le (show 0 ≤ (1048576 : Int) - (l.length : Int) by omega)
  obtain ⟨r, hr, hx⟩ := szClaimS_l0 (l := l) (by omega) hb l [] n rfl (by omega)
  refine ⟨r, Ev.no h ?_, ?_⟩
  ·rw [hn]; exact hr
  ·rcases hx with hx | hx
   ·exact .inl hx
   ·exact .inr ⟨by omega, hx⟩
theorem toClaimS_l0 {l : List S40} (hl : l.length ≤ 1048576) (hb : ∀ y ∈ l, y.f1.length ≤ 1048576) : ∀ (suf pre : List S40), l = pre ++ suf →
  Ev (fun k => laws_toClaimS.l0 k l (convC pre ++ List.replicate suf.length z36) ((pre.length : Nat) : Int)) (convC l) := by
 intro suf
 induction suf with
 | nil =>
  intro pre he
  have hle : l.length = pre.length := by rw [he]; simp
  refine Ev.step (fun k => by simp only [laws_toClaimS.l0]; rfl) (Ev.no (by omega) (Ev.cast (Ev.some _) ?_))
  rw [he]; simp
 | cons c t ih =>
  intro pre he
  have hle : l.length = pre.length + (t.length + 1) := by rw [he]; simp
  have hc : rd_T40 l ((pre.length : Nat) : Int) = c := by rw [he]; exact rdLC_at pre c t
  have hcb := hb c (by rw [he]; simp)
  refine Ev.step (fun k => by simp only [laws_toClaimS.l0]; rfl) ?_
  rw [hc, w64 (by omega) (by omega), show (((pre.length : Nat) : Int) + 1) = (((pre ++ [c]).length : Nat) : Int) by simp]
  refine Ev.yes (by omega) (Ev.yes (by omega) (Ev.bind (toClaim_ev c.f0 c.f1 hcb) (Ev.yes ?_ ?_)))
  ·rw [List.length_append, convC_length, List.length_replicate, List.length_cons]; omega
  ·have e : (convC pre ++ List.replicate (c :: t).length z36).set ((pre.length : Nat) : Int).toNat ⟨c.f0, conv c.f1⟩ = convC (pre ++ [c]) ++ List.replicate t.length z36 := by
    have e1 : (convC pre ++ List.replicate (c :: t).length z36) = convC pre ++ z36 :: List.replicate t.length z36 := by simp [List.replicate_succ]
    rw [e1, Int.toNat_natCast, ← convC_length pre, List.set_append_right _ _ (Nat.le_refl _), Nat.sub_self, List.set_cons_zero]
    simp [convC]
   rw [e]
   exact ih (pre ++ [c]) (by rw [he]; simp)
theorem toClaimS_ev (l : List S40) (hl : l.length ≤ 1048576) (hb : ∀ y ∈ l, y.f1.length ≤ 1048576) : Ev (fun k => laws_toClaimS.f k l) (convC l) := by
 unfold laws_toClaimS.f
 refine Ev.yes (by omega) (Ev.yes (by omega) ?_)
 rw [Int.toNat_natCast]
 exact toClaimS_l0 hl hb l [] rfl
theorem eqClaimS_l0 {l : List C} (hl : l.length ≤ 4611686018427387904) (hb : ∀ c ∈ l, c.f1.length ≤ 4611686018427387904) : ∀ (suf pre : List C), l = pre ++ suf → Ev (fun k => laws_eqClaimS.l0 k l l ((pre.length : Nat) : Int)) true := by
 intro suf
 induction suf with
 | nil =>
  intro pre he
  have hle : l.length = pre.length := by rw [he]; simp
  exact Ev.step (fun k => by simp only [laws_eqClaimS.l0]; rfl) (Ev.no (by omega) (Ev.some _))
 | cons c t ih =>
  intro pre he
  have hle : l.length = pre.length + (t.length + 1) := by rw [he]; simp
  have hc : rd_T36 l ((pre.length : Nat) : Int) = c := by rw [he]; exact rdC_at pre c t
  refine Ev.step (fun k => by simp only [laws_eqClaimS.l0]; rfl) ?_
  rw [hc, w64 (by omega) (by omega), show (((pre.length : Nat) : Int) + 1) = (((pre ++ [c]).length : Nat) : Int) by simp]
  exact Ev.yes (by omega) (Ev.yes (by omega) (Ev.yes (by omega) (Ev.bind (eqClaim_ev c.f0 c.f1 (hb c (by rw [he]; simp))) (Ev.yes rfl (ih (pre ++ [c]) (by rw [he]; simp))))))
theorem eqClaimS_ev (l : List C) (hl : l.length ≤ 4611686018427387904) (hb : ∀ c ∈ l, c.f1.length ≤ 4611686018427387904) : Ev (fun k => laws_eqClaimS.f k l l) true := by
 unfold laws_eqClaimS.f
 exact Ev.yes rfl (eqClaimS_l0 hl hb l [] rfl)
end Go.Proofs.Ytpampekijfjlkab.L

/- Rows of claims that come in are small enough for the reference's tests. -/
namespace Go.Proofs.Ytpampekijfjlkab.L
open Go.RowKit Go.Proofs.Ytpampekijfjlkab.X Go.Proofs.YtpampekijfjlkabW.PrintWords Go.Proofs.YtpampekijfjlkabW.PrintLast Go.Proofs.YtpampekijfjlkabW.PrintMore

theorem convC_fit {l : List S40} (hw : ∀ y ∈ l, wf40 y) (hb : ∀ y ∈ l, y.f1.length ≤ 1048576) : Fit (convC l) := by
 intro c hc
 obtain ⟨y, hy, rfl⟩ := List.mem_map.1 hc
 exact ⟨by show (conv y.f1).length ≤ _; rw [conv_length]; have := hb y hy; omega, conv_wf (hw y hy).2⟩
theorem convC_len {l : List S40} (hb : ∀ y ∈ l, y.f1.length ≤ 1048576) : ∀ c ∈ convC l, c.f1.length ≤ 4611686018427387904 := by
 intro c hc
 obtain ⟨y, hy, rfl⟩ := List.mem_map.1 hc
 show (conv y.f1).length ≤ _
 rw [conv_length]
 have := hb y hy
 omega
end Go.Proofs.Ytpampekijfjlkab.L
