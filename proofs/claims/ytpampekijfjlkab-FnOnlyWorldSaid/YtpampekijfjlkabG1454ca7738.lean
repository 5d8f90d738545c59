/- Joined by a program of this session's: X5, X6, X136, X137, LDC, LDSTO, LH, LTB, LTY, LO, LCB. -/
import Derived.Test.YtpampekijfjlkabGee11445daa
import Derived.Test.YtpampekijfjlkabGc1affb4ce0
import Derived.Test.YtpampekijfjlkabG6de695bd07
import Derived.Test.YtpampekijfjlkabGaea933a6a3
import Derived.Test.YtpampekijfjlkabG7c862d3aa4
import Derived.Test.YtpampekijfjlkabG240aef8a7b
import Derived.Test.YtpampekijfjlkabGbae55a3807
import Derived.Laws.BitsLemmas
import Derived.Test.YtpampekijfjlkabG047ef11be9

namespace Go.Proofs.Ytpampekijfjlkab.X
open Go.RowKit Go.Proofs.YtpampekijfjlkabW.PrintWords Go.Proofs.YtpampekijfjlkabW.PrintLast Go.Proofs.YtpampekijfjlkabW.PrintMore
attribute [local go_sem] max2_int min2_int max_two min_two max_three min_three max_four min_four   -- for this text's walks alone
set_option linter.unusedVariables false
set_option linter.unusedSimpArgs false
/-! ### spec_l20Claim: function 138 -/
def spec_l20Claim.f (k : Nat) (s0_0 : List Int) (s0_1 : Int) (a1 : Int) (a2 : Int) : Option (Int × (List (S33)) × Int) := (spec_l20Rd_pick.f k s0_0 s0_1 (mx a1 1)).bind fun bt102 => ((spec_l20Term.f k s0_0 bt102.2 a1 (wrap64 (a2 * 2))).bind fun bt104 => ((spec_l20Rd_odd.f k s0_0 bt104.2 a2).bind fun bt109 => (if bt109.1 = true then ((some (([(-1), 4] : List Int) : List Int)).bind fun y111 => ((spec_l20Rd_pick.f k s0_0 bt109.2 2).bind fun bt114 => (if 0 ≤ bt114.1 then (if bt114.1 < (y111.length : Int) then (some (rd y111 bt114.1, bt104.1, bt114.2)) else (none)) else (none)))) else (some (bt102.1, bt104.1, bt109.2)))))
theorem spec_l20Claim.mono : ∀ a0 a1 a2 a3 k, LeO (spec_l20Claim.f k a0 a1 a2 a3) (spec_l20Claim.f (k + 1) a0 a1 a2 a3) := by
 intro a0 a1 a2 a3 k
 unfold spec_l20Claim.f
 repeat' first
   | (with_reducible exact spec_l20Rd_odd.mono _ _ _ _)
   | (with_reducible exact spec_l20Rd_pick.mono _ _ _ _)
   | (with_reducible exact spec_l20Term.mono _ _ _ _ _)
   | (with_reducible exact LeO.refl _)
   | (with_reducible exact LeO.none _)
   | (with_reducible refine LeO.ite ?_ ?_)
   | (with_reducible refine LeO.bind ?_ (fun _ => ?_))
   | exact spec_l20Rd_odd.mono _ _ _ _
   | exact spec_l20Rd_pick.mono _ _ _ _
   | exact spec_l20Term.mono _ _ _ _ _
   | exact LeO.none _
   | refine LeO.ite ?_ ?_
   | refine LeO.bind ?_ (fun _ => ?_)
set_option maxHeartbeats 8000000 in
set_option maxRecDepth 100000 in
theorem spec_l20Claim.calls (k : Nat) (g : Nat) (s0_0 : List Int) (s0_1 : Int) (a1 : Int) (a2 : Int) (r1 : Int) (r2 : List (S33)) (r3 : Int) (w0 w : World) (hI : IsS113 w0 w g s0_0 s0_1) (hB : Below w0.heap.size w0 w) (h : spec_l20Claim.f k s0_0 s0_1 a1 a2 = some (r1, r2, r3)) :
  Calls Try.prog 138 #[.pointer (some ⟨g, 0, none⟩), .int .i64 a1, .int .i64 a2] w fun e w' => ∃ v1_ : Value, e = .returned (.agg #[.int .i64 r1, v1_]) ∧ Kd.R k33 33 w' w.heap.size (fun _ => True) v1_ r2 ∧ IsS113 w0 w' g s0_0 r3 ∧ Below w0.heap.size w0 w' ∧ KeepBut w w' g none := by
 have hu36 := Try.underlying36
 have HI0 := Aside0.mk hI
 have HK := Aside0.mk (KeepBut.refl w g none)
 have HL := Aside0.mk hB.size
 clear hI
 have HW0 := Aside0.mk hB.size
 have HB := Aside0.mk hB
 clear hB
 have H : ((spec_l20Rd_pick.f k s0_0 s0_1 (mx a1 1)).bind fun bt102 => ((spec_l20Term.f k s0_0 bt102.2 a1 (wrap64 (a2 * 2))).bind fun bt104 => ((spec_l20Rd_odd.f k s0_0 bt104.2 a2).bind fun bt109 => (if bt109.1 = true then ((some (([(-1), 4] : List Int) : List Int)).bind fun y111 => ((spec_l20Rd_pick.f k s0_0 bt109.2 2).bind fun bt114 => (if 0 ≤ bt114.1 then (if bt114.1 < (y111.length : Int) then (some (rd y111 bt114.1, bt104.1, bt114.2)) else (none)) else (none)))) else (some (bt102.1, bt104.1, bt109.2)))))) = some (r1, r2, r3) := h
 clear h
 obtain ⟨ji4, hji4⟩ : ∃ j_ : Int, (mx a1 1) = j_ := ⟨_, rfl⟩
 replace H : ((spec_l20Rd_pick.f k s0_0 s0_1 (ji4)).bind fun bt102 => ((spec_l20Term.f k s0_0 bt102.2 a1 (wrap64 (a2 * 2))).bind fun bt104 => ((spec_l20Rd_odd.f k s0_0 bt104.2 a2).bind fun bt109 => (if bt109.1 = true then ((some (([(-1), 4] : List Int) : List Int)).bind fun y111 => ((spec_l20Rd_pick.f k s0_0 bt109.2 2).bind fun bt114 => (if 0 ≤ bt114.1 then (if bt114.1 < (y111.length : Int) then (some (rd y111 bt114.1, bt104.1, bt114.2)) else (none)) else (none)))) else (some (bt102.1, bt104.1, bt109.2)))))) = some (r1, r2, r3) := by first | (rw [hji4] at H; exact H) | (simp only [hji4] at H ⊢; exact H)
 (try (have hji4l : 1 ≤ ji4 := by (rw [← hji4]; unfold mx; (repeat' split) <;> omega)))
 (try (have hji4m : 0 ≤ ji4 := by omega))
 have hji4_ : (if a1 < 1 then 1 else a1) = ji4 := hji4
 replace H := Option.bind_eq_some_iff.mp H
 obtain ⟨⟨t102, t103⟩, A50, H⟩ := H
 replace H : ((spec_l20Term.f k s0_0 t103 a1 (wrap64 (a2 * 2))).bind fun bt104 => ((spec_l20Rd_odd.f k s0_0 bt104.2 a2).bind fun bt109 => (if bt109.1 = true then ((some (([(-1), 4] : List Int) : List Int)).bind fun y111 => ((spec_l20Rd_pick.f k s0_0 bt109.2 2).bind fun bt114 => (if 0 ≤ bt114.1 then (if bt114.1 < (y111.length : Int) then (some (rd y111 bt114.1, bt104.1, bt114.2)) else (none)) else (none)))) else (some (t102, bt104.1, bt109.2))))) = some (r1, r2, r3) := H
 have A5 := Aside0.mk A50
 clear A50
 replace H := Option.bind_eq_some_iff.mp H
 obtain ⟨⟨t104, t107⟩, A60, H⟩ := H
 replace H : ((spec_l20Rd_odd.f k s0_0 t107 a2).bind fun bt109 => (if bt109.1 = true then ((some (([(-1), 4] : List Int) : List Int)).bind fun y111 => ((spec_l20Rd_pick.f k s0_0 bt109.2 2).bind fun bt114 => (if 0 ≤ bt114.1 then (if bt114.1 < (y111.length : Int) then (some (rd y111 bt114.1, t104, bt114.2)) else (none)) else (none)))) else (some (t102, t104, bt109.2)))) = some (r1, r2, r3) := H
 have A6 := Aside0.mk A60
 clear A60
 replace H := Option.bind_eq_some_iff.mp H
 obtain ⟨⟨t109, t110⟩, A70, H⟩ := H
 replace H : (if t109 = true then ((some (([(-1), 4] : List Int) : List Int)).bind fun y111 => ((spec_l20Rd_pick.f k s0_0 t110 2).bind fun bt114 => (if 0 ≤ bt114.1 then (if bt114.1 < (y111.length : Int) then (some (rd y111 bt114.1, t104, bt114.2)) else (none)) else (none)))) else (some (t102, t104, t110))) = some (r1, r2, r3) := H
 have A7 := Aside0.mk A70
 clear A70
 by_cases c8 : t109 = true
 ·subst c8
  have H1 : ((some (([(-1), 4] : List Int) : List Int)).bind fun y111 => ((spec_l20Rd_pick.f k s0_0 t110 2).bind fun bt114 => (if 0 ≤ bt114.1 then (if bt114.1 < (y111.length : Int) then (some (rd y111 bt114.1, t104, bt114.2)) else (none)) else (none)))) = some (r1, r2, r3) := by rw [if_pos rfl] at H; exact H
  clear H
  have H := H1
  clear H1
  obtain ⟨y111, hy111⟩ : ∃ y_ : List Int, y_ = (([(-1), 4] : List Int)) := ⟨_, rfl⟩
  replace H : ((spec_l20Rd_pick.f k s0_0 t110 2).bind fun bt114 => (if 0 ≤ bt114.1 then (if bt114.1 < (y111.length : Int) then (some (rd y111 bt114.1, t104, bt114.2)) else (none)) else (none))) = some (r1, r2, r3) := by first | (rw [hy111]; with_reducible exact H) | (have H2_ := (Option.bind_some _ _).symm.trans H; rw [hy111]; with_reducible exact H2_) | (have H2_ := (Option.bind_some _ _).symm.trans H; with_reducible exact H2_) | with_reducible exact H | (rw [hy111]; exact H) | exact H
  have Ny111 := Aside0.mk hy111
  clear hy111
  replace H := Option.bind_eq_some_iff.mp H
  obtain ⟨⟨t114, t115⟩, A90, H⟩ := H
  replace H : (if 0 ≤ t114 then (if t114 < (y111.length : Int) then (some (rd y111 t114, t104, t115)) else (none)) else (none)) = some (r1, r2, r3) := H
  have A9 := Aside0.mk A90
  clear A90
  by_cases c10 : 0 ≤ t114
  ·rw [if_pos c10] at H
   have c10b0 : decide (0 ≤ t114) = true := decide_eq_true c10
   clear c10
   by_cases c11 : t114 < (y111.length : Int)
   ·rw [if_pos c11] at H
    have c11b0 : decide (t114 < (y111.length : Int)) = true := decide_eq_true c11
    clear c11
    simp only [Option.some.injEq, Prod.mk.injEq] at H
    obtain ⟨rfl, rfl, rfl⟩ := H
    go_enter Try.func138, Try.ntmps138
    go_wp2_with (first | ((with_reducible refine gate_dst (N := 6) rfl ?_); refine box_event ?hg (N := 6) ?hd (cs := #[.int .i64 0, .slice none 0 0]) (t := 36) ?hr ?_; (case hd => rfl); (case hg => rfl); (case hr => first | (go_simp; done) | (go_simp; rfl)); intro gb101 hg w12 hbox hb; have n0_ := Aside0.mk (IsS113.below (by repeat (first | (with_reducible first | exact HI0.out | apply IsS113.alloc | apply IsS113.drewN | apply IsS113.drew | apply IsS113.set_1) | exact HI0.out)) hb); have n1_ := Aside0.mk (KeepBut.trans (by repeat (first | (with_reducible first | exact HK.out | apply KeepBut.set_ | apply keep_drewN | apply keep_drew | apply keep_alloc) | exact HK.out)) (KeepBut.of_below hb g none) (.inl rfl)); have n2_ := Aside0.mk (below_step (by repeat (first | (with_reducible first | exact HB.out | apply below_alloc | apply pw_below_drewN | apply below_drew1 | refine below_set ?_ (IsS113.ge HI0.out)) | exact HB.out)) hb); have n3_ := Aside0.mk (hbox); have n4_ := Aside0.mk ((by rw [hg]; exact (keep_size (w := w) (g := g) (row := none) (by repeat (first | (with_reducible first | exact HK.out | apply KeepBut.set_ | apply keep_drewN | apply keep_drew | apply keep_alloc) | exact HK.out))) : w.heap.size ≤ gb101)); have n5_ := Aside0.mk ((Nat.le_trans HW0.out (by rw [hg]; exact (keep_size (w := w) (g := g) (row := none) (by repeat (first | (with_reducible first | exact HK.out | apply KeepBut.set_ | apply keep_drewN | apply keep_drew | apply keep_alloc) | exact HK.out))) : w.heap.size ≤ gb101) : w0.heap.size ≤ gb101)); have n6_ := Aside0.mk ((by rw [hg]; exact Nat.ne_of_lt (IsS113.lt (show IsS113 w0 _ g s0_0 s0_1 from by repeat (first | (with_reducible first | exact HI0.out | apply IsS113.alloc | apply IsS113.drewN | apply IsS113.drew | apply IsS113.set_1) | exact HI0.out))) : g ≠ gb101)); have n7_ := Aside0.mk ((by rw [hg]; exact Nat.ne_of_gt (IsS113.lt (show IsS113 w0 _ g s0_0 s0_1 from by repeat (first | (with_reducible first | exact HI0.out | apply IsS113.alloc | apply IsS113.drewN | apply IsS113.drew | apply IsS113.set_1) | exact HI0.out))) : gb101 ≠ g)); clear HI0; clear HK; clear HB; have HI0 := n0_; have HK := n1_; have HB := n2_; have BK101 := n3_; have GW101 := n4_; have GE101 := n5_; have NB0_101 := n6_; have NB101_0 := n7_; clear n0_ n1_ n2_ n3_ n4_ n5_ n6_ n7_; clear hb hbox hg) | ((with_reducible refine gate_callee (f := 108) rfl ?_); refine goesL_ (some 11) rfl rfl Try.func108 (by kernel_rfl) rfl #[.pointer (some ⟨g, 0, none⟩), .int .i64 ji4] rfl (by (try simp only [List.map_toArray, List.map_cons, List.map_nil]); first | done | (simp only [hji4]; rfl) | rfl | (simp only [List.length_drop, List.length_take]; rfl)) ?_; (with_reducible refine (spec_l20Rd_pick.calls k g s0_0 s0_1 ji4 t102 t103 w0 _ ?side1 ?side2 A5.out).mono ?_); (case side1 => repeat (first | (with_reducible first | exact HI0.out | apply IsS113.alloc | apply IsS113.drewN | apply IsS113.drew | apply IsS113.set_1 | refine IsS113.far ?_ NB0_101.out _) | exact HI0.out)); (case side2 => repeat (first | (with_reducible first | exact HB.out | apply below_alloc | apply pw_below_drewN | apply below_drew1 | refine below_set ?_ (IsS113.ge HI0.out) | refine below_set ?_ GE101.out) | exact HB.out)); rintro e w13 ⟨rfl, hi, hb, hk⟩; refine ⟨_, rfl, ?_⟩; have n0_ := Aside0.mk (KeepBut.blk hk (g' := gb101) (o := .cells #[.int .i64 0, .slice none 0 0] 36 (0, 0)) (by (with_reducible repeat (first | refine blk_drewN ?_ _ | refine blk_drew ?_ | refine blk_alloc ?_ _)); exact BK101.out) NB101_0.out (by simp)); have n1_ := Aside0.mk (KeepBut.trans (by repeat (first | (with_reducible first | exact HK.out | apply KeepBut.set_ | apply keep_drewN | apply keep_drew | apply keep_alloc | refine keep_far ?_ GW101.out _) | exact HK.out)) hk (.inl rfl)); have n2_ := Aside0.mk (hb); have n3_ := Aside0.mk (hi); clear BK101; clear HK; clear HB; clear HI0; have BK101 := n0_; have HK := n1_; have HB := n2_; have HI0 := n3_; clear n0_ n1_ n2_ n3_; (try clear hb); (try clear hb2); (try clear hk); (try clear hi)) | ((with_reducible refine gate_callee (f := 128) rfl ?_); refine goesL_ (some 16) rfl rfl Try.func128 (by kernel_rfl) rfl #[.pointer (some ⟨g, 0, none⟩), .int .i64 a1, .int .i64 (wrap64 (a2 * 2))] rfl (by (try simp only [List.map_toArray, List.map_cons, List.map_nil]); first | done | rfl | (simp only [List.length_drop, List.length_take]; rfl)) ?_; (with_reducible refine (spec_l20Term.calls k g s0_0 t103 a1 (wrap64 (a2 * 2)) t104 t107 w0 _ ?side1 ?side2 A6.out).mono ?_); (case side1 => repeat (first | (with_reducible first | exact HI0.out | apply IsS113.alloc | apply IsS113.drewN | apply IsS113.drew | apply IsS113.set_1 | refine IsS113.far ?_ NB0_101.out _) | exact HI0.out)); (case side2 => repeat (first | (with_reducible first | exact HB.out | apply below_alloc | apply pw_below_drewN | apply below_drew1 | refine below_set ?_ (IsS113.ge HI0.out) | refine below_set ?_ GE101.out) | exact HB.out)); rintro e w14 ⟨v105, rfl, ho0, hi, hb, hk⟩; refine ⟨_, rfl, ?_⟩; have n0_ := Aside0.mk (KeepBut.blk hk (g' := gb101) (o := .cells #[.int .i64 0, .slice none 0 0] 36 (0, 0)) (by (with_reducible repeat (first | refine blk_drewN ?_ _ | refine blk_drew ?_ | refine blk_alloc ?_ _)); exact BK101.out) NB101_0.out (by simp)); have n1_ := Aside0.mk (Kd.R_lower ho0 (keep_size (w := w) (g := g) (row := none) (by repeat (first | (with_reducible first | exact HK.out | apply KeepBut.set_ | apply keep_drewN | apply keep_drew | apply keep_alloc | refine keep_far ?_ GW101.out _) | exact HK.out)))); have n2_ := Aside0.mk (KeepBut.trans (by repeat (first | (with_reducible first | exact HK.out | apply KeepBut.set_ | apply keep_drewN | apply keep_drew | apply keep_alloc | refine keep_far ?_ GW101.out _) | exact HK.out)) hk (.inl rfl)); have n3_ := Aside0.mk (hb); have n4_ := Aside0.mk (hi); clear BK101; clear HK; clear HB; clear HI0; have BK101 := n0_; have HO106 := n1_; have HK := n2_; have HB := n3_; have HI0 := n4_; clear n0_ n1_ n2_ n3_ n4_; (try clear hb); (try clear hb2); (try clear hk); (try clear hi); (try clear ho0); obtain ⟨Ao15, co15, eo15⟩ := Kd.R_slice HO106.out; subst eo15) | ((with_reducible refine gate_dst (N := 7) rfl ?_); refine box_event ?hg (N := 7) ?hd (cs := #[.int .i64 0, .slice none 0 0]) (t := 36) ?hr ?_; (case hd => rfl); (case hg => rfl); (case hr => first | (go_simp; done) | (go_simp; rfl)); intro gb108 hg w16 hbox hb; have n0_ := Aside0.mk (Kd.R_below (by (with_reducible repeat (first | apply Kd.R_alloc | apply Kd.R_drewN | apply Kd.R_drew)); exact HO106.out) hb); have n1_ := Aside0.mk (IsS113.below (by repeat (first | (with_reducible first | exact HI0.out | apply IsS113.alloc | apply IsS113.drewN | apply IsS113.drew | apply IsS113.set_1 | refine IsS113.far ?_ NB0_101.out _) | exact HI0.out)) hb); have n2_ := Aside0.mk (blk_below (g := gb101) (o := .cells #[.int .i64 0, .slice none 0 0] 36 (0, 0)) (by (with_reducible repeat (first | refine blk_drewN ?_ _ | refine blk_drew ?_ | refine blk_alloc ?_ _)); exact BK101.out) hb); have n3_ := Aside0.mk (KeepBut.trans (by repeat (first | (with_reducible first | exact HK.out | apply KeepBut.set_ | apply keep_drewN | apply keep_drew | apply keep_alloc | refine keep_far ?_ GW101.out _) | exact HK.out)) (KeepBut.of_below hb g none) (.inl rfl)); have n4_ := Aside0.mk (below_step (by repeat (first | (with_reducible first | exact HB.out | apply below_alloc | apply pw_below_drewN | apply below_drew1 | refine below_set ?_ (IsS113.ge HI0.out) | refine below_set ?_ GE101.out) | exact HB.out)) hb); have n5_ := Aside0.mk (hbox); have n6_ := Aside0.mk ((by rw [hg]; exact (keep_size (w := w) (g := g) (row := none) (by repeat (first | (with_reducible first | exact HK.out | apply KeepBut.set_ | apply keep_drewN | apply keep_drew | apply keep_alloc | refine keep_far ?_ GW101.out _) | exact HK.out))) : w.heap.size ≤ gb108)); have n7_ := Aside0.mk ((Nat.le_trans HW0.out (by rw [hg]; exact (keep_size (w := w) (g := g) (row := none) (by repeat (first | (with_reducible first | exact HK.out | apply KeepBut.set_ | apply keep_drewN | apply keep_drew | apply keep_alloc | refine keep_far ?_ GW101.out _) | exact HK.out))) : w.heap.size ≤ gb108) : w0.heap.size ≤ gb108)); have n8_ := Aside0.mk ((by rw [hg]; exact Nat.ne_of_lt (blk_lt (g := gb101) (o := .cells #[.int .i64 0, .slice none 0 0] 36 (0, 0)) (by (with_reducible repeat (first | refine blk_drewN ?_ _ | refine blk_drew ?_ | refine blk_alloc ?_ _)); exact BK101.out)) : gb101 ≠ gb108)); have n9_ := Aside0.mk ((by rw [hg]; exact Nat.ne_of_gt (blk_lt (g := gb101) (o := .cells #[.int .i64 0, .slice none 0 0] 36 (0, 0)) (by (with_reducible repeat (first | refine blk_drewN ?_ _ | refine blk_drew ?_ | refine blk_alloc ?_ _)); exact BK101.out)) : gb108 ≠ gb101)); have n10_ := Aside0.mk ((by rw [hg]; exact Nat.ne_of_lt (IsS113.lt (show IsS113 w0 _ g s0_0 t107 from by repeat (first | (with_reducible first | exact HI0.out | apply IsS113.alloc | apply IsS113.drewN | apply IsS113.drew | apply IsS113.set_1 | refine IsS113.far ?_ NB0_101.out _) | exact HI0.out))) : g ≠ gb108)); have n11_ := Aside0.mk ((by rw [hg]; exact Nat.ne_of_gt (IsS113.lt (show IsS113 w0 _ g s0_0 t107 from by repeat (first | (with_reducible first | exact HI0.out | apply IsS113.alloc | apply IsS113.drewN | apply IsS113.drew | apply IsS113.set_1 | refine IsS113.far ?_ NB0_101.out _) | exact HI0.out))) : gb108 ≠ g)); clear HO106; clear HI0; clear BK101; clear HK; clear HB; have HO106 := n0_; have HI0 := n1_; have BK101 := n2_; have HK := n3_; have HB := n4_; have BK108 := n5_; have GW108 := n6_; have GE108 := n7_; have NB101_108 := n8_; have NB108_101 := n9_; have NB0_108 := n10_; have NB108_0 := n11_; clear n0_ n1_ n2_ n3_ n4_ n5_ n6_ n7_ n8_ n9_ n10_ n11_; clear hb hbox hg; have hnb17 := NB108_101.out; have hnc17 := NB101_108.out; have hnb18 := NB108_0.out; have hnc18 := NB0_108.out; have hcz19_0 : w16.cell? ⟨gb108, 0, none⟩ = some (.int .i64 0) := (blk_cell BK108.out 0).trans rfl; have hcz19_1 : w16.cell? ⟨gb108, 1, none⟩ = some (.slice none 0 0) := (blk_cell BK108.out 1).trans rfl; have hfz19_0 := blk_frozen BK108.out 0; have hfz19_1 := blk_frozen BK108.out 1) | ((with_reducible refine gate_callee (f := 139) rfl ?_); refine goesL_ (some 20) rfl rfl Try.func139 (by kernel_rfl) rfl #[.pointer (some ⟨g, 0, none⟩), .int .i64 a2] rfl (by (try simp only [List.map_toArray, List.map_cons, List.map_nil]); first | done | rfl | (simp only [List.length_drop, List.length_take]; rfl)) ?_; (with_reducible refine (spec_l20Rd_odd.calls k g s0_0 t107 a2 true t110 w0 _ ?side1 ?side2 A7.out).mono ?_); (case side1 => repeat (first | (with_reducible first | exact HI0.out | apply IsS113.alloc | apply IsS113.drewN | apply IsS113.drew | apply IsS113.set_1 | refine IsS113.far ?_ NB0_101.out _ | refine IsS113.far ?_ NB0_108.out _) | exact HI0.out)); (case side2 => repeat (first | (with_reducible first | exact HB.out | apply below_alloc | apply pw_below_drewN | apply below_drew1 | refine below_set ?_ (IsS113.ge HI0.out) | refine below_set ?_ GE101.out | refine below_set ?_ GE108.out) | exact HB.out)); rintro e w20 ⟨rfl, hi, hb, hk⟩; refine ⟨_, rfl, ?_⟩; have n0_ := Aside0.mk (KeepBut.blk hk (g' := gb101) (o := .cells #[.int .i64 0, .slice none 0 0] 36 (0, 0)) (by (with_reducible repeat (first | refine blk_drewN ?_ _ | refine blk_drew ?_ | refine blk_alloc ?_ _)); refine blk_far ?_ NB101_108.out _; (with_reducible repeat (first | refine blk_drewN ?_ _ | refine blk_drew ?_ | refine blk_alloc ?_ _)); refine blk_far ?_ NB101_108.out _; (with_reducible repeat (first | refine blk_drewN ?_ _ | refine blk_drew ?_ | refine blk_alloc ?_ _)); exact BK101.out) NB101_0.out (by simp)); have n1_ := Aside0.mk (Kd.R_mono (Kd.R_keep (IsS113.apart (show IsS113 w0 _ g s0_0 t107 from by repeat (first | (with_reducible first | exact HI0.out | apply IsS113.alloc | apply IsS113.drewN | apply IsS113.drew | apply IsS113.set_1 | refine IsS113.far ?_ NB0_101.out _ | refine IsS113.far ?_ NB0_108.out _) | exact HI0.out)) (by (with_reducible repeat (first | apply Kd.R_alloc | apply Kd.R_drewN | apply Kd.R_drew)); exact (Kd.R_mono (Kd.R_far (p := ⟨gb108, 1, none⟩) (Kd.R_far (p := ⟨gb108, 0, none⟩) (Kd.R_types HO106.out BK108.out (by decide)) (fun _ hk => hk.2) (.int .i64 t102)) (fun _ hk => hk.2) (.slice Ao15 t104.length co15)) (fun _ h_ => h_.1))) (by decide)) hk (fun _ h => h.2)) (fun _ h => h.1)); have n2_ := Aside0.mk (KeepBut.blk hk (g' := gb108) (o := .cells #[.int .i64 t102, .slice Ao15 t104.length co15] 36 (0, 0)) (by (with_reducible repeat (first | refine blk_drewN ?_ _ | refine blk_drew ?_ | refine blk_alloc ?_ _)); refine blk_put (cs := #[.int .i64 t102, .slice none 0 0]) ?_ 1 _ rfl; (with_reducible repeat (first | refine blk_drewN ?_ _ | refine blk_drew ?_ | refine blk_alloc ?_ _)); refine blk_put (cs := #[.int .i64 0, .slice none 0 0]) ?_ 0 _ rfl; (with_reducible repeat (first | refine blk_drewN ?_ _ | refine blk_drew ?_ | refine blk_alloc ?_ _)); exact BK108.out) NB108_0.out (by simp)); have n3_ := Aside0.mk (KeepBut.trans (by repeat (first | (with_reducible first | exact HK.out | apply KeepBut.set_ | apply keep_drewN | apply keep_drew | apply keep_alloc | refine keep_far ?_ GW101.out _ | refine keep_far ?_ GW108.out _) | exact HK.out)) hk (.inl rfl)); have n4_ := Aside0.mk (hb); have n5_ := Aside0.mk (hi); clear BK101; clear HO106; clear BK108; clear HK; clear HB; clear HI0; have BK101 := n0_; have HO106 := n1_; have BK108 := n2_; have HK := n3_; have HB := n4_; have HI0 := n5_; clear n0_ n1_ n2_ n3_ n4_ n5_; (try clear hb); (try clear hb2); (try clear hk); (try clear hi)) | ((with_reducible refine gate_dst (N := 21) rfl ?_); refine Kd.R_lit (Kd.int .i64) _ 3 ?hg (N := 21) ?hd (xs := ([(-1), 4] : List Int)) (inner := [.int .i64 (-1), .int .i64 4]) (ok := fun _ => True) (okp := fun _ => True) ?hr ?hp (fun _ hk => hk) trivial (Below.refl _ _) (Nat.le_refl _) (by simp) ?_; (case hd => rfl); (case hg => rfl); (case hr => first | (go_simp; done) | (go_simp; rfl)); (case hp => exact (Reps.one (show Kd.M (Kd.int .i64) _ _ _ (-1) [.int .i64 (-1)] from rfl) (Reps.one (show Kd.M (Kd.int .i64) _ _ _ 4 [.int .i64 4] from rfl) (Reps.none _ _)))); intro v112 w21 ho22 hb hg_ hnew_; clear hg_ hnew_; (first | rw [← Ny111.out] at ho22 | (simp only [Int.reduceToNat] at ho22; rw [← Ny111.out] at ho22)); have n0_ := Aside0.mk (Kd.R_below (by (with_reducible repeat (first | apply Kd.R_alloc | apply Kd.R_drewN | apply Kd.R_drew)); exact HO106.out) hb); have n1_ := Aside0.mk (Kd.R_lower ho22 (keep_size (w := w) (g := g) (row := none) (by repeat (first | (with_reducible first | exact HK.out | apply KeepBut.set_ | apply keep_drewN | apply keep_drew | apply keep_alloc | refine keep_far ?_ GW101.out _ | refine keep_far ?_ GW108.out _) | exact HK.out)))); have n2_ := Aside0.mk (IsS113.below (by repeat (first | (with_reducible first | exact HI0.out | apply IsS113.alloc | apply IsS113.drewN | apply IsS113.drew | apply IsS113.set_1 | refine IsS113.far ?_ NB0_101.out _ | refine IsS113.far ?_ NB0_108.out _) | exact HI0.out)) hb); have n3_ := Aside0.mk (blk_below (g := gb101) (o := .cells #[.int .i64 0, .slice none 0 0] 36 (0, 0)) (by (with_reducible repeat (first | refine blk_drewN ?_ _ | refine blk_drew ?_ | refine blk_alloc ?_ _)); exact BK101.out) hb); have n4_ := Aside0.mk (blk_below (g := gb108) (o := .cells #[.int .i64 t102, .slice Ao15 t104.length co15] 36 (0, 0)) (by (with_reducible repeat (first | refine blk_drewN ?_ _ | refine blk_drew ?_ | refine blk_alloc ?_ _)); exact BK108.out) hb); have n5_ := Aside0.mk (KeepBut.trans (by repeat (first | (with_reducible first | exact HK.out | apply KeepBut.set_ | apply keep_drewN | apply keep_drew | apply keep_alloc | refine keep_far ?_ GW101.out _ | refine keep_far ?_ GW108.out _) | exact HK.out)) (KeepBut.of_below hb g none) (.inl rfl)); have n6_ := Aside0.mk (below_step (by repeat (first | (with_reducible first | exact HB.out | apply below_alloc | apply pw_below_drewN | apply below_drew1 | refine below_set ?_ (IsS113.ge HI0.out) | refine below_set ?_ GE101.out | refine below_set ?_ GE108.out) | exact HB.out)) hb); clear HO106; clear HI0; clear BK101; clear BK108; clear HK; clear HB; have HO106 := n0_; have HO113 := n1_; have HI0 := n2_; have BK101 := n3_; have BK108 := n4_; have HK := n5_; have HB := n6_; clear n0_ n1_ n2_ n3_ n4_ n5_ n6_; clear hb ho22) | ((with_reducible refine gate_callee (f := 108) rfl ?_); refine goesL_ (some 23) rfl rfl Try.func108 (by kernel_rfl) rfl #[.pointer (some ⟨g, 0, none⟩), .int .i64 2] rfl (by (try simp only [List.map_toArray, List.map_cons, List.map_nil]); first | done | rfl | (simp only [List.length_drop, List.length_take]; rfl)) ?_; (with_reducible refine (spec_l20Rd_pick.calls k g s0_0 t110 2 t114 t115 w0 _ ?side1 ?side2 A9.out).mono ?_); (case side1 => repeat (first | (with_reducible first | exact HI0.out | apply IsS113.alloc | apply IsS113.drewN | apply IsS113.drew | apply IsS113.set_1 | refine IsS113.far ?_ NB0_101.out _ | refine IsS113.far ?_ NB0_108.out _) | exact HI0.out)); (case side2 => repeat (first | (with_reducible first | exact HB.out | apply below_alloc | apply pw_below_drewN | apply below_drew1 | refine below_set ?_ (IsS113.ge HI0.out) | refine below_set ?_ GE101.out | refine below_set ?_ GE108.out) | exact HB.out)); rintro e w23 ⟨rfl, hi, hb, hk⟩; refine ⟨_, rfl, ?_⟩; have n0_ := Aside0.mk (KeepBut.blk hk (g' := gb101) (o := .cells #[.int .i64 0, .slice none 0 0] 36 (0, 0)) (by (with_reducible repeat (first | refine blk_drewN ?_ _ | refine blk_drew ?_ | refine blk_alloc ?_ _)); exact BK101.out) NB101_0.out (by simp)); have n1_ := Aside0.mk (Kd.R_mono (Kd.R_keep (IsS113.apart (show IsS113 w0 _ g s0_0 t110 from by repeat (first | (with_reducible first | exact HI0.out | apply IsS113.alloc | apply IsS113.drewN | apply IsS113.drew | apply IsS113.set_1 | refine IsS113.far ?_ NB0_101.out _ | refine IsS113.far ?_ NB0_108.out _) | exact HI0.out)) (by (with_reducible repeat (first | apply Kd.R_alloc | apply Kd.R_drewN | apply Kd.R_drew)); exact HO106.out) (by decide)) hk (fun _ h => h.2)) (fun _ h => h.1)); have n2_ := Aside0.mk (KeepBut.blk hk (g' := gb108) (o := .cells #[.int .i64 t102, .slice Ao15 t104.length co15] 36 (0, 0)) (by (with_reducible repeat (first | refine blk_drewN ?_ _ | refine blk_drew ?_ | refine blk_alloc ?_ _)); exact BK108.out) NB108_0.out (by simp)); have n3_ := Aside0.mk (Kd.R_mono (Kd.R_keep (IsS113.apart (show IsS113 w0 _ g s0_0 t110 from by repeat (first | (with_reducible first | exact HI0.out | apply IsS113.alloc | apply IsS113.drewN | apply IsS113.drew | apply IsS113.set_1 | refine IsS113.far ?_ NB0_101.out _ | refine IsS113.far ?_ NB0_108.out _) | exact HI0.out)) (by (with_reducible repeat (first | apply Kd.R_alloc | apply Kd.R_drewN | apply Kd.R_drew)); exact HO113.out) (by decide)) hk (fun _ h => h.2)) (fun _ h => h.1)); have n4_ := Aside0.mk (KeepBut.trans (by repeat (first | (with_reducible first | exact HK.out | apply KeepBut.set_ | apply keep_drewN | apply keep_drew | apply keep_alloc | refine keep_far ?_ GW101.out _ | refine keep_far ?_ GW108.out _) | exact HK.out)) hk (.inl rfl)); have n5_ := Aside0.mk (hb); have n6_ := Aside0.mk (hi); clear BK101; clear HO106; clear BK108; clear HO113; clear HK; clear HB; clear HI0; have BK101 := n0_; have HO106 := n1_; have BK108 := n2_; have HO113 := n3_; have HK := n4_; have HB := n5_; have HI0 := n6_; clear n0_ n1_ n2_ n3_ n4_ n5_ n6_; (try clear hb); (try clear hb2); (try clear hk); (try clear hi); obtain ⟨Ao24, co24, eo24⟩ := Kd.R_slice HO113.out; subst eo24; have p116 : 0 ≤ (t114 : Int) := of_decide_eq_true (by first | (with_reducible assumption) | assumption); have q116 : t114 < (y111.length : Int) := of_decide_eq_true (by first | (with_reducible assumption) | assumption); obtain ⟨ad116, e116, hx116_0⟩ := Kd.at_int (Kd.R_reads' HO113.out).2.2 t114 p116 q116; cases e116; replace p116 := eq_true p116; replace q116 := eq_true q116; have hcz25_0 : w23.cell? ⟨gb108, 0, none⟩ = some (.int .i64 t102) := (blk_cell BK108.out 0).trans rfl; have hcz25_1 : w23.cell? ⟨gb108, 1, none⟩ = some (.slice Ao15 t104.length co15) := (blk_cell BK108.out 1).trans rfl; have hfz25_0 := blk_frozen BK108.out 0; have hfz25_1 := blk_frozen BK108.out 1; have hnb26 := NB101_0.out; have hnc26 := NB0_101.out; have hcz27_0 : w23.cell? ⟨gb101, 0, none⟩ = some (.int .i64 0) := (blk_cell BK101.out 0).trans rfl; have hcz27_1 : w23.cell? ⟨gb101, 1, none⟩ = some (.slice none 0 0) := (blk_cell BK101.out 1).trans rfl; have hfz27_0 := blk_frozen BK101.out 0; have hfz27_1 := blk_frozen BK101.out 1))
    refine bodyPost_ret (results_cell_row rfl _ _ gb101 36 #[.int .i64 (rd y111 t114), .slice Ao15 t104.length co15] (0, 0) _ rfl (by (with_reducible repeat (first | refine blk_drewN ?_ _ | refine blk_drew ?_ | refine blk_alloc ?_ _)); refine blk_put (cs := #[.int .i64 (rd y111 t114), .slice none 0 0]) ?_ 1 _ rfl; (with_reducible repeat (first | refine blk_drewN ?_ _ | refine blk_drew ?_ | refine blk_alloc ?_ _)); refine blk_put (cs := #[.int .i64 0, .slice none 0 0]) ?_ 0 _ rfl; (with_reducible repeat (first | refine blk_drewN ?_ _ | refine blk_drew ?_ | refine blk_alloc ?_ _)); refine blk_far ?_ NB101_108.out _; (with_reducible repeat (first | refine blk_drewN ?_ _ | refine blk_drew ?_ | refine blk_alloc ?_ _)); exact BK101.out) Try.underlying36 rfl (by kernel_rfl)) rfl ?_
    exact ⟨_, by first | rfl | (simp [errW_none, errW_some] <;> rfl) | (simp only [← hji4]; first | rfl | (simp [errW_none, errW_some] <;> rfl)) | (simp [*, errW_none, errW_some] <;> rfl), by (with_reducible repeat (first | apply Kd.R_alloc | apply Kd.R_drewN | apply Kd.R_drew)); exact Kd.R_mono (Kd.R_far (p := ⟨gb101, 1, none⟩) (Kd.R_far (p := ⟨gb101, 0, none⟩) (Kd.R_far (p := ⟨gb108, 0, none⟩) (Kd.R_types (Kd.R_types HO106.out BK108.out (by decide)) BK101.out (by decide)) (fun _ hk => hk.1.2) (.int .i64 (rd y111 t114))) (fun _ hk => hk.2) (.int .i64 (rd y111 t114))) (fun _ hk => hk.2) (.slice Ao15 t104.length co15)) (fun _ hk => trivial), by repeat (first | (with_reducible first | exact HI0.out | apply IsS113.alloc | apply IsS113.drewN | apply IsS113.drew | apply IsS113.set_1 | refine IsS113.far ?_ NB0_101.out _ | refine IsS113.far ?_ NB0_108.out _) | exact HI0.out), by repeat (first | (with_reducible first | exact HB.out | apply below_alloc | apply pw_below_drewN | apply below_drew1 | refine below_set ?_ (IsS113.ge HI0.out) | refine below_set ?_ GE101.out | refine below_set ?_ GE108.out) | exact HB.out), by repeat (first | (with_reducible first | exact HK.out | apply KeepBut.set_ | apply keep_drewN | apply keep_drew | apply keep_alloc | refine keep_far ?_ GW101.out _ | refine keep_far ?_ GW108.out _) | exact HK.out)⟩
   ·rw [if_neg c11] at H
    exact absurd H (by simp)
  ·rw [if_neg c10] at H
   exact absurd H (by simp)
 ·replace c8 := Bool.eq_false_iff.mpr c8
  subst c8
  have H1 : (some (t102, t104, t110)) = some (r1, r2, r3) := by rw [if_neg (show ¬ (false = true) by decide)] at H; exact H
  clear H
  have H := H1
  clear H1
  simp only [Option.some.injEq, Prod.mk.injEq] at H
  obtain ⟨rfl, rfl, rfl⟩ := H
  go_enter Try.func138, Try.ntmps138
  go_wp2_with (first | ((with_reducible refine gate_dst (N := 6) rfl ?_); refine box_event ?hg (N := 6) ?hd (cs := #[.int .i64 0, .slice none 0 0]) (t := 36) ?hr ?_; (case hd => rfl); (case hg => rfl); (case hr => first | (go_simp; done) | (go_simp; rfl)); intro gb101 hg w28 hbox hb; have n0_ := Aside0.mk (IsS113.below (by repeat (first | (with_reducible first | exact HI0.out | apply IsS113.alloc | apply IsS113.drewN | apply IsS113.drew | apply IsS113.set_1) | exact HI0.out)) hb); have n1_ := Aside0.mk (KeepBut.trans (by repeat (first | (with_reducible first | exact HK.out | apply KeepBut.set_ | apply keep_drewN | apply keep_drew | apply keep_alloc) | exact HK.out)) (KeepBut.of_below hb g none) (.inl rfl)); have n2_ := Aside0.mk (below_step (by repeat (first | (with_reducible first | exact HB.out | apply below_alloc | apply pw_below_drewN | apply below_drew1 | refine below_set ?_ (IsS113.ge HI0.out)) | exact HB.out)) hb); have n3_ := Aside0.mk (hbox); have n4_ := Aside0.mk ((by rw [hg]; exact (keep_size (w := w) (g := g) (row := none) (by repeat (first | (with_reducible first | exact HK.out | apply KeepBut.set_ | apply keep_drewN | apply keep_drew | apply keep_alloc) | exact HK.out))) : w.heap.size ≤ gb101)); have n5_ := Aside0.mk ((Nat.le_trans HW0.out (by rw [hg]; exact (keep_size (w := w) (g := g) (row := none) (by repeat (first | (with_reducible first | exact HK.out | apply KeepBut.set_ | apply keep_drewN | apply keep_drew | apply keep_alloc) | exact HK.out))) : w.heap.size ≤ gb101) : w0.heap.size ≤ gb101)); have n6_ := Aside0.mk ((by rw [hg]; exact Nat.ne_of_lt (IsS113.lt (show IsS113 w0 _ g s0_0 s0_1 from by repeat (first | (with_reducible first | exact HI0.out | apply IsS113.alloc | apply IsS113.drewN | apply IsS113.drew | apply IsS113.set_1) | exact HI0.out))) : g ≠ gb101)); have n7_ := Aside0.mk ((by rw [hg]; exact Nat.ne_of_gt (IsS113.lt (show IsS113 w0 _ g s0_0 s0_1 from by repeat (first | (with_reducible first | exact HI0.out | apply IsS113.alloc | apply IsS113.drewN | apply IsS113.drew | apply IsS113.set_1) | exact HI0.out))) : gb101 ≠ g)); clear HI0; clear HK; clear HB; have HI0 := n0_; have HK := n1_; have HB := n2_; have BK101 := n3_; have GW101 := n4_; have GE101 := n5_; have NB0_101 := n6_; have NB101_0 := n7_; clear n0_ n1_ n2_ n3_ n4_ n5_ n6_ n7_; clear hb hbox hg) | ((with_reducible refine gate_callee (f := 108) rfl ?_); refine goesL_ (some 11) rfl rfl Try.func108 (by kernel_rfl) rfl #[.pointer (some ⟨g, 0, none⟩), .int .i64 ji4] rfl (by (try simp only [List.map_toArray, List.map_cons, List.map_nil]); first | done | (simp only [hji4]; rfl) | rfl | (simp only [List.length_drop, List.length_take]; rfl)) ?_; (with_reducible refine (spec_l20Rd_pick.calls k g s0_0 s0_1 ji4 t102 t103 w0 _ ?side1 ?side2 A5.out).mono ?_); (case side1 => repeat (first | (with_reducible first | exact HI0.out | apply IsS113.alloc | apply IsS113.drewN | apply IsS113.drew | apply IsS113.set_1 | refine IsS113.far ?_ NB0_101.out _) | exact HI0.out)); (case side2 => repeat (first | (with_reducible first | exact HB.out | apply below_alloc | apply pw_below_drewN | apply below_drew1 | refine below_set ?_ (IsS113.ge HI0.out) | refine below_set ?_ GE101.out) | exact HB.out)); rintro e w29 ⟨rfl, hi, hb, hk⟩; refine ⟨_, rfl, ?_⟩; have n0_ := Aside0.mk (KeepBut.blk hk (g' := gb101) (o := .cells #[.int .i64 0, .slice none 0 0] 36 (0, 0)) (by (with_reducible repeat (first | refine blk_drewN ?_ _ | refine blk_drew ?_ | refine blk_alloc ?_ _)); exact BK101.out) NB101_0.out (by simp)); have n1_ := Aside0.mk (KeepBut.trans (by repeat (first | (with_reducible first | exact HK.out | apply KeepBut.set_ | apply keep_drewN | apply keep_drew | apply keep_alloc | refine keep_far ?_ GW101.out _) | exact HK.out)) hk (.inl rfl)); have n2_ := Aside0.mk (hb); have n3_ := Aside0.mk (hi); clear BK101; clear HK; clear HB; clear HI0; have BK101 := n0_; have HK := n1_; have HB := n2_; have HI0 := n3_; clear n0_ n1_ n2_ n3_; (try clear hb); (try clear hb2); (try clear hk); (try clear hi)) | ((with_reducible refine gate_callee (f := 128) rfl ?_); refine goesL_ (some 16) rfl rfl Try.func128 (by kernel_rfl) rfl #[.pointer (some ⟨g, 0, none⟩), .int .i64 a1, .int .i64 (wrap64 (a2 * 2))] rfl (by (try simp only [List.map_toArray, List.map_cons, List.map_nil]); first | done | rfl | (simp only [List.length_drop, List.length_take]; rfl)) ?_; (with_reducible refine (spec_l20Term.calls k g s0_0 t103 a1 (wrap64 (a2 * 2)) t104 t107 w0 _ ?side1 ?side2 A6.out).mono ?_); (case side1 => repeat (first | (with_reducible first | exact HI0.out | apply IsS113.alloc | apply IsS113.drewN | apply IsS113.drew | apply IsS113.set_1 | refine IsS113.far ?_ NB0_101.out _) | exact HI0.out)); (case side2 => repeat (first | (with_reducible first | exact HB.out | apply below_alloc | apply pw_below_drewN | apply below_drew1 | refine below_set ?_ (IsS113.ge HI0.out) | refine below_set ?_ GE101.out) | exact HB.out)); rintro e w30 ⟨v105, rfl, ho0, hi, hb, hk⟩; refine ⟨_, rfl, ?_⟩; have n0_ := Aside0.mk (KeepBut.blk hk (g' := gb101) (o := .cells #[.int .i64 0, .slice none 0 0] 36 (0, 0)) (by (with_reducible repeat (first | refine blk_drewN ?_ _ | refine blk_drew ?_ | refine blk_alloc ?_ _)); exact BK101.out) NB101_0.out (by simp)); have n1_ := Aside0.mk (Kd.R_lower ho0 (keep_size (w := w) (g := g) (row := none) (by repeat (first | (with_reducible first | exact HK.out | apply KeepBut.set_ | apply keep_drewN | apply keep_drew | apply keep_alloc | refine keep_far ?_ GW101.out _) | exact HK.out)))); have n2_ := Aside0.mk (KeepBut.trans (by repeat (first | (with_reducible first | exact HK.out | apply KeepBut.set_ | apply keep_drewN | apply keep_drew | apply keep_alloc | refine keep_far ?_ GW101.out _) | exact HK.out)) hk (.inl rfl)); have n3_ := Aside0.mk (hb); have n4_ := Aside0.mk (hi); clear BK101; clear HK; clear HB; clear HI0; have BK101 := n0_; have HO106 := n1_; have HK := n2_; have HB := n3_; have HI0 := n4_; clear n0_ n1_ n2_ n3_ n4_; (try clear hb); (try clear hb2); (try clear hk); (try clear hi); (try clear ho0); obtain ⟨Ao31, co31, eo31⟩ := Kd.R_slice HO106.out; subst eo31) | ((with_reducible refine gate_dst (N := 7) rfl ?_); refine box_event ?hg (N := 7) ?hd (cs := #[.int .i64 0, .slice none 0 0]) (t := 36) ?hr ?_; (case hd => rfl); (case hg => rfl); (case hr => first | (go_simp; done) | (go_simp; rfl)); intro gb108 hg w32 hbox hb; have n0_ := Aside0.mk (Kd.R_below (by (with_reducible repeat (first | apply Kd.R_alloc | apply Kd.R_drewN | apply Kd.R_drew)); exact HO106.out) hb); have n1_ := Aside0.mk (IsS113.below (by repeat (first | (with_reducible first | exact HI0.out | apply IsS113.alloc | apply IsS113.drewN | apply IsS113.drew | apply IsS113.set_1 | refine IsS113.far ?_ NB0_101.out _) | exact HI0.out)) hb); have n2_ := Aside0.mk (blk_below (g := gb101) (o := .cells #[.int .i64 0, .slice none 0 0] 36 (0, 0)) (by (with_reducible repeat (first | refine blk_drewN ?_ _ | refine blk_drew ?_ | refine blk_alloc ?_ _)); exact BK101.out) hb); have n3_ := Aside0.mk (KeepBut.trans (by repeat (first | (with_reducible first | exact HK.out | apply KeepBut.set_ | apply keep_drewN | apply keep_drew | apply keep_alloc | refine keep_far ?_ GW101.out _) | exact HK.out)) (KeepBut.of_below hb g none) (.inl rfl)); have n4_ := Aside0.mk (below_step (by repeat (first | (with_reducible first | exact HB.out | apply below_alloc | apply pw_below_drewN | apply below_drew1 | refine below_set ?_ (IsS113.ge HI0.out) | refine below_set ?_ GE101.out) | exact HB.out)) hb); have n5_ := Aside0.mk (hbox); have n6_ := Aside0.mk ((by rw [hg]; exact (keep_size (w := w) (g := g) (row := none) (by repeat (first | (with_reducible first | exact HK.out | apply KeepBut.set_ | apply keep_drewN | apply keep_drew | apply keep_alloc | refine keep_far ?_ GW101.out _) | exact HK.out))) : w.heap.size ≤ gb108)); have n7_ := Aside0.mk ((Nat.le_trans HW0.out (by rw [hg]; exact (keep_size (w := w) (g := g) (row := none) (by repeat (first | (with_reducible first | exact HK.out | apply KeepBut.set_ | apply keep_drewN | apply keep_drew | apply keep_alloc | refine keep_far ?_ GW101.out _) | exact HK.out))) : w.heap.size ≤ gb108) : w0.heap.size ≤ gb108)); have n8_ := Aside0.mk ((by rw [hg]; exact Nat.ne_of_lt (blk_lt (g := gb101) (o := .cells #[.int .i64 0, .slice none 0 0] 36 (0, 0)) (by (with_reducible repeat (first | refine blk_drewN ?_ _ | refine blk_drew ?_ | refine blk_alloc ?_ _)); exact BK101.out)) : gb101 ≠ gb108)); have n9_ := Aside0.mk ((by rw [hg]; exact Nat.ne_of_gt (blk_lt (g := gb101) (o := .cells #[.int .i64 0, .slice none 0 0] 36 (0, 0)) (by (with_reducible repeat (first | refine blk_drewN ?_ _ | refine blk_drew ?_ | refine blk_alloc ?_ _)); exact BK101.out)) : gb108 ≠ gb101)); have n10_ := Aside0.mk ((by rw [hg]; exact Nat.ne_of_lt (IsS113.lt (show IsS113 w0 _ g s0_0 t107 from by repeat (first | (with_reducible first | exact HI0.out | apply IsS113.alloc | apply IsS113.drewN | apply IsS113.drew | apply IsS113.set_1 | refine IsS113.far ?_ NB0_101.out _) | exact HI0.out))) : g ≠ gb108)); have n11_ := Aside0.mk ((by rw [hg]; exact Nat.ne_of_gt (IsS113.lt (show IsS113 w0 _ g s0_0 t107 from by repeat (first | (with_reducible first | exact HI0.out | apply IsS113.alloc | apply IsS113.drewN | apply IsS113.drew | apply IsS113.set_1 | refine IsS113.far ?_ NB0_101.out _) | exact HI0.out))) : gb108 ≠ g)); clear HO106; clear HI0; clear BK101; clear HK; clear HB; have HO106 := n0_; have HI0 := n1_; have BK101 := n2_; have HK := n3_; have HB := n4_; have BK108 := n5_; have GW108 := n6_; have GE108 := n7_; have NB101_108 := n8_; have NB108_101 := n9_; have NB0_108 := n10_; have NB108_0 := n11_; clear n0_ n1_ n2_ n3_ n4_ n5_ n6_ n7_ n8_ n9_ n10_ n11_; clear hb hbox hg; have hnb33 := NB108_101.out; have hnc33 := NB101_108.out; have hnb34 := NB108_0.out; have hnc34 := NB0_108.out; have hcz35_0 : w32.cell? ⟨gb108, 0, none⟩ = some (.int .i64 0) := (blk_cell BK108.out 0).trans rfl; have hcz35_1 : w32.cell? ⟨gb108, 1, none⟩ = some (.slice none 0 0) := (blk_cell BK108.out 1).trans rfl; have hfz35_0 := blk_frozen BK108.out 0; have hfz35_1 := blk_frozen BK108.out 1) | ((with_reducible refine gate_callee (f := 139) rfl ?_); refine goesL_ (some 20) rfl rfl Try.func139 (by kernel_rfl) rfl #[.pointer (some ⟨g, 0, none⟩), .int .i64 a2] rfl (by (try simp only [List.map_toArray, List.map_cons, List.map_nil]); first | done | rfl | (simp only [List.length_drop, List.length_take]; rfl)) ?_; (with_reducible refine (spec_l20Rd_odd.calls k g s0_0 t107 a2 false t110 w0 _ ?side1 ?side2 A7.out).mono ?_); (case side1 => repeat (first | (with_reducible first | exact HI0.out | apply IsS113.alloc | apply IsS113.drewN | apply IsS113.drew | apply IsS113.set_1 | refine IsS113.far ?_ NB0_101.out _ | refine IsS113.far ?_ NB0_108.out _) | exact HI0.out)); (case side2 => repeat (first | (with_reducible first | exact HB.out | apply below_alloc | apply pw_below_drewN | apply below_drew1 | refine below_set ?_ (IsS113.ge HI0.out) | refine below_set ?_ GE101.out | refine below_set ?_ GE108.out) | exact HB.out)); rintro e w36 ⟨rfl, hi, hb, hk⟩; refine ⟨_, rfl, ?_⟩; have n0_ := Aside0.mk (KeepBut.blk hk (g' := gb101) (o := .cells #[.int .i64 0, .slice none 0 0] 36 (0, 0)) (by (with_reducible repeat (first | refine blk_drewN ?_ _ | refine blk_drew ?_ | refine blk_alloc ?_ _)); refine blk_far ?_ NB101_108.out _; (with_reducible repeat (first | refine blk_drewN ?_ _ | refine blk_drew ?_ | refine blk_alloc ?_ _)); refine blk_far ?_ NB101_108.out _; (with_reducible repeat (first | refine blk_drewN ?_ _ | refine blk_drew ?_ | refine blk_alloc ?_ _)); exact BK101.out) NB101_0.out (by simp)); have n1_ := Aside0.mk (Kd.R_mono (Kd.R_keep (IsS113.apart (show IsS113 w0 _ g s0_0 t107 from by repeat (first | (with_reducible first | exact HI0.out | apply IsS113.alloc | apply IsS113.drewN | apply IsS113.drew | apply IsS113.set_1 | refine IsS113.far ?_ NB0_101.out _ | refine IsS113.far ?_ NB0_108.out _) | exact HI0.out)) (by (with_reducible repeat (first | apply Kd.R_alloc | apply Kd.R_drewN | apply Kd.R_drew)); exact (Kd.R_mono (Kd.R_far (p := ⟨gb108, 1, none⟩) (Kd.R_far (p := ⟨gb108, 0, none⟩) (Kd.R_types HO106.out BK108.out (by decide)) (fun _ hk => hk.2) (.int .i64 t102)) (fun _ hk => hk.2) (.slice Ao31 t104.length co31)) (fun _ h_ => h_.1))) (by decide)) hk (fun _ h => h.2)) (fun _ h => h.1)); have n2_ := Aside0.mk (KeepBut.blk hk (g' := gb108) (o := .cells #[.int .i64 t102, .slice Ao31 t104.length co31] 36 (0, 0)) (by (with_reducible repeat (first | refine blk_drewN ?_ _ | refine blk_drew ?_ | refine blk_alloc ?_ _)); refine blk_put (cs := #[.int .i64 t102, .slice none 0 0]) ?_ 1 _ rfl; (with_reducible repeat (first | refine blk_drewN ?_ _ | refine blk_drew ?_ | refine blk_alloc ?_ _)); refine blk_put (cs := #[.int .i64 0, .slice none 0 0]) ?_ 0 _ rfl; (with_reducible repeat (first | refine blk_drewN ?_ _ | refine blk_drew ?_ | refine blk_alloc ?_ _)); exact BK108.out) NB108_0.out (by simp)); have n3_ := Aside0.mk (KeepBut.trans (by repeat (first | (with_reducible first | exact HK.out | apply KeepBut.set_ | apply keep_drewN | apply keep_drew | apply keep_alloc | refine keep_far ?_ GW101.out _ | refine keep_far ?_ GW108.out _) | exact HK.out)) hk (.inl rfl)); have n4_ := Aside0.mk (hb); have n5_ := Aside0.mk (hi); clear BK101; clear HO106; clear BK108; clear HK; clear HB; clear HI0; have BK101 := n0_; have HO106 := n1_; have BK108 := n2_; have HK := n3_; have HB := n4_; have HI0 := n5_; clear n0_ n1_ n2_ n3_ n4_ n5_; (try clear hb); (try clear hb2); (try clear hk); (try clear hi); have hcz37_0 : w36.cell? ⟨gb108, 0, none⟩ = some (.int .i64 t102) := (blk_cell BK108.out 0).trans rfl; have hcz37_1 : w36.cell? ⟨gb108, 1, none⟩ = some (.slice Ao31 t104.length co31) := (blk_cell BK108.out 1).trans rfl; have hfz37_0 := blk_frozen BK108.out 0; have hfz37_1 := blk_frozen BK108.out 1; have hnb38 := NB101_0.out; have hnc38 := NB0_101.out; have hcz39_0 : w36.cell? ⟨gb101, 0, none⟩ = some (.int .i64 0) := (blk_cell BK101.out 0).trans rfl; have hcz39_1 : w36.cell? ⟨gb101, 1, none⟩ = some (.slice none 0 0) := (blk_cell BK101.out 1).trans rfl; have hfz39_0 := blk_frozen BK101.out 0; have hfz39_1 := blk_frozen BK101.out 1))
  refine bodyPost_ret (results_cell_row rfl _ _ gb101 36 #[.int .i64 t102, .slice Ao31 t104.length co31] (0, 0) _ rfl (by (with_reducible repeat (first | refine blk_drewN ?_ _ | refine blk_drew ?_ | refine blk_alloc ?_ _)); refine blk_put (cs := #[.int .i64 t102, .slice none 0 0]) ?_ 1 _ rfl; (with_reducible repeat (first | refine blk_drewN ?_ _ | refine blk_drew ?_ | refine blk_alloc ?_ _)); refine blk_put (cs := #[.int .i64 0, .slice none 0 0]) ?_ 0 _ rfl; (with_reducible repeat (first | refine blk_drewN ?_ _ | refine blk_drew ?_ | refine blk_alloc ?_ _)); exact BK101.out) Try.underlying36 rfl (by kernel_rfl)) rfl ?_
  exact ⟨_, by first | rfl | (simp [errW_none, errW_some] <;> rfl) | (simp only [← hji4]; first | rfl | (simp [errW_none, errW_some] <;> rfl)) | (simp [*, errW_none, errW_some] <;> rfl), by (with_reducible repeat (first | apply Kd.R_alloc | apply Kd.R_drewN | apply Kd.R_drew)); exact Kd.R_mono (Kd.R_far (p := ⟨gb101, 1, none⟩) (Kd.R_far (p := ⟨gb101, 0, none⟩) (Kd.R_types HO106.out BK101.out (by decide)) (fun _ hk => hk.2) (.int .i64 t102)) (fun _ hk => hk.2) (.slice Ao31 t104.length co31)) (fun _ hk => trivial), by repeat (first | (with_reducible first | exact HI0.out | apply IsS113.alloc | apply IsS113.drewN | apply IsS113.drew | apply IsS113.set_1 | refine IsS113.far ?_ NB0_101.out _ | refine IsS113.far ?_ NB0_108.out _) | exact HI0.out), by repeat (first | (with_reducible first | exact HB.out | apply below_alloc | apply pw_below_drewN | apply below_drew1 | refine below_set ?_ (IsS113.ge HI0.out) | refine below_set ?_ GE101.out | refine below_set ?_ GE108.out) | exact HB.out), by repeat (first | (with_reducible first | exact HK.out | apply KeepBut.set_ | apply keep_drewN | apply keep_drew | apply keep_alloc | refine keep_far ?_ GW101.out _ | refine keep_far ?_ GW108.out _) | exact HK.out)⟩
/-! ### spec_l20Story: function 96 -/
mutual
def spec_l20Story.l0 : Nat → Int → Int → List (S36) → Int → List Int → Int → Option (Int × (List (S36)) × Int)
 | 0, _, _, _, _, _, _ => none
 | k + 1, x1, x6, x7, x8, x1000, x1001 => if x8 > 0 then ((spec_l20Claim.f k x1000 x1001 x6 (wrap64 (x1 * 3))).bind fun bt108 => (if x7.length < 4398046511104 then (spec_l20Story.l0 k x1 x6 (x7 ++ [(⟨bt108.1, bt108.2.1⟩ : S36)]) (wrap64 (x8 - 1)) x1000 bt108.2.2) else (none))) else ((spec_l20Rd_odd.f k x1000 x1001 x1).bind fun bt116 => (if bt116.1 = true then (spec_l20Story.l1 k x6 x7 x1000 bt116.2) else (some (x6, x7, bt116.2))))
def spec_l20Story.l1 : Nat → Int → List (S36) → List Int → Int → Option (Int × (List (S36)) × Int)
 | 0, _, _, _, _ => none
 | k + 1, x6, x7, x1000, x1001 => if (x7.length : Int) < 7 then (if x7.length < 4398046511104 then (spec_l20Story.l1 k x6 (x7 ++ [(⟨0, (([(⟨0, 0⟩ : S33)] : List (S33)))⟩ : S36)]) x1000 x1001) else (none)) else (some (x6, x7, x1001))
end
def spec_l20Story.f (k : Nat) (s0_0 : List Int) (s0_1 : Int) (a1 : Int) : Option (Int × (List (S36)) × Int) := (spec_l20Rd_pick.f k s0_0 s0_1 4).bind fun bt101 => ((spec_l20Rd_pick.f k s0_0 bt101.2 5).bind fun bt106 => (spec_l20Story.l0 k a1 (wrap64 (1 + bt101.1)) (([] : List (S36))) bt106.1 s0_0 bt106.2))
theorem spec_l20Story.mono_l : ∀ k, (∀ y0 y1 y2 y3 y4 y5, LeO (spec_l20Story.l0 k y0 y1 y2 y3 y4 y5) (spec_l20Story.l0 (k + 1) y0 y1 y2 y3 y4 y5)) ∧ (∀ y0 y1 y2 y3, LeO (spec_l20Story.l1 k y0 y1 y2 y3) (spec_l20Story.l1 (k + 1) y0 y1 y2 y3))
 | 0 => ⟨fun _ _ _ _ _ _ r h => by simp [spec_l20Story.l0] at h, fun _ _ _ _ r h => by simp [spec_l20Story.l1] at h⟩
 | k + 1 => by
  obtain ⟨ih0, ih1⟩ := spec_l20Story.mono_l k
  refine ⟨?_, ?_⟩
  ·intro y0 y1 y2 y3 y4 y5
   unfold spec_l20Story.l0
   repeat' first
   | (with_reducible exact ih0 _ _ _ _ _ _)
   | (with_reducible exact ih1 _ _ _ _)
   | (with_reducible exact spec_l20Claim.mono _ _ _ _ _)
   | (with_reducible exact spec_l20Rd_odd.mono _ _ _ _)
   | (with_reducible exact spec_l20Rd_pick.mono _ _ _ _)
   | (with_reducible exact LeO.refl _)
   | (with_reducible exact LeO.none _)
   | (with_reducible refine LeO.ite ?_ ?_)
   | (with_reducible refine LeO.bind ?_ (fun _ => ?_))
   | exact ih0 _ _ _ _ _ _
   | exact ih1 _ _ _ _
   | exact spec_l20Claim.mono _ _ _ _ _
   | exact spec_l20Rd_odd.mono _ _ _ _
   | exact spec_l20Rd_pick.mono _ _ _ _
   | exact LeO.none _
   | refine LeO.ite ?_ ?_
   | refine LeO.bind ?_ (fun _ => ?_)
  ·intro y0 y1 y2 y3
   unfold spec_l20Story.l1
   repeat' first
   | (with_reducible exact ih0 _ _ _ _ _ _)
   | (with_reducible exact ih1 _ _ _ _)
   | (with_reducible exact spec_l20Claim.mono _ _ _ _ _)
   | (with_reducible exact spec_l20Rd_odd.mono _ _ _ _)
   | (with_reducible exact spec_l20Rd_pick.mono _ _ _ _)
   | (with_reducible exact LeO.refl _)
   | (with_reducible exact LeO.none _)
   | (with_reducible refine LeO.ite ?_ ?_)
   | (with_reducible refine LeO.bind ?_ (fun _ => ?_))
   | exact ih0 _ _ _ _ _ _
   | exact ih1 _ _ _ _
   | exact spec_l20Claim.mono _ _ _ _ _
   | exact spec_l20Rd_odd.mono _ _ _ _
   | exact spec_l20Rd_pick.mono _ _ _ _
   | exact LeO.none _
   | refine LeO.ite ?_ ?_
   | refine LeO.bind ?_ (fun _ => ?_)
theorem spec_l20Story.mono : ∀ a0 a1 a2 k, LeO (spec_l20Story.f k a0 a1 a2) (spec_l20Story.f (k + 1) a0 a1 a2) := by
 intro a0 a1 a2 k
 obtain ⟨ih0, ih1⟩ := spec_l20Story.mono_l k
 unfold spec_l20Story.f
 repeat' first
   | (with_reducible exact ih0 _ _ _ _ _ _)
   | (with_reducible exact ih1 _ _ _ _)
   | (with_reducible exact spec_l20Claim.mono _ _ _ _ _)
   | (with_reducible exact spec_l20Rd_odd.mono _ _ _ _)
   | (with_reducible exact spec_l20Rd_pick.mono _ _ _ _)
   | (with_reducible exact LeO.refl _)
   | (with_reducible exact LeO.none _)
   | (with_reducible refine LeO.ite ?_ ?_)
   | (with_reducible refine LeO.bind ?_ (fun _ => ?_))
   | exact ih0 _ _ _ _ _ _
   | exact ih1 _ _ _ _
   | exact spec_l20Claim.mono _ _ _ _ _
   | exact spec_l20Rd_odd.mono _ _ _ _
   | exact spec_l20Rd_pick.mono _ _ _ _
   | exact LeO.none _
   | refine LeO.ite ?_ ?_
   | refine LeO.bind ?_ (fun _ => ?_)
set_option maxHeartbeats 8000000 in
set_option maxRecDepth 100000 in
theorem spec_l20Story.calls (k : Nat) (g : Nat) (s0_0 : List Int) (s0_1 : Int) (a1 : Int) (r1 : Int) (r2 : List (S36)) (r3 : Int) (w0 w : World) (hI : IsS113 w0 w g s0_0 s0_1) (hB : Below w0.heap.size w0 w) (h : spec_l20Story.f k s0_0 s0_1 a1 = some (r1, r2, r3)) :
  Calls Try.prog 96 #[.pointer (some ⟨g, 0, none⟩), .int .i64 a1] w fun e w' => ∃ v1_ : Value, e = .returned (.tuple #[.int .i64 r1, v1_]) ∧ Kd.S k36 36 w' w.heap.size (fun _ => True) v1_ r2 ∧ IsS113 w0 w' g s0_0 r3 ∧ Below w0.heap.size w0 w' ∧ KeepBut w w' g none := by
 have hu33 := Try.underlying33
 have hu36 := Try.underlying36
 have HI0 := Aside0.mk hI
 have HK := Aside0.mk (KeepBut.refl w g none)
 have HL := Aside0.mk hB.size
 clear hI
 have HW0 := Aside0.mk hB.size
 have HB := Aside0.mk hB
 clear hB
 have H : ((spec_l20Rd_pick.f k s0_0 s0_1 4).bind fun bt101 => ((spec_l20Rd_pick.f k s0_0 bt101.2 5).bind fun bt106 => (spec_l20Story.l0 k a1 (wrap64 (1 + bt101.1)) (([] : List (S36))) bt106.1 s0_0 bt106.2))) = some (r1, r2, r3) := h
 clear h
 replace H := Option.bind_eq_some_iff.mp H
 obtain ⟨⟨t101, t102⟩, A30, H⟩ := H
 replace H : ((spec_l20Rd_pick.f k s0_0 t102 5).bind fun bt106 => (spec_l20Story.l0 k a1 (wrap64 (1 + t101)) (([] : List (S36))) bt106.1 s0_0 bt106.2)) = some (r1, r2, r3) := H
 have A3 := Aside0.mk A30
 clear A30
 obtain ⟨y103, hy103⟩ : ∃ y_ : List (S36), y_ = (([] : List (S36))) := ⟨_, rfl⟩
 replace H : ((spec_l20Rd_pick.f k s0_0 t102 5).bind fun bt106 => (spec_l20Story.l0 k a1 (wrap64 (1 + t101)) y103 bt106.1 s0_0 bt106.2)) = some (r1, r2, r3) := by first | (rw [hy103]; with_reducible exact H) | (have H2_ := (Option.bind_some _ _).symm.trans H; rw [hy103]; with_reducible exact H2_) | (have H2_ := (Option.bind_some _ _).symm.trans H; with_reducible exact H2_) | with_reducible exact H | (rw [hy103]; exact H) | exact H
 have Ny103 := Aside0.mk hy103
 clear hy103
 replace H := Option.bind_eq_some_iff.mp H
 obtain ⟨⟨t106, t107⟩, A40, H⟩ := H
 replace H : (spec_l20Story.l0 k a1 (wrap64 (1 + t101)) y103 t106 s0_0 t107) = some (r1, r2, r3) := H
 have A4 := Aside0.mk A40
 clear A40
 have H' := Aside0.mk H
 clear H
 go_enter Try.func96, Try.ntmps96
 go_wp2_with (first | ((with_reducible refine gate_callee (f := 108) rfl ?_); refine goesL_ (some 10) rfl rfl Try.func108 (by kernel_rfl) rfl #[.pointer (some ⟨g, 0, none⟩), .int .i64 4] rfl (by (try simp only [List.map_toArray, List.map_cons, List.map_nil]); first | done | rfl | (simp only [List.length_drop, List.length_take]; rfl)) ?_; (with_reducible refine (spec_l20Rd_pick.calls k g s0_0 s0_1 4 t101 t102 w0 _ ?side1 ?side2 A3.out).mono ?_); (case side1 => repeat (first | (with_reducible first | exact HI0.out | apply IsS113.alloc | apply IsS113.drewN | apply IsS113.drew | apply IsS113.set_1) | exact HI0.out)); (case side2 => repeat (first | (with_reducible first | exact HB.out | apply below_alloc | apply pw_below_drewN | apply below_drew1 | refine below_set ?_ (IsS113.ge HI0.out)) | exact HB.out)); rintro e w5 ⟨rfl, hi, hb, hk⟩; refine ⟨_, rfl, ?_⟩; have n0_ := Aside0.mk (KeepBut.trans (by repeat (first | (with_reducible first | exact HK.out | apply KeepBut.set_ | apply keep_drewN | apply keep_drew | apply keep_alloc) | exact HK.out)) hk (.inl rfl)); have n1_ := Aside0.mk (hb); have n2_ := Aside0.mk (hi); clear HK; clear HB; clear HI0; have HK := n0_; have HB := n1_; have HI0 := n2_; clear n0_ n1_ n2_; (try clear hb); (try clear hb2); (try clear hk); (try clear hi)) | ((with_reducible refine gate_dst (N := 12) rfl ?_); refine Kd.S_lit k36 _ 36 ?hg (N := 12) ?hd (xs := ([] : List (S36))) (inner := []) (ok := fun _ => True) (okp := fun _ => True) ?hr ?hp (fun _ hk => hk) trivial (Below.refl _ _) (Nat.le_refl _) (by simp) ?_; (case hd => rfl); (case hg => rfl); (case hr => first | (go_simp; done) | (go_simp; rfl)); (case hp => exact (Reps.none _ _)); intro v104 w6 ho7 hb hg_ hnew_; clear hg_ hnew_; (first | rw [← Ny103.out] at ho7 | (simp only [Int.reduceToNat] at ho7; rw [← Ny103.out] at ho7)); have n0_ := Aside0.mk (Kd.S_lower ho7 (keep_size (w := w) (g := g) (row := none) (by repeat (first | (with_reducible first | exact HK.out | apply KeepBut.set_ | apply keep_drewN | apply keep_drew | apply keep_alloc) | exact HK.out)))); have n1_ := Aside0.mk (IsS113.below (by repeat (first | (with_reducible first | exact HI0.out | apply IsS113.alloc | apply IsS113.drewN | apply IsS113.drew | apply IsS113.set_1) | exact HI0.out)) hb); have n2_ := Aside0.mk (KeepBut.trans (by repeat (first | (with_reducible first | exact HK.out | apply KeepBut.set_ | apply keep_drewN | apply keep_drew | apply keep_alloc) | exact HK.out)) (KeepBut.of_below hb g none) (.inl rfl)); have n3_ := Aside0.mk (below_step (by repeat (first | (with_reducible first | exact HB.out | apply below_alloc | apply pw_below_drewN | apply below_drew1 | refine below_set ?_ (IsS113.ge HI0.out)) | exact HB.out)) hb); clear HI0; clear HK; clear HB; have HO105 := n0_; have HI0 := n1_; have HK := n2_; have HB := n3_; clear n0_ n1_ n2_ n3_; clear hb ho7) | ((with_reducible refine gate_callee (f := 108) rfl ?_); refine goesL_ (some 14) rfl rfl Try.func108 (by kernel_rfl) rfl #[.pointer (some ⟨g, 0, none⟩), .int .i64 5] rfl (by (try simp only [List.map_toArray, List.map_cons, List.map_nil]); first | done | rfl | (simp only [List.length_drop, List.length_take]; rfl)) ?_; (with_reducible refine (spec_l20Rd_pick.calls k g s0_0 t102 5 t106 t107 w0 _ ?side1 ?side2 A4.out).mono ?_); (case side1 => repeat (first | (with_reducible first | exact HI0.out | apply IsS113.alloc | apply IsS113.drewN | apply IsS113.drew | apply IsS113.set_1) | exact HI0.out)); (case side2 => repeat (first | (with_reducible first | exact HB.out | apply below_alloc | apply pw_below_drewN | apply below_drew1 | refine below_set ?_ (IsS113.ge HI0.out)) | exact HB.out)); rintro e w8 ⟨rfl, hi, hb, hk⟩; refine ⟨_, rfl, ?_⟩; have n0_ := Aside0.mk (Kd.S_mono (Kd.S_keep (IsS113.apartS (show IsS113 w0 _ g s0_0 t102 from by repeat (first | (with_reducible first | exact HI0.out | apply IsS113.alloc | apply IsS113.drewN | apply IsS113.drew | apply IsS113.set_1) | exact HI0.out)) (by (with_reducible repeat (first | apply Kd.S_alloc | apply Kd.S_drewN | apply Kd.S_drew)); exact HO105.out) (by decide)) hk (fun _ h => h.2)) (fun _ h => h.1)); have n1_ := Aside0.mk (KeepBut.trans (by repeat (first | (with_reducible first | exact HK.out | apply KeepBut.set_ | apply keep_drewN | apply keep_drew | apply keep_alloc) | exact HK.out)) hk (.inl rfl)); have n2_ := Aside0.mk (hb); have n3_ := Aside0.mk (hi); clear HO105; clear HK; clear HB; clear HI0; have HO105 := n0_; have HK := n1_; have HB := n2_; have HI0 := n3_; clear n0_ n1_ n2_ n3_; (try clear hb); (try clear hb2); (try clear hk); (try clear hi)))
 try simp only [Act.put, List.setIfInBounds_toArray, List.set_cons_zero, List.set_cons_succ]
 go_loopg [7, 8] k (fun kq v7 v8 w' => ∃ (x7_1 : List (S36)) (x8_1 : Int) (x1001_1 : Int), v8 = .int .i64 x8_1 ∧ Aside0 (spec_l20Story.l0 kq a1 (wrap64 (1 + t101)) x7_1 x8_1 s0_0 x1001_1 = some (r1, r2, r3)) ∧ Aside0 (kq ≤ k) ∧ Aside0 (Kd.S k36 36 w' w.heap.size (fun _ => True) v7 x7_1) ∧ Aside0 (IsS113 w0 w' g s0_0 x1001_1) ∧ Aside0 (KeepBut w w' g none) ∧ Aside0 (Below w0.heap.size w0 w'))
 case atStart => exact ⟨(y103), (t106), (t107), (by first | rfl | (simp; done) | (simp [*]; done)), H', ⟨Nat.le_refl _⟩, ⟨by (with_reducible repeat (first | apply Kd.S_alloc | apply Kd.S_drewN | apply Kd.S_drew)); exact HO105.out⟩, ⟨by repeat (first | (with_reducible first | exact HI0.out | apply IsS113.alloc | apply IsS113.drewN | apply IsS113.drew | apply IsS113.set_1) | exact HI0.out)⟩, ⟨by repeat (first | (with_reducible first | exact HK.out | apply KeepBut.set_ | apply keep_drewN | apply keep_drew | apply keep_alloc) | exact HK.out)⟩, ⟨by repeat (first | (with_reducible first | exact HB.out | apply below_alloc | apply pw_below_drewN | apply below_drew1 | refine below_set ?_ (IsS113.ge HI0.out)) | exact HB.out)⟩⟩
 case round =>
  clear H'
  try clear c1
  try clear p2
  try clear p6
  obtain ⟨x7_1, x8_1, x1001_1, rfl, HA, HK1, HO_7, HI0, HK, HB⟩ := hrel
  cases gk with
  | zero => exact absurd HA.out (by simp [spec_l20Story.l0])
  | succ k1 =>
   have H := HA.out
   clear HA
   simp only [spec_l20Story.l0] at H
   by_cases c9 : x8_1 > 0
   ·rw [if_pos c9] at H
    have c9b0 : decide (0 < x8_1) = true := decide_eq_true c9
    clear c9
    replace H := Option.bind_eq_some_iff.mp H
    obtain ⟨⟨t108, t109, t112⟩, A100, H⟩ := H
    replace H : (if x7_1.length < 4398046511104 then (spec_l20Story.l0 k1 a1 (wrap64 (1 + t101)) (x7_1 ++ [(⟨t108, t109⟩ : S36)]) (wrap64 (x8_1 - 1)) s0_0 t112) else (none)) = some (r1, r2, r3) := H
    have A10 := Aside0.mk A100
    clear A100
    by_cases c11 : x7_1.length < 4398046511104
    ·rw [if_pos c11] at H
     have LMc11 := Aside0.mk c11
     clear c11
     obtain ⟨y113, hy113⟩ : ∃ y_ : List (S36), y_ = (x7_1 ++ [(⟨t108, t109⟩ : S36)]) := ⟨_, rfl⟩
     replace H : (spec_l20Story.l0 k1 a1 (wrap64 (1 + t101)) y113 (wrap64 (x8_1 - 1)) s0_0 t112) = some (r1, r2, r3) := by first | (rw [hy113]; with_reducible exact H) | (have H2_ := (Option.bind_some _ _).symm.trans H; rw [hy113]; with_reducible exact H2_) | (have H2_ := (Option.bind_some _ _).symm.trans H; with_reducible exact H2_) | with_reducible exact H | (rw [hy113]; exact H) | exact H
     have Ny113 := Aside0.mk hy113
     clear hy113
     have H' := Aside0.mk H
     clear H
     go_wp2_with (first | ((with_reducible refine gate_callee (f := 138) rfl ?_); refine goesL_ (some 24) rfl rfl Try.func138 (by kernel_rfl) rfl #[.pointer (some ⟨g, 0, none⟩), .int .i64 (wrap64 (1 + t101)), .int .i64 (wrap64 (a1 * 3))] rfl (by (try simp only [List.map_toArray, List.map_cons, List.map_nil]); first | done | rfl | (simp only [List.length_drop, List.length_take]; rfl)) ?_; (with_reducible refine (spec_l20Claim.calls k1 g s0_0 x1001_1 (wrap64 (1 + t101)) (wrap64 (a1 * 3)) t108 t109 t112 w0 _ ?side1 ?side2 A10.out).mono ?_); (case side1 => repeat (first | (with_reducible first | exact HI0.out | apply IsS113.alloc | apply IsS113.drewN | apply IsS113.drew | apply IsS113.set_1) | exact HI0.out)); (case side2 => repeat (first | (with_reducible first | exact HB.out | apply below_alloc | apply pw_below_drewN | apply below_drew1 | refine below_set ?_ (IsS113.ge HI0.out)) | exact HB.out)); rintro e w12 ⟨v110, rfl, ho0, hi, hb, hk⟩; refine ⟨_, rfl, ?_⟩; have n0_ := Aside0.mk (Kd.S_mono (Kd.S_told (Kd.S_oldK (IsS113.apartS (show IsS113 w0 _ g s0_0 x1001_1 from by repeat (first | (with_reducible first | exact HI0.out | apply IsS113.alloc | apply IsS113.drewN | apply IsS113.drew | apply IsS113.set_1) | exact HI0.out)) (by (with_reducible repeat (first | apply Kd.S_alloc | apply Kd.S_drewN | apply Kd.S_drew)); exact HO_7.out) (by decide)) hk) (Kd.R_base ho0)) (fun _ h_ => h_.1)); have n1_ := Aside0.mk (Kd.R_lower ho0 (keep_size (w := w) (g := g) (row := none) (by repeat (first | (with_reducible first | exact HK.out | apply KeepBut.set_ | apply keep_drewN | apply keep_drew | apply keep_alloc) | exact HK.out)))); have n2_ := Aside0.mk (KeepBut.trans (by repeat (first | (with_reducible first | exact HK.out | apply KeepBut.set_ | apply keep_drewN | apply keep_drew | apply keep_alloc) | exact HK.out)) hk (.inl rfl)); have n3_ := Aside0.mk (hb); have n4_ := Aside0.mk (hi); clear HO_7; clear HK; clear HB; clear HI0; have HO_7 := n0_; have HO111 := n1_; have HK := n2_; have HB := n3_; have HI0 := n4_; clear n0_ n1_ n2_ n3_ n4_; (try clear hb); (try clear hb2); (try clear hk); (try clear hi); (try clear ho0); obtain ⟨Ao14, co14, eo14⟩ := Kd.R_slice HO111.out; subst eo14) | ((with_reducible refine gate_builtin (b := .append) (xs := #[.tmp 19, .tmp 25]) rfl ?_); at_builtin; refine Kd.S_append k36 w.heap.size rfl (.tmp 19) (.tmp 25) 23 36 (.agg #[(.int .i64 0), (.slice none 0 0)]) 32 rfl Try.underlying23 info36 rfl (by decide) (by omega) u7 x7_1 (⟨t108, t109⟩ : S36) [.int .i64 t108, .slice Ao14 t109.length co14] (fun _ => True) (fun k_ => some k_ = (.slice Ao14 t109.length co14 : Value).ownBlock) rfl rfl ?aP (fun k_ hk_ => ((Kd.R_mono (ok' := fun k_ => ((fun _ => True)) k_ ∧ some k_ ≠ (u7 : Value).ownBlock) (Kd.R_apart' (HO111.out) (Kd.S_typed HO_7.out) (by decide)) (fun k_ hk => ⟨trivial, hk.2⟩))).1 k_ hk_.symm) ?aF ?aO (Below.refl _ _) ?aS ?aL ?_; (case aP => exact k36_mkM _ _ _ (⟨t108, t109⟩ : S36) (Kd.R_mono (Kd.R_tight rfl (Kd.R_mono (ok' := fun k_ => ((fun _ => True)) k_ ∧ some k_ ≠ (u7 : Value).ownBlock) (Kd.R_apart' (HO111.out) (Kd.S_typed HO_7.out) (by decide)) (fun k_ hk => ⟨trivial, hk.2⟩))) (fun _ h_ => h_))); (case aF => exact (fun _ _ => trivial)); (case aO => exact (by (with_reducible repeat (first | apply Kd.S_alloc | apply Kd.S_drewN | apply Kd.S_drew)); exact Kd.S_mono HO_7.out (fun k_ hk => ⟨trivial, fun e_ => hk.2 e_⟩))); (case aS => exact (keep_size (w := w) (g := g) (row := none) (by repeat (first | (with_reducible first | exact HK.out | apply KeepBut.set_ | apply keep_drewN | apply keep_drew | apply keep_alloc) | exact HK.out)))); (case aL => have := LMc11.out; omega); intro v114 w13 ho hb hg hat; rw [← Ny113.out] at ho; have n0_ := Aside0.mk (IsS113.grown (by repeat (first | (with_reducible first | exact HI0.out | apply IsS113.alloc | apply IsS113.drewN | apply IsS113.drew | apply IsS113.set_1) | exact HI0.out)) hg (IsS113.own_neS HI0.out HO_7.out (by decide))); have n1_ := Aside0.mk (below_weaken (by repeat (first | (with_reducible first | exact HB.out | apply below_alloc | apply pw_below_drewN | apply below_drew1 | refine below_set ?_ (IsS113.ge HI0.out)) | exact HB.out)) HL.out hb); have n2_ := Aside0.mk (KeepBut.trans (by repeat (first | (with_reducible first | exact HK.out | apply KeepBut.set_ | apply keep_drewN | apply keep_drew | apply keep_alloc) | exact HK.out)) (KeepBut.of_grown hg g) (Kd.S_base2 HO_7.out)); have n3_ := Aside0.mk (ho); clear HI0; clear HB; clear HK; clear HO_7; clear HO111; have HI0 := n0_; have HB := n1_; have HK := n2_; have HO115 := n3_; clear n0_ n1_ n2_ n3_; clear ho hb hg hat))
     go_roundg k1
     case measure => have := HK1.out; omega
     case rel => exact ⟨(y113), (wrap64 (x8_1 - 1)), (t112), (by first | rfl | (simp; done) | (simp [*]; done)), H', ⟨by have := HK1.out; omega⟩, ⟨by (with_reducible repeat (first | apply Kd.S_alloc | apply Kd.S_drewN | apply Kd.S_drew)); exact HO115.out⟩, ⟨by repeat (first | (with_reducible first | exact HI0.out | apply IsS113.alloc | apply IsS113.drewN | apply IsS113.drew | apply IsS113.set_1) | exact HI0.out)⟩, ⟨by repeat (first | (with_reducible first | exact HK.out | apply KeepBut.set_ | apply keep_drewN | apply keep_drew | apply keep_alloc) | exact HK.out)⟩, ⟨by repeat (first | (with_reducible first | exact HB.out | apply below_alloc | apply pw_below_drewN | apply below_drew1 | refine below_set ?_ (IsS113.ge HI0.out)) | exact HB.out)⟩⟩
    ·rw [if_neg c11] at H
     exact absurd H (by simp)
   ·rw [if_neg c9] at H
    have c9b0 : decide (0 < x8_1) = false := decide_eq_false c9
    clear c9
    replace H := Option.bind_eq_some_iff.mp H
    obtain ⟨⟨t116, t117⟩, A150, H⟩ := H
    replace H : (if t116 = true then (spec_l20Story.l1 k1 (wrap64 (1 + t101)) x7_1 s0_0 t117) else (some ((wrap64 (1 + t101)), x7_1, t117))) = some (r1, r2, r3) := H
    have A15 := Aside0.mk A150
    clear A150
    by_cases c16 : t116 = true
    ·subst c16
     have H1 : (spec_l20Story.l1 k1 (wrap64 (1 + t101)) x7_1 s0_0 t117) = some (r1, r2, r3) := by rw [if_pos rfl] at H; exact H
     clear H
     have H := H1
     clear H1
     have H' := Aside0.mk H
     clear H
     go_wp2_with (first | ((with_reducible refine gate_callee (f := 139) rfl ?_); refine goesL_ (some 29) rfl rfl Try.func139 (by kernel_rfl) rfl #[.pointer (some ⟨g, 0, none⟩), .int .i64 a1] rfl (by (try simp only [List.map_toArray, List.map_cons, List.map_nil]); first | done | rfl | (simp only [List.length_drop, List.length_take]; rfl)) ?_; (with_reducible refine (spec_l20Rd_odd.calls k1 g s0_0 x1001_1 a1 true t117 w0 _ ?side1 ?side2 A15.out).mono ?_); (case side1 => repeat (first | (with_reducible first | exact HI0.out | apply IsS113.alloc | apply IsS113.drewN | apply IsS113.drew | apply IsS113.set_1) | exact HI0.out)); (case side2 => repeat (first | (with_reducible first | exact HB.out | apply below_alloc | apply pw_below_drewN | apply below_drew1 | refine below_set ?_ (IsS113.ge HI0.out)) | exact HB.out)); rintro e w17 ⟨rfl, hi, hb, hk⟩; refine ⟨_, rfl, ?_⟩; have n0_ := Aside0.mk (Kd.S_mono (Kd.S_keep (IsS113.apartS (show IsS113 w0 _ g s0_0 x1001_1 from by repeat (first | (with_reducible first | exact HI0.out | apply IsS113.alloc | apply IsS113.drewN | apply IsS113.drew | apply IsS113.set_1) | exact HI0.out)) (by (with_reducible repeat (first | apply Kd.S_alloc | apply Kd.S_drewN | apply Kd.S_drew)); exact HO_7.out) (by decide)) hk (fun _ h => h.2)) (fun _ h => h.1)); have n1_ := Aside0.mk (KeepBut.trans (by repeat (first | (with_reducible first | exact HK.out | apply KeepBut.set_ | apply keep_drewN | apply keep_drew | apply keep_alloc) | exact HK.out)) hk (.inl rfl)); have n2_ := Aside0.mk (hb); have n3_ := Aside0.mk (hi); clear HO_7; clear HK; clear HB; clear HI0; have HO_7 := n0_; have HK := n1_; have HB := n2_; have HI0 := n3_; clear n0_ n1_ n2_ n3_; (try clear hb); (try clear hb2); (try clear hk); (try clear hi)))
     try simp only [Act.put, List.setIfInBounds_toArray, List.set_cons_zero, List.set_cons_succ]
     go_loopg [7] k1 (fun kq v7 w' => ∃ (x7_2 : List (S36)), Aside0 (spec_l20Story.l1 kq (wrap64 (1 + t101)) x7_2 s0_0 t117 = some (r1, r2, r3)) ∧ Aside0 (kq ≤ k1) ∧ Aside0 (Kd.S k36 36 w' w.heap.size (fun _ => True) v7 x7_2) ∧ Aside0 (IsS113 w0 w' g s0_0 t117) ∧ Aside0 (KeepBut w w' g none) ∧ Aside0 (Below w0.heap.size w0 w'))
     case atStart => exact ⟨(x7_1), H', ⟨Nat.le_refl _⟩, ⟨by (with_reducible repeat (first | apply Kd.S_alloc | apply Kd.S_drewN | apply Kd.S_drew)); exact HO_7.out⟩, ⟨by repeat (first | (with_reducible first | exact HI0.out | apply IsS113.alloc | apply IsS113.drewN | apply IsS113.drew | apply IsS113.set_1) | exact HI0.out)⟩, ⟨by repeat (first | (with_reducible first | exact HK.out | apply KeepBut.set_ | apply keep_drewN | apply keep_drew | apply keep_alloc) | exact HK.out)⟩, ⟨by repeat (first | (with_reducible first | exact HB.out | apply below_alloc | apply pw_below_drewN | apply below_drew1 | refine below_set ?_ (IsS113.ge HI0.out)) | exact HB.out)⟩⟩
     case round =>
      clear H'
      try clear c1
      try clear p2
      try clear p6
      try clear c9
      try clear c9b0
      try clear c10
      try clear c11
      try clear c13
      try clear c16
      try clear p2
      try clear p6
      obtain ⟨x7_2, HA, HK2, HO_7, HI0, HK, HB⟩ := hrel
      cases gk with
      | zero => exact absurd HA.out (by simp [spec_l20Story.l1])
      | succ k2 =>
       have H := HA.out
       clear HA
       simp only [spec_l20Story.l1] at H
       by_cases c18 : (x7_2.length : Int) < 7
       ·rw [if_pos c18] at H
        have c18b0 : decide ((x7_2.length : Int) < 7) = true := decide_eq_true c18
        have c18b1 : decide (x7_2.length < 7) = true := decide_eq_true (by omega)
        clear c18
        obtain ⟨y118, hy118⟩ : ∃ y_ : List (S33), y_ = (([(⟨0, 0⟩ : S33)] : List (S33))) := ⟨_, rfl⟩
        replace H : (if x7_2.length < 4398046511104 then (spec_l20Story.l1 k2 (wrap64 (1 + t101)) (x7_2 ++ [(⟨0, y118⟩ : S36)]) s0_0 t117) else (none)) = some (r1, r2, r3) := by first | (rw [hy118]; with_reducible exact H) | (have H2_ := (Option.bind_some _ _).symm.trans H; rw [hy118]; with_reducible exact H2_) | (have H2_ := (Option.bind_some _ _).symm.trans H; with_reducible exact H2_) | with_reducible exact H | (rw [hy118]; exact H) | exact H
        have Ny118 := Aside0.mk hy118
        clear hy118
        by_cases c19 : x7_2.length < 4398046511104
        ·rw [if_pos c19] at H
         have LMc19 := Aside0.mk c19
         clear c19
         obtain ⟨y121, hy121⟩ : ∃ y_ : List (S36), y_ = (x7_2 ++ [(⟨0, y118⟩ : S36)]) := ⟨_, rfl⟩
         replace H : (spec_l20Story.l1 k2 (wrap64 (1 + t101)) y121 s0_0 t117) = some (r1, r2, r3) := by first | (rw [hy121]; with_reducible exact H) | (have H2_ := (Option.bind_some _ _).symm.trans H; rw [hy121]; with_reducible exact H2_) | (have H2_ := (Option.bind_some _ _).symm.trans H; with_reducible exact H2_) | with_reducible exact H | (rw [hy121]; exact H) | exact H
         have Ny121 := Aside0.mk hy121
         clear hy121
         have H' := Aside0.mk H
         clear H
         obtain ⟨Ao20, co20, eo20⟩ := Kd.S_slice HO_7.out
         subst eo20
         go_wp2_with (first | ((with_reducible refine gate_dst (N := 35) rfl ?_); refine Kd.R_lit k33 _ 33 ?hg (N := 35) ?hd (xs := ([(⟨0, 0⟩ : S33)] : List (S33))) (inner := [.int .i64 0, .int .i64 0]) (ok := fun _ => True) (okp := fun _ => True) ?hr ?hp (fun _ hk => hk) trivial (Below.refl _ _) (Nat.le_refl _) (by simp) ?_; (case hd => rfl); (case hg => rfl); (case hr => first | (go_simp; done) | (go_simp; rfl)); (case hp => exact (Reps.c2 (show Kd.M k33 _ _ _ (⟨0, 0⟩ : S33) [.int .i64 0, .int .i64 0] from (k33_mkM _ _ _ (⟨0, 0⟩ : S33) )) (Reps.none _ _))); intro v119 w21 ho22 hb hg_ hnew_; clear hg_ hnew_; (first | rw [← Ny118.out] at ho22 | (simp only [Int.reduceToNat] at ho22; rw [← Ny118.out] at ho22)); have n0_ := Aside0.mk (Kd.S_elder' (by (with_reducible repeat (first | apply Kd.S_alloc | apply Kd.S_drewN | apply Kd.S_drew)); exact HO_7.out) (Kd.R_base ho22) hb); have n1_ := Aside0.mk (Kd.R_lower ho22 (keep_size (w := w) (g := g) (row := none) (by repeat (first | (with_reducible first | exact HK.out | apply KeepBut.set_ | apply keep_drewN | apply keep_drew | apply keep_alloc) | exact HK.out)))); have n2_ := Aside0.mk (IsS113.below (by repeat (first | (with_reducible first | exact HI0.out | apply IsS113.alloc | apply IsS113.drewN | apply IsS113.drew | apply IsS113.set_1) | exact HI0.out)) hb); have n3_ := Aside0.mk (KeepBut.trans (by repeat (first | (with_reducible first | exact HK.out | apply KeepBut.set_ | apply keep_drewN | apply keep_drew | apply keep_alloc) | exact HK.out)) (KeepBut.of_below hb g none) (.inl rfl)); have n4_ := Aside0.mk (below_step (by repeat (first | (with_reducible first | exact HB.out | apply below_alloc | apply pw_below_drewN | apply below_drew1 | refine below_set ?_ (IsS113.ge HI0.out)) | exact HB.out)) hb); clear HO_7; clear HI0; clear HK; clear HB; have HO_7 := n0_; have HO120 := n1_; have HI0 := n2_; have HK := n3_; have HB := n4_; clear n0_ n1_ n2_ n3_ n4_; clear hb ho22; obtain ⟨Ao23, co23, eo23⟩ := Kd.R_slice HO120.out; subst eo23) | ((with_reducible refine gate_builtin (b := .append) (xs := #[.tmp 33, .tmp 37]) rfl ?_); at_builtin; refine Kd.S_append k36 w.heap.size rfl (.tmp 33) (.tmp 37) 23 36 (.agg #[(.int .i64 0), (.slice none 0 0)]) 32 rfl Try.underlying23 info36 rfl (by decide) (by omega) (.slice Ao20 x7_2.length co20) x7_2 (⟨0, y118⟩ : S36) [.int .i64 0, .slice Ao23 y118.length co23] (fun _ => True) (fun k_ => some k_ = (.slice Ao23 y118.length co23 : Value).ownBlock) rfl rfl ?aP (fun k_ hk_ => ((Kd.R_mono (ok' := fun k_ => ((fun _ => True)) k_ ∧ some k_ ≠ (.slice Ao20 x7_2.length co20 : Value).ownBlock) (Kd.R_apart' (HO120.out) (Kd.S_typed HO_7.out) (by decide)) (fun k_ hk => ⟨trivial, hk.2⟩))).1 k_ hk_.symm) ?aF ?aO (Below.refl _ _) ?aS ?aL ?_; (case aP => exact k36_mkM _ _ _ (⟨0, y118⟩ : S36) (Kd.R_mono (Kd.R_tight rfl (Kd.R_mono (ok' := fun k_ => ((fun _ => True)) k_ ∧ some k_ ≠ (.slice Ao20 x7_2.length co20 : Value).ownBlock) (Kd.R_apart' (HO120.out) (Kd.S_typed HO_7.out) (by decide)) (fun k_ hk => ⟨trivial, hk.2⟩))) (fun _ h_ => h_))); (case aF => exact (fun _ _ => trivial)); (case aO => exact (by (with_reducible repeat (first | apply Kd.S_alloc | apply Kd.S_drewN | apply Kd.S_drew)); exact Kd.S_mono HO_7.out (fun k_ hk => ⟨trivial, fun e_ => hk.2 e_⟩))); (case aS => exact (keep_size (w := w) (g := g) (row := none) (by repeat (first | (with_reducible first | exact HK.out | apply KeepBut.set_ | apply keep_drewN | apply keep_drew | apply keep_alloc) | exact HK.out)))); (case aL => have := LMc19.out; omega); intro v122 w24 ho hb hg hat; rw [← Ny121.out] at ho; have n0_ := Aside0.mk (IsS113.grown (by repeat (first | (with_reducible first | exact HI0.out | apply IsS113.alloc | apply IsS113.drewN | apply IsS113.drew | apply IsS113.set_1) | exact HI0.out)) hg (IsS113.own_neS HI0.out HO_7.out (by decide))); have n1_ := Aside0.mk (below_weaken (by repeat (first | (with_reducible first | exact HB.out | apply below_alloc | apply pw_below_drewN | apply below_drew1 | refine below_set ?_ (IsS113.ge HI0.out)) | exact HB.out)) HL.out hb); have n2_ := Aside0.mk (KeepBut.trans (by repeat (first | (with_reducible first | exact HK.out | apply KeepBut.set_ | apply keep_drewN | apply keep_drew | apply keep_alloc) | exact HK.out)) (KeepBut.of_grown hg g) (Kd.S_base2 HO_7.out)); have n3_ := Aside0.mk (ho); clear HI0; clear HB; clear HK; clear HO_7; clear HO120; have HI0 := n0_; have HB := n1_; have HK := n2_; have HO123 := n3_; clear n0_ n1_ n2_ n3_; clear ho hb hg hat))
         go_roundg k2
         case measure => have := HK1.out; have := HK2.out; omega
         case rel => exact ⟨(y121), H', ⟨by have := HK1.out; have := HK2.out; omega⟩, ⟨by (with_reducible repeat (first | apply Kd.S_alloc | apply Kd.S_drewN | apply Kd.S_drew)); exact HO123.out⟩, ⟨by repeat (first | (with_reducible first | exact HI0.out | apply IsS113.alloc | apply IsS113.drewN | apply IsS113.drew | apply IsS113.set_1) | exact HI0.out)⟩, ⟨by repeat (first | (with_reducible first | exact HK.out | apply KeepBut.set_ | apply keep_drewN | apply keep_drew | apply keep_alloc) | exact HK.out)⟩, ⟨by repeat (first | (with_reducible first | exact HB.out | apply below_alloc | apply pw_below_drewN | apply below_drew1 | refine below_set ?_ (IsS113.ge HI0.out)) | exact HB.out)⟩⟩
        ·rw [if_neg c19] at H
         exact absurd H (by simp)
       ·rw [if_neg c18] at H
        have c18b0 : decide ((x7_2.length : Int) < 7) = false := decide_eq_false c18
        have c18b1 : decide (x7_2.length < 7) = false := decide_eq_false (by omega)
        clear c18
        simp only [Option.some.injEq, Prod.mk.injEq] at H
        obtain ⟨rfl, rfl, rfl⟩ := H
        obtain ⟨Ao25, co25, eo25⟩ := Kd.S_slice HO_7.out
        subst eo25
        go_wp2
        go_ret2
        exact ⟨_, by first | rfl | (simp [errW_none, errW_some] <;> rfl) | (simp [*, errW_none, errW_some] <;> rfl), by (with_reducible repeat (first | apply Kd.S_alloc | apply Kd.S_drewN | apply Kd.S_drew)); exact HO_7.out, by repeat (first | (with_reducible first | exact HI0.out | apply IsS113.alloc | apply IsS113.drewN | apply IsS113.drew | apply IsS113.set_1) | exact HI0.out), by repeat (first | (with_reducible first | exact HB.out | apply below_alloc | apply pw_below_drewN | apply below_drew1 | refine below_set ?_ (IsS113.ge HI0.out)) | exact HB.out), by repeat (first | (with_reducible first | exact HK.out | apply KeepBut.set_ | apply keep_drewN | apply keep_drew | apply keep_alloc) | exact HK.out)⟩
    ·replace c16 := Bool.eq_false_iff.mpr c16
     subst c16
     have H1 : (some ((wrap64 (1 + t101)), x7_1, t117)) = some (r1, r2, r3) := by rw [if_neg (show ¬ (false = true) by decide)] at H; exact H
     clear H
     have H := H1
     clear H1
     simp only [Option.some.injEq, Prod.mk.injEq] at H
     obtain ⟨rfl, rfl, rfl⟩ := H
     go_wp2_with (first | ((with_reducible refine gate_callee (f := 139) rfl ?_); refine goesL_ (some 29) rfl rfl Try.func139 (by kernel_rfl) rfl #[.pointer (some ⟨g, 0, none⟩), .int .i64 a1] rfl (by (try simp only [List.map_toArray, List.map_cons, List.map_nil]); first | done | rfl | (simp only [List.length_drop, List.length_take]; rfl)) ?_; (with_reducible refine (spec_l20Rd_odd.calls k1 g s0_0 x1001_1 a1 false t117 w0 _ ?side1 ?side2 A15.out).mono ?_); (case side1 => repeat (first | (with_reducible first | exact HI0.out | apply IsS113.alloc | apply IsS113.drewN | apply IsS113.drew | apply IsS113.set_1) | exact HI0.out)); (case side2 => repeat (first | (with_reducible first | exact HB.out | apply below_alloc | apply pw_below_drewN | apply below_drew1 | refine below_set ?_ (IsS113.ge HI0.out)) | exact HB.out)); rintro e w26 ⟨rfl, hi, hb, hk⟩; refine ⟨_, rfl, ?_⟩; have n0_ := Aside0.mk (Kd.S_mono (Kd.S_keep (IsS113.apartS (show IsS113 w0 _ g s0_0 x1001_1 from by repeat (first | (with_reducible first | exact HI0.out | apply IsS113.alloc | apply IsS113.drewN | apply IsS113.drew | apply IsS113.set_1) | exact HI0.out)) (by (with_reducible repeat (first | apply Kd.S_alloc | apply Kd.S_drewN | apply Kd.S_drew)); exact HO_7.out) (by decide)) hk (fun _ h => h.2)) (fun _ h => h.1)); have n1_ := Aside0.mk (KeepBut.trans (by repeat (first | (with_reducible first | exact HK.out | apply KeepBut.set_ | apply keep_drewN | apply keep_drew | apply keep_alloc) | exact HK.out)) hk (.inl rfl)); have n2_ := Aside0.mk (hb); have n3_ := Aside0.mk (hi); clear HO_7; clear HK; clear HB; clear HI0; have HO_7 := n0_; have HK := n1_; have HB := n2_; have HI0 := n3_; clear n0_ n1_ n2_ n3_; (try clear hb); (try clear hb2); (try clear hk); (try clear hi)))
     go_ret2
     exact ⟨_, by first | rfl | (simp [errW_none, errW_some] <;> rfl) | (simp [*, errW_none, errW_some] <;> rfl), by (with_reducible repeat (first | apply Kd.S_alloc | apply Kd.S_drewN | apply Kd.S_drew)); exact HO_7.out, by repeat (first | (with_reducible first | exact HI0.out | apply IsS113.alloc | apply IsS113.drewN | apply IsS113.drew | apply IsS113.set_1) | exact HI0.out), by repeat (first | (with_reducible first | exact HB.out | apply below_alloc | apply pw_below_drewN | apply below_drew1 | refine below_set ?_ (IsS113.ge HI0.out)) | exact HB.out), by repeat (first | (with_reducible first | exact HK.out | apply KeepBut.set_ | apply keep_drewN | apply keep_drew | apply keep_alloc) | exact HK.out)⟩
/-! ### spec_DrawOnlyWorld: function 90 -/
def spec_DrawOnlyWorld.f (k : Nat) (l0 : List Int) : Option (Int × (List (S36))) := (spec_l20Open.f l0).bind fun bt101 => ((spec_l20Story.f k bt101.1 bt101.2 12).bind fun bt104 => (some (bt104.1, bt104.2.1)))
theorem spec_DrawOnlyWorld.mono : ∀ a0 k, LeO (spec_DrawOnlyWorld.f k a0) (spec_DrawOnlyWorld.f (k + 1) a0) := by
 intro a0 k
 unfold spec_DrawOnlyWorld.f
 repeat' first
   | (with_reducible exact spec_l20Story.mono _ _ _ _)
   | (with_reducible exact LeO.refl _)
   | (with_reducible exact LeO.none _)
   | (with_reducible refine LeO.ite ?_ ?_)
   | (with_reducible refine LeO.bind ?_ (fun _ => ?_))
   | exact spec_l20Story.mono _ _ _ _
   | exact LeO.none _
   | refine LeO.ite ?_ ?_
   | refine LeO.bind ?_ (fun _ => ?_)
set_option maxHeartbeats 8000000 in
set_option maxRecDepth 100000 in
theorem spec_DrawOnlyWorld.calls (k : Nat) (A0 : Option Addr) (c0 : Nat) (l0 : List Int) (r1 : Int) (r2 : List (S36)) (w : World) (hr0 : Kd.C (Kd.int .u8) w A0 l0.length l0) (hc0 : l0.length ≤ c0) (h : spec_DrawOnlyWorld.f k l0 = some (r1, r2)) :
  Calls Try.prog 90 #[.slice A0 l0.length c0] w fun e w' => ∃ v1_ : Value, e = .returned (.tuple #[.int .i64 r1, v1_]) ∧ Kd.S k36 36 w' w.heap.size (fun _ => True) v1_ r2 ∧ Below w.heap.size w w' := by
 have HR0 := Aside0.mk hr0
 have HC0 := Aside0.mk hc0
 clear hr0 hc0
 have HB := Aside0.mk (Below.refl w.heap.size w)
 have H : ((spec_l20Open.f l0).bind fun bt101 => ((spec_l20Story.f k bt101.1 bt101.2 12).bind fun bt104 => (some (bt104.1, bt104.2.1)))) = some (r1, r2) := h
 clear h
 replace H := Option.bind_eq_some_iff.mp H
 obtain ⟨⟨t101, t102⟩, A20, H⟩ := H
 replace H : ((spec_l20Story.f k t101 t102 12).bind fun bt104 => (some (bt104.1, bt104.2.1))) = some (r1, r2) := H
 have A2 := Aside0.mk A20
 clear A20
 replace H := Option.bind_eq_some_iff.mp H
 obtain ⟨⟨t104, t105, t108⟩, A30, H⟩ := H
 replace H : (some (t104, t105)) = some (r1, r2) := H
 have A3 := Aside0.mk A30
 clear A30
 simp only [Option.some.injEq, Prod.mk.injEq] at H
 obtain ⟨rfl, rfl⟩ := H
 go_enter Try.func90, Try.ntmps90
 go_wp2_with (first | ((with_reducible refine gate_callee (f := 97) rfl ?_); refine goesL_ (some 5) rfl rfl Try.func97 (by kernel_rfl) rfl #[.slice A0 l0.length c0] rfl (by (try simp only [List.map_toArray, List.map_cons, List.map_nil]); first | done | rfl | (simp only [List.length_drop, List.length_take]; rfl)) ?_; (with_reducible refine (spec_l20Open.calls _ _ l0 t101 t102 w _ ?side1 ?side2 ?side3 A2.out).mono ?_); (case side1 => repeat (first | (with_reducible first | exact HB.out | apply below_alloc | apply pw_below_drewN | apply below_drew1) | exact HB.out)); (case side2 => exact HR0.out); (case side3 => exact HC0.out); rintro e w4 ⟨g103, rfl, hi, hb, hb2⟩; refine ⟨_, rfl, ?_⟩; have n0_ := Aside0.mk (hb); have n1_ := Aside0.mk (hi); clear HB; have HB := n0_; have HI103 := n1_; clear n0_ n1_; (try clear hb); (try clear hb2); (try clear hk); (try clear hi)) | ((with_reducible refine gate_callee (f := 96) rfl ?_); refine goesL_ (some 6) rfl rfl Try.func96 (by kernel_rfl) rfl #[.pointer (some ⟨g103, 0, none⟩), .int .i64 12] rfl (by (try simp only [List.map_toArray, List.map_cons, List.map_nil]); first | done | rfl | (simp only [List.length_drop, List.length_take]; rfl)) ?_; (with_reducible refine (spec_l20Story.calls k g103 t101 t102 12 t104 t105 t108 w _ ?side1 ?side2 A3.out).mono ?_); (case side1 => repeat (first | (with_reducible first | exact HI103.out | apply IsS113.alloc | apply IsS113.drewN | apply IsS113.drew | apply IsS113.set_1) | exact HI103.out)); (case side2 => repeat (first | (with_reducible first | exact HB.out | apply below_alloc | apply pw_below_drewN | apply below_drew1 | refine below_set ?_ (IsS113.ge HI103.out)) | exact HB.out)); rintro e w5 ⟨v106, rfl, ho0, hi, hb, hk⟩; refine ⟨_, rfl, ?_⟩; have n0_ := Aside0.mk (Kd.S_lower ho0 (below_size (by repeat (first | (with_reducible first | exact HB.out | apply below_alloc | apply pw_below_drewN | apply below_drew1 | refine below_set ?_ (IsS113.ge HI103.out)) | exact HB.out)))); have n1_ := Aside0.mk (hb); have n2_ := Aside0.mk (hi); clear HB; clear HI103; have HO107 := n0_; have HB := n1_; have HI103 := n2_; clear n0_ n1_ n2_; (try clear hb); (try clear hb2); (try clear hk); (try clear hi); (try clear ho0)))
 go_ret2
 exact ⟨_, by first | rfl | (simp [errW_none, errW_some] <;> rfl) | (simp [*, errW_none, errW_some] <;> rfl), by (with_reducible repeat (first | apply Kd.S_alloc | apply Kd.S_drewN | apply Kd.S_drew)); exact HO107.out, by repeat (first | (with_reducible first | exact HB.out | apply below_alloc | apply pw_below_drewN | apply below_drew1 | refine below_set ?_ (IsS113.ge HI103.out)) | exact HB.out)⟩
/-! ### laws_FnOnlyWorld: function 19 -/
mutual
def laws_FnOnlyWorld.j0 : Nat → Int → List (S36) → Int → Bool → Bool → Option (Bool)
 | 0, _, _, _, _, _ => none
 | k + 1, x3, x4, x5, x6, x42 => if x42 = true then (some false) else ((impl_KnownPeople.f k x3 x4).bind fun t109 => (laws_FnOnlyWorld.l0 k x3 x4 x5 x6 t109 (decide ((t109.length : Int) > 0)) 0))
def laws_FnOnlyWorld.l0 : Nat → Int → List (S36) → Int → Bool → List Int → Bool → Int → Option (Bool)
 | 0, _, _, _, _, _, _, _ => none
 | k + 1, x3, x4, x5, x6, x9, x10, x11 => if x11 < (x9.length : Int) then (if x10 = true then (if 0 ≤ x11 then (laws_FnOnlyWorld.l0 k x3 x4 x5 x6 x9 (decide ((rd x9 x11) ≥ 0)) (wrap64 (x11 + 1))) else (none)) else (laws_FnOnlyWorld.l0 k x3 x4 x5 x6 x9 false (wrap64 (x11 + 1)))) else (if x6 = true then (laws_FnOnlyWorld.l1 k x3 x4 x5 x10 0) else (if x5 = (-1) then (if x10 = true then (some false) else ((laws_alive.f).bind fun t113 => (some t113))) else (some false)))
def laws_FnOnlyWorld.l1 : Nat → Int → List (S36) → Int → Bool → Int → Option (Bool)
 | 0, _, _, _, _, _ => none
 | k + 1, x3, x4, x5, x10, x12 => if 0 ≤ x3 then (if x12 < (shl .i64 1 x3) then (laws_FnOnlyWorld.l2 k x3 x4 x5 x10 x12 true 0) else (some x10)) else (none)
def laws_FnOnlyWorld.l2 : Nat → Int → List (S36) → Int → Bool → Int → Bool → Int → Option (Bool)
 | 0, _, _, _, _, _, _, _ => none
 | k + 1, x3, x4, x5, x10, x12, x13, x14 => if x14 < (x4.length : Int) then (if x13 = true then (if 0 ≤ x14 then ((impl_MaySay.f k x3 ((rd_T36 x4 x14).f0) ((rd_T36 x4 x14).f1) x12).bind fun t115 => (laws_FnOnlyWorld.l2 k x3 x4 x5 x10 x12 t115 (wrap64 (x14 + 1)))) else (none)) else (laws_FnOnlyWorld.l2 k x3 x4 x5 x10 x12 false (wrap64 (x14 + 1)))) else (if (x13 != (x12 == x5)) = true then (some false) else (laws_FnOnlyWorld.l1 k x3 x4 x5 x10 (wrap64 (x12 + 1))))
end
def laws_FnOnlyWorld.f (k : Nat) (l0 : List Int) : Option (Bool) := if (l0.length : Int) > 1048576 then (some true) else ((spec_DrawOnlyWorld.f k l0).bind fun bt101 => ((impl_OnlyWorld.f k bt101.1 bt101.2).bind fun bt105 => ((spec_OnlyWorld.f k bt101.1 bt101.2).bind fun bt107 => (if bt105.1 = bt107.1 then (laws_FnOnlyWorld.j0 k bt101.1 bt101.2 bt105.1 bt105.2 (bt105.2 != bt107.2)) else (laws_FnOnlyWorld.j0 k bt101.1 bt101.2 bt105.1 bt105.2 true)))))
theorem laws_FnOnlyWorld.mono_l : ∀ k, (∀ y0 y1 y2 y3 y4, LeO (laws_FnOnlyWorld.j0 k y0 y1 y2 y3 y4) (laws_FnOnlyWorld.j0 (k + 1) y0 y1 y2 y3 y4)) ∧ (∀ y0 y1 y2 y3 y4 y5 y6, LeO (laws_FnOnlyWorld.l0 k y0 y1 y2 y3 y4 y5 y6) (laws_FnOnlyWorld.l0 (k + 1) y0 y1 y2 y3 y4 y5 y6)) ∧ (∀ y0 y1 y2 y3 y4, LeO (laws_FnOnlyWorld.l1 k y0 y1 y2 y3 y4) (laws_FnOnlyWorld.l1 (k + 1) y0 y1 y2 y3 y4)) ∧ (∀ y0 y1 y2 y3 y4 y5 y6, LeO (laws_FnOnlyWorld.l2 k y0 y1 y2 y3 y4 y5 y6) (laws_FnOnlyWorld.l2 (k + 1) y0 y1 y2 y3 y4 y5 y6))
 | 0 => ⟨fun _ _ _ _ _ r h => by simp [laws_FnOnlyWorld.j0] at h, fun _ _ _ _ _ _ _ r h => by simp [laws_FnOnlyWorld.l0] at h, fun _ _ _ _ _ r h => by simp [laws_FnOnlyWorld.l1] at h, fun _ _ _ _ _ _ _ r h => by simp [laws_FnOnlyWorld.l2] at h⟩
 | k + 1 => by
  obtain ⟨ih0, ih1, ih2, ih3⟩ := laws_FnOnlyWorld.mono_l k
  refine ⟨?_, ?_, ?_, ?_⟩
  ·intro y0 y1 y2 y3 y4
   unfold laws_FnOnlyWorld.j0
   repeat' first
   | (with_reducible exact ih0 _ _ _ _ _)
   | (with_reducible exact ih1 _ _ _ _ _ _ _)
   | (with_reducible exact ih2 _ _ _ _ _)
   | (with_reducible exact ih3 _ _ _ _ _ _ _)
   | (with_reducible exact impl_KnownPeople.mono _ _ _)
   | (with_reducible exact impl_MaySay.mono _ _ _ _ _)
   | (with_reducible exact impl_OnlyWorld.mono _ _ _)
   | (with_reducible exact spec_DrawOnlyWorld.mono _ _)
   | (with_reducible exact spec_OnlyWorld.mono _ _ _)
   | (with_reducible exact LeO.refl _)
   | (with_reducible exact LeO.none _)
   | (with_reducible refine LeO.ite ?_ ?_)
   | (with_reducible refine LeO.bind ?_ (fun _ => ?_))
   | exact ih0 _ _ _ _ _
   | exact ih1 _ _ _ _ _ _ _
   | exact ih2 _ _ _ _ _
   | exact ih3 _ _ _ _ _ _ _
   | exact impl_KnownPeople.mono _ _ _
   | exact impl_MaySay.mono _ _ _ _ _
   | exact impl_OnlyWorld.mono _ _ _
   | exact spec_DrawOnlyWorld.mono _ _
   | exact spec_OnlyWorld.mono _ _ _
   | exact LeO.none _
   | refine LeO.ite ?_ ?_
   | refine LeO.bind ?_ (fun _ => ?_)
  ·intro y0 y1 y2 y3 y4 y5 y6
   unfold laws_FnOnlyWorld.l0
   repeat' first
   | (with_reducible exact ih0 _ _ _ _ _)
   | (with_reducible exact ih1 _ _ _ _ _ _ _)
   | (with_reducible exact ih2 _ _ _ _ _)
   | (with_reducible exact ih3 _ _ _ _ _ _ _)
   | (with_reducible exact impl_KnownPeople.mono _ _ _)
   | (with_reducible exact impl_MaySay.mono _ _ _ _ _)
   | (with_reducible exact impl_OnlyWorld.mono _ _ _)
   | (with_reducible exact spec_DrawOnlyWorld.mono _ _)
   | (with_reducible exact spec_OnlyWorld.mono _ _ _)
   | (with_reducible exact LeO.refl _)
   | (with_reducible exact LeO.none _)
   | (with_reducible refine LeO.ite ?_ ?_)
   | (with_reducible refine LeO.bind ?_ (fun _ => ?_))
   | exact ih0 _ _ _ _ _
   | exact ih1 _ _ _ _ _ _ _
   | exact ih2 _ _ _ _ _
   | exact ih3 _ _ _ _ _ _ _
   | exact impl_KnownPeople.mono _ _ _
   | exact impl_MaySay.mono _ _ _ _ _
   | exact impl_OnlyWorld.mono _ _ _
   | exact spec_DrawOnlyWorld.mono _ _
   | exact spec_OnlyWorld.mono _ _ _
   | exact LeO.none _
   | refine LeO.ite ?_ ?_
   | refine LeO.bind ?_ (fun _ => ?_)
  ·intro y0 y1 y2 y3 y4
   unfold laws_FnOnlyWorld.l1
   repeat' first
   | (with_reducible exact ih0 _ _ _ _ _)
   | (with_reducible exact ih1 _ _ _ _ _ _ _)
   | (with_reducible exact ih2 _ _ _ _ _)
   | (with_reducible exact ih3 _ _ _ _ _ _ _)
   | (with_reducible exact impl_KnownPeople.mono _ _ _)
   | (with_reducible exact impl_MaySay.mono _ _ _ _ _)
   | (with_reducible exact impl_OnlyWorld.mono _ _ _)
   | (with_reducible exact spec_DrawOnlyWorld.mono _ _)
   | (with_reducible exact spec_OnlyWorld.mono _ _ _)
   | (with_reducible exact LeO.refl _)
   | (with_reducible exact LeO.none _)
   | (with_reducible refine LeO.ite ?_ ?_)
   | (with_reducible refine LeO.bind ?_ (fun _ => ?_))
   | exact ih0 _ _ _ _ _
   | exact ih1 _ _ _ _ _ _ _
   | exact ih2 _ _ _ _ _
   | exact ih3 _ _ _ _ _ _ _
   | exact impl_KnownPeople.mono _ _ _
   | exact impl_MaySay.mono _ _ _ _ _
   | exact impl_OnlyWorld.mono _ _ _
   | exact spec_DrawOnlyWorld.mono _ _
   | exact spec_OnlyWorld.mono _ _ _
   | exact LeO.none _
   | refine LeO.ite ?_ ?_
   | refine LeO.bind ?_ (fun _ => ?_)
  ·intro y0 y1 y2 y3 y4 y5 y6
   unfold laws_FnOnlyWorld.l2
   repeat' first
   | (with_reducible exact ih0 _ _ _ _ _)
   | (with_reducible exact ih1 _ _ _ _ _ _ _)
   | (with_reducible exact ih2 _ _ _ _ _)
   | (with_reducible exact ih3 _ _ _ _ _ _ _)
   | (with_reducible exact impl_KnownPeople.mono _ _ _)
   | (with_reducible exact impl_MaySay.mono _ _ _ _ _)
   | (with_reducible exact impl_OnlyWorld.mono _ _ _)
   | (with_reducible exact spec_DrawOnlyWorld.mono _ _)
   | (with_reducible exact spec_OnlyWorld.mono _ _ _)
   | (with_reducible exact LeO.refl _)
   | (with_reducible exact LeO.none _)
   | (with_reducible refine LeO.ite ?_ ?_)
   | (with_reducible refine LeO.bind ?_ (fun _ => ?_))
   | exact ih0 _ _ _ _ _
   | exact ih1 _ _ _ _ _ _ _
   | exact ih2 _ _ _ _ _
   | exact ih3 _ _ _ _ _ _ _
   | exact impl_KnownPeople.mono _ _ _
   | exact impl_MaySay.mono _ _ _ _ _
   | exact impl_OnlyWorld.mono _ _ _
   | exact spec_DrawOnlyWorld.mono _ _
   | exact spec_OnlyWorld.mono _ _ _
   | exact LeO.none _
   | refine LeO.ite ?_ ?_
   | refine LeO.bind ?_ (fun _ => ?_)
theorem laws_FnOnlyWorld.mono : ∀ a0 k, LeO (laws_FnOnlyWorld.f k a0) (laws_FnOnlyWorld.f (k + 1) a0) := by
 intro a0 k
 obtain ⟨ih0, ih1, ih2, ih3⟩ := laws_FnOnlyWorld.mono_l k
 unfold laws_FnOnlyWorld.f
 repeat' first
   | (with_reducible exact ih0 _ _ _ _ _)
   | (with_reducible exact ih1 _ _ _ _ _ _ _)
   | (with_reducible exact ih2 _ _ _ _ _)
   | (with_reducible exact ih3 _ _ _ _ _ _ _)
   | (with_reducible exact impl_KnownPeople.mono _ _ _)
   | (with_reducible exact impl_MaySay.mono _ _ _ _ _)
   | (with_reducible exact impl_OnlyWorld.mono _ _ _)
   | (with_reducible exact spec_DrawOnlyWorld.mono _ _)
   | (with_reducible exact spec_OnlyWorld.mono _ _ _)
   | (with_reducible exact LeO.refl _)
   | (with_reducible exact LeO.none _)
   | (with_reducible refine LeO.ite ?_ ?_)
   | (with_reducible refine LeO.bind ?_ (fun _ => ?_))
   | exact ih0 _ _ _ _ _
   | exact ih1 _ _ _ _ _ _ _
   | exact ih2 _ _ _ _ _
   | exact ih3 _ _ _ _ _ _ _
   | exact impl_KnownPeople.mono _ _ _
   | exact impl_MaySay.mono _ _ _ _ _
   | exact impl_OnlyWorld.mono _ _ _
   | exact spec_DrawOnlyWorld.mono _ _
   | exact spec_OnlyWorld.mono _ _ _
   | exact LeO.none _
   | refine LeO.ite ?_ ?_
   | refine LeO.bind ?_ (fun _ => ?_)
set_option maxHeartbeats 8000000 in
set_option maxRecDepth 100000 in
theorem laws_FnOnlyWorld.calls (k : Nat) (A0 : Option Addr) (c0 : Nat) (l0 : List Int) (r : Bool) (w : World) (hr0 : Kd.C (Kd.int .u8) w A0 l0.length l0) (hc0 : l0.length ≤ c0) (hr_ : Aside0 (r = true)) (h : laws_FnOnlyWorld.f k l0 = some r) :
  Calls Try.prog 19 #[.slice A0 l0.length c0] w fun e w' => e = .returned (.bool r) ∧ Below w.heap.size w w' := by
 have hu36 := Try.underlying36
 have HR0 := Aside0.mk hr0
 have HC0 := Aside0.mk hc0
 clear hr0 hc0
 have HB := Aside0.mk (Below.refl w.heap.size w)
 have H : (if (l0.length : Int) > 1048576 then (some true) else ((spec_DrawOnlyWorld.f k l0).bind fun bt101 => ((impl_OnlyWorld.f k bt101.1 bt101.2).bind fun bt105 => ((spec_OnlyWorld.f k bt101.1 bt101.2).bind fun bt107 => (if bt105.1 = bt107.1 then (laws_FnOnlyWorld.j0 k bt101.1 bt101.2 bt105.1 bt105.2 (bt105.2 != bt107.2)) else (laws_FnOnlyWorld.j0 k bt101.1 bt101.2 bt105.1 bt105.2 true)))))) = some r := h
 clear h
 by_cases c2 : (l0.length : Int) > 1048576
 ·rw [if_pos c2] at H
  have c2b0 : decide (1048576 < (l0.length : Int)) = true := decide_eq_true c2
  have c2b1 : decide (1048576 < l0.length) = true := decide_eq_true (by omega)
  clear c2
  obtain rfl := Option.some.inj H
  go_enter Try.func19, Try.ntmps19
  go_wp2
  go_ret
  exact ⟨by first | rfl | (simp [errW_none, errW_some] <;> rfl) | (simp [*, errW_none, errW_some] <;> rfl), by repeat (first | (with_reducible first | exact HB.out | apply below_alloc | apply pw_below_drewN | apply below_drew1) | exact HB.out)⟩
 ·rw [if_neg c2] at H
  have c2b0 : decide (1048576 < (l0.length : Int)) = false := decide_eq_false c2
  have c2b1 : decide (1048576 < l0.length) = false := decide_eq_false (by omega)
  clear c2
  replace H := Option.bind_eq_some_iff.mp H
  obtain ⟨⟨t101, t102⟩, A30, H⟩ := H
  replace H : ((impl_OnlyWorld.f k t101 t102).bind fun bt105 => ((spec_OnlyWorld.f k t101 t102).bind fun bt107 => (if bt105.1 = bt107.1 then (laws_FnOnlyWorld.j0 k t101 t102 bt105.1 bt105.2 (bt105.2 != bt107.2)) else (laws_FnOnlyWorld.j0 k t101 t102 bt105.1 bt105.2 true)))) = some r := H
  have A3 := Aside0.mk A30
  clear A30
  replace H := Option.bind_eq_some_iff.mp H
  obtain ⟨⟨t105, t106⟩, A40, H⟩ := H
  replace H : ((spec_OnlyWorld.f k t101 t102).bind fun bt107 => (if t105 = bt107.1 then (laws_FnOnlyWorld.j0 k t101 t102 t105 t106 (t106 != bt107.2)) else (laws_FnOnlyWorld.j0 k t101 t102 t105 t106 true))) = some r := H
  have A4 := Aside0.mk A40
  clear A40
  replace H := Option.bind_eq_some_iff.mp H
  obtain ⟨⟨t107, t108⟩, A50, H⟩ := H
  replace H : (if t105 = t107 then (laws_FnOnlyWorld.j0 k t101 t102 t105 t106 (t106 != t108)) else (laws_FnOnlyWorld.j0 k t101 t102 t105 t106 true)) = some r := H
  have A5 := Aside0.mk A50
  clear A50
  have HC6 := Aside0.mk H
  clear H
  go_enter Try.func19, Try.ntmps19
  go_upto_region 6 with (first | ((with_reducible refine gate_callee (f := 90) rfl ?_); refine goesL_ (some 20) rfl rfl Try.func90 (by kernel_rfl) rfl #[.slice A0 l0.length c0] rfl (by (try simp only [List.map_toArray, List.map_cons, List.map_nil]); first | done | rfl | (simp only [List.length_drop, List.length_take]; rfl)) ?_; (with_reducible refine (spec_DrawOnlyWorld.calls k _ _ l0 t101 t102 _ ?side1 ?side2 A3.out).mono ?_); (case side1 => repeat (first | exact HR0.out | (with_reducible refine Kd.C_alloc ?_ _) | (with_reducible refine Kd.C_drewN ?_ _) | (with_reducible refine Kd.C_drew ?_))); (case side2 => exact HC0.out); rintro e w7 ⟨v103, rfl, ho0, hb⟩; refine ⟨_, rfl, ?_⟩; have n0_ := Aside0.mk (Kd.S_lower ho0 (below_size (by repeat (first | (with_reducible first | exact HB.out | apply below_alloc | apply pw_below_drewN | apply below_drew1) | exact HB.out)))); have n1_ := Aside0.mk (below_step (by repeat (first | (with_reducible first | exact HB.out | apply below_alloc | apply pw_below_drewN | apply below_drew1) | exact HB.out)) hb); clear HB; have HO104 := n0_; have HB := n1_; clear n0_ n1_; (try clear hb); (try clear hb2); (try clear hk); (try clear hi); (try clear ho0); obtain ⟨Ao8, co8, eo8⟩ := Kd.S_slice HO104.out; subst eo8) | ((with_reducible refine gate_callee (f := 24) rfl ?_); refine goesL_ (some 26) rfl rfl Try.func24 (by kernel_rfl) rfl #[.int .i64 t101, .slice Ao8 t102.length co8] rfl (by (try simp only [List.map_toArray, List.map_cons, List.map_nil]); first | done | rfl | (simp only [List.length_drop, List.length_take]; rfl)) ?_; (with_reducible refine (impl_OnlyWorld.calls k t101 _ _ t102 t105 t106 _ ?side1 ?side2 A4.out).mono ?_); (case side1 => repeat (first | exact (Kd.S_reads' HO104.out).2.2 | (with_reducible refine Kd.C_alloc ?_ _) | (with_reducible refine Kd.C_drewN ?_ _) | (with_reducible refine Kd.C_drew ?_))); (case side2 => exact (Kd.S_reads' HO104.out).2.1); rintro e w9 ⟨rfl, hb⟩; refine ⟨_, rfl, ?_⟩; have n0_ := Aside0.mk (Kd.S_below (by (with_reducible repeat (first | apply Kd.S_alloc | apply Kd.S_drewN | apply Kd.S_drew)); exact HO104.out) hb); have n1_ := Aside0.mk (below_step (by repeat (first | (with_reducible first | exact HB.out | apply below_alloc | apply pw_below_drewN | apply below_drew1) | exact HB.out)) hb); clear HO104; clear HB; have HO104 := n0_; have HB := n1_; clear n0_ n1_; (try clear hb); (try clear hb2); (try clear hk); (try clear hi)) | ((with_reducible refine gate_callee (f := 83) rfl ?_); refine goesL_ (some 32) rfl rfl Try.func83 (by kernel_rfl) rfl #[.int .i64 t101, .slice Ao8 t102.length co8] rfl (by (try simp only [List.map_toArray, List.map_cons, List.map_nil]); first | done | rfl | (simp only [List.length_drop, List.length_take]; rfl)) ?_; (with_reducible refine (spec_OnlyWorld.calls k t101 _ _ t102 t107 t108 _ ?side1 ?side2 A5.out).mono ?_); (case side1 => repeat (first | exact (Kd.S_reads' HO104.out).2.2 | (with_reducible refine Kd.C_alloc ?_ _) | (with_reducible refine Kd.C_drewN ?_ _) | (with_reducible refine Kd.C_drew ?_))); (case side2 => exact (Kd.S_reads' HO104.out).2.1); rintro e w10 ⟨rfl, hb⟩; refine ⟨_, rfl, ?_⟩; have n0_ := Aside0.mk (Kd.S_below (by (with_reducible repeat (first | apply Kd.S_alloc | apply Kd.S_drewN | apply Kd.S_drew)); exact HO104.out) hb); have n1_ := Aside0.mk (below_step (by repeat (first | (with_reducible first | exact HB.out | apply below_alloc | apply pw_below_drewN | apply below_drew1) | exact HB.out)) hb); clear HO104; clear HB; have HO104 := n0_; have HB := n1_; clear n0_ n1_; (try clear hb); (try clear hb2); (try clear hk); (try clear hi)))
  (try simp only [Act.put, List.setIfInBounds_toArray, List.set_cons_zero, List.set_cons_succ])
  go_cut [42] (fun v42 wc => ∃ (kq : Nat) (x42_5 : Bool), v42 = .bool x42_5 ∧ Aside0 (laws_FnOnlyWorld.j0 kq t101 t102 t105 t106 x42_5 = some r) ∧ Aside0 (kq ≤ k) ∧ Aside0 (Kd.S k36 36 wc w.heap.size (fun _ => True) (.slice Ao8 t102.length co8) t102) ∧ Aside0 (Below w.heap.size w wc))
  case first =>
   have H := HC6.out
   clear HC6
   by_cases c11 : t105 = t107
   ·rw [if_pos c11] at H
    have c11b0 : (t105 == t107) = true := beq_iff_eq.mpr c11
    have c11b1 : (t105 != t107) = false := bne_eq_false_iff_eq.mpr c11
    clear c11
    (first | rw [c11b0] | (simp only [i64_w, i32_w]; rw [c11b0]) | skip)
    have H' := Aside0.mk H
    clear H
    go_wp2
    go_meet
    case rel => exact ⟨_, ((t106 != t108)), (by first | rfl | (simp; done) | (simp [*]; done)), H', ⟨by first | omega | exact Nat.le_refl _⟩, ⟨by (with_reducible repeat (first | apply Kd.S_alloc | apply Kd.S_drewN | apply Kd.S_drew)); exact HO104.out⟩, ⟨by repeat (first | (with_reducible first | exact HB.out | apply below_alloc | apply pw_below_drewN | apply below_drew1) | exact HB.out)⟩⟩
   ·rw [if_neg c11] at H
    have c11b0 : (t105 == t107) = false := beq_eq_false_iff_ne.mpr c11
    have c11b1 : (t105 != t107) = true := bne_iff_ne.mpr c11
    (first | rw [c11b0] | (simp only [i64_w, i32_w]; rw [c11b0]) | skip)
    have H' := Aside0.mk H
    clear H
    go_wp2
    go_meet
    case rel => exact ⟨_, (true), (by first | rfl | (simp; done) | (simp [*]; done)), H', ⟨by first | omega | exact Nat.le_refl _⟩, ⟨by (with_reducible repeat (first | apply Kd.S_alloc | apply Kd.S_drewN | apply Kd.S_drew)); exact HO104.out⟩, ⟨by repeat (first | (with_reducible first | exact HB.out | apply below_alloc | apply pw_below_drewN | apply below_drew1) | exact HB.out)⟩⟩
  case rest =>
   clear HC6
   try clear c1
   try clear c2
   try clear c2b0
   try clear c2b1
   try clear p2
   try clear c8
   try clear c9
   try clear c11
   try clear c11b0
   try clear c11b1
   obtain ⟨kq, x42_5, rfl, HA, HJ5, HO_4, HB⟩ := hcut
   cases kq with
   | zero => exact absurd HA.out (by simp [laws_FnOnlyWorld.j0])
   | succ kj5 =>
    have H := HA.out
    clear HA
    simp only [laws_FnOnlyWorld.j0] at H
    by_cases c12 : x42_5 = true
    ·subst c12
     have H1 : (some false) = some r := by rw [if_pos rfl] at H; exact H
     clear H
     have H := H1
     clear H1
     exact absurd ((Option.some.inj H).trans hr_.out) (by decide)
    ·replace c12 := Bool.eq_false_iff.mpr c12
     subst c12
     have H1 : ((impl_KnownPeople.f kj5 t101 t102).bind fun t109 => (laws_FnOnlyWorld.l0 kj5 t101 t102 t105 t106 t109 (decide ((t109.length : Int) > 0)) 0)) = some r := by rw [if_neg (show ¬ (false = true) by decide)] at H; exact H
     clear H
     have H := H1
     clear H1
     replace H := Option.bind_eq_some_iff.mp H
     obtain ⟨t109, A130, H⟩ := H
     replace H : (laws_FnOnlyWorld.l0 kj5 t101 t102 t105 t106 t109 (decide ((t109.length : Int) > 0)) 0) = some r := H
     have A13 := Aside0.mk A130
     clear A130
     have H' := Aside0.mk H
     clear H
     go_wp2_with (first | ((with_reducible refine gate_callee (f := 23) rfl ?_); refine goesL_ (some 45) rfl rfl Try.func23 (by kernel_rfl) rfl #[.int .i64 t101, .slice Ao8 t102.length co8] rfl (by (try simp only [List.map_toArray, List.map_cons, List.map_nil]); first | done | rfl | (simp only [List.length_drop, List.length_take]; rfl)) ?_; (with_reducible refine (impl_KnownPeople.calls kj5 t101 _ _ t102 t109 _ ?side1 ?side2 A13.out).mono ?_); (case side1 => repeat (first | exact (Kd.S_reads' HO_4.out).2.2 | (with_reducible refine Kd.C_alloc ?_ _) | (with_reducible refine Kd.C_drewN ?_ _) | (with_reducible refine Kd.C_drew ?_))); (case side2 => exact (Kd.S_reads' HO_4.out).2.1); rintro e w14 ⟨v110, rfl, ho0, hb⟩; refine ⟨_, rfl, ?_⟩; have n0_ := Aside0.mk (Kd.S_below (by (with_reducible repeat (first | apply Kd.S_alloc | apply Kd.S_drewN | apply Kd.S_drew)); exact HO_4.out) hb); have n1_ := Aside0.mk (Kd.R_lower ho0 (below_size (by repeat (first | (with_reducible first | exact HB.out | apply below_alloc | apply pw_below_drewN | apply below_drew1) | exact HB.out)))); have n2_ := Aside0.mk (below_step (by repeat (first | (with_reducible first | exact HB.out | apply below_alloc | apply pw_below_drewN | apply below_drew1) | exact HB.out)) hb); clear HO_4; clear HB; have HO_4 := n0_; have HO111 := n1_; have HB := n2_; clear n0_ n1_ n2_; (try clear hb); (try clear hb2); (try clear hk); (try clear hi); (try clear ho0); obtain ⟨Ao15, co15, eo15⟩ := Kd.R_slice HO111.out; subst eo15))
     go_loopg [10, 11] kj5 (fun kq v10 v11 w' => ∃ (x10_2 : Bool) (x11_2 : Int), v10 = .bool x10_2 ∧ v11 = .int .i64 x11_2 ∧ Aside0 (laws_FnOnlyWorld.l0 kq t101 t102 t105 t106 t109 x10_2 x11_2 = some r) ∧ Aside0 (kq ≤ kj5) ∧ Aside0 (Kd.S k36 36 w' w.heap.size (fun _ => True) (.slice Ao8 t102.length co8) t102) ∧ Aside0 (Kd.R (Kd.int .i64) 3 w' w.heap.size (fun _ => True) (.slice Ao15 t109.length co15) t109) ∧ Aside0 (Below w.heap.size w w'))
     case atStart => exact ⟨(decide ((t109.length : Int) > 0)), (0), (by first | rfl | (simp; done) | (simp [*]; done)), (by first | rfl | (simp; done) | (simp [*]; done)), H', ⟨Nat.le_refl _⟩, ⟨by (with_reducible repeat (first | apply Kd.S_alloc | apply Kd.S_drewN | apply Kd.S_drew)); exact HO_4.out⟩, ⟨by (with_reducible repeat (first | apply Kd.R_alloc | apply Kd.R_drewN | apply Kd.R_drew)); exact HO111.out⟩, ⟨by repeat (first | (with_reducible first | exact HB.out | apply below_alloc | apply pw_below_drewN | apply below_drew1) | exact HB.out)⟩⟩
     case round =>
      clear H'
      try clear c1
      try clear c2
      try clear c2b0
      try clear c2b1
      try clear p2
      try clear c8
      try clear c9
      try clear c11
      try clear c11b0
      try clear c11b1
      try clear c12
      try clear p2
      obtain ⟨x10_2, x11_2, rfl, rfl, HA, HK2, HO_4, HO_9, HB⟩ := hrel
      cases gk with
      | zero => exact absurd HA.out (by simp [laws_FnOnlyWorld.l0])
      | succ k2 =>
       have H := HA.out
       clear HA
       simp only [laws_FnOnlyWorld.l0] at H
       by_cases c16 : x11_2 < (t109.length : Int)
       ·rw [if_pos c16] at H
        have c16b0 : decide (x11_2 < (t109.length : Int)) = true := decide_eq_true c16
        clear c16
        by_cases c17 : x10_2 = true
        ·subst c17
         have H1 : (if 0 ≤ x11_2 then (laws_FnOnlyWorld.l0 k2 t101 t102 t105 t106 t109 (decide ((rd t109 x11_2) ≥ 0)) (wrap64 (x11_2 + 1))) else (none)) = some r := by rw [if_pos rfl] at H; exact H
         clear H
         have H := H1
         clear H1
         by_cases c18 : 0 ≤ x11_2
         ·rw [if_pos c18] at H
          have c18b0 : decide (0 ≤ x11_2) = true := decide_eq_true c18
          clear c18
          have H' := Aside0.mk H
          clear H
          have p112 : 0 ≤ (x11_2 : Int) := of_decide_eq_true (by first | (with_reducible assumption) | assumption)
          have q112 : x11_2 < (t109.length : Int) := of_decide_eq_true (by first | (with_reducible assumption) | assumption)
          obtain ⟨ad112, e112, hx112_0⟩ := Kd.at_int (Kd.R_reads' HO_9.out).2.2 x11_2 p112 q112
          cases e112
          replace p112 := eq_true p112
          replace q112 := eq_true q112
          go_wp2
          go_roundg k2
          case measure => have := HJ5.out; have := HK2.out; omega
          case rel => exact ⟨(decide ((rd t109 x11_2) ≥ 0)), (wrap64 (x11_2 + 1)), (by first | rfl | (simp; done) | (simp [*]; done)), (by first | rfl | (simp; done) | (simp [*]; done)), H', ⟨by have := HJ5.out; have := HK2.out; omega⟩, ⟨by (with_reducible repeat (first | apply Kd.S_alloc | apply Kd.S_drewN | apply Kd.S_drew)); exact HO_4.out⟩, ⟨by (with_reducible repeat (first | apply Kd.R_alloc | apply Kd.R_drewN | apply Kd.R_drew)); exact HO_9.out⟩, ⟨by repeat (first | (with_reducible first | exact HB.out | apply below_alloc | apply pw_below_drewN | apply below_drew1) | exact HB.out)⟩⟩
         ·rw [if_neg c18] at H
          exact absurd H (by simp)
        ·replace c17 := Bool.eq_false_iff.mpr c17
         subst c17
         have H1 : (laws_FnOnlyWorld.l0 k2 t101 t102 t105 t106 t109 false (wrap64 (x11_2 + 1))) = some r := by rw [if_neg (show ¬ (false = true) by decide)] at H; exact H
         clear H
         have H := H1
         clear H1
         have H' := Aside0.mk H
         clear H
         go_wp2
         go_roundg k2
         case measure => have := HJ5.out; have := HK2.out; omega
         case rel => exact ⟨(false), (wrap64 (x11_2 + 1)), (by first | rfl | (simp; done) | (simp [*]; done)), (by first | rfl | (simp; done) | (simp [*]; done)), H', ⟨by have := HJ5.out; have := HK2.out; omega⟩, ⟨by (with_reducible repeat (first | apply Kd.S_alloc | apply Kd.S_drewN | apply Kd.S_drew)); exact HO_4.out⟩, ⟨by (with_reducible repeat (first | apply Kd.R_alloc | apply Kd.R_drewN | apply Kd.R_drew)); exact HO_9.out⟩, ⟨by repeat (first | (with_reducible first | exact HB.out | apply below_alloc | apply pw_below_drewN | apply below_drew1) | exact HB.out)⟩⟩
       ·rw [if_neg c16] at H
        have c16b0 : decide (x11_2 < (t109.length : Int)) = false := decide_eq_false c16
        clear c16
        by_cases c19 : t106 = true
        ·subst c19
         have H1 : (laws_FnOnlyWorld.l1 k2 t101 t102 t105 x10_2 0) = some r := by rw [if_pos rfl] at H; exact H
         clear H
         have H := H1
         clear H1
         have H' := Aside0.mk H
         clear H
         go_wp2
         go_loopg [12] k2 (fun kq v12 w' => ∃ (x12_3 : Int), v12 = .int .i64 x12_3 ∧ Aside0 (laws_FnOnlyWorld.l1 kq t101 t102 t105 x10_2 x12_3 = some r) ∧ Aside0 (kq ≤ k2) ∧ Aside0 (Kd.S k36 36 w' w.heap.size (fun _ => True) (.slice Ao8 t102.length co8) t102) ∧ Aside0 (Below w.heap.size w w'))
         case atStart => exact ⟨(0), (by first | rfl | (simp; done) | (simp [*]; done)), H', ⟨Nat.le_refl _⟩, ⟨by (with_reducible repeat (first | apply Kd.S_alloc | apply Kd.S_drewN | apply Kd.S_drew)); exact HO_4.out⟩, ⟨by repeat (first | (with_reducible first | exact HB.out | apply below_alloc | apply pw_below_drewN | apply below_drew1) | exact HB.out)⟩⟩
         case round =>
          clear H'
          try clear c1
          try clear p1
          try clear q1
          try clear hx1
          try clear c2
          try clear c2b0
          try clear c2b1
          try clear p2
          try clear p6
          try clear c8
          try clear c9
          try clear c11
          try clear c11b0
          try clear c11b1
          try clear p11
          try clear q11
          try clear hx11
          try clear c12
          try clear c16
          try clear c16b0
          try clear c17
          try clear c18
          try clear c18b0
          try clear c19
          try clear hx112_0
          try clear p112
          try clear p2
          try clear q112
          obtain ⟨x12_3, rfl, HA, HK3, HO_4, HB⟩ := hrel
          cases gk with
          | zero => exact absurd HA.out (by simp [laws_FnOnlyWorld.l1])
          | succ k3 =>
           have H := HA.out
           clear HA
           simp only [laws_FnOnlyWorld.l1] at H
           by_cases c20 : 0 ≤ t101
           ·rw [if_pos c20] at H
            have c20b0 := eq_true c20
            have c20b1 : decide (0 ≤ t101) = true := decide_eq_true c20
            clear c20
            obtain ⟨ji21, hji21⟩ : ∃ j_ : Int, (shl .i64 1 t101) = j_ := ⟨_, rfl⟩
            replace H : (if x12_3 < (ji21) then (laws_FnOnlyWorld.l2 k3 t101 t102 t105 x10_2 x12_3 true 0) else (some x10_2)) = some r := by first | (rw [hji21] at H; exact H) | (simp only [hji21] at H ⊢; exact H)
            have hji21_ : (IntKind.i64.wrap (1 * 2 ^ min t101.toNat 64)) = ji21 := hji21
            have hji21z : t101 ≤ 64 → (IntKind.i64.wrap (1 * 2 ^ t101.toNat)) = ji21 := shl_small hji21
            have hji21u : (IntKind.i64.wrap (2 ^ min t101.toNat 64)) = ji21 := by have h_ := hji21_; rw [Int.one_mul] at h_; exact h_
            have hji21v : t101 ≤ 64 → (IntKind.i64.wrap (2 ^ t101.toNat)) = ji21 := fun hle_ => by have h_ := hji21z hle_; rw [Int.one_mul] at h_; exact h_
            have hji21y : (wrap64 (1 * 2 ^ min t101.toNat 64)) = ji21 := (i64_w _).symm.trans hji21_
            have hji21x : t101 ≤ 64 → (wrap64 (1 * 2 ^ t101.toNat)) = ji21 := fun h_ => (i64_w _).symm.trans (hji21z h_)
            by_cases c22 : x12_3 < (ji21)
            ·rw [if_pos c22] at H
             have c22b0 : decide (x12_3 < (ji21)) = true := decide_eq_true c22
             clear c22
             have H' := Aside0.mk H
             clear H
             go_wp2
             go_loopg [13, 14] k3 (fun kq v13 v14 w' => ∃ (x13_4 : Bool) (x14_4 : Int), v13 = .bool x13_4 ∧ v14 = .int .i64 x14_4 ∧ Aside0 (laws_FnOnlyWorld.l2 kq t101 t102 t105 x10_2 x12_3 x13_4 x14_4 = some r) ∧ Aside0 (kq ≤ k3) ∧ Aside0 (Kd.S k36 36 w' w.heap.size (fun _ => True) (.slice Ao8 t102.length co8) t102) ∧ Aside0 (Below w.heap.size w w'))
             case atStart => exact ⟨(true), (0), (by first | rfl | (simp; done) | (simp [*]; done)), (by first | rfl | (simp; done) | (simp [*]; done)), H', ⟨Nat.le_refl _⟩, ⟨by (with_reducible repeat (first | apply Kd.S_alloc | apply Kd.S_drewN | apply Kd.S_drew)); exact HO_4.out⟩, ⟨by repeat (first | (with_reducible first | exact HB.out | apply below_alloc | apply pw_below_drewN | apply below_drew1) | exact HB.out)⟩⟩
             case round =>
              clear H'
              try clear c1
              try clear p1
              try clear q1
              try clear hx1
              try clear c2
              try clear c2b0
              try clear c2b1
              try clear p2
              try clear p6
              try clear c8
              try clear c9
              try clear c11
              try clear c11b0
              try clear c11b1
              try clear p11
              try clear q11
              try clear hx11
              try clear c12
              try clear c16
              try clear c16b0
              try clear c17
              try clear c18
              try clear c18b0
              try clear c19
              try clear c20
              try clear c20b0
              try clear c20b1
              try clear c22
              try clear c22b0
              try clear hx112_0
              try clear p1
              try clear p11
              try clear p112
              try clear p2
              try clear p6
              try clear q1
              try clear q11
              try clear q112
              obtain ⟨x13_4, x14_4, rfl, rfl, HA, HK4, HO_4, HB⟩ := hrel
              cases gk with
              | zero => exact absurd HA.out (by simp [laws_FnOnlyWorld.l2])
              | succ k4 =>
               have H := HA.out
               clear HA
               simp only [laws_FnOnlyWorld.l2] at H
               by_cases c23 : x14_4 < (t102.length : Int)
               ·rw [if_pos c23] at H
                have c23b0 : decide (x14_4 < (t102.length : Int)) = true := decide_eq_true c23
                clear c23
                by_cases c24 : x13_4 = true
                ·subst c24
                 have H1 : (if 0 ≤ x14_4 then ((impl_MaySay.f k4 t101 ((rd_T36 t102 x14_4).f0) ((rd_T36 t102 x14_4).f1) x12_3).bind fun t115 => (laws_FnOnlyWorld.l2 k4 t101 t102 t105 x10_2 x12_3 t115 (wrap64 (x14_4 + 1)))) else (none)) = some r := by rw [if_pos rfl] at H; exact H
                 clear H
                 have H := H1
                 clear H1
                 by_cases c25 : 0 ≤ x14_4
                 ·rw [if_pos c25] at H
                  have c25b0 : decide (0 ≤ x14_4) = true := decide_eq_true c25
                  clear c25
                  replace H := Option.bind_eq_some_iff.mp H
                  obtain ⟨t115, A260, H⟩ := H
                  replace H : (laws_FnOnlyWorld.l2 k4 t101 t102 t105 x10_2 x12_3 t115 (wrap64 (x14_4 + 1))) = some r := H
                  have A26 := Aside0.mk A260
                  clear A260
                  have H' := Aside0.mk H
                  clear H
                  have p114 : 0 ≤ (x14_4 : Int) := of_decide_eq_true (by first | (with_reducible assumption) | assumption)
                  have q114 : x14_4 < (t102.length : Int) := of_decide_eq_true (by first | (with_reducible assumption) | assumption)
                  obtain ⟨ad114, A114_1, c114_1, e114, hx114_0, hx114_1, hl114_1, hi114_1⟩ := at_T36 (Kd.S_reads' HO_4.out).2.2 x14_4 p114 q114
                  cases e114
                  obtain ⟨ce114, hce114, hMe114, hcc114⟩ := Kd.S_get HO_4.out z36 x14_4 p114 (by first | exact q114 | exact of_decide_eq_true (by first | (with_reducible assumption) | assumption) | (have e_ := (Kd.S_reads' HO_4.out).1; omega))
                  obtain ⟨ve114_1, rfl, ge114_1⟩ := k36_openM hMe114
                  have hv114_1 := hcc114 1 _ rfl
                  rw [add_field _ _ 1 (by omega)] at hv114_1
                  replace hv114_1 := Option.some.inj (hv114_1.symm.trans hx114_1)
                  rw [hv114_1] at ge114_1
                  have HL114_1 := Aside0.mk (show Kd.R k33 33 _ _ _ _ ((rd_T36 t102 x14_4).f1) from ge114_1)
                  clear hv114_1 ge114_1
                  clear hcc114 hce114
                  have HR114_1 := Aside0.mk hi114_1
                  have HC114_1 := Aside0.mk hl114_1
                  clear hi114_1 hl114_1
                  replace p114 := eq_true p114
                  replace q114 := eq_true q114
                  go_wp2_with (first | (go_at_call 35; (with_reducible refine (impl_MaySay.calls k4 t101 ((rd_T36 t102 x14_4).f0) _ _ ((rd_T36 t102 x14_4).f1) x12_3 t115 _ ?side1 ?side2 A26.out).mono ?_); (case side1 => repeat (first | exact (by repeat (first | (with_reducible exact HR114_1.out) | (with_reducible refine Kd.C_alloc ?_ _) | (with_reducible refine Kd.C_drewN ?_ _) | (with_reducible refine Kd.C_drew ?_) | exact HR114_1.out)) | (with_reducible refine Kd.C_alloc ?_ _) | (with_reducible refine Kd.C_drewN ?_ _) | (with_reducible refine Kd.C_drew ?_))); (case side2 => exact HC114_1.out); rintro e w27 ⟨rfl, hb⟩; have n0_ := Aside0.mk (Kd.S_below (by (with_reducible repeat (first | apply Kd.S_alloc | apply Kd.S_drewN | apply Kd.S_drew)); exact HO_4.out) hb); have n1_ := Aside0.mk (Kd.R_below (by (with_reducible repeat (first | apply Kd.R_alloc | apply Kd.R_drewN | apply Kd.R_drew)); exact HL114_1.out) hb); have n2_ := Aside0.mk (Kd.C_below (by repeat (first | (with_reducible exact HR114_1.out) | (with_reducible refine Kd.C_alloc ?_ _) | (with_reducible refine Kd.C_drewN ?_ _) | (with_reducible refine Kd.C_drew ?_) | exact HR114_1.out)) hb); have n3_ := Aside0.mk (below_step (by repeat (first | (with_reducible first | exact HB.out | apply below_alloc | apply pw_below_drewN | apply below_drew1) | exact HB.out)) hb); clear HO_4; clear HL114_1; clear HR114_1; clear HB; have HO_4 := n0_; have HL114_1 := n1_; have HR114_1 := n2_; have HB := n3_; clear n0_ n1_ n2_ n3_; (try clear hb); (try clear hb2); (try clear hk); (try clear hi)))
                  go_roundg k4
                  case measure => have := HJ5.out; have := HK2.out; have := HK3.out; have := HK4.out; omega
                  case rel => exact ⟨(t115), (wrap64 (x14_4 + 1)), (by first | rfl | (simp; done) | (simp [*]; done)), (by first | rfl | (simp; done) | (simp [*]; done)), H', ⟨by have := HJ5.out; have := HK2.out; have := HK3.out; have := HK4.out; omega⟩, ⟨by (with_reducible repeat (first | apply Kd.S_alloc | apply Kd.S_drewN | apply Kd.S_drew)); exact HO_4.out⟩, ⟨by repeat (first | (with_reducible first | exact HB.out | apply below_alloc | apply pw_below_drewN | apply below_drew1) | exact HB.out)⟩⟩
                 ·rw [if_neg c25] at H
                  exact absurd H (by simp)
                ·replace c24 := Bool.eq_false_iff.mpr c24
                 subst c24
                 have H1 : (laws_FnOnlyWorld.l2 k4 t101 t102 t105 x10_2 x12_3 false (wrap64 (x14_4 + 1))) = some r := by rw [if_neg (show ¬ (false = true) by decide)] at H; exact H
                 clear H
                 have H := H1
                 clear H1
                 have H' := Aside0.mk H
                 clear H
                 go_wp2
                 go_roundg k4
                 case measure => have := HJ5.out; have := HK2.out; have := HK3.out; have := HK4.out; omega
                 case rel => exact ⟨(false), (wrap64 (x14_4 + 1)), (by first | rfl | (simp; done) | (simp [*]; done)), (by first | rfl | (simp; done) | (simp [*]; done)), H', ⟨by have := HJ5.out; have := HK2.out; have := HK3.out; have := HK4.out; omega⟩, ⟨by (with_reducible repeat (first | apply Kd.S_alloc | apply Kd.S_drewN | apply Kd.S_drew)); exact HO_4.out⟩, ⟨by repeat (first | (with_reducible first | exact HB.out | apply below_alloc | apply pw_below_drewN | apply below_drew1) | exact HB.out)⟩⟩
               ·rw [if_neg c23] at H
                have c23b0 : decide (x14_4 < (t102.length : Int)) = false := decide_eq_false c23
                clear c23
                by_cases c28 : (x13_4 != (x12_3 == t105)) = true
                ·rw [if_pos c28] at H
                 have c28b0 : (x13_4 != (x12_3 == t105)) = true := c28
                 (try (have c28b1 : decide (x13_4 = (x12_3 == t105)) = false := by simpa using c28))
                 (try (have c28b2 : (x13_4 == (x12_3 == t105)) = false := by simpa using c28))
                 (try (have c28b3 : ¬ (x13_4 = (x12_3 == t105)) := by simpa using c28))
                 clear c28
                 exact absurd ((Option.some.inj H).trans hr_.out) (by decide)
                ·rw [if_neg c28] at H
                 have c28b0 : (x13_4 != (x12_3 == t105)) = false := by simpa using c28
                 (try (have c28b1 : decide (x13_4 = (x12_3 == t105)) = true := by simpa using c28))
                 (try (have c28b2 : (x13_4 == (x12_3 == t105)) = true := by simpa using c28))
                 clear c28
                 have H' := Aside0.mk H
                 clear H
                 go_wp2
                 go_roundg k4
                 case measure => have := HJ5.out; have := HK2.out; have := HK3.out; have := HK4.out; omega
                 case rel => exact ⟨(wrap64 (x12_3 + 1)), (by first | rfl | (simp; done) | (simp [*]; done)), H', ⟨by have := HJ5.out; have := HK2.out; have := HK3.out; have := HK4.out; omega⟩, ⟨by (with_reducible repeat (first | apply Kd.S_alloc | apply Kd.S_drewN | apply Kd.S_drew)); exact HO_4.out⟩, ⟨by repeat (first | (with_reducible first | exact HB.out | apply below_alloc | apply pw_below_drewN | apply below_drew1) | exact HB.out)⟩⟩
            ·rw [if_neg c22] at H
             have c22b0 : decide (x12_3 < (ji21)) = false := decide_eq_false c22
             clear c22
             obtain rfl := Option.some.inj H
             go_wp2
             go_ret
             exact ⟨by first | rfl | (simp [errW_none, errW_some] <;> rfl) | (simp only [← hji21]; first | rfl | (simp [errW_none, errW_some] <;> rfl)) | (simp [*, errW_none, errW_some] <;> rfl), by repeat (first | (with_reducible first | exact HB.out | apply below_alloc | apply pw_below_drewN | apply below_drew1) | exact HB.out)⟩
           ·rw [if_neg c20] at H
            exact absurd H (by simp)
        ·replace c19 := Bool.eq_false_iff.mpr c19
         subst c19
         have H1 : (if t105 = (-1) then (if x10_2 = true then (some false) else ((laws_alive.f).bind fun t113 => (some t113))) else (some false)) = some r := by rw [if_neg (show ¬ (false = true) by decide)] at H; exact H
         clear H
         have H := H1
         clear H1
         by_cases c29 : t105 = (-1)
         ·rw [if_pos c29] at H
          have c29b0 : (t105 == (-1)) = true := beq_iff_eq.mpr c29
          have c29b1 : (t105 != (-1)) = false := bne_eq_false_iff_eq.mpr c29
          clear c29
          by_cases c30 : x10_2 = true
          ·subst c30
           have H1 : (some false) = some r := by rw [if_pos rfl] at H; exact H
           clear H
           have H := H1
           clear H1
           exact absurd ((Option.some.inj H).trans hr_.out) (by decide)
          ·replace c30 := Bool.eq_false_iff.mpr c30
           subst c30
           have H1 : ((laws_alive.f).bind fun t113 => (some t113)) = some r := by rw [if_neg (show ¬ (false = true) by decide)] at H; exact H
           clear H
           have H := H1
           clear H1
           replace H := Option.bind_eq_some_iff.mp H
           obtain ⟨t113, A310, H⟩ := H
           replace H : (some t113) = some r := H
           have A31 := Aside0.mk A310
           clear A310
           obtain rfl := Option.some.inj H
           go_wp2_with (first | (go_at_call 26; (with_reducible refine (laws_alive.calls  t113 _ A31.out).mono ?_); rintro e w' ⟨rfl, ⟨nd, rfl⟩⟩))
           go_ret
           exact ⟨by first | rfl | (simp [errW_none, errW_some] <;> rfl) | (simp [*, errW_none, errW_some] <;> rfl), by repeat (first | (with_reducible first | exact HB.out | apply below_alloc | apply pw_below_drewN | apply below_drew1) | exact HB.out)⟩
         ·rw [if_neg c29] at H
          have c29b0 : (t105 == (-1)) = false := beq_eq_false_iff_ne.mpr c29
          have c29b1 : (t105 != (-1)) = true := bne_iff_ne.mpr c29
          exact absurd ((Option.some.inj H).trans hr_.out) (by decide)

/-- THE ONE PURE STATEMENT of laws_FnOnlyWorld: yours. -/
def laws_FnOnlyWorld.Pure : Prop := ∀ (l0 : List Int), l0.length ≤ maxLen → l0.length * 1 ≤ 140737488351232 → (∀ x ∈ l0, (Lit.int .u8 x).wf = true) → ∃ k, laws_FnOnlyWorld.f k l0 = some true
theorem laws_FnOnlyWorld.walk (P : laws_FnOnlyWorld.Pure) (a0 : Option Addr) (len0 cap0 : Nat) (z0 : List Int) (w : World) (w0 : (a0 = none ∧ len0 = 0 ∧ cap0 = 0 ∧ z0 = []) ∨ ∃ x, a0 = some x ∧ len0 ≤ cap0 ∧ cap0 ≤ maxLen ∧ z0.length = cap0 ∧ (∀ i, i < z0.length → w.cell? (x.add i) = some (.int .u8 (z0.getD i 0))) ∧ ∀ n ∈ z0, (Lit.int .u8 n).wf = true) (y0 : len0 * 1 ≤ 140737488351232) :
  Calls Try.prog 19 #[.slice a0 len0 cap0] w fun e w' => e = .returned (.bool true) ∧ Below w.heap.size w w' := by
 obtain ⟨l0, rfl, hr0, hm0, hw0, hc0⟩ := ReadsInt.ofRowC w0
 obtain ⟨k, h⟩ := P l0 hm0 y0 hw0
 refine (laws_FnOnlyWorld.calls k _ _ l0 true w (Kd.C_of_reads (d := (0 : Int)) (h1 := fun _ => rfl) hr0) hc0 ⟨rfl⟩ h).mono ?_
 rintro e w' ⟨rfl, hd⟩
 exact ⟨rfl, hd⟩
end Go.Proofs.Ytpampekijfjlkab.X
/- Drawn claims. -/
namespace Go.Proofs.Ytpampekijfjlkab.L
open Go.RowKit Go.Proofs.Ytpampekijfjlkab.X Go.Proofs.YtpampekijfjlkabW.PrintWords Go.Proofs.YtpampekijfjlkabW.PrintLast Go.Proofs.YtpampekijfjlkabW.PrintMore
theorem l20Claim_ev {s : List Int} (hs : Rd s) {n : Int} (h0 : 0 ≤ n) (h1 : n ≤ 500000) (P m : Int) (hP : P ≤ 1000) (hm0 : -1000 ≤ m) (hm : m ≤ 400) :
  ∃ (i : Int) (t : List M) (n' : Int), Ev (fun k => spec_l20Claim.f k s n P m) (i, t, n') ∧ -1 ≤ i ∧ i ≤ 1000 ∧ t.length ≤ 16 ∧ Sm t ∧ n ≤ n' ∧ n' ≤ n + 100 := by
 have hmx : 1 ≤ mx P 1 ∧ mx P 1 ≤ 1000 := by unfold mx; split <;> omega
 obtain ⟨a, ha, ha0, ha1⟩ := pick_ev hs (p := n) (by omega) (by omega) (mx P 1) (by omega)
 have ha2 := ha1 (by omega)
 obtain ⟨t, p', ht, h2, h3, h4, h5⟩ := l20Term_ev hs (p := n + 1) (by omega) (by omega) P (m * 2) (by omega)
 obtain ⟨b, p2, hb, hb0, hb1⟩ := odd_ev hs (p := p') (by omega) (by omega) m (by omega)
 cases b with
 | false =>
  refine ⟨a, t, p2, ?_, by omega, by omega, h2, h3, by omega, by omega⟩
  unfold spec_l20Claim.f
  simp only [w64 (x := m * 2) (by omega) (by omega)]
  exact Ev.bind ha (Ev.bind ht (Ev.bind hb (Ev.no (by simp) (Ev.some _))))
 | true =>
  obtain ⟨c, hc, hc0, hc1⟩ := pick_ev hs (p := p2) (by omega) (by omega) 2 (by omega)
  have hc2 := hc1 (by omega)
  refine ⟨rd [-1, 4] c, t, p2 + 1, ?_, ?_, ?_, h2, h3, by omega, by omega⟩
  ·unfold spec_l20Claim.f
   simp only [w64 (x := m * 2) (by omega) (by omega), Option.bind_some]
   exact Ev.bind ha (Ev.bind ht (Ev.bind hb (Ev.yes rfl (Ev.bind hc (Ev.yes hc0 (Ev.yes (by simpa using hc2) (Ev.some _)))))))
  ·obtain rfl | rfl : c = 0 ∨ c = 1 := by omega
   ·decide
   ·decide
  ·obtain rfl | rfl : c = 0 ∨ c = 1 := by omega
   ·decide
   ·decide
/-- Claims with small terms. -/
def SmC (l : List S36) : Prop := ∀ c ∈ l, c.f1.length ≤ 16 ∧ Sm c.f1
theorem SmC.snoc {l : List S36} {c : S36} (h : SmC l) (h1 : c.f1.length ≤ 16) (h2 : Sm c.f1) : SmC (l ++ [c]) := by
 intro x hx
 rcases List.mem_append.1 hx with hx | hx
 ·exact h x hx
 ·rw [List.mem_singleton.1 hx]; exact ⟨h1, h2⟩
theorem story_l1 {s : List Int} (P n : Int) : ∀ (d : Nat) (l : List S36), l.length + d = 7 → SmC l → ∃ l' : List S36, Ev (fun k => spec_l20Story.l1 k P l s n) (P, l', n) ∧ l'.length ≤ 7 ∧ SmC l' := by
 intro d
 induction d with
 | zero =>
  intro l hl hs
  exact ⟨l, Ev.step (fun k => by simp only [spec_l20Story.l1]; rfl) (Ev.no (by omega) (Ev.some _)), by omega, hs⟩
 | succ d ih =>
  intro l hl hs
  obtain ⟨l', h1, h2, h3⟩ := ih (l ++ [⟨0, [⟨0, 0⟩]⟩]) (by simp; omega) (hs.snoc (by simp) (Sm.one (by simp)))
  exact ⟨l', Ev.step (fun k => by simp only [spec_l20Story.l1]; rfl) (Ev.yes (by omega) (Ev.yes (by omega) h1)), h2, h3⟩
theorem story_l0 {s : List Int} (hs : Rd s) (m P : Int) (hm0 : 0 ≤ m) (hm : m ≤ 100) (hP : P ≤ 1000) : ∀ (d : Nat) (l : List S36) (n : Int), l.length + d ≤ 6 → SmC l → 0 ≤ n → n ≤ 10000 - 200 * d →
  ∃ (l' : List S36) (n' : Int), Ev (fun k => spec_l20Story.l0 k m P l (d : Int) s n) (P, l', n') ∧ l'.length ≤ 7 ∧ SmC l' ∧ 0 ≤ n' ∧ n' ≤ 20000 := by
 intro d
 induction d with
 | zero =>
  intro l n hl hsm h0 h1
  obtain ⟨b, p1, hb, hp1, hp2⟩ := odd_ev hs h0 (by omega) m (by omega)
  cases b with
  | false => exact ⟨l, p1, Ev.step (fun k => by simp only [spec_l20Story.l0]; rfl) (Ev.no (by omega) (Ev.bind hb (Ev.no Bool.false_ne_true (Ev.some _)))), by omega, hsm, by omega, by omega⟩
  | true =>
   obtain ⟨l', h1', h2, h3⟩ := story_l1 (s := s) P p1 (7 - l.length) l (by omega) hsm
   exact ⟨l', p1, Ev.step (fun k => by simp only [spec_l20Story.l0]; rfl) (Ev.no (by omega) (Ev.bind hb (Ev.yes rfl h1'))), h2, h3, by omega, by omega⟩
 | succ d ih =>
  intro l n hl hsm h0 h1
  obtain ⟨i, t, n', hc, hi0, hi1, ht, hst, hn0, hn1⟩ := l20Claim_ev hs (n := n) h0 (by omega) P (m * 3) hP (by omega) (by omega)
  obtain ⟨l', n2, h1', h2, h3, h4, h5⟩ := ih (l ++ [⟨i, t⟩]) n' (by simp; omega) (hsm.snoc ht hst) (by omega) (by omega)
  refine ⟨l', n2, Ev.step (fun k => by simp only [spec_l20Story.l0]; rfl) ?_, h2, h3, h4, h5⟩
  rw [w64 (x := m * 3) (by omega) (by omega), w64 (by omega) (by omega), show (((d + 1 : Nat) : Int) - 1) = (d : Int) by omega]
  exact Ev.yes (by omega) (Ev.bind hc (Ev.yes (by omega) h1'))
theorem l20Story_ev {s : List Int} (hs : Rd s) (m : Int) (hm0 : 0 ≤ m) (hm : m ≤ 100) : ∃ (p : Int) (l : List S36) (n : Int), Ev (fun k => spec_l20Story.f k s 0 m) (p, l, n) ∧ 1 ≤ p ∧ p ≤ 4 ∧ l.length ≤ 7 ∧ SmC l ∧ 0 ≤ n ∧ n ≤ 20000 := by
 obtain ⟨a, ha, ha0, ha1⟩ := pick_ev hs (p := 0) (by omega) (by omega) 4 (by omega)
 have ha2 := ha1 (by omega)
 obtain ⟨b, hb, hb0, hb1⟩ := pick_ev hs (p := 0 + 1) (by omega) (by omega) 5 (by omega)
 have hb2 := hb1 (by omega)
 obtain ⟨d, rfl⟩ := Int.eq_ofNat_of_zero_le hb0
 obtain ⟨l, n, h1, h2, h3, h4, h5⟩ := story_l0 hs m (1 + a) hm0 hm (by omega) d [] (0 + 1 + 1) (by simp; omega) (fun c hc => by cases hc) (by omega) (by omega)
 refine ⟨1 + a, l, n, ?_, by omega, by omega, h2, h3, h4, h5⟩
 unfold spec_l20Story.f
 refine Ev.bind ha (Ev.bind hb ?_)
 simp only [w64 (x := 1 + a) (by omega) (by omega)]
 exact h1
theorem Tm.good_four {p : Int} (hp : p ≤ 4) : ∀ a : Tm, a.good p → a.good 4
 | .tell i, h => by have h' : (i : Int) < p := h; show (i : Int) < 4; omega
 | .cnt n, h => by have h' : (n : Int) ≤ p + 1 := h; show (n : Int) ≤ 4 + 1; omega
 | .neg a, h => good_four hp a h
 | .bin o a b, h => ⟨h.1, good_four hp a h.2.1, good_four hp b h.2.2⟩
open Classical in
/-- The tree of a row of marks. -/
noncomputable def tree (t : List M) : Tm := if h : ∃ a : Tm, a.good 4 ∧ t = a.post then Classical.choose h else .tell 0
theorem tree_post {a : Tm} (h : a.good 4) : (tree a.post).good 4 ∧ a.post = (tree a.post).post := by
 have h' : ∃ b : Tm, b.good 4 ∧ a.post = b.post := ⟨a, h, rfl⟩
 unfold tree
 rw [dif_pos h']
 exact Classical.choose_spec h'
/-- Whether a row of marks holds in a world. -/
noncomputable def hv (t : List M) (w : Nat) : Bool := (tree t).ev w
theorem hv_post {a : Tm} (h : a.good 4) (hl : a.post.length ≤ 500) {w : Nat} (hw : w < 16) : hv a.post w = a.ev w := by
 obtain ⟨h1, h2⟩ := tree_post h
 have e1 := impl_holds_ev (by decide) hw h hl
 have e2 := impl_holds_ev (by decide) hw h1 (by rw [← h2]; exact hl)
 rw [← h2] at e2
 exact Ev.uniq e2 e1
theorem tok_tree {p : Int} {t : List M} (h : tok p t = true) : ∃ a : Tm, a.good p ∧ t = a.post ∧ a.good 4 ∧ t.length ≤ 15 := by
 obtain ⟨a, h1, h2⟩ := parse h
 obtain ⟨_, h3, _, h4, _⟩ := tok_iff.1 h
 exact ⟨a, h1, h2, a.good_four h3 h1, h4⟩
theorem impl_holds_hv {p : Int} {t : List M} (h : tok p t = true) {w : Nat} (hw : w < 16) : Ev (fun k => impl_holds.f k t (w : Int)) (hv t w) := by
 obtain ⟨a, _, rfl, h4, hl⟩ := tok_tree h
 rw [hv_post h4 (by omega) hw]
 exact impl_holds_ev (by decide) hw h4 (by omega)
theorem spec_holds_hv {p : Int} {t : List M} (h : tok p t = true) {w : Nat} (hw : w < 16) : Ev (fun k => spec_l3Holds.f k t (w : Int)) (hv t w) := by
 obtain ⟨a, _, rfl, h4, hl⟩ := tok_tree h
 rw [hv_post h4 (by omega) hw]
 exact l3Holds_ev (by decide) hw a h4 (by omega)
/-- Whether a claim may be made in a world. -/
noncomputable def may (i : Int) (t : List M) (w : Nat) : Bool := hv t w == w.testBit i.toNat
/-- The worlds below n in which P holds, as bits. -/
def tabL (P : Nat → Bool) : Nat → Nat
 | 0 => 0
 | n + 1 => tabL P n ||| (if P n = true then 2 ^ n else 0)
theorem tabL_bit (P : Nat → Bool) : ∀ n w, (tabL P n).testBit w = (decide (w < n) && P w)
 | 0, w => by simp [tabL]
 | n + 1, w => by
  rw [tabL, Nat.testBit_or, tabL_bit P n w]
  by_cases e : w = n
  ·subst e
   by_cases h : P w = true
   ·rw [if_pos h, Nat.testBit_two_pow_self, h]; simp
   ·rw [if_neg h, Nat.zero_testBit]; simp at h; simp [h]
  ·have h1 : (if P n = true then 2 ^ n else 0).testBit w = false := by
    by_cases h : P n = true
    ·rw [if_pos h, Nat.testBit_two_pow]; simp; omega
    ·rw [if_neg h, Nat.zero_testBit]
   rw [h1, Bool.or_false]
   congr 1
   exact decide_eq_decide.mpr (by omega)
theorem lt_of_bits {x n : Nat} (h : ∀ w, n ≤ w → x.testBit w = false) : x < 2 ^ n := Nat.lt_pow_two_of_testBit x (fun w hw => h w hw)
theorem tabL_lt (P : Nat → Bool) (n : Nat) : tabL P n < 2 ^ n := lt_of_bits (fun w hw => by rw [tabL_bit]; simp; omega)
theorem tabL_mono {P : Nat → Bool} {n : Nat} (hn : n ≤ 16) : tabL P n < 65536 := by
 have := tabL_lt P n
 have h : (2 : Nat) ^ n ≤ 2 ^ 16 := Nat.pow_le_pow_right (by decide) hn
 omega
theorem wrap_i64_small (n : Int) (h0 : 0 ≤ n) (h1 : n < 2 ^ 32) : IntKind.i64.wrap n = n := by rw [IntKind.wrap_i64]; omega
theorem or_nat {a b : Nat} (ha : a < 2 ^ 32) (hb : b < 2 ^ 32) : Go.bits .or .i64 (a : Int) (b : Int) = ((a ||| b : Nat) : Int) := (bits_nat .i64 32 (by decide) wrap_i64_small a b ha hb).2
theorem and_nat {a b : Nat} (ha : a < 2 ^ 32) (hb : b < 2 ^ 32) : Go.bits .and .i64 (a : Int) (b : Int) = ((a &&& b : Nat) : Int) := (bits_nat .i64 32 (by decide) wrap_i64_small a b ha hb).1
theorem shl_fin : ∀ i : Fin 31, shl .i64 1 ((i.val : Nat) : Int) = ((2 ^ i.val : Nat) : Int) := by decide +kernel
theorem shl_nat {i : Nat} (hi : i < 31) : shl .i64 1 (i : Int) = ((2 ^ i : Nat) : Int) := shl_fin ⟨i, hi⟩
theorem or_step {P : Nat → Bool} {i : Nat} (hi : i < 16) (h : P i = true) : Go.bits .or .i64 ((tabL P i : Nat) : Int) (shl .i64 1 (i : Int)) = ((tabL P (i + 1) : Nat) : Int) := by
 have h1 := tabL_lt P i
 have h2 : (2 : Nat) ^ i < 2 ^ 16 := Nat.pow_lt_pow_right (by decide) hi
 rw [shl_nat (by omega), or_nat (by omega) (by omega), tabL, if_pos h]
theorem not_step {P : Nat → Bool} {i : Nat} (h : ¬ P i = true) : tabL P (i + 1) = tabL P i := by rw [tabL, if_neg h, Nat.or_zero]
theorem people_nat {p : Int} (h0 : 1 ≤ p) (h1 : p ≤ 4) : ∃ q : Nat, p = (q : Int) ∧ 1 ≤ q ∧ q ≤ 4 ∧ 2 ^ q ≤ 16 ∧ p.toNat = q := by
 obtain ⟨q, rfl⟩ := Int.eq_ofNat_of_zero_le (show 0 ≤ p by omega)
 refine ⟨q, rfl, by omega, by omega, ?_, by simp⟩
 have : (2 : Nat) ^ q ≤ 2 ^ 4 := Nat.pow_le_pow_right (by decide) (by omega)
 omega
theorem tableBy_l0 {F : Nat → Int → Option Bool} {P : Nat → Bool} {n : Nat} (hn : n ≤ 16) (hF : ∀ w : Nat, w < n → Ev (fun k => F k (w : Int)) (P w)) : ∀ d i, d + i = n →
  Ev (fun k => impl_tableBy.l0 F k ((tabL P i : Nat) : Int) (n : Int) (i : Int)) ((tabL P n : Nat) : Int) := by
 intro d
 induction d with
 | zero =>
  intro i hi
  rw [Nat.zero_add] at hi
  subst hi
  exact Ev.step (fun k => by simp only [impl_tableBy.l0]; rfl) (Ev.no (by omega) (Ev.some _))
 | succ d ih =>
  intro i hi
  refine Ev.step (fun k => by simp only [impl_tableBy.l0]; rfl) ?_
  refine Ev.yes (by omega) (Ev.bind (hF i (by omega)) ?_)
  rw [w64 (by omega) (by omega), show ((i : Int) + 1) = ((i + 1 : Nat) : Int) by omega]
  by_cases h : P i = true
  ·refine Ev.yes h (Ev.yes (by omega) ?_)
   rw [or_step (by omega) h]
   exact ih (i + 1) (by omega)
  ·refine Ev.no h ?_
   have := ih (i + 1) (by omega)
   rwa [not_step h] at this
theorem tableBy_ev {F : Nat → Int → Option Bool} {P : Nat → Bool} {q : Nat} (hq : q ≤ 4) (hF : ∀ w : Nat, w < 2 ^ q → Ev (fun k => F k (w : Int)) (P w)) : Ev (fun k => impl_tableBy.f F k (q : Int)) ((tabL P (2 ^ q) : Nat) : Int) := by
 unfold impl_tableBy.f
 refine Ev.yes (by omega) ?_
 rw [shl_nat (by omega)]
 have h16 : (2 : Nat) ^ q ≤ 2 ^ 4 := Nat.pow_le_pow_right (by decide) hq
 exact tableBy_l0 (by omega) hF (2 ^ q) 0 (by omega)
/-- A claim by one of so many people. -/
def clok (p i : Int) (t : List M) : Bool := decide (0 ≤ i ∧ i < p) && (tok p t && decide (t.length ≤ 13))
theorem clok_iff {p i : Int} {t : List M} : clok p i t = true ↔ 0 ≤ i ∧ i < p ∧ tok p t = true ∧ t.length ≤ 13 := by
 unfold clok
 simp only [Bool.and_eq_true, decide_eq_true_eq]
 exact ⟨fun h => ⟨h.1.1, h.1.2, h.2.1, h.2.2⟩, fun h => ⟨⟨h.1, h.2.1⟩, h.2.2.1, h.2.2.2⟩⟩
theorem clok_false {p i : Int} {t : List M} (h : ¬ (0 ≤ i ∧ i < p ∧ tok p t = true ∧ t.length ≤ 13)) : false = clok p i t := by
 cases e : clok p i t with
 | false => rfl
 | true => exact absurd (clok_iff.1 e) h
theorem impl_ClaimOk_ev (p i : Int) (t : List M) : Ev (fun k => impl_ClaimOk.f k p i t) (clok p i t) := by
 unfold impl_ClaimOk.f
 simp only [peopleOk_eq, Option.bind_some]
 by_cases h0 : 1 ≤ p ∧ p ≤ 4
 ·refine Ev.yes (decide_eq_true h0) ?_
  by_cases h1 : i ≥ 0
  ·refine Ev.yes h1 ?_
   by_cases h2 : i < p
   ·refine Ev.yes h2 (Ev.bind (impl_TermOk_ev p t) ?_)
    by_cases h3 : tok p t = true
    ·refine Ev.yes h3 (Ev.cast (Ev.some _) ?_)
     by_cases h4 : t.length ≤ 13
     ·rw [clok_iff.2 ⟨h1, h2, h3, h4⟩]; exact decide_eq_true (by omega)
     ·rw [← clok_false (fun h => h4 h.2.2.2)]; exact decide_eq_false (by omega)
    ·exact Ev.no h3 (Ev.cast (Ev.some _) (clok_false (fun h => h3 h.2.2.1)))
   ·exact Ev.no h2 (Ev.cast (Ev.some _) (clok_false (fun h => h2 h.2.1)))
  ·exact Ev.no h1 (Ev.cast (Ev.some _) (clok_false (fun h => h1 h.1)))
 ·refine Ev.no (by simpa using h0) (Ev.cast (Ev.some _) (clok_false (fun h => h0 ?_)))
  have := tok_iff.1 h.2.2.1
  omega
theorem spec_ClaimOk_ev (p i : Int) (t : List M) (hl : t.length ≤ 4611686018427387904) (hw : ∀ m ∈ t, m.f1 ≤ 9223372036854775807) : Ev (fun k => spec_ClaimOk.f k p i t) (clok p i t) := by
 unfold spec_ClaimOk.f
 by_cases h1 : i ≥ 0
 ·refine Ev.yes h1 ?_
  by_cases h2 : i < p
  ·refine Ev.yes h2 (Ev.bind (spec_TermOk_ev p t hl hw) ?_)
   by_cases h3 : tok p t = true
   ·refine Ev.yes h3 (Ev.cast (Ev.some _) ?_)
    by_cases h4 : t.length ≤ 13
    ·rw [clok_iff.2 ⟨h1, h2, h3, h4⟩]; exact decide_eq_true (by omega)
    ·rw [← clok_false (fun h => h4 h.2.2.2)]; exact decide_eq_false (by omega)
   ·exact Ev.no h3 (Ev.cast (Ev.some _) (clok_false (fun h => h3 h.2.2.1)))
  ·exact Ev.no h2 (Ev.cast (Ev.some _) (clok_false (fun h => h2 h.2.1)))
 ·exact Ev.no h1 (Ev.cast (Ev.some _) (clok_false (fun h => h1 h.1)))
theorem impl_maySay_ev {p i : Int} {t : List M} (h : clok p i t = true) {w : Nat} (hw : w < 16) : Ev (fun k => impl_maySay.f k i t (w : Int)) (may i t w) := by
 obtain ⟨h0, h1, h2, _⟩ := clok_iff.1 h
 have h4 := (tok_iff.1 h2).2.1
 obtain ⟨j, rfl⟩ := Int.eq_ofNat_of_zero_le h0
 unfold impl_maySay.f
 refine Ev.bind (impl_holds_hv h2 hw) (Ev.yes h0 (Ev.cast (Ev.some _) ?_))
 rw [bit_and' hw (show j < 4 by omega)]
 rfl
/-- The table of a claim. -/
noncomputable def ctab (p i : Int) (t : List M) : Nat := tabL (may i t) (2 ^ p.toNat)
theorem impl_ClaimTable_ev (p i : Int) (t : List M) : Ev (fun k => impl_ClaimTable.f k p i t) (if clok p i t = true then ((ctab p i t : Nat) : Int) else -1) := by
 unfold impl_ClaimTable.f
 refine Ev.bind (impl_ClaimOk_ev p i t) ?_
 by_cases h : clok p i t = true
 ·rw [if_pos h]
  refine Ev.yes h ?_
  obtain ⟨hp0, hp1, _⟩ := tok_iff.1 (clok_iff.1 h).2.2.1
  obtain ⟨q, rfl, _, hq, hq2, _⟩ := people_nat hp0 hp1
  exact tableBy_ev hq (fun w hw => impl_maySay_ev h (by omega))
 ·rw [if_neg h]
  exact Ev.no h (Ev.some _)
end Go.Proofs.Ytpampekijfjlkab.L
