/- Joined by a program of this session's: X121, LDC, LDCC, LDNC, LO, LOB, LTR, LNC, LH, LHW, LTB, X47, LW, LHI, X29, LTY, X35, LCB, LMY, LSA, LBI. -/
import Derived.Test.YtpampekijfjlkaaGf4dc1f3191
import Derived.Test.YtpampekijfjlkaaG725775c8e0
import Derived.Test.YtpampekijfjlkaaG6dec0e8271
import Derived.Test.YtpampekijfjlkaaGabc9efba80
import Derived.Test.YtpampekijfjlkaaG632f56380d
import Derived.Test.YtpampekijfjlkaaG06dbd59289
import Derived.Test.YtpampekijfjlkaaGaf17cf8cf1
import Derived.Laws.BitsLemmas

-- printed by a program of this session's (xprint)
namespace Go.Proofs.Ytpampekijfjlkaa.X
open Go.RowKit Go.Proofs.YtpampekijfjlkaaW.PrintWords Go.Proofs.YtpampekijfjlkaaW.PrintLast Go.Proofs.YtpampekijfjlkaaW.PrintMore
attribute [local go_sem] max2_int min2_int max_two min_two max_three min_three max_four min_four   -- for this text's walks alone
set_option linter.unusedVariables false
set_option linter.unusedSimpArgs false

/-! ### laws_FnNestedClaim: function 18 -/
mutual
def laws_FnNestedClaim.j0 : Nat → Int → Int → Bool → Bool → Int → List (S52) → Int → List (S52) → Option (Bool)
 | 0, _, _, _, _, _, _, _, _ => none
 | k + 1, x3, x4, x7, x43, x108000, x108001, x114000, x114001 => if x43 = true then (some false) else (if x7 = true then (laws_FnNestedClaim.l0 k x3 x4 0 x108000 x108001 x114000 x114001) else (if x114000 = 0 then (if (x114001.length : Int) = 0 then ((laws_alive.f).bind fun t121 => (some t121)) else (some false)) else (some false)))
def laws_FnNestedClaim.l0 : Nat → Int → Int → Int → Int → List (S52) → Int → List (S52) → Option (Bool)
 | 0, _, _, _, _, _, _, _ => none
 | k + 1, x3, x4, x10, x108000, x108001, x114000, x114001 => if 0 ≤ x3 then (if x10 < (shl .i64 1 x3) then (if 0 ≤ x4 then (if 0 ≤ x108000 then ((impl_MaySay.f k x3 x114000 x114001 x10).bind fun t123 => ((impl_HoldsIn.f k x3 x108001 x10).bind fun t124 => (if (t123 != (((Int.tmod (shr .i64 x10 x4) 2) == (Int.tmod (shr .i64 x10 x108000) 2)) == t124)) = true then (some false) else (laws_FnNestedClaim.l0 k x3 x4 (wrap64 (x10 + 1)) x108000 x108001 x114000 x114001)))) else (none)) else (none)) else ((impl_ClaimOk.f k x3 x114000 x114001).bind fun t122 => (if t122 = true then (some (x114000 == x4)) else (some false)))) else (none)
end
def laws_FnNestedClaim.f (k : Nat) (l0 : List Int) : Option (Bool) := if (l0.length : Int) > 1048576 then (some true) else ((spec_DrawNestedClaim.f k l0).bind fun bt101 => ((impl_NestedClaim.f k bt101.1 bt101.2.1 bt101.2.2.1 bt101.2.2.2).bind fun bt108 => ((spec_NestedClaim.f k bt101.1 bt101.2.1 bt101.2.2.1 bt101.2.2.2).bind fun bt114 => ((laws_sameClaim.f k bt108.1 bt108.2.1 bt114.1 bt114.2.1).bind fun t120 => (if t120 = true then (laws_FnNestedClaim.j0 k bt101.1 bt101.2.1 bt108.2.2 (bt108.2.2 != bt114.2.2) bt101.2.2.1 bt101.2.2.2 bt108.1 bt108.2.1) else (laws_FnNestedClaim.j0 k bt101.1 bt101.2.1 bt108.2.2 true bt101.2.2.1 bt101.2.2.2 bt108.1 bt108.2.1))))))
theorem laws_FnNestedClaim.mono_l : ∀ k, (∀ y0 y1 y2 y3 y4 y5 y6 y7, LeO (laws_FnNestedClaim.j0 k y0 y1 y2 y3 y4 y5 y6 y7) (laws_FnNestedClaim.j0 (k + 1) y0 y1 y2 y3 y4 y5 y6 y7)) ∧ (∀ y0 y1 y2 y3 y4 y5 y6, LeO (laws_FnNestedClaim.l0 k y0 y1 y2 y3 y4 y5 y6) (laws_FnNestedClaim.l0 (k + 1) y0 y1 y2 y3 y4 y5 y6))
 | 0 => ⟨fun _ _ _ _ _ _ _ _ r h => by simp [laws_FnNestedClaim.j0] at h, fun _ _ _ _ _ _ _ r h => by simp [laws_FnNestedClaim.l0] at h⟩
 | k + 1 => by
  obtain ⟨ih0, ih1⟩ := laws_FnNestedClaim.mono_l k
  refine ⟨?_, ?_⟩
  ·intro y0 y1 y2 y3 y4 y5 y6 y7
   unfold laws_FnNestedClaim.j0
   repeat' first
   | (with_reducible exact ih0 _ _ _ _ _ _ _ _)
   | (with_reducible exact ih1 _ _ _ _ _ _ _)
   | (with_reducible exact impl_ClaimOk.mono _ _ _ _)
   | (with_reducible exact impl_HoldsIn.mono _ _ _ _)
   | (with_reducible exact impl_MaySay.mono _ _ _ _ _)
   | (with_reducible exact impl_NestedClaim.mono _ _ _ _ _)
   | (with_reducible exact laws_sameClaim.mono _ _ _ _ _)
   | (with_reducible exact spec_DrawNestedClaim.mono _ _)
   | (with_reducible exact spec_NestedClaim.mono _ _ _ _ _)
   | (with_reducible exact LeO.refl _)
   | (with_reducible exact LeO.none _)
   | (with_reducible refine LeO.ite ?_ ?_)
   | (with_reducible refine LeO.bind ?_ (fun _ => ?_))
   | exact ih0 _ _ _ _ _ _ _ _
   | exact ih1 _ _ _ _ _ _ _
   | exact impl_ClaimOk.mono _ _ _ _
   | exact impl_HoldsIn.mono _ _ _ _
   | exact impl_MaySay.mono _ _ _ _ _
   | exact impl_NestedClaim.mono _ _ _ _ _
   | exact laws_sameClaim.mono _ _ _ _ _
   | exact spec_DrawNestedClaim.mono _ _
   | exact spec_NestedClaim.mono _ _ _ _ _
   | exact LeO.none _
   | refine LeO.ite ?_ ?_
   | refine LeO.bind ?_ (fun _ => ?_)
  ·intro y0 y1 y2 y3 y4 y5 y6
   unfold laws_FnNestedClaim.l0
   repeat' first
   | (with_reducible exact ih0 _ _ _ _ _ _ _ _)
   | (with_reducible exact ih1 _ _ _ _ _ _ _)
   | (with_reducible exact impl_ClaimOk.mono _ _ _ _)
   | (with_reducible exact impl_HoldsIn.mono _ _ _ _)
   | (with_reducible exact impl_MaySay.mono _ _ _ _ _)
   | (with_reducible exact impl_NestedClaim.mono _ _ _ _ _)
   | (with_reducible exact laws_sameClaim.mono _ _ _ _ _)
   | (with_reducible exact spec_DrawNestedClaim.mono _ _)
   | (with_reducible exact spec_NestedClaim.mono _ _ _ _ _)
   | (with_reducible exact LeO.refl _)
   | (with_reducible exact LeO.none _)
   | (with_reducible refine LeO.ite ?_ ?_)
   | (with_reducible refine LeO.bind ?_ (fun _ => ?_))
   | exact ih0 _ _ _ _ _ _ _ _
   | exact ih1 _ _ _ _ _ _ _
   | exact impl_ClaimOk.mono _ _ _ _
   | exact impl_HoldsIn.mono _ _ _ _
   | exact impl_MaySay.mono _ _ _ _ _
   | exact impl_NestedClaim.mono _ _ _ _ _
   | exact laws_sameClaim.mono _ _ _ _ _
   | exact spec_DrawNestedClaim.mono _ _
   | exact spec_NestedClaim.mono _ _ _ _ _
   | exact LeO.none _
   | refine LeO.ite ?_ ?_
   | refine LeO.bind ?_ (fun _ => ?_)
theorem laws_FnNestedClaim.mono : ∀ a0 k, LeO (laws_FnNestedClaim.f k a0) (laws_FnNestedClaim.f (k + 1) a0) := by
 intro a0 k
 obtain ⟨ih0, ih1⟩ := laws_FnNestedClaim.mono_l k
 unfold laws_FnNestedClaim.f
 repeat' first
   | (with_reducible exact ih0 _ _ _ _ _ _ _ _)
   | (with_reducible exact ih1 _ _ _ _ _ _ _)
   | (with_reducible exact impl_ClaimOk.mono _ _ _ _)
   | (with_reducible exact impl_HoldsIn.mono _ _ _ _)
   | (with_reducible exact impl_MaySay.mono _ _ _ _ _)
   | (with_reducible exact impl_NestedClaim.mono _ _ _ _ _)
   | (with_reducible exact laws_sameClaim.mono _ _ _ _ _)
   | (with_reducible exact spec_DrawNestedClaim.mono _ _)
   | (with_reducible exact spec_NestedClaim.mono _ _ _ _ _)
   | (with_reducible exact LeO.refl _)
   | (with_reducible exact LeO.none _)
   | (with_reducible refine LeO.ite ?_ ?_)
   | (with_reducible refine LeO.bind ?_ (fun _ => ?_))
   | exact ih0 _ _ _ _ _ _ _ _
   | exact ih1 _ _ _ _ _ _ _
   | exact impl_ClaimOk.mono _ _ _ _
   | exact impl_HoldsIn.mono _ _ _ _
   | exact impl_MaySay.mono _ _ _ _ _
   | exact impl_NestedClaim.mono _ _ _ _ _
   | exact laws_sameClaim.mono _ _ _ _ _
   | exact spec_DrawNestedClaim.mono _ _
   | exact spec_NestedClaim.mono _ _ _ _ _
   | exact LeO.none _
   | refine LeO.ite ?_ ?_
   | refine LeO.bind ?_ (fun _ => ?_)
def laws_FnNestedClaim.T13 : Bool × List (List Nat × List Nat) := (true, [([], []), ([], []), ([0, 1], [0, 1]), ([2], [2]), ([], []), ([], []), ([5], [5]), ([4, 6], [4, 6]), ([7], [7]), ([3, 8], [3, 8]), ([9, 0, 1, 2, 3, 4, 5, 6, 7, 8, 9], [9])])
def laws_FnNestedClaim.B13 : List Nat := [0, 0, 3, 7, 0, 0, 32, 112, 240, 511, 1023]
theorem laws_FnNestedClaim.tab13 : rtab .any (opsOf Try.f18 13) = laws_FnNestedClaim.T13 := by kernel_rfl
theorem laws_FnNestedClaim.bits13 : waitsOk laws_FnNestedClaim.T13.2 laws_FnNestedClaim.B13 = true := by kernel_rfl
def laws_FnNestedClaim.T14 : Bool × List (List Nat × List Nat) := (true, [([], []), ([], []), ([], []), ([0, 1, 2], [0, 1, 2]), ([], []), ([], []), ([], []), ([6], [6]), ([], []), ([5, 7, 8, 3], [5, 7, 8]), ([4, 9], [4, 9]), ([3, 10], [3, 10])])
def laws_FnNestedClaim.B14 : List Nat := [0, 0, 0, 7, 0, 0, 0, 64, 0, 495, 1023, 2047]
theorem laws_FnNestedClaim.tab14 : rtab .any (opsOf Try.f18 14) = laws_FnNestedClaim.T14 := by kernel_rfl
theorem laws_FnNestedClaim.bits14 : waitsOk laws_FnNestedClaim.T14.2 laws_FnNestedClaim.B14 = true := by kernel_rfl
set_option maxHeartbeats 8000000 in
set_option maxRecDepth 100000 in
theorem laws_FnNestedClaim.calls (k : Nat) (A0 : Option Addr) (c0 : Nat) (l0 : List Int) (r : Bool) (w : World) (hr0 : Kd.C (Kd.int .u8) w A0 l0.length l0) (hc0 : l0.length ≤ c0) (hr_ : Aside0 (r = true)) (h : laws_FnNestedClaim.f k l0 = some r) :
  Calls Try.prog 18 #[.slice A0 l0.length c0] w fun e w' => e = .returned (.bool r) ∧ Below w.heap.size w w' := by
 have hu50 := Try.underlying50
 have HR0 := Aside0.mk hr0
 have HC0 := Aside0.mk hc0
 clear hr0 hc0
 have HB := Aside0.mk (Below.refl w.heap.size w)
 have H : (if (l0.length : Int) > 1048576 then (some true) else ((spec_DrawNestedClaim.f k l0).bind fun bt101 => ((impl_NestedClaim.f k bt101.1 bt101.2.1 bt101.2.2.1 bt101.2.2.2).bind fun bt108 => ((spec_NestedClaim.f k bt101.1 bt101.2.1 bt101.2.2.1 bt101.2.2.2).bind fun bt114 => ((laws_sameClaim.f k bt108.1 bt108.2.1 bt114.1 bt114.2.1).bind fun t120 => (if t120 = true then (laws_FnNestedClaim.j0 k bt101.1 bt101.2.1 bt108.2.2 (bt108.2.2 != bt114.2.2) bt101.2.2.1 bt101.2.2.2 bt108.1 bt108.2.1) else (laws_FnNestedClaim.j0 k bt101.1 bt101.2.1 bt108.2.2 true bt101.2.2.1 bt101.2.2.2 bt108.1 bt108.2.1))))))) = some r := h
 clear h
 by_cases c2 : (l0.length : Int) > 1048576
 ·rw [if_pos c2] at H
  have c2b0 : decide (1048576 < (l0.length : Int)) = true := decide_eq_true c2
  have c2b1 : decide (1048576 < l0.length) = true := decide_eq_true (by omega)
  clear c2
  obtain rfl := Option.some.inj H
  go_enter Try.func18, Try.ntmps18
  go_wp2
  go_ret
  exact ⟨by first | rfl | (simp [errW_none, errW_some] <;> rfl) | (simp [*, errW_none, errW_some] <;> rfl), by repeat (first | (with_reducible first | exact HB.out | apply below_alloc | apply pw_below_drewN | apply below_drew1) | exact HB.out)⟩
 ·rw [if_neg c2] at H
  have c2b0 : decide (1048576 < (l0.length : Int)) = false := decide_eq_false c2
  have c2b1 : decide (1048576 < l0.length) = false := decide_eq_false (by omega)
  clear c2
  replace H := Option.bind_eq_some_iff.mp H
  obtain ⟨⟨t101, t102, t103, t104⟩, A30, H⟩ := H
  replace H : ((impl_NestedClaim.f k t101 t102 t103 t104).bind fun bt108 => ((spec_NestedClaim.f k t101 t102 t103 t104).bind fun bt114 => ((laws_sameClaim.f k bt108.1 bt108.2.1 bt114.1 bt114.2.1).bind fun t120 => (if t120 = true then (laws_FnNestedClaim.j0 k t101 t102 bt108.2.2 (bt108.2.2 != bt114.2.2) t103 t104 bt108.1 bt108.2.1) else (laws_FnNestedClaim.j0 k t101 t102 bt108.2.2 true t103 t104 bt108.1 bt108.2.1))))) = some r := H
  have A3 := Aside0.mk A30
  clear A30
  replace H := Option.bind_eq_some_iff.mp H
  obtain ⟨⟨t108, t109, t112⟩, A40, H⟩ := H
  replace H : ((spec_NestedClaim.f k t101 t102 t103 t104).bind fun bt114 => ((laws_sameClaim.f k t108 t109 bt114.1 bt114.2.1).bind fun t120 => (if t120 = true then (laws_FnNestedClaim.j0 k t101 t102 t112 (t112 != bt114.2.2) t103 t104 t108 t109) else (laws_FnNestedClaim.j0 k t101 t102 t112 true t103 t104 t108 t109)))) = some r := H
  have A4 := Aside0.mk A40
  clear A40
  replace H := Option.bind_eq_some_iff.mp H
  obtain ⟨⟨t114, t115, t118⟩, A50, H⟩ := H
  replace H : ((laws_sameClaim.f k t108 t109 t114 t115).bind fun t120 => (if t120 = true then (laws_FnNestedClaim.j0 k t101 t102 t112 (t112 != t118) t103 t104 t108 t109) else (laws_FnNestedClaim.j0 k t101 t102 t112 true t103 t104 t108 t109))) = some r := H
  have A5 := Aside0.mk A50
  clear A50
  have HC6 := Aside0.mk H
  clear H
  go_enter Try.func18, Try.ntmps18
  go_upto_region 6 with (first | ((with_reducible refine gate_callee (f := 78) rfl ?_); refine goesL_ (some 17) rfl rfl Try.func78 (by kernel_rfl) rfl #[.slice A0 l0.length c0] rfl (by (try simp only [List.map_toArray, List.map_cons, List.map_nil]); first | done | rfl | (simp only [List.length_drop, List.length_take]; rfl)) ?_; (with_reducible refine (spec_DrawNestedClaim.calls k _ _ l0 t101 t102 t103 t104 _ ?side1 ?side2 A3.out).mono ?_); (case side1 => repeat (first | exact HR0.out | (with_reducible refine Kd.C_alloc ?_ _) | (with_reducible refine Kd.C_drewN ?_ _) | (with_reducible refine Kd.C_drew ?_))); (case side2 => exact HC0.out); rintro e w7 ⟨v105, rfl, ho0, hb⟩; refine ⟨_, rfl, ?_⟩; have n0_ := Aside0.mk (Kd.R_lower ho0 (below_size (by repeat (first | (with_reducible first | exact HB.out | apply below_alloc | apply pw_below_drewN | apply below_drew1) | exact HB.out)))); have n1_ := Aside0.mk (below_step (by repeat (first | (with_reducible first | exact HB.out | apply below_alloc | apply pw_below_drewN | apply below_drew1) | exact HB.out)) hb); clear HB; have HO106 := n0_; have HB := n1_; clear n0_ n1_; (try clear hb); (try clear hb2); (try clear hk); (try clear hi); (try clear ho0)) | ((with_reducible refine gate_dst (N := 5) rfl ?_); (try (refine gate_guard (by rfl) ?_; dsimp only)); refine box_event ?hg (N := 5) ?hd (cs := #[.int .i64 0, .slice none 0 0]) (t := 50) ?hr ?_; (case hd => rfl); (case hg => rfl); (case hr => first | (go_simp; done) | (go_simp; rfl)); intro gb107 hg w8 hbox hb; have n0_ := Aside0.mk (Kd.R_below (by (with_reducible repeat (first | apply Kd.R_alloc | apply Kd.R_drewN | apply Kd.R_drew)); exact HO106.out) hb); have n1_ := Aside0.mk (below_step (by repeat (first | (with_reducible first | exact HB.out | apply below_alloc | apply pw_below_drewN | apply below_drew1) | exact HB.out)) hb); have n2_ := Aside0.mk (hbox); have n3_ := Aside0.mk ((by rw [hg]; exact (below_size (by repeat (first | (with_reducible first | exact HB.out | apply below_alloc | apply pw_below_drewN | apply below_drew1) | exact HB.out))) : w.heap.size ≤ gb107)); have n4_ := Aside0.mk ((by rw [hg]; exact (below_size (by repeat (first | (with_reducible first | exact HB.out | apply below_alloc | apply pw_below_drewN | apply below_drew1) | exact HB.out))) : w.heap.size ≤ gb107)); clear HO106; clear HB; have HO106 := n0_; have HB := n1_; have BK107 := n2_; have GW107 := n3_; have GE107 := n4_; clear n0_ n1_ n2_ n3_ n4_; clear hb hbox hg; have hcz9_0 : w8.cell? ⟨gb107, 0, none⟩ = some (.int .i64 0) := (blk_cell BK107.out 0).trans rfl; have hcz9_1 : w8.cell? ⟨gb107, 1, none⟩ = some (.slice none 0 0) := (blk_cell BK107.out 1).trans rfl; have hfz9_0 := blk_frozen BK107.out 0; have hfz9_1 := blk_frozen BK107.out 1; obtain ⟨Ao10, co10, eo10⟩ := Kd.R_slice HO106.out; subst eo10) | ((with_reducible refine gate_callee (f := 79) rfl ?_); refine goesL_ (some 25) rfl rfl Try.func79 (by kernel_rfl) rfl #[.int .i64 t101, .int .i64 t102, .agg #[.int .i64 t103, .slice Ao10 t104.length co10]] rfl (by (try simp only [List.map_toArray, List.map_cons, List.map_nil]); first | done | rfl | (simp only [List.length_drop, List.length_take]; rfl)) ?_; (with_reducible refine (impl_NestedClaim.calls k t101 t102 t103 _ _ t104 t108 t109 t112 _ ?side1 ?side2 A4.out).mono ?_); (case side1 => refine (Kd.R_reads' (e := 52) (base := w.heap.size) (ok := fun k_ => True) (n := t104.length) (c := co10) ?_).2.2; exact (by (with_reducible repeat (first | apply Kd.R_alloc | apply Kd.R_drewN | apply Kd.R_drew)); exact (Kd.R_mono (Kd.R_far (p := ⟨gb107, 1, none⟩) (Kd.R_far (p := ⟨gb107, 0, none⟩) (Kd.R_types HO106.out BK107.out (by decide)) (fun _ hk => hk.2) (.int .i64 t103)) (fun _ hk => hk.2) (.slice Ao10 t104.length co10)) (fun _ h_ => h_.1)))); (case side2 => exact (Kd.R_reads' HO106.out).2.1); rintro e w11 ⟨v110, rfl, ho0, hb⟩; refine ⟨_, rfl, ?_⟩; have n0_ := Aside0.mk (Kd.R_elder' (by (with_reducible repeat (first | apply Kd.R_alloc | apply Kd.R_drewN | apply Kd.R_drew)); exact (Kd.R_mono (Kd.R_far (p := ⟨gb107, 1, none⟩) (Kd.R_far (p := ⟨gb107, 0, none⟩) (Kd.R_types HO106.out BK107.out (by decide)) (fun _ hk => hk.2) (.int .i64 t103)) (fun _ hk => hk.2) (.slice Ao10 t104.length co10)) (fun _ h_ => h_.1))) (Kd.R_base ho0) hb); have n1_ := Aside0.mk (Kd.R_lower (Kd.R_new' ho0 (Kd.R_lt (by (with_reducible repeat (first | apply Kd.R_alloc | apply Kd.R_drewN | apply Kd.R_drew)); exact (Kd.R_mono (Kd.R_far (p := ⟨gb107, 1, none⟩) (Kd.R_far (p := ⟨gb107, 0, none⟩) (Kd.R_types HO106.out BK107.out (by decide)) (fun _ hk => hk.2) (.int .i64 t103)) (fun _ hk => hk.2) (.slice Ao10 t104.length co10)) (fun _ h_ => h_.1))))) (below_size (by repeat (first | (with_reducible first | exact HB.out | apply below_alloc | apply pw_below_drewN | apply below_drew1 | refine below_set ?_ GE107.out) | exact HB.out)))); have n2_ := Aside0.mk (blk_below (g := gb107) (o := .cells #[.int .i64 t103, .slice Ao10 t104.length co10] 50 (0, 0)) (by (with_reducible repeat (first | refine blk_drewN ?_ _ | refine blk_drew ?_ | refine blk_alloc ?_ _)); refine blk_put (cs := #[.int .i64 t103, .slice none 0 0]) ?_ 1 _ rfl; (with_reducible repeat (first | refine blk_drewN ?_ _ | refine blk_drew ?_ | refine blk_alloc ?_ _)); refine blk_put (cs := #[.int .i64 0, .slice none 0 0]) ?_ 0 _ rfl; (with_reducible repeat (first | refine blk_drewN ?_ _ | refine blk_drew ?_ | refine blk_alloc ?_ _)); exact BK107.out) hb); have n3_ := Aside0.mk (below_step (by repeat (first | (with_reducible first | exact HB.out | apply below_alloc | apply pw_below_drewN | apply below_drew1 | refine below_set ?_ GE107.out) | exact HB.out)) hb); clear HO106; clear BK107; clear HB; have HO106 := n0_; have HO111 := n1_; have BK107 := n2_; have HB := n3_; clear n0_ n1_ n2_ n3_; (try clear hb); (try clear hb2); (try clear hk); (try clear hi); (try clear ho0)) | ((with_reducible refine gate_dst (N := 6) rfl ?_); (try (refine gate_guard (by rfl) ?_; dsimp only)); refine box_event ?hg (N := 6) ?hd (cs := #[.int .i64 0, .slice none 0 0]) (t := 50) ?hr ?_; (case hd => rfl); (case hg => rfl); (case hr => first | (go_simp; done) | (go_simp; rfl)); intro gb113 hg w12 hbox hb; have n0_ := Aside0.mk (Kd.R_below (by (with_reducible repeat (first | apply Kd.R_alloc | apply Kd.R_drewN | apply Kd.R_drew)); exact HO106.out) hb); have n1_ := Aside0.mk (Kd.R_below (by (with_reducible repeat (first | apply Kd.R_alloc | apply Kd.R_drewN | apply Kd.R_drew)); exact HO111.out) hb); have n2_ := Aside0.mk (blk_below (g := gb107) (o := .cells #[.int .i64 t103, .slice Ao10 t104.length co10] 50 (0, 0)) (by (with_reducible repeat (first | refine blk_drewN ?_ _ | refine blk_drew ?_ | refine blk_alloc ?_ _)); exact BK107.out) hb); have n3_ := Aside0.mk (below_step (by repeat (first | (with_reducible first | exact HB.out | apply below_alloc | apply pw_below_drewN | apply below_drew1 | refine below_set ?_ GE107.out) | exact HB.out)) hb); have n4_ := Aside0.mk (hbox); have n5_ := Aside0.mk ((by rw [hg]; exact (below_size (by repeat (first | (with_reducible first | exact HB.out | apply below_alloc | apply pw_below_drewN | apply below_drew1 | refine below_set ?_ GE107.out) | exact HB.out))) : w.heap.size ≤ gb113)); have n6_ := Aside0.mk ((by rw [hg]; exact (below_size (by repeat (first | (with_reducible first | exact HB.out | apply below_alloc | apply pw_below_drewN | apply below_drew1 | refine below_set ?_ GE107.out) | exact HB.out))) : w.heap.size ≤ gb113)); have n7_ := Aside0.mk ((by rw [hg]; exact Nat.ne_of_lt (blk_lt (g := gb107) (o := .cells #[.int .i64 t103, .slice Ao10 t104.length co10] 50 (0, 0)) (by (with_reducible repeat (first | refine blk_drewN ?_ _ | refine blk_drew ?_ | refine blk_alloc ?_ _)); exact BK107.out)) : gb107 ≠ gb113)); have n8_ := Aside0.mk ((by rw [hg]; exact Nat.ne_of_gt (blk_lt (g := gb107) (o := .cells #[.int .i64 t103, .slice Ao10 t104.length co10] 50 (0, 0)) (by (with_reducible repeat (first | refine blk_drewN ?_ _ | refine blk_drew ?_ | refine blk_alloc ?_ _)); exact BK107.out)) : gb113 ≠ gb107)); clear HO106; clear HO111; clear BK107; clear HB; have HO106 := n0_; have HO111 := n1_; have BK107 := n2_; have HB := n3_; have BK113 := n4_; have GW113 := n5_; have GE113 := n6_; have NB107_113 := n7_; have NB113_107 := n8_; clear n0_ n1_ n2_ n3_ n4_ n5_ n6_ n7_ n8_; clear hb hbox hg; have hnb13 := NB113_107.out; have hnc13 := NB107_113.out; have hcz14_0 : w12.cell? ⟨gb113, 0, none⟩ = some (.int .i64 0) := (blk_cell BK113.out 0).trans rfl; have hcz14_1 : w12.cell? ⟨gb113, 1, none⟩ = some (.slice none 0 0) := (blk_cell BK113.out 1).trans rfl; have hfz14_0 := blk_frozen BK113.out 0; have hfz14_1 := blk_frozen BK113.out 1; obtain ⟨Ao15, co15, eo15⟩ := Kd.R_slice HO111.out; subst eo15; have hcz16_0 : w12.cell? ⟨gb107, 0, none⟩ = some (.int .i64 t103) := (blk_cell BK107.out 0).trans rfl; have hcz16_1 : w12.cell? ⟨gb107, 1, none⟩ = some (.slice Ao10 t104.length co10) := (blk_cell BK107.out 1).trans rfl; have hfz16_0 := blk_frozen BK107.out 0; have hfz16_1 := blk_frozen BK107.out 1) | ((with_reducible refine gate_callee (f := 80) rfl ?_); refine goesL_ (some 32) rfl rfl Try.func80 (by kernel_rfl) rfl #[.int .i64 t101, .int .i64 t102, .agg #[.int .i64 t103, .slice Ao10 t104.length co10]] rfl (by (try simp only [List.map_toArray, List.map_cons, List.map_nil]); first | done | rfl | (simp only [List.length_drop, List.length_take]; rfl)) ?_; (with_reducible refine (spec_NestedClaim.calls k t101 t102 t103 _ _ t104 t114 t115 t118 _ ?side1 ?side2 A5.out).mono ?_); (case side1 => refine (Kd.R_reads' (e := 52) (base := w.heap.size) (ok := fun k_ => (True ∧ some k_ ≠ (.slice Ao15 t109.length co15 : Value).ownBlock)) (n := t104.length) (c := co10) ?_).2.2; exact (by (with_reducible repeat (first | apply Kd.R_alloc | apply Kd.R_drewN | apply Kd.R_drew)); exact (Kd.R_mono (Kd.R_far (p := ⟨gb113, 1, none⟩) (Kd.R_far (p := ⟨gb113, 0, none⟩) (Kd.R_types HO106.out BK113.out (by decide)) (fun _ hk => hk.2) (.int .i64 t108)) (fun _ hk => hk.2) (.slice Ao15 t109.length co15)) (fun _ h_ => h_.1)))); (case side2 => exact (Kd.R_reads' HO106.out).2.1); rintro e w17 ⟨v116, rfl, ho0, hb⟩; refine ⟨_, rfl, ?_⟩; have n0_ := Aside0.mk (Kd.R_elder' (by (with_reducible repeat (first | apply Kd.R_alloc | apply Kd.R_drewN | apply Kd.R_drew)); exact (Kd.R_mono (Kd.R_far (p := ⟨gb113, 1, none⟩) (Kd.R_far (p := ⟨gb113, 0, none⟩) (Kd.R_types HO106.out BK113.out (by decide)) (fun _ hk => hk.2) (.int .i64 t108)) (fun _ hk => hk.2) (.slice Ao15 t109.length co15)) (fun _ h_ => h_.1))) (Kd.R_base ho0) hb); have n1_ := Aside0.mk (Kd.R_elder' (by (with_reducible repeat (first | apply Kd.R_alloc | apply Kd.R_drewN | apply Kd.R_drew)); exact (Kd.R_mono (Kd.R_far (p := ⟨gb113, 1, none⟩) (Kd.R_far (p := ⟨gb113, 0, none⟩) (Kd.R_types HO111.out BK113.out (by decide)) (fun _ hk => hk.2) (.int .i64 t108)) (fun _ hk => hk.2) (.slice Ao15 t109.length co15)) (fun _ h_ => h_.1))) (Kd.R_base ho0) hb); have n2_ := Aside0.mk (Kd.R_lower (Kd.R_new' (Kd.R_new' ho0 (Kd.R_lt (by (with_reducible repeat (first | apply Kd.R_alloc | apply Kd.R_drewN | apply Kd.R_drew)); exact (Kd.R_mono (Kd.R_far (p := ⟨gb113, 1, none⟩) (Kd.R_far (p := ⟨gb113, 0, none⟩) (Kd.R_types HO106.out BK113.out (by decide)) (fun _ hk => hk.2) (.int .i64 t108)) (fun _ hk => hk.2) (.slice Ao15 t109.length co15)) (fun _ h_ => h_.1))))) (Kd.R_lt (by (with_reducible repeat (first | apply Kd.R_alloc | apply Kd.R_drewN | apply Kd.R_drew)); exact (Kd.R_mono (Kd.R_far (p := ⟨gb113, 1, none⟩) (Kd.R_far (p := ⟨gb113, 0, none⟩) (Kd.R_types HO111.out BK113.out (by decide)) (fun _ hk => hk.2) (.int .i64 t108)) (fun _ hk => hk.2) (.slice Ao15 t109.length co15)) (fun _ h_ => h_.1))))) (below_size (by repeat (first | (with_reducible first | exact HB.out | apply below_alloc | apply pw_below_drewN | apply below_drew1 | refine below_set ?_ GE107.out | refine below_set ?_ GE113.out) | exact HB.out)))); have n3_ := Aside0.mk (blk_below (g := gb107) (o := .cells #[.int .i64 t103, .slice Ao10 t104.length co10] 50 (0, 0)) (by (with_reducible repeat (first | refine blk_drewN ?_ _ | refine blk_drew ?_ | refine blk_alloc ?_ _)); refine blk_far ?_ NB107_113.out _; (with_reducible repeat (first | refine blk_drewN ?_ _ | refine blk_drew ?_ | refine blk_alloc ?_ _)); refine blk_far ?_ NB107_113.out _; (with_reducible repeat (first | refine blk_drewN ?_ _ | refine blk_drew ?_ | refine blk_alloc ?_ _)); exact BK107.out) hb); have n4_ := Aside0.mk (blk_below (g := gb113) (o := .cells #[.int .i64 t108, .slice Ao15 t109.length co15] 50 (0, 0)) (by (with_reducible repeat (first | refine blk_drewN ?_ _ | refine blk_drew ?_ | refine blk_alloc ?_ _)); refine blk_put (cs := #[.int .i64 t108, .slice none 0 0]) ?_ 1 _ rfl; (with_reducible repeat (first | refine blk_drewN ?_ _ | refine blk_drew ?_ | refine blk_alloc ?_ _)); refine blk_put (cs := #[.int .i64 0, .slice none 0 0]) ?_ 0 _ rfl; (with_reducible repeat (first | refine blk_drewN ?_ _ | refine blk_drew ?_ | refine blk_alloc ?_ _)); exact BK113.out) hb); have n5_ := Aside0.mk (below_step (by repeat (first | (with_reducible first | exact HB.out | apply below_alloc | apply pw_below_drewN | apply below_drew1 | refine below_set ?_ GE107.out | refine below_set ?_ GE113.out) | exact HB.out)) hb); clear HO106; clear HO111; clear BK107; clear BK113; clear HB; have HO106 := n0_; have HO111 := n1_; have HO117 := n2_; have BK107 := n3_; have BK113 := n4_; have HB := n5_; clear n0_ n1_ n2_ n3_ n4_ n5_; (try clear hb); (try clear hb2); (try clear hk); (try clear hi); (try clear ho0)) | ((with_reducible refine gate_dst (N := 8) rfl ?_); (try (refine gate_guard (by rfl) ?_; dsimp only)); refine box_event ?hg (N := 8) ?hd (cs := #[.int .i64 0, .slice none 0 0]) (t := 50) ?hr ?_; (case hd => rfl); (case hg => rfl); (case hr => first | (go_simp; done) | (go_simp; rfl)); intro gb119 hg w18 hbox hb; have n0_ := Aside0.mk (Kd.R_below (by (with_reducible repeat (first | apply Kd.R_alloc | apply Kd.R_drewN | apply Kd.R_drew)); exact HO106.out) hb); have n1_ := Aside0.mk (Kd.R_below (by (with_reducible repeat (first | apply Kd.R_alloc | apply Kd.R_drewN | apply Kd.R_drew)); exact HO111.out) hb); have n2_ := Aside0.mk (Kd.R_below (by (with_reducible repeat (first | apply Kd.R_alloc | apply Kd.R_drewN | apply Kd.R_drew)); exact HO117.out) hb); have n3_ := Aside0.mk (blk_below (g := gb107) (o := .cells #[.int .i64 t103, .slice Ao10 t104.length co10] 50 (0, 0)) (by (with_reducible repeat (first | refine blk_drewN ?_ _ | refine blk_drew ?_ | refine blk_alloc ?_ _)); exact BK107.out) hb); have n4_ := Aside0.mk (blk_below (g := gb113) (o := .cells #[.int .i64 t108, .slice Ao15 t109.length co15] 50 (0, 0)) (by (with_reducible repeat (first | refine blk_drewN ?_ _ | refine blk_drew ?_ | refine blk_alloc ?_ _)); exact BK113.out) hb); have n5_ := Aside0.mk (below_step (by repeat (first | (with_reducible first | exact HB.out | apply below_alloc | apply pw_below_drewN | apply below_drew1 | refine below_set ?_ GE107.out | refine below_set ?_ GE113.out) | exact HB.out)) hb); have n6_ := Aside0.mk (hbox); have n7_ := Aside0.mk ((by rw [hg]; exact (below_size (by repeat (first | (with_reducible first | exact HB.out | apply below_alloc | apply pw_below_drewN | apply below_drew1 | refine below_set ?_ GE107.out | refine below_set ?_ GE113.out) | exact HB.out))) : w.heap.size ≤ gb119)); have n8_ := Aside0.mk ((by rw [hg]; exact (below_size (by repeat (first | (with_reducible first | exact HB.out | apply below_alloc | apply pw_below_drewN | apply below_drew1 | refine below_set ?_ GE107.out | refine below_set ?_ GE113.out) | exact HB.out))) : w.heap.size ≤ gb119)); have n9_ := Aside0.mk ((by rw [hg]; exact Nat.ne_of_lt (blk_lt (g := gb107) (o := .cells #[.int .i64 t103, .slice Ao10 t104.length co10] 50 (0, 0)) (by (with_reducible repeat (first | refine blk_drewN ?_ _ | refine blk_drew ?_ | refine blk_alloc ?_ _)); exact BK107.out)) : gb107 ≠ gb119)); have n10_ := Aside0.mk ((by rw [hg]; exact Nat.ne_of_gt (blk_lt (g := gb107) (o := .cells #[.int .i64 t103, .slice Ao10 t104.length co10] 50 (0, 0)) (by (with_reducible repeat (first | refine blk_drewN ?_ _ | refine blk_drew ?_ | refine blk_alloc ?_ _)); exact BK107.out)) : gb119 ≠ gb107)); have n11_ := Aside0.mk ((by rw [hg]; exact Nat.ne_of_lt (blk_lt (g := gb113) (o := .cells #[.int .i64 t108, .slice Ao15 t109.length co15] 50 (0, 0)) (by (with_reducible repeat (first | refine blk_drewN ?_ _ | refine blk_drew ?_ | refine blk_alloc ?_ _)); exact BK113.out)) : gb113 ≠ gb119)); have n12_ := Aside0.mk ((by rw [hg]; exact Nat.ne_of_gt (blk_lt (g := gb113) (o := .cells #[.int .i64 t108, .slice Ao15 t109.length co15] 50 (0, 0)) (by (with_reducible repeat (first | refine blk_drewN ?_ _ | refine blk_drew ?_ | refine blk_alloc ?_ _)); exact BK113.out)) : gb119 ≠ gb113)); clear HO106; clear HO111; clear HO117; clear BK107; clear BK113; clear HB; have HO106 := n0_; have HO111 := n1_; have HO117 := n2_; have BK107 := n3_; have BK113 := n4_; have HB := n5_; have BK119 := n6_; have GW119 := n7_; have GE119 := n8_; have NB107_119 := n9_; have NB119_107 := n10_; have NB113_119 := n11_; have NB119_113 := n12_; clear n0_ n1_ n2_ n3_ n4_ n5_ n6_ n7_ n8_ n9_ n10_ n11_ n12_; clear hb hbox hg; have hnb19 := NB119_107.out; have hnc19 := NB107_119.out; have hnb20 := NB119_113.out; have hnc20 := NB113_119.out; have hcz21_0 : w18.cell? ⟨gb119, 0, none⟩ = some (.int .i64 0) := (blk_cell BK119.out 0).trans rfl; have hcz21_1 : w18.cell? ⟨gb119, 1, none⟩ = some (.slice none 0 0) := (blk_cell BK119.out 1).trans rfl; have hfz21_0 := blk_frozen BK119.out 0; have hfz21_1 := blk_frozen BK119.out 1; obtain ⟨Ao22, co22, eo22⟩ := Kd.R_slice HO117.out; subst eo22))
  (try simp only [Act.put, List.setIfInBounds_toArray, List.set_cons_zero, List.set_cons_succ])
  go_cut [43] (fun v43 wc => ∃ (kq : Nat) (x43_5 : Bool), v43 = .bool x43_5 ∧ Aside0 (laws_FnNestedClaim.j0 kq t101 t102 t112 x43_5 t103 t104 t108 t109 = some r) ∧ Aside0 (kq ≤ k) ∧ Aside0 (Kd.R k52 52 wc w.heap.size (fun k_ => some k_ ≠ ((.slice Ao15 t109.length co15) : Value).ownBlock ∧ some k_ ≠ ((.slice Ao22 t115.length co22) : Value).ownBlock) (.slice Ao10 t104.length co10) t104) ∧ Aside0 (Kd.R k52 52 wc w.heap.size (fun k_ => some k_ ≠ ((.slice Ao10 t104.length co10) : Value).ownBlock ∧ some k_ ≠ ((.slice Ao22 t115.length co22) : Value).ownBlock) (.slice Ao15 t109.length co15) t109) ∧ Aside0 (Kd.R k52 52 wc w.heap.size (fun k_ => some k_ ≠ ((.slice Ao10 t104.length co10) : Value).ownBlock ∧ some k_ ≠ ((.slice Ao15 t109.length co15) : Value).ownBlock) (.slice Ao22 t115.length co22) t115) ∧ Aside0 (wc.heap[gb107]? = some (.cells #[.int .i64 t103, (.slice Ao10 t104.length co10)] 50 (0, 0))) ∧ Aside0 (wc.heap[gb113]? = some (.cells #[.int .i64 t108, (.slice Ao15 t109.length co15)] 50 (0, 0))) ∧ Aside0 (wc.heap[gb119]? = some (.cells #[.int .i64 t114, (.slice Ao22 t115.length co22)] 50 (0, 0))) ∧ Aside0 (Below w.heap.size w wc))
  case first =>
   have H := HC6.out
   clear HC6
   replace H := Option.bind_eq_some_iff.mp H
   obtain ⟨t120, A230, H⟩ := H
   replace H : (if t120 = true then (laws_FnNestedClaim.j0 k t101 t102 t112 (t112 != t118) t103 t104 t108 t109) else (laws_FnNestedClaim.j0 k t101 t102 t112 true t103 t104 t108 t109)) = some r := H
   have A23 := Aside0.mk A230
   clear A230
   by_cases c24 : t120 = true
   ·subst c24
    have H1 : (laws_FnNestedClaim.j0 k t101 t102 t112 (t112 != t118) t103 t104 t108 t109) = some r := by rw [if_pos rfl] at H; exact H
    clear H
    have H := H1
    clear H1
    have H' := Aside0.mk H
    clear H
    have hnb25 := NB113_107.out
    have hnc25 := NB107_113.out
    have hnb26 := NB113_119.out
    have hnc26 := NB119_113.out
    have hcz27_0 : w18.cell? ⟨gb113, 0, none⟩ = some (.int .i64 t108) := (blk_cell BK113.out 0).trans rfl
    have hcz27_1 : w18.cell? ⟨gb113, 1, none⟩ = some (.slice Ao15 t109.length co15) := (blk_cell BK113.out 1).trans rfl
    have hfz27_0 := blk_frozen BK113.out 0
    have hfz27_1 := blk_frozen BK113.out 1
    have hnb28 := NB119_107.out
    have hnc28 := NB107_119.out
    have hcz29_0 : w18.cell? ⟨gb119, 0, none⟩ = some (.int .i64 0) := (blk_cell BK119.out 0).trans rfl
    have hcz29_1 : w18.cell? ⟨gb119, 1, none⟩ = some (.slice none 0 0) := (blk_cell BK119.out 1).trans rfl
    have hfz29_0 := blk_frozen BK119.out 0
    have hfz29_1 := blk_frozen BK119.out 1
    go_wp2_with (first | ((with_reducible refine gate_callee (f := 76) rfl ?_); refine goesL_ (some 37) rfl rfl Try.func76 (by kernel_rfl) rfl #[.agg #[.int .i64 t108, .slice Ao15 t109.length co15], .agg #[.int .i64 t114, .slice Ao22 t115.length co22]] rfl (by (try simp only [List.map_toArray, List.map_cons, List.map_nil]); first | done | rfl | (simp only [List.length_drop, List.length_take]; rfl)) ?_; (with_reducible refine (laws_sameClaim.calls k t108 _ _ t109 t114 _ _ t115 true _ ?side1 ?side2 ?side3 ?side4 A23.out).mono ?_); (case side1 => refine (Kd.R_reads' (e := 52) (base := w.heap.size) (ok := fun k_ => ((True ∧ some k_ ≠ (.slice Ao10 t104.length co10 : Value).ownBlock) ∧ some k_ ≠ (.slice Ao22 t115.length co22 : Value).ownBlock)) (n := t109.length) (c := co15) ?_).2.2; exact (by (with_reducible repeat (first | apply Kd.R_alloc | apply Kd.R_drewN | apply Kd.R_drew)); exact (Kd.R_mono (Kd.R_far (p := ⟨gb119, 1, none⟩) (Kd.R_far (p := ⟨gb119, 0, none⟩) (Kd.R_types HO111.out BK119.out (by decide)) (fun _ hk => hk.2) (.int .i64 t114)) (fun _ hk => hk.2) (.slice Ao22 t115.length co22)) (fun _ h_ => h_.1)))); (case side2 => exact (Kd.R_reads' HO111.out).2.1); (case side3 => refine (Kd.R_reads' (e := 52) (base := w.heap.size) (ok := fun k_ => ((True ∧ some k_ ≠ (.slice Ao10 t104.length co10 : Value).ownBlock) ∧ some k_ ≠ (.slice Ao15 t109.length co15 : Value).ownBlock)) (n := t115.length) (c := co22) ?_).2.2; exact (by (with_reducible repeat (first | apply Kd.R_alloc | apply Kd.R_drewN | apply Kd.R_drew)); exact (Kd.R_mono (Kd.R_far (p := ⟨gb119, 1, none⟩) (Kd.R_far (p := ⟨gb119, 0, none⟩) (Kd.R_types HO117.out BK119.out (by decide)) (fun _ hk => hk.2) (.int .i64 t114)) (fun _ hk => hk.2) (.slice Ao22 t115.length co22)) (fun _ h_ => h_.1)))); (case side4 => exact (Kd.R_reads' HO117.out).2.1); rintro e w30 ⟨rfl, hb⟩; refine ⟨_, rfl, ?_⟩; have n0_ := Aside0.mk (Kd.R_below (by (with_reducible repeat (first | apply Kd.R_alloc | apply Kd.R_drewN | apply Kd.R_drew)); exact (Kd.R_mono (Kd.R_far (p := ⟨gb119, 1, none⟩) (Kd.R_far (p := ⟨gb119, 0, none⟩) (Kd.R_types HO106.out BK119.out (by decide)) (fun _ hk => hk.2) (.int .i64 t114)) (fun _ hk => hk.2) (.slice Ao22 t115.length co22)) (fun _ h_ => h_.1))) hb); have n1_ := Aside0.mk (Kd.R_below (by (with_reducible repeat (first | apply Kd.R_alloc | apply Kd.R_drewN | apply Kd.R_drew)); exact (Kd.R_mono (Kd.R_far (p := ⟨gb119, 1, none⟩) (Kd.R_far (p := ⟨gb119, 0, none⟩) (Kd.R_types HO111.out BK119.out (by decide)) (fun _ hk => hk.2) (.int .i64 t114)) (fun _ hk => hk.2) (.slice Ao22 t115.length co22)) (fun _ h_ => h_.1))) hb); have n2_ := Aside0.mk (Kd.R_below (by (with_reducible repeat (first | apply Kd.R_alloc | apply Kd.R_drewN | apply Kd.R_drew)); exact (Kd.R_mono (Kd.R_far (p := ⟨gb119, 1, none⟩) (Kd.R_far (p := ⟨gb119, 0, none⟩) (Kd.R_types HO117.out BK119.out (by decide)) (fun _ hk => hk.2) (.int .i64 t114)) (fun _ hk => hk.2) (.slice Ao22 t115.length co22)) (fun _ h_ => h_.1))) hb); have n3_ := Aside0.mk (blk_below (g := gb107) (o := .cells #[.int .i64 t103, .slice Ao10 t104.length co10] 50 (0, 0)) (by (with_reducible repeat (first | refine blk_drewN ?_ _ | refine blk_drew ?_ | refine blk_alloc ?_ _)); refine blk_far ?_ NB107_119.out _; (with_reducible repeat (first | refine blk_drewN ?_ _ | refine blk_drew ?_ | refine blk_alloc ?_ _)); refine blk_far ?_ NB107_119.out _; (with_reducible repeat (first | refine blk_drewN ?_ _ | refine blk_drew ?_ | refine blk_alloc ?_ _)); exact BK107.out) hb); have n4_ := Aside0.mk (blk_below (g := gb113) (o := .cells #[.int .i64 t108, .slice Ao15 t109.length co15] 50 (0, 0)) (by (with_reducible repeat (first | refine blk_drewN ?_ _ | refine blk_drew ?_ | refine blk_alloc ?_ _)); refine blk_far ?_ NB113_119.out _; (with_reducible repeat (first | refine blk_drewN ?_ _ | refine blk_drew ?_ | refine blk_alloc ?_ _)); refine blk_far ?_ NB113_119.out _; (with_reducible repeat (first | refine blk_drewN ?_ _ | refine blk_drew ?_ | refine blk_alloc ?_ _)); exact BK113.out) hb); have n5_ := Aside0.mk (blk_below (g := gb119) (o := .cells #[.int .i64 t114, .slice Ao22 t115.length co22] 50 (0, 0)) (by (with_reducible repeat (first | refine blk_drewN ?_ _ | refine blk_drew ?_ | refine blk_alloc ?_ _)); refine blk_put (cs := #[.int .i64 t114, .slice none 0 0]) ?_ 1 _ rfl; (with_reducible repeat (first | refine blk_drewN ?_ _ | refine blk_drew ?_ | refine blk_alloc ?_ _)); refine blk_put (cs := #[.int .i64 0, .slice none 0 0]) ?_ 0 _ rfl; (with_reducible repeat (first | refine blk_drewN ?_ _ | refine blk_drew ?_ | refine blk_alloc ?_ _)); exact BK119.out) hb); have n6_ := Aside0.mk (below_step (by repeat (first | (with_reducible first | exact HB.out | apply below_alloc | apply pw_below_drewN | apply below_drew1 | refine below_set ?_ GE107.out | refine below_set ?_ GE113.out | refine below_set ?_ GE119.out) | exact HB.out)) hb); clear HO106; clear HO111; clear HO117; clear BK107; clear BK113; clear BK119; clear HB; have HO106 := n0_; have HO111 := n1_; have HO117 := n2_; have BK107 := n3_; have BK113 := n4_; have BK119 := n5_; have HB := n6_; clear n0_ n1_ n2_ n3_ n4_ n5_ n6_; (try clear hb); (try clear hb2); (try clear hk); (try clear hi)))
    go_meet
    case rel => exact ⟨_, ((t112 != t118)), (by first | rfl | (simp; done) | (simp [*]; done)), H', ⟨by first | omega | exact Nat.le_refl _⟩, ⟨by (with_reducible repeat (first | apply Kd.R_alloc | apply Kd.R_drewN | apply Kd.R_drew)); exact Kd.R_mono HO106.out (fun _ hk => ⟨hk.1.2, hk.2⟩)⟩, ⟨by (with_reducible repeat (first | apply Kd.R_alloc | apply Kd.R_drewN | apply Kd.R_drew)); exact Kd.R_mono HO111.out (fun _ hk => ⟨hk.1.2, hk.2⟩)⟩, ⟨by (with_reducible repeat (first | apply Kd.R_alloc | apply Kd.R_drewN | apply Kd.R_drew)); exact Kd.R_mono HO117.out (fun _ hk => ⟨hk.1.2, hk.2⟩)⟩, ⟨by (with_reducible repeat (first | refine blk_drewN ?_ _ | refine blk_drew ?_ | refine blk_alloc ?_ _)); exact BK107.out⟩, ⟨by (with_reducible repeat (first | refine blk_drewN ?_ _ | refine blk_drew ?_ | refine blk_alloc ?_ _)); exact BK113.out⟩, ⟨by (with_reducible repeat (first | refine blk_drewN ?_ _ | refine blk_drew ?_ | refine blk_alloc ?_ _)); exact BK119.out⟩, ⟨by repeat (first | (with_reducible first | exact HB.out | apply below_alloc | apply pw_below_drewN | apply below_drew1 | refine below_set ?_ GE107.out | refine below_set ?_ GE113.out | refine below_set ?_ GE119.out) | exact HB.out)⟩⟩
   ·replace c24 := Bool.eq_false_iff.mpr c24
    subst c24
    have H1 : (laws_FnNestedClaim.j0 k t101 t102 t112 true t103 t104 t108 t109) = some r := by rw [if_neg (show ¬ (false = true) by decide)] at H; exact H
    clear H
    have H := H1
    clear H1
    have H' := Aside0.mk H
    clear H
    have hnb31 := NB113_107.out
    have hnc31 := NB107_113.out
    have hnb32 := NB113_119.out
    have hnc32 := NB119_113.out
    have hcz33_0 : w18.cell? ⟨gb113, 0, none⟩ = some (.int .i64 t108) := (blk_cell BK113.out 0).trans rfl
    have hcz33_1 : w18.cell? ⟨gb113, 1, none⟩ = some (.slice Ao15 t109.length co15) := (blk_cell BK113.out 1).trans rfl
    have hfz33_0 := blk_frozen BK113.out 0
    have hfz33_1 := blk_frozen BK113.out 1
    have hnb34 := NB119_107.out
    have hnc34 := NB107_119.out
    have hcz35_0 : w18.cell? ⟨gb119, 0, none⟩ = some (.int .i64 0) := (blk_cell BK119.out 0).trans rfl
    have hcz35_1 : w18.cell? ⟨gb119, 1, none⟩ = some (.slice none 0 0) := (blk_cell BK119.out 1).trans rfl
    have hfz35_0 := blk_frozen BK119.out 0
    have hfz35_1 := blk_frozen BK119.out 1
    go_wp2_with (first | ((with_reducible refine gate_callee (f := 76) rfl ?_); refine goesL_ (some 37) rfl rfl Try.func76 (by kernel_rfl) rfl #[.agg #[.int .i64 t108, .slice Ao15 t109.length co15], .agg #[.int .i64 t114, .slice Ao22 t115.length co22]] rfl (by (try simp only [List.map_toArray, List.map_cons, List.map_nil]); first | done | rfl | (simp only [List.length_drop, List.length_take]; rfl)) ?_; (with_reducible refine (laws_sameClaim.calls k t108 _ _ t109 t114 _ _ t115 false _ ?side1 ?side2 ?side3 ?side4 A23.out).mono ?_); (case side1 => refine (Kd.R_reads' (e := 52) (base := w.heap.size) (ok := fun k_ => ((True ∧ some k_ ≠ (.slice Ao10 t104.length co10 : Value).ownBlock) ∧ some k_ ≠ (.slice Ao22 t115.length co22 : Value).ownBlock)) (n := t109.length) (c := co15) ?_).2.2; exact (by (with_reducible repeat (first | apply Kd.R_alloc | apply Kd.R_drewN | apply Kd.R_drew)); exact (Kd.R_mono (Kd.R_far (p := ⟨gb119, 1, none⟩) (Kd.R_far (p := ⟨gb119, 0, none⟩) (Kd.R_types HO111.out BK119.out (by decide)) (fun _ hk => hk.2) (.int .i64 t114)) (fun _ hk => hk.2) (.slice Ao22 t115.length co22)) (fun _ h_ => h_.1)))); (case side2 => exact (Kd.R_reads' HO111.out).2.1); (case side3 => refine (Kd.R_reads' (e := 52) (base := w.heap.size) (ok := fun k_ => ((True ∧ some k_ ≠ (.slice Ao10 t104.length co10 : Value).ownBlock) ∧ some k_ ≠ (.slice Ao15 t109.length co15 : Value).ownBlock)) (n := t115.length) (c := co22) ?_).2.2; exact (by (with_reducible repeat (first | apply Kd.R_alloc | apply Kd.R_drewN | apply Kd.R_drew)); exact (Kd.R_mono (Kd.R_far (p := ⟨gb119, 1, none⟩) (Kd.R_far (p := ⟨gb119, 0, none⟩) (Kd.R_types HO117.out BK119.out (by decide)) (fun _ hk => hk.2) (.int .i64 t114)) (fun _ hk => hk.2) (.slice Ao22 t115.length co22)) (fun _ h_ => h_.1)))); (case side4 => exact (Kd.R_reads' HO117.out).2.1); rintro e w36 ⟨rfl, hb⟩; refine ⟨_, rfl, ?_⟩; have n0_ := Aside0.mk (Kd.R_below (by (with_reducible repeat (first | apply Kd.R_alloc | apply Kd.R_drewN | apply Kd.R_drew)); exact (Kd.R_mono (Kd.R_far (p := ⟨gb119, 1, none⟩) (Kd.R_far (p := ⟨gb119, 0, none⟩) (Kd.R_types HO106.out BK119.out (by decide)) (fun _ hk => hk.2) (.int .i64 t114)) (fun _ hk => hk.2) (.slice Ao22 t115.length co22)) (fun _ h_ => h_.1))) hb); have n1_ := Aside0.mk (Kd.R_below (by (with_reducible repeat (first | apply Kd.R_alloc | apply Kd.R_drewN | apply Kd.R_drew)); exact (Kd.R_mono (Kd.R_far (p := ⟨gb119, 1, none⟩) (Kd.R_far (p := ⟨gb119, 0, none⟩) (Kd.R_types HO111.out BK119.out (by decide)) (fun _ hk => hk.2) (.int .i64 t114)) (fun _ hk => hk.2) (.slice Ao22 t115.length co22)) (fun _ h_ => h_.1))) hb); have n2_ := Aside0.mk (Kd.R_below (by (with_reducible repeat (first | apply Kd.R_alloc | apply Kd.R_drewN | apply Kd.R_drew)); exact (Kd.R_mono (Kd.R_far (p := ⟨gb119, 1, none⟩) (Kd.R_far (p := ⟨gb119, 0, none⟩) (Kd.R_types HO117.out BK119.out (by decide)) (fun _ hk => hk.2) (.int .i64 t114)) (fun _ hk => hk.2) (.slice Ao22 t115.length co22)) (fun _ h_ => h_.1))) hb); have n3_ := Aside0.mk (blk_below (g := gb107) (o := .cells #[.int .i64 t103, .slice Ao10 t104.length co10] 50 (0, 0)) (by (with_reducible repeat (first | refine blk_drewN ?_ _ | refine blk_drew ?_ | refine blk_alloc ?_ _)); refine blk_far ?_ NB107_119.out _; (with_reducible repeat (first | refine blk_drewN ?_ _ | refine blk_drew ?_ | refine blk_alloc ?_ _)); refine blk_far ?_ NB107_119.out _; (with_reducible repeat (first | refine blk_drewN ?_ _ | refine blk_drew ?_ | refine blk_alloc ?_ _)); exact BK107.out) hb); have n4_ := Aside0.mk (blk_below (g := gb113) (o := .cells #[.int .i64 t108, .slice Ao15 t109.length co15] 50 (0, 0)) (by (with_reducible repeat (first | refine blk_drewN ?_ _ | refine blk_drew ?_ | refine blk_alloc ?_ _)); refine blk_far ?_ NB113_119.out _; (with_reducible repeat (first | refine blk_drewN ?_ _ | refine blk_drew ?_ | refine blk_alloc ?_ _)); refine blk_far ?_ NB113_119.out _; (with_reducible repeat (first | refine blk_drewN ?_ _ | refine blk_drew ?_ | refine blk_alloc ?_ _)); exact BK113.out) hb); have n5_ := Aside0.mk (blk_below (g := gb119) (o := .cells #[.int .i64 t114, .slice Ao22 t115.length co22] 50 (0, 0)) (by (with_reducible repeat (first | refine blk_drewN ?_ _ | refine blk_drew ?_ | refine blk_alloc ?_ _)); refine blk_put (cs := #[.int .i64 t114, .slice none 0 0]) ?_ 1 _ rfl; (with_reducible repeat (first | refine blk_drewN ?_ _ | refine blk_drew ?_ | refine blk_alloc ?_ _)); refine blk_put (cs := #[.int .i64 0, .slice none 0 0]) ?_ 0 _ rfl; (with_reducible repeat (first | refine blk_drewN ?_ _ | refine blk_drew ?_ | refine blk_alloc ?_ _)); exact BK119.out) hb); have n6_ := Aside0.mk (below_step (by repeat (first | (with_reducible first | exact HB.out | apply below_alloc | apply pw_below_drewN | apply below_drew1 | refine below_set ?_ GE107.out | refine below_set ?_ GE113.out | refine below_set ?_ GE119.out) | exact HB.out)) hb); clear HO106; clear HO111; clear HO117; clear BK107; clear BK113; clear BK119; clear HB; have HO106 := n0_; have HO111 := n1_; have HO117 := n2_; have BK107 := n3_; have BK113 := n4_; have BK119 := n5_; have HB := n6_; clear n0_ n1_ n2_ n3_ n4_ n5_ n6_; (try clear hb); (try clear hb2); (try clear hk); (try clear hi)))
    go_meet
    case rel => exact ⟨_, (true), (by first | rfl | (simp; done) | (simp [*]; done)), H', ⟨by first | omega | exact Nat.le_refl _⟩, ⟨by (with_reducible repeat (first | apply Kd.R_alloc | apply Kd.R_drewN | apply Kd.R_drew)); exact Kd.R_mono HO106.out (fun _ hk => ⟨hk.1.2, hk.2⟩)⟩, ⟨by (with_reducible repeat (first | apply Kd.R_alloc | apply Kd.R_drewN | apply Kd.R_drew)); exact Kd.R_mono HO111.out (fun _ hk => ⟨hk.1.2, hk.2⟩)⟩, ⟨by (with_reducible repeat (first | apply Kd.R_alloc | apply Kd.R_drewN | apply Kd.R_drew)); exact Kd.R_mono HO117.out (fun _ hk => ⟨hk.1.2, hk.2⟩)⟩, ⟨by (with_reducible repeat (first | refine blk_drewN ?_ _ | refine blk_drew ?_ | refine blk_alloc ?_ _)); exact BK107.out⟩, ⟨by (with_reducible repeat (first | refine blk_drewN ?_ _ | refine blk_drew ?_ | refine blk_alloc ?_ _)); exact BK113.out⟩, ⟨by (with_reducible repeat (first | refine blk_drewN ?_ _ | refine blk_drew ?_ | refine blk_alloc ?_ _)); exact BK119.out⟩, ⟨by repeat (first | (with_reducible first | exact HB.out | apply below_alloc | apply pw_below_drewN | apply below_drew1 | refine below_set ?_ GE107.out | refine below_set ?_ GE113.out | refine below_set ?_ GE119.out) | exact HB.out)⟩⟩
  case rest =>
   clear HC6
   try clear c1
   try clear c2
   try clear c2b0
   try clear c2b1
   try clear p2
   try clear c3
   try clear c7
   try clear c8
   try clear c13
   try clear c18
   try clear c19
   try clear c20
   try clear c24
   try clear c25
   try clear c26
   try clear c28
   try clear c31
   try clear c32
   try clear c34
   try clear hcz14_0
   try clear hcz14_1
   try clear hcz16_0
   try clear hcz16_1
   try clear hcz21_0
   try clear hcz21_1
   try clear hcz27_0
   try clear hcz27_1
   try clear hcz29_0
   try clear hcz29_1
   try clear hcz33_0
   try clear hcz33_1
   try clear hcz35_0
   try clear hcz35_1
   try clear hcz9_0
   try clear hcz9_1
   try clear hfz14_0
   try clear hfz14_1
   try clear hfz16_0
   try clear hfz16_1
   try clear hfz21_0
   try clear hfz21_1
   try clear hfz27_0
   try clear hfz27_1
   try clear hfz29_0
   try clear hfz29_1
   try clear hfz33_0
   try clear hfz33_1
   try clear hfz35_0
   try clear hfz35_1
   try clear hfz9_0
   try clear hfz9_1
   obtain ⟨kq, x43_5, rfl, HA, HJ5, HO_108001, HO_114001, HO_120001, BK107, BK113, BK119, HB⟩ := hcut
   cases kq with
   | zero => exact absurd HA.out (by simp [laws_FnNestedClaim.j0])
   | succ kj5 =>
    have H := HA.out
    clear HA
    simp only [laws_FnNestedClaim.j0] at H
    by_cases c37 : x43_5 = true
    ·subst c37
     have H1 : (some false) = some r := by rw [if_pos rfl] at H; exact H
     clear H
     have H := H1
     clear H1
     exact absurd ((Option.some.inj H).trans hr_.out) (by decide)
    ·replace c37 := Bool.eq_false_iff.mpr c37
     subst c37
     have H1 : (if t112 = true then (laws_FnNestedClaim.l0 kj5 t101 t102 0 t103 t104 t108 t109) else (if t108 = 0 then (if (t109.length : Int) = 0 then ((laws_alive.f).bind fun t121 => (some t121)) else (some false)) else (some false))) = some r := by rw [if_neg (show ¬ (false = true) by decide)] at H; exact H
     clear H
     have H := H1
     clear H1
     by_cases c38 : t112 = true
     ·subst c38
      have H1 : (laws_FnNestedClaim.l0 kj5 t101 t102 0 t103 t104 t108 t109) = some r := by rw [if_pos rfl] at H; exact H
      clear H
      have H := H1
      clear H1
      have H' := Aside0.mk H
      clear H
      go_wp2
      go_loopg [10] kj5 (fun kq v10 w' => ∃ (x10_2 : Int), v10 = .int .i64 x10_2 ∧ Aside0 (laws_FnNestedClaim.l0 kq t101 t102 x10_2 t103 t104 t108 t109 = some r) ∧ Aside0 (kq ≤ kj5) ∧ Aside0 (Kd.R k52 52 w' w.heap.size (fun k_ => some k_ ≠ ((.slice Ao15 t109.length co15) : Value).ownBlock ∧ some k_ ≠ ((.slice Ao22 t115.length co22) : Value).ownBlock) (.slice Ao10 t104.length co10) t104) ∧ Aside0 (Kd.R k52 52 w' w.heap.size (fun k_ => some k_ ≠ ((.slice Ao10 t104.length co10) : Value).ownBlock ∧ some k_ ≠ ((.slice Ao22 t115.length co22) : Value).ownBlock) (.slice Ao15 t109.length co15) t109) ∧ Aside0 (Kd.R k52 52 w' w.heap.size (fun k_ => some k_ ≠ ((.slice Ao10 t104.length co10) : Value).ownBlock ∧ some k_ ≠ ((.slice Ao15 t109.length co15) : Value).ownBlock) (.slice Ao22 t115.length co22) t115) ∧ Aside0 (w'.heap[gb107]? = some (.cells #[.int .i64 t103, (.slice Ao10 t104.length co10)] 50 (0, 0))) ∧ Aside0 (w'.heap[gb113]? = some (.cells #[.int .i64 t108, (.slice Ao15 t109.length co15)] 50 (0, 0))) ∧ Aside0 (w'.heap[gb119]? = some (.cells #[.int .i64 t114, (.slice Ao22 t115.length co22)] 50 (0, 0))) ∧ Aside0 (Below w.heap.size w w'))
      case atStart => exact ⟨(0), (by first | rfl | (simp; done) | (simp [*]; done)), H', ⟨Nat.le_refl _⟩, ⟨by (with_reducible repeat (first | apply Kd.R_alloc | apply Kd.R_drewN | apply Kd.R_drew)); exact HO_108001.out⟩, ⟨by (with_reducible repeat (first | apply Kd.R_alloc | apply Kd.R_drewN | apply Kd.R_drew)); exact HO_114001.out⟩, ⟨by (with_reducible repeat (first | apply Kd.R_alloc | apply Kd.R_drewN | apply Kd.R_drew)); exact HO_120001.out⟩, ⟨by (with_reducible repeat (first | refine blk_drewN ?_ _ | refine blk_drew ?_ | refine blk_alloc ?_ _)); exact BK107.out⟩, ⟨by (with_reducible repeat (first | refine blk_drewN ?_ _ | refine blk_drew ?_ | refine blk_alloc ?_ _)); exact BK113.out⟩, ⟨by (with_reducible repeat (first | refine blk_drewN ?_ _ | refine blk_drew ?_ | refine blk_alloc ?_ _)); exact BK119.out⟩, ⟨by repeat (first | (with_reducible first | exact HB.out | apply below_alloc | apply pw_below_drewN | apply below_drew1 | refine below_set ?_ GE107.out | refine below_set ?_ GE113.out | refine below_set ?_ GE119.out) | exact HB.out)⟩⟩
      case round =>
       clear H'
       try clear c1
       try clear c2
       try clear c2b0
       try clear c2b1
       try clear p2
       try clear c3
       try clear c7
       try clear c8
       try clear c13
       try clear c18
       try clear c19
       try clear c20
       try clear c24
       try clear c25
       try clear c26
       try clear c28
       try clear c31
       try clear c32
       try clear c34
       try clear c37
       try clear c38
       try clear hcz14_0
       try clear hcz14_1
       try clear hcz16_0
       try clear hcz16_1
       try clear hcz21_0
       try clear hcz21_1
       try clear hcz27_0
       try clear hcz27_1
       try clear hcz29_0
       try clear hcz29_1
       try clear hcz33_0
       try clear hcz33_1
       try clear hcz35_0
       try clear hcz35_1
       try clear hcz9_0
       try clear hcz9_1
       try clear hfz14_0
       try clear hfz14_1
       try clear hfz16_0
       try clear hfz16_1
       try clear hfz21_0
       try clear hfz21_1
       try clear hfz27_0
       try clear hfz27_1
       try clear hfz29_0
       try clear hfz29_1
       try clear hfz33_0
       try clear hfz33_1
       try clear hfz35_0
       try clear hfz35_1
       try clear hfz9_0
       try clear hfz9_1
       try clear p2
       obtain ⟨x10_2, rfl, HA, HK2, HO_108001, HO_114001, HO_120001, BK107, BK113, BK119, HB⟩ := hrel
       cases gk with
       | zero => exact absurd HA.out (by simp [laws_FnNestedClaim.l0])
       | succ k2 =>
        have H := HA.out
        clear HA
        simp only [laws_FnNestedClaim.l0] at H
        by_cases c39 : 0 ≤ t101
        ·rw [if_pos c39] at H
         have c39b0 := eq_true c39
         have c39b1 : decide (0 ≤ t101) = true := decide_eq_true c39
         clear c39
         obtain ⟨ji40, hji40⟩ : ∃ j_ : Int, (shl .i64 1 t101) = j_ := ⟨_, rfl⟩
         replace H : (if x10_2 < (ji40) then (if 0 ≤ t102 then (if 0 ≤ t103 then ((impl_MaySay.f k2 t101 t108 t109 x10_2).bind fun t123 => ((impl_HoldsIn.f k2 t101 t104 x10_2).bind fun t124 => (if (t123 != (((Int.tmod (shr .i64 x10_2 t102) 2) == (Int.tmod (shr .i64 x10_2 t103) 2)) == t124)) = true then (some false) else (laws_FnNestedClaim.l0 k2 t101 t102 (wrap64 (x10_2 + 1)) t103 t104 t108 t109)))) else (none)) else (none)) else ((impl_ClaimOk.f k2 t101 t108 t109).bind fun t122 => (if t122 = true then (some (t108 == t102)) else (some false)))) = some r := by first | (rw [hji40] at H; exact H) | (simp only [hji40] at H ⊢; exact H)
         have hji40_ : (IntKind.i64.wrap (1 * 2 ^ min t101.toNat 64)) = ji40 := hji40
         have hji40z : t101 ≤ 64 → (IntKind.i64.wrap (1 * 2 ^ t101.toNat)) = ji40 := shl_small hji40
         have hji40u : (IntKind.i64.wrap (2 ^ min t101.toNat 64)) = ji40 := by have h_ := hji40_; rw [Int.one_mul] at h_; exact h_
         have hji40v : t101 ≤ 64 → (IntKind.i64.wrap (2 ^ t101.toNat)) = ji40 := fun hle_ => by have h_ := hji40z hle_; rw [Int.one_mul] at h_; exact h_
         have hji40y : (wrap64 (1 * 2 ^ min t101.toNat 64)) = ji40 := (i64_w _).symm.trans hji40_
         have hji40x : t101 ≤ 64 → (wrap64 (1 * 2 ^ t101.toNat)) = ji40 := fun h_ => (i64_w _).symm.trans (hji40z h_)
         by_cases c41 : x10_2 < (ji40)
         ·rw [if_pos c41] at H
          have c41b0 : decide (x10_2 < (ji40)) = true := decide_eq_true c41
          clear c41
          by_cases c42 : 0 ≤ t102
          ·rw [if_pos c42] at H
           have c42b0 := eq_true c42
           have c42b1 : decide (0 ≤ t102) = true := decide_eq_true c42
           clear c42
           obtain ⟨ji43, hji43⟩ : ∃ j_ : Int, (shr .i64 x10_2 t102) = j_ := ⟨_, rfl⟩
           replace H : (if 0 ≤ t103 then ((impl_MaySay.f k2 t101 t108 t109 x10_2).bind fun t123 => ((impl_HoldsIn.f k2 t101 t104 x10_2).bind fun t124 => (if (t123 != (((Int.tmod (ji43) 2) == (Int.tmod (shr .i64 x10_2 t103) 2)) == t124)) = true then (some false) else (laws_FnNestedClaim.l0 k2 t101 t102 (wrap64 (x10_2 + 1)) t103 t104 t108 t109)))) else (none)) = some r := by first | (rw [hji43] at H; exact H) | (simp only [hji43] at H ⊢; exact H)
           have hji43_ : (x10_2 / 2 ^ min t102.toNat 64) = ji43 := hji43
           have hji43z : t102 ≤ 64 → (x10_2 / 2 ^ t102.toNat) = ji43 := shr_small hji43
           by_cases c44 : 0 ≤ t103
           ·rw [if_pos c44] at H
            have c44b0 := eq_true c44
            have c44b1 : decide (0 ≤ t103) = true := decide_eq_true c44
            clear c44
            obtain ⟨ji45, hji45⟩ : ∃ j_ : Int, (shr .i64 x10_2 t103) = j_ := ⟨_, rfl⟩
            replace H : ((impl_MaySay.f k2 t101 t108 t109 x10_2).bind fun t123 => ((impl_HoldsIn.f k2 t101 t104 x10_2).bind fun t124 => (if (t123 != (((Int.tmod (ji43) 2) == (Int.tmod (ji45) 2)) == t124)) = true then (some false) else (laws_FnNestedClaim.l0 k2 t101 t102 (wrap64 (x10_2 + 1)) t103 t104 t108 t109)))) = some r := by first | (rw [hji45] at H; exact H) | (simp only [hji45] at H ⊢; exact H)
            have hji45_ : (x10_2 / 2 ^ min t103.toNat 64) = ji45 := hji45
            have hji45z : t103 ≤ 64 → (x10_2 / 2 ^ t103.toNat) = ji45 := shr_small hji45
            replace H := Option.bind_eq_some_iff.mp H
            obtain ⟨t123, A460, H⟩ := H
            replace H : ((impl_HoldsIn.f k2 t101 t104 x10_2).bind fun t124 => (if (t123 != (((Int.tmod (ji43) 2) == (Int.tmod (ji45) 2)) == t124)) = true then (some false) else (laws_FnNestedClaim.l0 k2 t101 t102 (wrap64 (x10_2 + 1)) t103 t104 t108 t109))) = some r := H
            have A46 := Aside0.mk A460
            clear A460
            replace H := Option.bind_eq_some_iff.mp H
            obtain ⟨t124, A470, H⟩ := H
            replace H : (if (t123 != (((Int.tmod (ji43) 2) == (Int.tmod (ji45) 2)) == t124)) = true then (some false) else (laws_FnNestedClaim.l0 k2 t101 t102 (wrap64 (x10_2 + 1)) t103 t104 t108 t109)) = some r := H
            have A47 := Aside0.mk A470
            clear A470
            by_cases c48 : (t123 != (((Int.tmod (ji43) 2) == (Int.tmod (ji45) 2)) == t124)) = true
            ·rw [if_pos c48] at H
             have c48b0 : (t123 != (((Int.tmod (ji43) 2) == (Int.tmod (ji45) 2)) == t124)) = true := c48
             (try (have c48b1 : decide (t123 = (((Int.tmod (ji43) 2) == (Int.tmod (ji45) 2)) == t124)) = false := by simpa using c48))
             (try (have c48b2 : (t123 == (((Int.tmod (ji43) 2) == (Int.tmod (ji45) 2)) == t124)) = false := by simpa using c48))
             (try (have c48b3 : ¬ (t123 = (((Int.tmod (ji43) 2) == (Int.tmod (ji45) 2)) == t124)) := by simpa using c48))
             clear c48
             exact absurd ((Option.some.inj H).trans hr_.out) (by decide)
            ·rw [if_neg c48] at H
             have c48b0 : (t123 != (((Int.tmod (ji43) 2) == (Int.tmod (ji45) 2)) == t124)) = false := by simpa using c48
             (try (have c48b1 : decide (t123 = (((Int.tmod (ji43) 2) == (Int.tmod (ji45) 2)) == t124)) = true := by simpa using c48))
             (try (have c48b2 : (t123 == (((Int.tmod (ji43) 2) == (Int.tmod (ji45) 2)) == t124)) = true := by simpa using c48))
             clear c48
             have H' := Aside0.mk H
             clear H
             try go_wp2
             have n0_ := Aside0.mk (Kd.R_drew HO_108001.out)
             have n1_ := Aside0.mk (Kd.R_drew HO_114001.out)
             have n2_ := Aside0.mk (Kd.R_drew HO_120001.out)
             have n3_ := Aside0.mk (blk_drew BK107.out)
             have n4_ := Aside0.mk (blk_drew BK113.out)
             have n5_ := Aside0.mk (blk_drew BK119.out)
             have n6_ := Aside0.mk (below_drew1 HB.out)
             clear HO_108001
             clear HO_114001
             clear HO_120001
             clear BK107
             clear BK113
             clear BK119
             clear HB
             have HO_108001 := n0_
             have HO_114001 := n1_
             have HO_120001 := n2_
             have BK107 := n3_
             have BK113 := n4_
             have BK119 := n5_
             have HB := n6_
             clear n0_ n1_ n2_ n3_ n4_ n5_ n6_
             refine start_ (n := 11) (S := fun w' => w'.cell? ⟨gb107, 0, none⟩ = some (.int .i64 t103) ∧ w'.cell? ⟨gb107, 1, none⟩ = some (.slice Ao10 t104.length co10)) (ds := []) #[false, false, false, false, false, false, false, false, false, false, false] (by kernel_rfl) rfl rfl ⟨(blk_cell BK107.out 0).trans rfl, (blk_cell BK107.out 1).trans rfl⟩ (fun hHeld => ?_); refine with_tabW laws_FnNestedClaim.tab13 laws_FnNestedClaim.bits13 (fun HT_ HW_ => ?_)
             generalize wr.drew = w49 at HO_108001 HO_114001 HO_120001 BK107 BK113 BK119 HB hHeld ⊢
             refine pure_ (i := 0) (N := some 64) (v := ?_) (a' := ?_) #[true, false, false, false, false, false, false, false, false, false, false] rfl rfl (any_of HT_.out (by kernel_rfl)) (fun _ _ _ h => h) (Or.inl ⟨by rfl, ?_⟩) ?_ ?_
             rotate_left
             ·intro w'
              go_simp
              with_reducible rfl
             rotate_left
             ·simp only [Act.put, List.setIfInBounds_toArray, List.set_cons_zero, List.set_cons_succ, i64_w, i32_w]
              rfl
             refine pure_ (i := 1) (N := some 65) (v := ?_) (a' := ?_) #[true, true, false, false, false, false, false, false, false, false, false] rfl rfl (any_of HT_.out (by kernel_rfl)) (fun _ _ _ h => h) (Or.inl ⟨by rfl, ?_⟩) ?_ ?_
             rotate_left
             ·intro w'
              go_simp
              with_reducible rfl
             rotate_left
             ·simp only [Act.put, List.setIfInBounds_toArray, List.set_cons_zero, List.set_cons_succ, i64_w, i32_w]
              rfl
             refine pure_ (i := 2) (N := some 66) (v := ?_) (a' := ?_) #[true, true, true, false, false, false, false, false, false, false, false] rfl rfl (any_of HT_.out (by kernel_rfl)) (fun _ _ _ h => h) (Or.inl ⟨by rfl, ?_⟩) ?_ ?_
             rotate_left
             ·intro w'
              go_simp
              with_reducible rfl
             rotate_left
             ·simp only [Act.put, List.setIfInBounds_toArray, List.set_cons_zero, List.set_cons_succ, i64_w, i32_w]
              rfl
             refine pure_ (i := 3) (N := some 67) (v := ?_) (a' := ?_) #[true, true, true, true, false, false, false, false, false, false, false] rfl rfl (any_of HT_.out (by kernel_rfl)) (fun _ _ _ h => h) (Or.inl ⟨by rfl, ?_⟩) ?_ ?_
             rotate_left
             ·intro w'
              go_simp
              with_reducible rfl
             rotate_left
             ·simp only [Act.put, List.setIfInBounds_toArray, List.set_cons_zero, List.set_cons_succ, i64_w, i32_w]
              rfl
             refine pure_ (i := 4) (N := some 68) (v := ?_) (a' := ?_) #[true, true, true, true, true, false, false, false, false, false, false] rfl rfl (any_of HT_.out (by kernel_rfl)) (fun _ _ _ h => h) (Or.inl ⟨by rfl, ?_⟩) ?_ ?_
             rotate_left
             ·intro w'
              go_simp
              with_reducible rfl
             rotate_left
             ·simp only [Act.put, List.setIfInBounds_toArray, List.set_cons_zero, List.set_cons_succ, i64_w, i32_w]
              rfl
             refine pure_ (i := 5) (N := some 69) (v := ?_) (a' := ?_) #[true, true, true, true, true, true, false, false, false, false, false] rfl rfl (any_of HT_.out (by kernel_rfl)) (fun _ _ _ h => h) (Or.inl ⟨by rfl, ?_⟩) ?_ ?_
             rotate_left
             ·intro w'
              go_simp
              with_reducible rfl
             rotate_left
             ·simp only [Act.put, List.setIfInBounds_toArray, List.set_cons_zero, List.set_cons_succ, i64_w, i32_w]
              rfl
             refine take_ (i := 6) (N := some 70) (v := ?_) (a' := ?_) #[true, true, true, true, true, true, true, false, false, false, false] rfl rfl (take_ofW HT_.out HW_.out (by kernel_rfl)) (fun _ _ _ h => h) (Or.inl ⟨by rfl, ?_⟩) hHeld ?_ ?_
             rotate_left
             ·rintro w' ⟨s0, s1⟩
              go_simp
              with_reducible rfl
             rotate_left
             ·simp only [Act.put, List.setIfInBounds_toArray, List.set_cons_zero, List.set_cons_succ, i64_w, i32_w]
              rfl
             refine pure_ (i := 7) (N := some 71) (v := ?_) (a' := ?_) #[true, true, true, true, true, true, true, true, false, false, false] rfl rfl (any_of HT_.out (by kernel_rfl)) (fun _ _ _ h => h) (Or.inl ⟨by rfl, ?_⟩) ?_ ?_
             rotate_left
             ·intro w'
              go_simp
              with_reducible rfl
             rotate_left
             ·simp only [Act.put, List.setIfInBounds_toArray, List.set_cons_zero, List.set_cons_succ, i64_w, i32_w]
              rfl
             refine pure_ (i := 8) (N := some 72) (v := ?_) (a' := ?_) #[true, true, true, true, true, true, true, true, true, false, false] rfl rfl (any_of HT_.out (by kernel_rfl)) (fun _ _ _ h => h) (Or.inl ⟨by rfl, ?_⟩) ?_ ?_
             rotate_left
             ·intro w'
              go_simp
              with_reducible rfl
             rotate_left
             ·simp only [Act.put, List.setIfInBounds_toArray, List.set_cons_zero, List.set_cons_succ, i64_w, i32_w]
              rfl
             refine pure_ (i := 9) (N := some 73) (v := ?_) (a' := ?_) #[true, true, true, true, true, true, true, true, true, true, false] rfl rfl (any_of HT_.out (by kernel_rfl)) (fun _ _ _ h => h) (Or.inl ⟨by rfl, ?_⟩) ?_ ?_
             rotate_left
             ·intro w'
              go_simp
              with_reducible rfl
             rotate_left
             ·simp only [Act.put, List.setIfInBounds_toArray, List.set_cons_zero, List.set_cons_succ, i64_w, i32_w]
              rfl
             refine pure_ (i := 10) (N := some 11) (v := ?_) (a' := ?_) #[true, true, true, true, true, true, true, true, true, true, true] rfl rfl (any_of HT_.out (by kernel_rfl)) (fun _ _ _ h => h) (Or.inl ⟨by rfl, ?_⟩) ?_ ?_
             rotate_left
             ·intro w'
              go_simp
              with_reducible rfl
             rotate_left
             ·simp only [Act.put, List.setIfInBounds_toArray, List.set_cons_zero, List.set_cons_succ, i64_w, i32_w]
              rfl
             refine done_ (done_of HT_.out (by kernel_rfl)) ?_
             try go_wp2
             have n0_ := Aside0.mk (Kd.R_drew HO_108001.out)
             have n1_ := Aside0.mk (Kd.R_drew HO_114001.out)
             have n2_ := Aside0.mk (Kd.R_drew HO_120001.out)
             have n3_ := Aside0.mk (blk_drew BK107.out)
             have n4_ := Aside0.mk (blk_drew BK113.out)
             have n5_ := Aside0.mk (blk_drew BK119.out)
             have n6_ := Aside0.mk (below_drew1 HB.out)
             clear HO_108001
             clear HO_114001
             clear HO_120001
             clear BK107
             clear BK113
             clear BK119
             clear HB
             have HO_108001 := n0_
             have HO_114001 := n1_
             have HO_120001 := n2_
             have BK107 := n3_
             have BK113 := n4_
             have BK119 := n5_
             have HB := n6_
             clear n0_ n1_ n2_ n3_ n4_ n5_ n6_
             refine start_ (n := 12) (S := fun w' => w'.cell? ⟨gb113, 0, none⟩ = some (.int .i64 t108) ∧ w'.cell? ⟨gb113, 1, none⟩ = some (.slice Ao15 t109.length co15) ∧ w'.cell? ⟨gb107, 0, none⟩ = some (.int .i64 t103) ∧ w'.cell? ⟨gb107, 1, none⟩ = some (.slice Ao10 t104.length co10)) (ds := []) #[false, false, false, false, false, false, false, false, false, false, false, false] (by kernel_rfl) rfl rfl ⟨(blk_cell BK113.out 0).trans rfl, (blk_cell BK113.out 1).trans rfl, (blk_cell BK107.out 0).trans rfl, (blk_cell BK107.out 1).trans rfl⟩ (fun hHeld => ?_); refine with_tabW laws_FnNestedClaim.tab14 laws_FnNestedClaim.bits14 (fun HT_ HW_ => ?_)
             generalize w49.drew = w50 at HO_108001 HO_114001 HO_120001 BK107 BK113 BK119 HB hHeld ⊢
             refine pure_ (i := 0) (N := some 74) (v := ?_) (a' := ?_) #[true, false, false, false, false, false, false, false, false, false, false, false] rfl rfl (any_of HT_.out (by kernel_rfl)) (fun _ _ _ h => h) (Or.inl ⟨by rfl, ?_⟩) ?_ ?_
             rotate_left
             ·intro w'
              go_simp
              with_reducible rfl
             rotate_left
             ·simp only [Act.put, List.setIfInBounds_toArray, List.set_cons_zero, List.set_cons_succ, i64_w, i32_w]
              rfl
             refine pure_ (i := 2) (N := some 76) (v := ?_) (a' := ?_) #[true, false, true, false, false, false, false, false, false, false, false, false] rfl rfl (any_of HT_.out (by kernel_rfl)) (fun _ _ _ h => h) (Or.inl ⟨by rfl, ?_⟩) ?_ ?_
             rotate_left
             ·intro w'
              go_simp
              with_reducible rfl
             rotate_left
             ·simp only [Act.put, List.setIfInBounds_toArray, List.set_cons_zero, List.set_cons_succ, i64_w, i32_w]
              rfl
             refine pure_ (i := 4) (N := some 78) (v := ?_) (a' := ?_) #[true, false, true, false, true, false, false, false, false, false, false, false] rfl rfl (any_of HT_.out (by kernel_rfl)) (fun _ _ _ h => h) (Or.inl ⟨by rfl, ?_⟩) ?_ ?_
             rotate_left
             ·intro w'
              go_simp
              with_reducible rfl
             rotate_left
             ·simp only [Act.put, List.setIfInBounds_toArray, List.set_cons_zero, List.set_cons_succ, i64_w, i32_w]
              rfl
             refine pure_ (i := 5) (N := some 79) (v := ?_) (a' := ?_) #[true, false, true, false, true, true, false, false, false, false, false, false] rfl rfl (any_of HT_.out (by kernel_rfl)) (fun _ _ _ h => h) (Or.inl ⟨by rfl, ?_⟩) ?_ ?_
             rotate_left
             ·intro w'
              go_simp
              with_reducible rfl
             rotate_left
             ·simp only [Act.put, List.setIfInBounds_toArray, List.set_cons_zero, List.set_cons_succ, i64_w, i32_w]
              rfl
             refine pure_ (i := 6) (N := some 80) (v := ?_) (a' := ?_) #[true, false, true, false, true, true, true, false, false, false, false, false] rfl rfl (any_of HT_.out (by kernel_rfl)) (fun _ _ _ h => h) (Or.inl ⟨by rfl, ?_⟩) ?_ ?_
             rotate_left
             ·intro w'
              go_simp
              with_reducible rfl
             rotate_left
             ·simp only [Act.put, List.setIfInBounds_toArray, List.set_cons_zero, List.set_cons_succ, i64_w, i32_w]
              rfl
             refine pure_ (i := 8) (N := some 82) (v := ?_) (a' := ?_) #[true, false, true, false, true, true, true, false, true, false, false, false] rfl rfl (any_of HT_.out (by kernel_rfl)) (fun _ _ _ h => h) (Or.inl ⟨by rfl, ?_⟩) ?_ ?_
             rotate_left
             ·intro w'
              go_simp
              with_reducible rfl
             rotate_left
             ·simp only [Act.put, List.setIfInBounds_toArray, List.set_cons_zero, List.set_cons_succ, i64_w, i32_w]
              rfl
             refine take_ (i := 1) (N := some 75) (v := ?_) (a' := ?_) #[true, true, true, false, true, true, true, false, true, false, false, false] rfl rfl (take_ofW HT_.out HW_.out (by kernel_rfl)) (fun _ _ _ h => h) (Or.inl ⟨by rfl, ?_⟩) hHeld ?_ ?_
             rotate_left
             ·rintro w' ⟨s0, s1, s2, s3⟩
              go_simp
              with_reducible rfl
             rotate_left
             ·simp only [Act.put, List.setIfInBounds_toArray, List.set_cons_zero, List.set_cons_succ, i64_w, i32_w]
              rfl
             refine take_ (i := 7) (N := some 81) (v := ?_) (a' := ?_) #[true, true, true, false, true, true, true, true, true, false, false, false] rfl rfl (take_ofW HT_.out HW_.out (by kernel_rfl)) (fun _ _ _ h => h) (Or.inl ⟨by rfl, ?_⟩) hHeld ?_ ?_
             rotate_left
             ·rintro w' ⟨s0, s1, s2, s3⟩
              go_simp
              with_reducible rfl
             rotate_left
             ·simp only [Act.put, List.setIfInBounds_toArray, List.set_cons_zero, List.set_cons_succ, i64_w, i32_w]
              rfl
             refine one_ (i := 3) (N := some 77) #[true, true, true, true, true, true, true, true, true, false, false, false] rfl rfl (one_of HT_.out (by kernel_rfl)) (by decide) (fun K hK => ?_)
             refine goes_ Try.func81 (by kernel_rfl) rfl #[.int .i64 t101, .agg #[.int .i64 t108, .slice Ao15 t109.length co15], .int .i64 x10_2] (by rfl) rfl rfl (by (try simp only [List.map_toArray, List.map_cons, List.map_nil]); first | done | rfl | (simp only [List.length_drop, List.length_take]; rfl)) ?_
             with_reducible refine (impl_MaySay.calls k2 t101 t108 _ _ t109 x10_2 t123 _ ?side1 ?side2 A46.out).mono ?_
             (case side1 => repeat (first | exact (Kd.R_reads' HO_114001.out).2.2 | (with_reducible refine Kd.C_alloc ?_ _) | (with_reducible refine Kd.C_drewN ?_ _) | (with_reducible refine Kd.C_drew ?_)))
             (case side2 => exact (Kd.R_reads' HO_114001.out).2.1)
             rintro e w51 ⟨rfl, hb⟩
             refine ⟨_, rfl, ?_⟩
             have n0_ := Aside0.mk (Kd.R_below (by (with_reducible repeat (first | apply Kd.R_alloc | apply Kd.R_drewN | apply Kd.R_drew)); exact HO_108001.out) hb)
             have n1_ := Aside0.mk (Kd.R_below (by (with_reducible repeat (first | apply Kd.R_alloc | apply Kd.R_drewN | apply Kd.R_drew)); exact HO_114001.out) hb)
             have n2_ := Aside0.mk (Kd.R_below (by (with_reducible repeat (first | apply Kd.R_alloc | apply Kd.R_drewN | apply Kd.R_drew)); exact HO_120001.out) hb)
             have n3_ := Aside0.mk (blk_below (g := gb107) (o := .cells #[.int .i64 t103, .slice Ao10 t104.length co10] 50 (0, 0)) (by (with_reducible repeat (first | refine blk_drewN ?_ _ | refine blk_drew ?_ | refine blk_alloc ?_ _)); exact BK107.out) hb)
             have n4_ := Aside0.mk (blk_below (g := gb113) (o := .cells #[.int .i64 t108, .slice Ao15 t109.length co15] 50 (0, 0)) (by (with_reducible repeat (first | refine blk_drewN ?_ _ | refine blk_drew ?_ | refine blk_alloc ?_ _)); exact BK113.out) hb)
             have n5_ := Aside0.mk (blk_below (g := gb119) (o := .cells #[.int .i64 t114, .slice Ao22 t115.length co22] 50 (0, 0)) (by (with_reducible repeat (first | refine blk_drewN ?_ _ | refine blk_drew ?_ | refine blk_alloc ?_ _)); exact BK119.out) hb)
             have n6_ := Aside0.mk (below_step (by repeat (first | (with_reducible first | exact HB.out | apply below_alloc | apply pw_below_drewN | apply below_drew1 | refine below_set ?_ GE107.out | refine below_set ?_ GE113.out | refine below_set ?_ GE119.out) | exact HB.out)) hb)
             clear HO_108001
             clear HO_114001
             clear HO_120001
             clear BK107
             clear BK113
             clear BK119
             clear HB
             have HO_108001 := n0_
             have HO_114001 := n1_
             have HO_120001 := n2_
             have BK107 := n3_
             have BK113 := n4_
             have BK119 := n5_
             have HB := n6_
             clear n0_ n1_ n2_ n3_ n4_ n5_ n6_
             (try clear hb)
             (try clear hb2)
             (try clear hk)
             (try clear hi)
             refine hK.out _ _ ⟨(blk_cell BK113.out 0).trans rfl, (blk_cell BK113.out 1).trans rfl, (blk_cell BK107.out 0).trans rfl, (blk_cell BK107.out 1).trans rfl⟩ (fun hHeld => ?_)
             clear hK K
             refine norm_ (a' := ?_) ?_ ?_
             rotate_left
             ·show Act.put _ (some 77) _ = _
              simp only [Act.put, List.setIfInBounds_toArray, List.set_cons_zero, List.set_cons_succ, i64_w, i32_w]
              rfl
             refine one_ (i := 9) (N := some 83) #[true, true, true, true, true, true, true, true, true, true, false, false] rfl rfl (one_of HT_.out (by kernel_rfl)) (by decide) (fun K hK => ?_)
             refine goes_ Try.func58 (by kernel_rfl) rfl #[.int .i64 t101, .slice Ao10 t104.length co10, .int .i64 x10_2] (by rfl) rfl rfl (by (try simp only [List.map_toArray, List.map_cons, List.map_nil]); first | done | rfl | (simp only [List.length_drop, List.length_take]; rfl)) ?_
             with_reducible refine (impl_HoldsIn.calls k2 t101 _ _ t104 x10_2 t124 _ ?side1 ?side2 A47.out).mono ?_
             (case side1 => repeat (first | exact (Kd.R_reads' HO_108001.out).2.2 | (with_reducible refine Kd.C_alloc ?_ _) | (with_reducible refine Kd.C_drewN ?_ _) | (with_reducible refine Kd.C_drew ?_)))
             (case side2 => exact (Kd.R_reads' HO_108001.out).2.1)
             rintro e w52 ⟨rfl, hb⟩
             refine ⟨_, rfl, ?_⟩
             have n0_ := Aside0.mk (Kd.R_below (by (with_reducible repeat (first | apply Kd.R_alloc | apply Kd.R_drewN | apply Kd.R_drew)); exact HO_108001.out) hb)
             have n1_ := Aside0.mk (Kd.R_below (by (with_reducible repeat (first | apply Kd.R_alloc | apply Kd.R_drewN | apply Kd.R_drew)); exact HO_114001.out) hb)
             have n2_ := Aside0.mk (Kd.R_below (by (with_reducible repeat (first | apply Kd.R_alloc | apply Kd.R_drewN | apply Kd.R_drew)); exact HO_120001.out) hb)
             have n3_ := Aside0.mk (blk_below (g := gb107) (o := .cells #[.int .i64 t103, .slice Ao10 t104.length co10] 50 (0, 0)) (by (with_reducible repeat (first | refine blk_drewN ?_ _ | refine blk_drew ?_ | refine blk_alloc ?_ _)); exact BK107.out) hb)
             have n4_ := Aside0.mk (blk_below (g := gb113) (o := .cells #[.int .i64 t108, .slice Ao15 t109.length co15] 50 (0, 0)) (by (with_reducible repeat (first | refine blk_drewN ?_ _ | refine blk_drew ?_ | refine blk_alloc ?_ _)); exact BK113.out) hb)
             have n5_ := Aside0.mk (blk_below (g := gb119) (o := .cells #[.int .i64 t114, .slice Ao22 t115.length co22] 50 (0, 0)) (by (with_reducible repeat (first | refine blk_drewN ?_ _ | refine blk_drew ?_ | refine blk_alloc ?_ _)); exact BK119.out) hb)
             have n6_ := Aside0.mk (below_step (by repeat (first | (with_reducible first | exact HB.out | apply below_alloc | apply pw_below_drewN | apply below_drew1 | refine below_set ?_ GE107.out | refine below_set ?_ GE113.out | refine below_set ?_ GE119.out) | exact HB.out)) hb)
             clear HO_108001
             clear HO_114001
             clear HO_120001
             clear BK107
             clear BK113
             clear BK119
             clear HB
             have HO_108001 := n0_
             have HO_114001 := n1_
             have HO_120001 := n2_
             have BK107 := n3_
             have BK113 := n4_
             have BK119 := n5_
             have HB := n6_
             clear n0_ n1_ n2_ n3_ n4_ n5_ n6_
             (try clear hb)
             (try clear hb2)
             (try clear hk)
             (try clear hi)
             refine hK.out _ _ ⟨(blk_cell BK113.out 0).trans rfl, (blk_cell BK113.out 1).trans rfl, (blk_cell BK107.out 0).trans rfl, (blk_cell BK107.out 1).trans rfl⟩ (fun hHeld => ?_)
             clear hK K
             refine norm_ (a' := ?_) ?_ ?_
             rotate_left
             ·show Act.put _ (some 83) _ = _
              simp only [Act.put, List.setIfInBounds_toArray, List.set_cons_zero, List.set_cons_succ, i64_w, i32_w]
              rfl
             refine pure_ (i := 10) (N := some 84) (v := ?_) (a' := ?_) #[true, true, true, true, true, true, true, true, true, true, true, false] rfl rfl (any_of HT_.out (by kernel_rfl)) (fun _ _ _ h => h) (Or.inl ⟨by rfl, ?_⟩) ?_ ?_
             rotate_left
             ·intro w'
              go_simp
              with_reducible rfl
             rotate_left
             ·simp only [Act.put, List.setIfInBounds_toArray, List.set_cons_zero, List.set_cons_succ, i64_w, i32_w]
              rfl
             refine pure_ (i := 11) (N := some 85) (v := ?_) (a' := ?_) #[true, true, true, true, true, true, true, true, true, true, true, true] rfl rfl (any_of HT_.out (by kernel_rfl)) (fun _ _ _ h => h) (Or.inl ⟨by rfl, ?_⟩) ?_ ?_
             rotate_left
             ·intro w'
              go_simp
              with_reducible rfl
             rotate_left
             ·simp only [Act.put, List.setIfInBounds_toArray, List.set_cons_zero, List.set_cons_succ, i64_w, i32_w]
              rfl
             refine done_ (done_of HT_.out (by kernel_rfl)) ?_
             try go_wp2
             go_roundg k2
             case measure => have := HJ5.out; have := HK2.out; omega
             case rel => exact ⟨(wrap64 (x10_2 + 1)), (by first | rfl | (simp; done) | (simp [*]; done)), H', ⟨by have := HJ5.out; have := HK2.out; omega⟩, ⟨by (with_reducible repeat (first | apply Kd.R_alloc | apply Kd.R_drewN | apply Kd.R_drew)); exact HO_108001.out⟩, ⟨by (with_reducible repeat (first | apply Kd.R_alloc | apply Kd.R_drewN | apply Kd.R_drew)); exact HO_114001.out⟩, ⟨by (with_reducible repeat (first | apply Kd.R_alloc | apply Kd.R_drewN | apply Kd.R_drew)); exact HO_120001.out⟩, ⟨by (with_reducible repeat (first | refine blk_drewN ?_ _ | refine blk_drew ?_ | refine blk_alloc ?_ _)); exact BK107.out⟩, ⟨by (with_reducible repeat (first | refine blk_drewN ?_ _ | refine blk_drew ?_ | refine blk_alloc ?_ _)); exact BK113.out⟩, ⟨by (with_reducible repeat (first | refine blk_drewN ?_ _ | refine blk_drew ?_ | refine blk_alloc ?_ _)); exact BK119.out⟩, ⟨by repeat (first | (with_reducible first | exact HB.out | apply below_alloc | apply pw_below_drewN | apply below_drew1 | refine below_set ?_ GE107.out | refine below_set ?_ GE113.out | refine below_set ?_ GE119.out) | exact HB.out)⟩⟩
           ·rw [if_neg c44] at H
            exact absurd H (by simp)
          ·rw [if_neg c42] at H
           exact absurd H (by simp)
         ·rw [if_neg c41] at H
          have c41b0 : decide (x10_2 < (ji40)) = false := decide_eq_false c41
          clear c41
          replace H := Option.bind_eq_some_iff.mp H
          obtain ⟨t122, A530, H⟩ := H
          replace H : (if t122 = true then (some (t108 == t102)) else (some false)) = some r := H
          have A53 := Aside0.mk A530
          clear A530
          by_cases c54 : t122 = true
          ·subst c54
           have H1 : (some (t108 == t102)) = some r := by rw [if_pos rfl] at H; exact H
           clear H
           have H := H1
           clear H1
           obtain rfl := Option.some.inj H
           have hnb55 := NB113_107.out
           have hnc55 := NB107_113.out
           have hnb56 := NB113_119.out
           have hnc56 := NB119_113.out
           have hcz57_0 : wr.cell? ⟨gb113, 0, none⟩ = some (.int .i64 t108) := (blk_cell BK113.out 0).trans rfl
           have hcz57_1 : wr.cell? ⟨gb113, 1, none⟩ = some (.slice Ao15 t109.length co15) := (blk_cell BK113.out 1).trans rfl
           have hfz57_0 := blk_frozen BK113.out 0
           have hfz57_1 := blk_frozen BK113.out 1
           go_wp2_with (first | ((with_reducible refine gate_callee (f := 77) rfl ?_); refine goesL_ (some 88) rfl rfl Try.func77 (by kernel_rfl) rfl #[.int .i64 t101, .agg #[.int .i64 t108, .slice Ao15 t109.length co15]] rfl (by (try simp only [List.map_toArray, List.map_cons, List.map_nil]); first | done | rfl | (simp only [List.length_drop, List.length_take]; rfl)) ?_; (with_reducible refine (impl_ClaimOk.calls k2 t101 t108 _ _ t109 true _ ?side1 ?side2 A53.out).mono ?_); (case side1 => repeat (first | exact (Kd.R_reads' HO_114001.out).2.2 | (with_reducible refine Kd.C_alloc ?_ _) | (with_reducible refine Kd.C_drewN ?_ _) | (with_reducible refine Kd.C_drew ?_))); (case side2 => exact (Kd.R_reads' HO_114001.out).2.1); rintro e w58 ⟨rfl, hb⟩; refine ⟨_, rfl, ?_⟩; have n0_ := Aside0.mk (Kd.R_below (by (with_reducible repeat (first | apply Kd.R_alloc | apply Kd.R_drewN | apply Kd.R_drew)); exact HO_108001.out) hb); have n1_ := Aside0.mk (Kd.R_below (by (with_reducible repeat (first | apply Kd.R_alloc | apply Kd.R_drewN | apply Kd.R_drew)); exact HO_114001.out) hb); have n2_ := Aside0.mk (Kd.R_below (by (with_reducible repeat (first | apply Kd.R_alloc | apply Kd.R_drewN | apply Kd.R_drew)); exact HO_120001.out) hb); have n3_ := Aside0.mk (blk_below (g := gb107) (o := .cells #[.int .i64 t103, .slice Ao10 t104.length co10] 50 (0, 0)) (by (with_reducible repeat (first | refine blk_drewN ?_ _ | refine blk_drew ?_ | refine blk_alloc ?_ _)); exact BK107.out) hb); have n4_ := Aside0.mk (blk_below (g := gb113) (o := .cells #[.int .i64 t108, .slice Ao15 t109.length co15] 50 (0, 0)) (by (with_reducible repeat (first | refine blk_drewN ?_ _ | refine blk_drew ?_ | refine blk_alloc ?_ _)); exact BK113.out) hb); have n5_ := Aside0.mk (blk_below (g := gb119) (o := .cells #[.int .i64 t114, .slice Ao22 t115.length co22] 50 (0, 0)) (by (with_reducible repeat (first | refine blk_drewN ?_ _ | refine blk_drew ?_ | refine blk_alloc ?_ _)); exact BK119.out) hb); have n6_ := Aside0.mk (below_step (by repeat (first | (with_reducible first | exact HB.out | apply below_alloc | apply pw_below_drewN | apply below_drew1 | refine below_set ?_ GE107.out | refine below_set ?_ GE113.out | refine below_set ?_ GE119.out) | exact HB.out)) hb); clear HO_108001; clear HO_114001; clear HO_120001; clear BK107; clear BK113; clear BK119; clear HB; have HO_108001 := n0_; have HO_114001 := n1_; have HO_120001 := n2_; have BK107 := n3_; have BK113 := n4_; have BK119 := n5_; have HB := n6_; clear n0_ n1_ n2_ n3_ n4_ n5_ n6_; (try clear hb); (try clear hb2); (try clear hk); (try clear hi); have hcz59_0 : w58.cell? ⟨gb113, 0, none⟩ = some (.int .i64 t108) := (blk_cell BK113.out 0).trans rfl; have hcz59_1 : w58.cell? ⟨gb113, 1, none⟩ = some (.slice Ao15 t109.length co15) := (blk_cell BK113.out 1).trans rfl; have hfz59_0 := blk_frozen BK113.out 0; have hfz59_1 := blk_frozen BK113.out 1))
           go_ret
           exact ⟨by first | rfl | (simp [errW_none, errW_some] <;> rfl) | (simp only [← hji40]; first | rfl | (simp [errW_none, errW_some] <;> rfl)) | (simp [*, errW_none, errW_some] <;> rfl), by repeat (first | (with_reducible first | exact HB.out | apply below_alloc | apply pw_below_drewN | apply below_drew1 | refine below_set ?_ GE107.out | refine below_set ?_ GE113.out | refine below_set ?_ GE119.out) | exact HB.out)⟩
          ·replace c54 := Bool.eq_false_iff.mpr c54
           subst c54
           have H1 : (some false) = some r := by rw [if_neg (show ¬ (false = true) by decide)] at H; exact H
           clear H
           have H := H1
           clear H1
           exact absurd ((Option.some.inj H).trans hr_.out) (by decide)
        ·rw [if_neg c39] at H
         exact absurd H (by simp)
     ·replace c38 := Bool.eq_false_iff.mpr c38
      subst c38
      have H1 : (if t108 = 0 then (if (t109.length : Int) = 0 then ((laws_alive.f).bind fun t121 => (some t121)) else (some false)) else (some false)) = some r := by rw [if_neg (show ¬ (false = true) by decide)] at H; exact H
      clear H
      have H := H1
      clear H1
      by_cases c60 : t108 = 0
      ·rw [if_pos c60] at H
       have c60b0 : (t108 == 0) = true := beq_iff_eq.mpr c60
       have c60b1 : (t108 != 0) = false := bne_eq_false_iff_eq.mpr c60
       clear c60
       by_cases c61 : (t109.length : Int) = 0
       ·rw [if_pos c61] at H
        have c61b0 : ((t109.length : Int) == 0) = true := beq_iff_eq.mpr c61
        have c61b1 : ((t109.length : Int) != 0) = false := bne_eq_false_iff_eq.mpr c61
        clear c61
        replace H := Option.bind_eq_some_iff.mp H
        obtain ⟨t121, A620, H⟩ := H
        replace H : (some t121) = some r := H
        have A62 := Aside0.mk A620
        clear A620
        obtain rfl := Option.some.inj H
        have hnb63 := NB113_107.out
        have hnc63 := NB107_113.out
        have hnb64 := NB113_119.out
        have hnc64 := NB119_113.out
        have hcz65_0 : wc.cell? ⟨gb113, 0, none⟩ = some (.int .i64 t108) := (blk_cell BK113.out 0).trans rfl
        have hcz65_1 : wc.cell? ⟨gb113, 1, none⟩ = some (.slice Ao15 t109.length co15) := (blk_cell BK113.out 1).trans rfl
        have hfz65_0 := blk_frozen BK113.out 0
        have hfz65_1 := blk_frozen BK113.out 1
        go_wp2_with (first | (go_at_call 37; (with_reducible refine (laws_alive.calls  t121 _ A62.out).mono ?_); rintro e w' ⟨rfl, ⟨nd, rfl⟩⟩))
        go_ret
        exact ⟨by first | rfl | (simp [errW_none, errW_some] <;> rfl) | (simp [*, errW_none, errW_some] <;> rfl), by repeat (first | (with_reducible first | exact HB.out | apply below_alloc | apply pw_below_drewN | apply below_drew1 | refine below_set ?_ GE107.out | refine below_set ?_ GE113.out | refine below_set ?_ GE119.out) | exact HB.out)⟩
       ·rw [if_neg c61] at H
        have c61b0 : ((t109.length : Int) == 0) = false := beq_eq_false_iff_ne.mpr c61
        have c61b1 : ((t109.length : Int) != 0) = true := bne_iff_ne.mpr c61
        have c61b2 : ¬ (t109 = []) := fun h_ => c61 (by rw [h_]; rfl)
        exact absurd ((Option.some.inj H).trans hr_.out) (by decide)
      ·rw [if_neg c60] at H
       have c60b0 : (t108 == 0) = false := beq_eq_false_iff_ne.mpr c60
       have c60b1 : (t108 != 0) = true := bne_iff_ne.mpr c60
       exact absurd ((Option.some.inj H).trans hr_.out) (by decide)

/-- THE ONE PURE STATEMENT of laws_FnNestedClaim: yours. -/
def laws_FnNestedClaim.Pure : Prop := ∀ (l0 : List Int), l0.length ≤ maxLen → l0.length * 1 ≤ 140737488351232 → (∀ x ∈ l0, (Lit.int .u8 x).wf = true) → ∃ k, laws_FnNestedClaim.f k l0 = some true
theorem laws_FnNestedClaim.walk (P : laws_FnNestedClaim.Pure) (a0 : Option Addr) (len0 cap0 : Nat) (z0 : List Int) (w : World) (w0 : (a0 = none ∧ len0 = 0 ∧ cap0 = 0 ∧ z0 = []) ∨ ∃ x, a0 = some x ∧ len0 ≤ cap0 ∧ cap0 ≤ maxLen ∧ z0.length = cap0 ∧ (∀ i, i < z0.length → w.cell? (x.add i) = some (.int .u8 (z0.getD i 0))) ∧ ∀ n ∈ z0, (Lit.int .u8 n).wf = true) (y0 : len0 * 1 ≤ 140737488351232) :
  Calls Try.prog 18 #[.slice a0 len0 cap0] w fun e w' => e = .returned (.bool true) ∧ Below w.heap.size w w' := by
 obtain ⟨l0, rfl, hr0, hm0, hw0, hc0⟩ := ReadsInt.ofRowC w0
 obtain ⟨k, h⟩ := P l0 hm0 y0 hw0
 refine (laws_FnNestedClaim.calls k _ _ l0 true w (Kd.C_of_reads (d := (0 : Int)) (h1 := fun _ => rfl) hr0) hc0 ⟨rfl⟩ h).mono ?_
 rintro e w' ⟨rfl, hd⟩
 exact ⟨rfl, hd⟩

end Go.Proofs.Ytpampekijfjlkaa.X

/- Drawn claims. -/
namespace Go.Proofs.Ytpampekijfjlkaa.L
open Go.RowKit Go.Proofs.Ytpampekijfjlkaa.X Go.Proofs.YtpampekijfjlkaaW.PrintWords Go.Proofs.YtpampekijfjlkaaW.PrintLast Go.Proofs.YtpampekijfjlkaaW.PrintMore

theorem l20Claim_ev {s : List Int} (hs : Rd s) {n : Int} (h0 : 0 ≤ n) (h1 : n ≤ 500000) (P m : Int) (hP : P ≤ 1000) (hm0 : -1000 ≤ m) (hm : m ≤ 400) :
  ∃ (i : Int) (t : List M) (n' : Int), Ev (fun k => spec_l20Claim.f k s n P m) (i, t, n') ∧ -1 ≤ i ∧ i ≤ 1000 ∧ t.length ≤ 16 ∧ Sm t ∧ n ≤ n' ∧ n' ≤ n + 100 := by
 have hmx : 1 ≤ mx P 1 ∧ mx P 1 ≤ 1000 := by unfold mx; split <;> omega
 obtain ⟨a, ha, ha0, ha1⟩ := pick_ev hs (p := n) (by omega) (by omega) (mx P 1) (by omega)
 have ha2 := ha1 (by omega)
 obtain ⟨t, p', ht, h2, h3, h4, h5⟩ := l20Term_ev hs (p := n + 1) (by omega) (by omega) P (m * 2) (by omega)
 obtain ⟨b, p2, hb, hb0, hb1⟩ := odd_ev hs (p := p') (by omega) (by omega) m (by omega)
 cases b with
 | false =>
  refine ⟨a, t, p2, ?_, by omega, by omega, h2, h3, by omega, by omega⟩
  unfold spec_l20Claim.f
  simp only [w64 (x := m * 2) (by omega) (by omega)]
  exact Ev.bind ha (Ev.bind ht (Ev.bind hb (Ev.no (by simp) (Ev.some _))))
 | true =>
  obtain ⟨c, hc, hc0, hc1⟩ := pick_ev hs (p := p2) (by omega) (by omega) 2 (by omega)
  have hc2 := hc1 (by omega)
  refine ⟨rd [-1, 4] c, t, p2 + 1, ?_, ?_, ?_, h2, h3, by omega, by omega⟩
  ·unfold spec_l20Claim.f
   simp only [w64 (x := m * 2) (by omega) (by omega), Option.bind_some]
   exact Ev.bind ha (Ev.bind ht (Ev.bind hb (Ev.yes rfl (Ev.bind hc (Ev.yes hc0 (Ev.yes (by simpa using hc2) (Ev.some _)))))))
  ·obtain rfl | rfl : c = 0 ∨ c = 1 := by omega
   ·decide
   ·decide
  ·obtain rfl | rfl : c = 0 ∨ c = 1 := by omega
   ·decide
   ·decide
end Go.Proofs.Ytpampekijfjlkaa.L

/- Drawn claims with their people. -/
namespace Go.Proofs.Ytpampekijfjlkaa.L
open Go.RowKit Go.Proofs.Ytpampekijfjlkaa.X Go.Proofs.YtpampekijfjlkaaW.PrintWords Go.Proofs.YtpampekijfjlkaaW.PrintLast Go.Proofs.YtpampekijfjlkaaW.PrintMore

theorem l20Claimed_ev {s : List Int} (hs : Rd s) (m : Int) (hm0 : -1000 ≤ m) (hm : m ≤ 400) : ∃ (p i : Int) (t : List M) (n : Int), Ev (fun k => spec_l20Claimed.f k s 0 m) (p, i, t, n) ∧ 1 ≤ p ∧ p ≤ 4 ∧ -1 ≤ i ∧ i ≤ 1000 ∧ t.length ≤ 16 ∧ Sm t ∧ 0 ≤ n ∧ n ≤ 1000 := by
 obtain ⟨a, ha, ha0, ha1⟩ := pick_ev hs (p := 0) (by omega) (by omega) 4 (by omega)
 have ha2 := ha1 (by omega)
 obtain ⟨i, t, n', h, h2, h3, h4, h5, h6, h7⟩ := l20Claim_ev hs (n := 0 + 1) (by omega) (by omega) (1 + a) m (by omega) hm0 hm
 refine ⟨1 + a, i, t, n', ?_, by omega, by omega, h2, h3, h4, h5, by omega, by omega⟩
 unfold spec_l20Claimed.f
 refine Ev.bind ha ?_
 simp only [w64 (x := 1 + a) (by omega) (by omega)]
 exact Ev.bind h (Ev.some _)
end Go.Proofs.Ytpampekijfjlkaa.L

/- Drawn claims of claims. -/
namespace Go.Proofs.Ytpampekijfjlkaa.L
open Go.RowKit Go.Proofs.Ytpampekijfjlkaa.X Go.Proofs.YtpampekijfjlkaaW.PrintWords Go.Proofs.YtpampekijfjlkaaW.PrintLast Go.Proofs.YtpampekijfjlkaaW.PrintMore

theorem DrawNestedClaim_ev {l : List Int} (hw : ∀ x ∈ l, (Lit.int .u8 x).wf = true) : ∃ (p j i : Int) (t : List M), Ev (fun k => spec_DrawNestedClaim.f k l) (p, j, i, t) ∧ 1 ≤ p ∧ p ≤ 4 ∧ 0 ≤ j ∧ j ≤ 1000 ∧ -1 ≤ i ∧ i ≤ 1000 ∧ t.length ≤ 16 ∧ Sm t := by
 obtain ⟨s, hs, ho⟩ := open_eq hw
 obtain ⟨p, i, t, n, h, h1, h2, h3, h4, h5, h6, h7, h8⟩ := l20Claimed_ev hs 12 (by omega) (by omega)
 obtain ⟨a, ha, ha0, ha1⟩ := pick_ev hs (p := n) (by omega) (by omega) p (by omega)
 have ha2 := ha1 (by omega)
 obtain ⟨b, hb, hb0, hb1⟩ := pick_ev hs (p := n + 1) (by omega) (by omega) 40 (by omega)
 have hb2 := tdiv39 hb0 (hb1 (by omega))
 refine ⟨p, a + Int.tdiv b 39 * 4, i, t, ?_, h1, h2, by omega, by omega, h3, h4, h5, h6⟩
 unfold spec_DrawNestedClaim.f
 rw [ho]
 simp only [Option.bind_some]
 refine Ev.bind h (Ev.bind ha (Ev.bind hb ?_))
 simp only [w64 (x := Int.tdiv b 39) (by omega) (by omega), w64 (x := Int.tdiv b 39 * 4) (by omega) (by omega), w64 (x := a + Int.tdiv b 39 * 4) (by omega) (by omega)]
 exact Ev.some _
end Go.Proofs.Ytpampekijfjlkaa.L

/- Plain laws of claims: which are ones. -/
namespace Go.Proofs.Ytpampekijfjlkaa.L
open Go.RowKit Go.Proofs.Ytpampekijfjlkaa.X Go.Proofs.YtpampekijfjlkaaW.PrintWords Go.Proofs.YtpampekijfjlkaaW.PrintLast Go.Proofs.YtpampekijfjlkaaW.PrintMore

/-- A claim by one of so many people. -/
def clok (p i : Int) (t : List M) : Bool := decide (0 ≤ i ∧ i < p) && (tok p t && decide (t.length ≤ 13))
theorem clok_iff {p i : Int} {t : List M} : clok p i t = true ↔ 0 ≤ i ∧ i < p ∧ tok p t = true ∧ t.length ≤ 13 := by
 unfold clok
 simp only [Bool.and_eq_true, decide_eq_true_eq]
 exact ⟨fun h => ⟨h.1.1, h.1.2, h.2.1, h.2.2⟩, fun h => ⟨⟨h.1, h.2.1⟩, h.2.2.1, h.2.2.2⟩⟩
theorem clok_false {p i : Int} {t : List M} (h : ¬ (0 ≤ i ∧ i < p ∧ tok p t = true ∧ t.length ≤ 13)) : false = clok p i t := by
 cases e : clok p i t with
 | false => rfl
 | true => exact absurd (clok_iff.1 e) h
theorem impl_ClaimOk_ev (p i : Int) (t : List M) : Ev (fun k => impl_ClaimOk.f k p i t) (clok p i t) := by
 unfold impl_ClaimOk.f
 simp only [peopleOk_eq, Option.bind_some]
 by_cases h0 : 1 ≤ p ∧ p ≤ 4
 ·refine Ev.yes (decide_eq_true h0) ?_
  by_cases h1 : i ≥ 0
  ·refine Ev.yes h1 ?_
   by_cases h2 : i < p
   ·refine Ev.yes h2 (Ev.bind (impl_TermOk_ev p t) ?_)
    by_cases h3 : tok p t = true
    ·refine Ev.yes h3 (Ev.cast (Ev.some _) ?_)
     by_cases h4 : t.length ≤ 13
     ·rw [clok_iff.2 ⟨h1, h2, h3, h4⟩]; exact decide_eq_true (by omega)
     ·rw [← clok_false (fun h => h4 h.2.2.2)]; exact decide_eq_false (by omega)
    ·exact Ev.no h3 (Ev.cast (Ev.some _) (clok_false (fun h => h3 h.2.2.1)))
   ·exact Ev.no h2 (Ev.cast (Ev.some _) (clok_false (fun h => h2 h.2.1)))
  ·exact Ev.no h1 (Ev.cast (Ev.some _) (clok_false (fun h => h1 h.1)))
 ·refine Ev.no (by simpa using h0) (Ev.cast (Ev.some _) (clok_false (fun h => h0 ?_)))
  have := tok_iff.1 h.2.2.1
  omega
theorem spec_ClaimOk_ev (p i : Int) (t : List M) (hl : t.length ≤ 4611686018427387904) (hw : ∀ m ∈ t, m.f1 ≤ 9223372036854775807) : Ev (fun k => spec_ClaimOk.f k p i t) (clok p i t) := by
 unfold spec_ClaimOk.f
 by_cases h1 : i ≥ 0
 ·refine Ev.yes h1 ?_
  by_cases h2 : i < p
  ·refine Ev.yes h2 (Ev.bind (spec_TermOk_ev p t hl hw) ?_)
   by_cases h3 : tok p t = true
   ·refine Ev.yes h3 (Ev.cast (Ev.some _) ?_)
    by_cases h4 : t.length ≤ 13
    ·rw [clok_iff.2 ⟨h1, h2, h3, h4⟩]; exact decide_eq_true (by omega)
    ·rw [← clok_false (fun h => h4 h.2.2.2)]; exact decide_eq_false (by omega)
   ·exact Ev.no h3 (Ev.cast (Ev.some _) (clok_false (fun h => h3 h.2.2.1)))
  ·exact Ev.no h2 (Ev.cast (Ev.some _) (clok_false (fun h => h2 h.2.1)))
 ·exact Ev.no h1 (Ev.cast (Ev.some _) (clok_false (fun h => h1 h.1)))
/-- A claim, and whether it is one. -/
def claimR (p i : Int) (t : List M) : Int × List M × Bool := if clok p i t = true then (i, t, true) else (0, [], false)
theorem claimR_length {p i : Int} {t : List M} : (claimR p i t).2.1.length ≤ 13 := by
 unfold claimR
 split
 ·rename_i h; exact (clok_iff.1 h).2.2.2
 ·simp
end Go.Proofs.Ytpampekijfjlkaa.L

/- Plain law of making a claim. -/
namespace Go.Proofs.Ytpampekijfjlkaa.L
open Go.RowKit Go.Proofs.Ytpampekijfjlkaa.X Go.Proofs.YtpampekijfjlkaaW.PrintWords Go.Proofs.YtpampekijfjlkaaW.PrintLast Go.Proofs.YtpampekijfjlkaaW.PrintMore

theorem clone_eq' (t : List M) (ht : t.length ≤ 4611686018427) : impl_Mark.f t = some t := by
 unfold impl_Mark.f
 simp only [Option.bind_some, List.length_nil, List.nil_append]
 rw [if_pos (by omega)]
theorem claimBy_ev (p i : Int) (t : List M) (ht : t.length ≤ 4611686018427) : Ev (fun k => impl_claimBy.f k p i t) (claimR p i t) := by
 unfold impl_claimBy.f
 rw [clone_eq' t ht]
 simp only [Option.bind_some]
 refine Ev.bind (impl_ClaimOk_ev p i t) ?_
 by_cases h : clok p i t = true
 ·exact Ev.yes h (Ev.cast (Ev.some _) (if_pos h).symm)
 ·exact Ev.no h (Ev.cast (Ev.some _) (if_neg h).symm)
end Go.Proofs.Ytpampekijfjlkaa.L

/- Plain law of the trick: a mark of a person ahead, and the mark of sameness behind. -/
namespace Go.Proofs.Ytpampekijfjlkaa.L
open Go.RowKit Go.Proofs.Ytpampekijfjlkaa.X Go.Proofs.YtpampekijfjlkaaW.PrintWords Go.Proofs.YtpampekijfjlkaaW.PrintLast Go.Proofs.YtpampekijfjlkaaW.PrintMore

/-- The trick of a row of marks. -/
def wrapM (i : Int) (t : List M) : List M := ⟨0, i⟩ :: (t ++ [⟨5, 0⟩])
theorem wrapM_length (i : Int) (t : List M) : (wrapM i t).length = t.length + 2 := by simp [wrapM]
theorem trick_eq (i : Int) (t : List M) (ht : t.length ≤ 4611686018427) : impl_trick.f i t = some (wrapM i t) := by
 unfold impl_trick.f
 simp only [Option.bind_some, List.length_cons, List.length_nil, List.length_append]
 rw [if_pos (by omega), if_pos (by omega)]
 rfl
end Go.Proofs.Ytpampekijfjlkaa.L

/- Plain laws of claims of claims. -/
namespace Go.Proofs.Ytpampekijfjlkaa.L
open Go.RowKit Go.Proofs.Ytpampekijfjlkaa.X Go.Proofs.YtpampekijfjlkaaW.PrintWords Go.Proofs.YtpampekijfjlkaaW.PrintLast Go.Proofs.YtpampekijfjlkaaW.PrintMore

def nestR (p j i : Int) (t : List M) : Int × List M × Bool := if clok p i t = true then claimR p j (wrapM i t) else (0, [], false)
theorem nestR_length {p j i : Int} {t : List M} : (nestR p j i t).2.1.length ≤ 13 := by
 unfold nestR
 split
 ·exact claimR_length
 ·simp
theorem impl_Nested_ev (p j i : Int) (t : List M) : Ev (fun k => impl_NestedClaim.f k p j i t) (nestR p j i t) := by
 unfold impl_NestedClaim.f
 refine Ev.bind (impl_ClaimOk_ev p i t) ?_
 by_cases h : clok p i t = true
 ·refine Ev.yes h ?_
  have hl := (clok_iff.1 h).2.2.2
  rw [trick_eq i t (by omega)]
  simp only [Option.bind_some]
  refine Ev.bind (claimBy_ev p j (wrapM i t) (by rw [wrapM_length]; omega)) (Ev.cast (Ev.some _) ?_)
  exact (if_pos h).symm
 ·exact Ev.no h (Ev.cast (Ev.some _) (if_neg h).symm)
theorem spec_Nested_ev (p j i : Int) (t : List M) (hl : t.length ≤ 1048576) (hw : ∀ m ∈ t, m.f1 ≤ 9223372036854775807) (hi : i ≤ 9223372036854775807) : Ev (fun k => spec_NestedClaim.f k p j i t) (nestR p j i t) := by
 unfold spec_NestedClaim.f
 have hc : Ev (fun k => spec_ClaimTerm.f k p i t) (if clok p i t = true then wrapM i t else []) := by
  unfold spec_ClaimTerm.f
  refine Ev.bind (spec_ClaimOk_ev p i t (by omega) hw) ?_
  by_cases h : clok p i t = true
  ·refine Ev.yes h ?_
   simp only [Option.bind_some, List.length_append, List.length_cons, List.length_nil]
   exact Ev.yes (by omega) (Ev.yes (by omega) (Ev.cast (Ev.some _) (by rw [if_pos h]; simp [wrapM])))
  ·exact Ev.no h (Ev.cast (Ev.some _) (if_neg h).symm)
 refine Ev.bind hc (Ev.bind (spec_ClaimOk_ev p i t (by omega) hw) ?_)
 by_cases h : clok p i t = true
 ·refine Ev.yes h ?_
  rw [if_pos h]
  refine Ev.bind (spec_ClaimOk_ev p j (wrapM i t) (by rw [wrapM_length]; omega) ?_) ?_
  ·intro m hm
   simp only [wrapM, List.mem_cons, List.mem_append, List.not_mem_nil, or_false] at hm
   rcases hm with rfl | hm | rfl
   ·exact hi
   ·exact hw m hm
   ·decide
  by_cases hz : clok p j (wrapM i t) = true
  ·exact Ev.yes hz (Ev.cast (Ev.some _) (by rw [nestR, if_pos h, claimR, if_pos hz]))
  ·exact Ev.no hz (Ev.cast (Ev.some _) (by rw [nestR, if_pos h, claimR, if_neg hz]))
 ·exact Ev.no h (Ev.cast (Ev.some _) (if_neg h).symm)
end Go.Proofs.Ytpampekijfjlkaa.L

/- Plain laws of terms, third text: what a valid row of marks says in a world, as a function of the row alone. -/
namespace Go.Proofs.Ytpampekijfjlkaa.L
open Go.RowKit Go.Proofs.Ytpampekijfjlkaa.X Go.Proofs.YtpampekijfjlkaaW.PrintWords Go.Proofs.YtpampekijfjlkaaW.PrintLast Go.Proofs.YtpampekijfjlkaaW.PrintMore

theorem Tm.good_four {p : Int} (hp : p ≤ 4) : ∀ a : Tm, a.good p → a.good 4
 | .tell i, h => by have h' : (i : Int) < p := h; show (i : Int) < 4; omega
 | .cnt n, h => by have h' : (n : Int) ≤ p + 1 := h; show (n : Int) ≤ 4 + 1; omega
 | .neg a, h => good_four hp a h
 | .bin o a b, h => ⟨h.1, good_four hp a h.2.1, good_four hp b h.2.2⟩
open Classical in
/-- The tree of a row of marks. -/
noncomputable def tree (t : List M) : Tm := if h : ∃ a : Tm, a.good 4 ∧ t = a.post then Classical.choose h else .tell 0
theorem tree_post {a : Tm} (h : a.good 4) : (tree a.post).good 4 ∧ a.post = (tree a.post).post := by
 have h' : ∃ b : Tm, b.good 4 ∧ a.post = b.post := ⟨a, h, rfl⟩
 unfold tree
 rw [dif_pos h']
 exact Classical.choose_spec h'
/-- Whether a row of marks holds in a world. -/
noncomputable def hv (t : List M) (w : Nat) : Bool := (tree t).ev w
theorem hv_post {a : Tm} (h : a.good 4) (hl : a.post.length ≤ 500) {w : Nat} (hw : w < 16) : hv a.post w = a.ev w := by
 obtain ⟨h1, h2⟩ := tree_post h
 have e1 := impl_holds_ev (by decide) hw h hl
 have e2 := impl_holds_ev (by decide) hw h1 (by rw [← h2]; exact hl)
 rw [← h2] at e2
 exact Ev.uniq e2 e1
theorem tok_tree {p : Int} {t : List M} (h : tok p t = true) : ∃ a : Tm, a.good p ∧ t = a.post ∧ a.good 4 ∧ t.length ≤ 15 := by
 obtain ⟨a, h1, h2⟩ := parse h
 obtain ⟨_, h3, _, h4, _⟩ := tok_iff.1 h
 exact ⟨a, h1, h2, a.good_four h3 h1, h4⟩
theorem impl_holds_hv {p : Int} {t : List M} (h : tok p t = true) {w : Nat} (hw : w < 16) : Ev (fun k => impl_holds.f k t (w : Int)) (hv t w) := by
 obtain ⟨a, _, rfl, h4, hl⟩ := tok_tree h
 rw [hv_post h4 (by omega) hw]
 exact impl_holds_ev (by decide) hw h4 (by omega)
/-- Whether a claim may be made in a world. -/
noncomputable def may (i : Int) (t : List M) (w : Nat) : Bool := hv t w == w.testBit i.toNat
end Go.Proofs.Ytpampekijfjlkaa.L

/- What tricks and denials say. -/
namespace Go.Proofs.Ytpampekijfjlkaa.L
open Go.RowKit Go.Proofs.Ytpampekijfjlkaa.X Go.Proofs.YtpampekijfjlkaaW.PrintWords Go.Proofs.YtpampekijfjlkaaW.PrintLast Go.Proofs.YtpampekijfjlkaaW.PrintMore

theorem hv_wrap {p i : Int} {t : List M} (hk : tok p t = true) (h0 : 0 ≤ i) (h1 : i < p) {w : Nat} (hw : w < 16) : hv (wrapM i t) w = (w.testBit i.toNat == hv t w) := by
 obtain ⟨a, hg, rfl, h4, hl⟩ := tok_tree hk
 have hp4 := (tok_iff.1 hk).2.1
 obtain ⟨j, rfl⟩ := Int.eq_ofNat_of_zero_le h0
 have e : wrapM (j : Int) a.post = (Tm.bin 5 (.tell j) a).post := by simp [wrapM, Tm.post]
 rw [e, hv_post (a := .bin 5 (.tell j) a) ⟨by omega, by show (j : Int) < 4; omega, h4⟩ (by rw [← e, wrapM_length]; omega) hw, hv_post h4 (by omega) hw]
 simp [Tm.ev, bop]
end Go.Proofs.Ytpampekijfjlkaa.L

/- Plain laws of tables: the worlds in which something holds, as the bits of a number. -/
namespace Go.Proofs.Ytpampekijfjlkaa.L
open Go.RowKit Go.Proofs.Ytpampekijfjlkaa.X Go.Proofs.YtpampekijfjlkaaW.PrintWords Go.Proofs.YtpampekijfjlkaaW.PrintLast Go.Proofs.YtpampekijfjlkaaW.PrintMore

theorem shl_fin : ∀ i : Fin 31, shl .i64 1 ((i.val : Nat) : Int) = ((2 ^ i.val : Nat) : Int) := by decide +kernel
theorem shl_nat {i : Nat} (hi : i < 31) : shl .i64 1 (i : Int) = ((2 ^ i : Nat) : Int) := shl_fin ⟨i, hi⟩
theorem people_nat {p : Int} (h0 : 1 ≤ p) (h1 : p ≤ 4) : ∃ q : Nat, p = (q : Int) ∧ 1 ≤ q ∧ q ≤ 4 ∧ 2 ^ q ≤ 16 ∧ p.toNat = q := by
 obtain ⟨q, rfl⟩ := Int.eq_ofNat_of_zero_le (show 0 ≤ p by omega)
 refine ⟨q, rfl, by omega, by omega, ?_, by simp⟩
 have : (2 : Nat) ^ q ≤ 2 ^ 4 := Nat.pow_le_pow_right (by decide) (by omega)
 omega
end Go.Proofs.Ytpampekijfjlkaa.L

-- printed by a program of this session's (xprint)
namespace Go.Proofs.Ytpampekijfjlkaa.X
open Go.RowKit Go.Proofs.YtpampekijfjlkaaW.PrintWords Go.Proofs.YtpampekijfjlkaaW.PrintLast Go.Proofs.YtpampekijfjlkaaW.PrintMore
attribute [local go_sem] max2_int min2_int max_two min_two max_three min_three max_four min_four   -- for this text's walks alone
set_option linter.unusedVariables false
set_option linter.unusedSimpArgs false

/-! ### spec_WorldOk: function 97 -/
def spec_WorldOk.f (a0 : Int) (a1 : Int) : Option (Bool) := (spec_l1In.f a0 1 4).bind fun t101 => (if t101 = true then (if 0 ≤ a0 then ((spec_l1In.f a1 0 (wrap64 ((shl .i64 1 a0) - 1))).bind fun t102 => (some t102)) else (none)) else (some false))
set_option maxHeartbeats 8000000 in
set_option maxRecDepth 100000 in
theorem spec_WorldOk.calls (a0 : Int) (a1 : Int) (r : Bool) (w : World) (h : spec_WorldOk.f a0 a1 = some r) :
  Calls Try.prog 97 #[.int .i64 a0, .int .i64 a1] w fun e w' => e = .returned (.bool r) ∧ Drawn0 w w' := by
 have H : ((spec_l1In.f a0 1 4).bind fun t101 => (if t101 = true then (if 0 ≤ a0 then ((spec_l1In.f a1 0 (wrap64 ((shl .i64 1 a0) - 1))).bind fun t102 => (some t102)) else (none)) else (some false))) = some r := h
 clear h
 replace H := Option.bind_eq_some_iff.mp H
 obtain ⟨t101, A30, H⟩ := H
 replace H : (if t101 = true then (if 0 ≤ a0 then ((spec_l1In.f a1 0 (wrap64 ((shl .i64 1 a0) - 1))).bind fun t102 => (some t102)) else (none)) else (some false)) = some r := H
 have A3 := Aside0.mk A30
 clear A30
 by_cases c4 : t101 = true
 ·subst c4
  have H1 : (if 0 ≤ a0 then ((spec_l1In.f a1 0 (wrap64 ((shl .i64 1 a0) - 1))).bind fun t102 => (some t102)) else (none)) = some r := by rw [if_pos rfl] at H; exact H
  clear H
  have H := H1
  clear H1
  by_cases c5 : 0 ≤ a0
  ·rw [if_pos c5] at H
   have c5b0 := eq_true c5
   have c5b1 : decide (0 ≤ a0) = true := decide_eq_true c5
   clear c5
   obtain ⟨ji6, hji6⟩ : ∃ j_ : Int, (shl .i64 1 a0) = j_ := ⟨_, rfl⟩
   replace H : ((spec_l1In.f a1 0 (wrap64 ((ji6) - 1))).bind fun t102 => (some t102)) = some r := by first | (rw [hji6] at H; exact H) | (simp only [hji6] at H ⊢; exact H)
   (try rw [hji6] at A3)
   have hji6_ : (IntKind.i64.wrap (1 * 2 ^ min a0.toNat 64)) = ji6 := hji6
   have hji6z : a0 ≤ 64 → (IntKind.i64.wrap (1 * 2 ^ a0.toNat)) = ji6 := shl_small hji6
   have hji6u : (IntKind.i64.wrap (2 ^ min a0.toNat 64)) = ji6 := by have h_ := hji6_; rw [Int.one_mul] at h_; exact h_
   have hji6v : a0 ≤ 64 → (IntKind.i64.wrap (2 ^ a0.toNat)) = ji6 := fun hle_ => by have h_ := hji6z hle_; rw [Int.one_mul] at h_; exact h_
   have hji6y : (wrap64 (1 * 2 ^ min a0.toNat 64)) = ji6 := (i64_w _).symm.trans hji6_
   have hji6x : a0 ≤ 64 → (wrap64 (1 * 2 ^ a0.toNat)) = ji6 := fun h_ => (i64_w _).symm.trans (hji6z h_)
   replace H := Option.bind_eq_some_iff.mp H
   obtain ⟨t102, A70, H⟩ := H
   replace H : (some t102) = some r := H
   have A7 := Aside0.mk A70
   clear A70
   obtain rfl := Option.some.inj H
   go_enter Try.func97, Try.ntmps97
   go_wp2_with (first | ((with_reducible refine gate_callee (f := 98) rfl ?_); refine goesL_ (some 6) rfl rfl Try.func98 (by kernel_rfl) rfl #[.int .i64 a0, .int .i64 1, .int .i64 4] rfl (by (try simp only [List.map_toArray, List.map_cons, List.map_nil]); first | done | rfl | (simp only [List.length_drop, List.length_take]; rfl)) ?_; (with_reducible refine (spec_l1In.calls a0 1 4 true _ A3.out).mono ?_); rintro e w' ⟨rfl, ⟨nd, rfl⟩⟩; refine ⟨_, rfl, ?_⟩) | (go_at_call 98; (with_reducible refine (spec_l1In.calls a1 0 (wrap64 ((ji6) - 1)) t102 _ A7.out).mono ?_); rintro e w' ⟨rfl, ⟨nd, rfl⟩⟩))
   go_ret
   exact ⟨by first | rfl | (simp; done) | (simp only [← hji6] <;> (first | rfl | simp)) | (simp [*]; done), by repeat (first | exact Drawn0.refl _ | apply Drawn0.step)⟩
  ·rw [if_neg c5] at H
   exact absurd H (by simp)
 ·replace c4 := Bool.eq_false_iff.mpr c4
  subst c4
  have H1 : (some false) = some r := by rw [if_neg (show ¬ (false = true) by decide)] at H; exact H
  clear H
  have H := H1
  clear H1
  obtain rfl := Option.some.inj H
  go_enter Try.func97, Try.ntmps97
  go_wp2_with (first | ((with_reducible refine gate_callee (f := 98) rfl ?_); refine goesL_ (some 6) rfl rfl Try.func98 (by kernel_rfl) rfl #[.int .i64 a0, .int .i64 1, .int .i64 4] rfl (by (try simp only [List.map_toArray, List.map_cons, List.map_nil]); first | done | rfl | (simp only [List.length_drop, List.length_take]; rfl)) ?_; (with_reducible refine (spec_l1In.calls a0 1 4 false _ A3.out).mono ?_); rintro e w' ⟨rfl, ⟨nd, rfl⟩⟩; refine ⟨_, rfl, ?_⟩))
  go_ret
  exact ⟨by first | rfl | (simp; done) | (simp [*]; done), by repeat (first | exact Drawn0.refl _ | apply Drawn0.step)⟩

end Go.Proofs.Ytpampekijfjlkaa.X

/- Plain laws of worlds: which are ones. -/
namespace Go.Proofs.Ytpampekijfjlkaa.L
open Go.RowKit Go.Proofs.Ytpampekijfjlkaa.X Go.Proofs.YtpampekijfjlkaaW.PrintWords Go.Proofs.YtpampekijfjlkaaW.PrintLast Go.Proofs.YtpampekijfjlkaaW.PrintMore

/-- A world of so many people. -/
def wok (p w : Int) : Bool := decide (1 ≤ p ∧ p ≤ 4 ∧ 0 ≤ w ∧ w < ((2 ^ p.toNat : Nat) : Int))
theorem wok_iff {p w : Int} : wok p w = true ↔ 1 ≤ p ∧ p ≤ 4 ∧ 0 ≤ w ∧ w < ((2 ^ p.toNat : Nat) : Int) := by unfold wok; simp
theorem wok_nat {p w : Int} (h : wok p w = true) : ∃ v : Nat, w = (v : Int) ∧ v < 16 ∧ v < 2 ^ p.toNat := by
 obtain ⟨h0, h1, h2, h3⟩ := wok_iff.1 h
 obtain ⟨q, rfl, _, _, hq, e⟩ := people_nat h0 h1
 obtain ⟨v, rfl⟩ := Int.eq_ofNat_of_zero_le h2
 rw [e] at h3 ⊢
 exact ⟨v, rfl, by omega, by omega⟩
theorem impl_WorldOk_eq (p w : Int) : impl_WorldOk.f p w = some (wok p w) := by
 unfold impl_WorldOk.f
 simp only [peopleOk_eq, Option.bind_some]
 by_cases h : 1 ≤ p ∧ p ≤ 4
 ·obtain ⟨q, rfl, _, hq4, hq, e⟩ := people_nat h.1 h.2
  rw [if_pos (decide_eq_true h)]
  by_cases h0 : w ≥ 0
  ·rw [if_pos h0, if_pos (by omega), shl_nat (by omega)]
   congr 1
   unfold wok
   rw [e]
   exact decide_eq_decide.mpr ⟨fun hw => ⟨h.1, h.2, h0, hw⟩, fun hw => hw.2.2.2⟩
  ·rw [if_neg h0]
   congr 1
   exact (decide_eq_false (fun hw => h0 hw.2.2.1)).symm
 ·rw [if_neg (by simpa using h)]
  congr 1
  exact (decide_eq_false (fun hw => h ⟨hw.1, hw.2.1⟩)).symm
end Go.Proofs.Ytpampekijfjlkaa.L

/- Plain law of what holds. -/
namespace Go.Proofs.Ytpampekijfjlkaa.L
open Go.RowKit Go.Proofs.Ytpampekijfjlkaa.X Go.Proofs.YtpampekijfjlkaaW.PrintWords Go.Proofs.YtpampekijfjlkaaW.PrintLast Go.Proofs.YtpampekijfjlkaaW.PrintMore

noncomputable def holdsIn (p : Int) (t : List M) (w : Int) : Bool := if tok p t = true ∧ wok p w = true then hv t w.toNat else false
theorem impl_HoldsIn_ev (p : Int) (t : List M) (w : Int) : Ev (fun k => impl_HoldsIn.f k p t w) (holdsIn p t w) := by
 unfold impl_HoldsIn.f
 refine Ev.bind (impl_TermOk_ev p t) ?_
 by_cases hk : tok p t = true
 ·refine Ev.yes hk ?_
  rw [impl_WorldOk_eq]
  simp only [Option.bind_some]
  by_cases hw : wok p w = true
  ·obtain ⟨v, rfl, hv', _⟩ := wok_nat hw
   refine Ev.yes hw (Ev.bind (impl_holds_hv hk hv') (Ev.cast (Ev.some _) ?_))
   exact (if_pos ⟨hk, hw⟩).symm
  ·exact Ev.no hw (Ev.cast (Ev.some _) (if_neg (fun h => hw h.2)).symm)
 ·exact Ev.no hk (Ev.cast (Ev.some _) (if_neg (fun h => hk h.1)).symm)
theorem wok_of {q j : Nat} (h1 : 1 ≤ q) (h4 : q ≤ 4) (hj : j < 2 ^ q) : wok (q : Int) (j : Int) = true := wok_iff.2 ⟨by omega, by omega, by omega, by rw [Int.toNat_natCast]; omega⟩
theorem holdsIn_of {q j : Nat} {t : List M} (hk : tok (q : Int) t = true) (hj : j < 2 ^ q) : holdsIn (q : Int) t (j : Int) = hv t j := by
 have h := tok_iff.1 hk
 exact if_pos ⟨hk, wok_of (by omega) (by omega) hj⟩
end Go.Proofs.Ytpampekijfjlkaa.L

-- printed by a program of this session's (xprint)
namespace Go.Proofs.Ytpampekijfjlkaa.X
open Go.RowKit Go.Proofs.YtpampekijfjlkaaW.PrintWords Go.Proofs.YtpampekijfjlkaaW.PrintLast Go.Proofs.YtpampekijfjlkaaW.PrintMore
attribute [local go_sem] max2_int min2_int max_two min_two max_three min_three max_four min_four   -- for this text's walks alone
set_option linter.unusedVariables false
set_option linter.unusedSimpArgs false

/-! ### impl_tableBy: function 109, over any function value -/
def impl_tableBy.l0 (F : Nat → Int → Option Bool) : Nat → Int → Int → Int → Option (Int)
 | 0, _, _, _ => none
 | k + 1, x5, x8, x9 => if x9 < x8 then ((F k x9).bind fun t308 => (if t308 = true then (if 0 ≤ x9 then (impl_tableBy.l0 F k (Go.bits .or .i64 x5 (shl .i64 1 x9)) x8 (wrap64 (x9 + 1))) else (none)) else (impl_tableBy.l0 F k x5 x8 (wrap64 (x9 + 1))))) else (some x5)
def impl_tableBy.f (F : Nat → Int → Option Bool) (k : Nat) (a0 : Int) : Option (Int) := if 0 ≤ a0 then (impl_tableBy.l0 F k 0 (shl .i64 1 a0) 0) else (none)
theorem impl_tableBy.mono_l {F : Nat → Int → Option Bool} (hF : ∀ k x, LeO (F k x) (F (k + 1) x)) : ∀ k, (∀ y0 y1 y2, LeO (impl_tableBy.l0 F k y0 y1 y2) (impl_tableBy.l0 F (k + 1) y0 y1 y2))
 | 0 => fun _ _ _ r h => by simp [impl_tableBy.l0] at h
 | k + 1 => by
  have ih0 := impl_tableBy.mono_l hF k
  ·intro y0 y1 y2
   unfold impl_tableBy.l0
   repeat' first
   | (with_reducible exact ih0 _ _ _)
   | (with_reducible exact hF _ _)
   | (with_reducible exact LeO.refl _)
   | (with_reducible exact LeO.none _)
   | (with_reducible refine LeO.ite ?_ ?_)
   | (with_reducible refine LeO.bind ?_ (fun _ => ?_))
theorem impl_tableBy.mono {F : Nat → Int → Option Bool} (hF : ∀ k x, LeO (F k x) (F (k + 1) x)) (a0 : Int) (k : Nat) : LeO (impl_tableBy.f F k a0) (impl_tableBy.f F (k + 1) a0) := by
 have ih0 := impl_tableBy.mono_l hF k
 unfold impl_tableBy.f
 repeat' first
   | (with_reducible exact ih0 _ _ _)
   | (with_reducible exact LeO.none _)
   | (with_reducible refine LeO.ite ?_ ?_)
set_option maxHeartbeats 8000000 in
set_option maxRecDepth 100000 in
theorem impl_tableBy.calls (F : Nat → Int → Option Bool) {CF : FuncId} {fn : Func} (hf : Try.prog.funcs[CF]? = some fn) (hname : (fn.name == "runtime.NumGoroutine") = false) (hbody : fn.body.isSome = true) (CB : Array Value) (k : Nat) (a0 : Int) (r : Int) (w : World)
  (hF : ∀ (k : Nat) (x : Int) (b : Bool) (W : World), Below w.heap.size w W → F k x = some b → Calls Try.prog CF (#[.int .i64 x] ++ CB) W fun e w' => e = .returned (.bool b) ∧ Below W.heap.size W w')
  (h : impl_tableBy.f F k a0 = some r) :
  Calls Try.prog 109 #[.int .i64 a0, .func (.func CF) #[] CB] w fun e w' => e = .returned (.int .i64 r) ∧ Below w.heap.size w w' := by
 have hcf : ∀ (args : Array Value) (W : World), (callFunc CF args).run Try.prog W = .ok (.enter CF args) W := fun args W => enters_ hf hname hbody args W
 have HB := Aside0.mk (Below.refl w.heap.size w)
 have H : (if 0 ≤ a0 then (impl_tableBy.l0 F k 0 (shl .i64 1 a0) 0) else (none)) = some r := h
 clear h
 by_cases c3 : 0 ≤ a0
 ·rw [if_pos c3] at H
  have c3b0 := eq_true c3
  have c3b1 : decide (0 ≤ a0) = true := decide_eq_true c3
  clear c3
  obtain ⟨ji4, hji4⟩ : ∃ j_ : Int, (shl .i64 1 a0) = j_ := ⟨_, rfl⟩
  replace H : (impl_tableBy.l0 F k 0 ji4 0) = some r := by rw [hji4] at H; exact H
  have hji4_ : (IntKind.i64.wrap (1 * 2 ^ min a0.toNat 64)) = ji4 := hji4
  have hji4z : a0 ≤ 64 → (IntKind.i64.wrap (1 * 2 ^ a0.toNat)) = ji4 := shl_small hji4
  have hji4u : (IntKind.i64.wrap (2 ^ min a0.toNat 64)) = ji4 := by have h_ := hji4_; rw [Int.one_mul] at h_; exact h_
  have hji4v : a0 ≤ 64 → (IntKind.i64.wrap (2 ^ a0.toNat)) = ji4 := fun hle_ => by have h_ := hji4z hle_; rw [Int.one_mul] at h_; exact h_
  have hji4y : (wrap64 (1 * 2 ^ min a0.toNat 64)) = ji4 := (i64_w _).symm.trans hji4_
  have hji4x : a0 ≤ 64 → (wrap64 (1 * 2 ^ a0.toNat)) = ji4 := fun h_ => (i64_w _).symm.trans (hji4z h_)
  have H' := Aside0.mk H
  clear H
  go_enter Try.func109, Try.ntmps109
  go_wp2
  go_loopg [5, 9] k (fun kq v5 v9 w' => ∃ (x5_1 : Int) (x9_1 : Int), v5 = .int .i64 x5_1 ∧ v9 = .int .i64 x9_1 ∧ Aside0 (impl_tableBy.l0 F kq x5_1 ji4 x9_1 = some r) ∧ Aside0 (kq ≤ k) ∧ Aside0 (Below w.heap.size w w'))
  case atStart => exact ⟨(0), (0), (by first | rfl | (simp; done) | (simp [*]; done)), (by first | rfl | (simp; done) | (simp [*]; done)), H', ⟨Nat.le_refl _⟩, ⟨(by repeat (first | (with_reducible first | exact HB.out | apply below_alloc | apply pw_below_drewN | apply below_drew1) | exact HB.out))⟩⟩
  case round =>
   clear H'
   try clear c1
   try clear p2
   try clear c3
   try clear c3b0
   try clear c3b1
   obtain ⟨x5_1, x9_1, rfl, rfl, HA, HK1, HB⟩ := hrel
   cases gk with
   | zero => exact absurd HA.out (by simp [impl_tableBy.l0])
   | succ k1 =>
    have H := HA.out
    clear HA
    simp only [impl_tableBy.l0] at H
    by_cases c5 : x9_1 < ji4
    ·rw [if_pos c5] at H
     have c5b0 : decide (x9_1 < ji4) = true := decide_eq_true c5
     clear c5
     replace H := Option.bind_eq_some_iff.mp H
     obtain ⟨t308, A60, H⟩ := H
     replace H : (if t308 = true then (if 0 ≤ x9_1 then (impl_tableBy.l0 F k1 (Go.bits .or .i64 x5_1 (shl .i64 1 x9_1)) ji4 (wrap64 (x9_1 + 1))) else (none)) else (impl_tableBy.l0 F k1 x5_1 ji4 (wrap64 (x9_1 + 1)))) = some r := H
     have A6 := Aside0.mk A60
     clear A60
     by_cases c7 : t308 = true
     ·subst c7
      have H1 : (if 0 ≤ x9_1 then (impl_tableBy.l0 F k1 (Go.bits .or .i64 x5_1 (shl .i64 1 x9_1)) ji4 (wrap64 (x9_1 + 1))) else (none)) = some r := by rw [if_pos rfl] at H; exact H
      clear H
      have H := H1
      clear H1
      by_cases c8 : 0 ≤ x9_1
      ·rw [if_pos c8] at H
       have c8b0 := eq_true c8
       have c8b1 : decide (0 ≤ x9_1) = true := decide_eq_true c8
       clear c8
       obtain ⟨ji9, hji9⟩ : ∃ j_ : Int, (shl .i64 1 x9_1) = j_ := ⟨_, rfl⟩
       replace H : (impl_tableBy.l0 F k1 (Go.bits .or .i64 x5_1 (ji9)) ji4 (wrap64 (x9_1 + 1))) = some r := by first | (rw [hji9] at H; exact H) | (simp only [hji9] at H ⊢; exact H)
       have hji9_ : (IntKind.i64.wrap (1 * 2 ^ min x9_1.toNat 64)) = ji9 := hji9
       have hji9z : x9_1 ≤ 64 → (IntKind.i64.wrap (1 * 2 ^ x9_1.toNat)) = ji9 := shl_small hji9
       have hji9u : (IntKind.i64.wrap (2 ^ min x9_1.toNat 64)) = ji9 := by have h_ := hji9_; rw [Int.one_mul] at h_; exact h_
       have hji9v : x9_1 ≤ 64 → (IntKind.i64.wrap (2 ^ x9_1.toNat)) = ji9 := fun hle_ => by have h_ := hji9z hle_; rw [Int.one_mul] at h_; exact h_
       have hji9y : (wrap64 (1 * 2 ^ min x9_1.toNat 64)) = ji9 := (i64_w _).symm.trans hji9_
       have hji9x : x9_1 ≤ 64 → (wrap64 (1 * 2 ^ x9_1.toNat)) = ji9 := fun h_ => (i64_w _).symm.trans (hji9z h_)
       have H' := Aside0.mk H
       clear H
       go_wp2_with (first | ((with_reducible refine (hF k1 x9_1 true _ ?sideB A6.out).mono ?_); (case sideB => exact (by repeat (first | (with_reducible first | exact HB.out | apply below_alloc | apply pw_below_drewN | apply below_drew1) | exact HB.out))); rintro e w10 ⟨rfl, hb⟩; have n0_ := Aside0.mk (below_step (by repeat (first | (with_reducible first | exact HB.out | apply below_alloc | apply pw_below_drewN | apply below_drew1) | exact HB.out)) hb); clear HB; have HB := n0_; clear n0_; (try clear hb)))
       go_roundg k1
       case measure => have := HK1.out; omega
       case rel => exact ⟨(Go.bits .or .i64 x5_1 (ji9)), (wrap64 (x9_1 + 1)), (by first | rfl | (simp; done) | (simp only [← hji9] <;> (first | rfl | simp)) | (simp [*]; done)), (by first | rfl | (simp; done) | (simp [*]; done)), H', ⟨by have := HK1.out; omega⟩, ⟨(by repeat (first | (with_reducible first | exact HB.out | apply below_alloc | apply pw_below_drewN | apply below_drew1) | exact HB.out))⟩⟩
      ·rw [if_neg c8] at H
       exact absurd H (by simp)
     ·replace c7 := Bool.eq_false_iff.mpr c7
      subst c7
      have H1 : (impl_tableBy.l0 F k1 x5_1 ji4 (wrap64 (x9_1 + 1))) = some r := by rw [if_neg (show ¬ (false = true) by decide)] at H; exact H
      clear H
      have H := H1
      clear H1
      have H' := Aside0.mk H
      clear H
      go_wp2_with (first | ((with_reducible refine (hF k1 x9_1 false _ ?sideB A6.out).mono ?_); (case sideB => exact (by repeat (first | (with_reducible first | exact HB.out | apply below_alloc | apply pw_below_drewN | apply below_drew1) | exact HB.out))); rintro e w10 ⟨rfl, hb⟩; have n0_ := Aside0.mk (below_step (by repeat (first | (with_reducible first | exact HB.out | apply below_alloc | apply pw_below_drewN | apply below_drew1) | exact HB.out)) hb); clear HB; have HB := n0_; clear n0_; (try clear hb)))
      go_roundg k1
      case measure => have := HK1.out; omega
      case rel => exact ⟨(x5_1), (wrap64 (x9_1 + 1)), (by first | rfl | (simp; done) | (simp [*]; done)), (by first | rfl | (simp; done) | (simp [*]; done)), H', ⟨by have := HK1.out; omega⟩, ⟨(by repeat (first | (with_reducible first | exact HB.out | apply below_alloc | apply pw_below_drewN | apply below_drew1) | exact HB.out))⟩⟩
    ·rw [if_neg c5] at H
     have c5b0 : decide (x9_1 < ji4) = false := decide_eq_false c5
     clear c5
     obtain rfl := Option.some.inj H
     go_wp2
     go_ret
     exact ⟨by first | rfl | (simp; done) | (simp only [← hji4]; rfl) | (simp [*]; done), (by repeat (first | (with_reducible first | exact HB.out | apply below_alloc | apply pw_below_drewN | apply below_drew1) | exact HB.out))⟩
 ·rw [if_neg c3] at H
  exact absurd H (by simp)

end Go.Proofs.Ytpampekijfjlkaa.X

/- Plain law of the program's maker of tables. -/
namespace Go.Proofs.Ytpampekijfjlkaa.L
open Go.RowKit Go.Proofs.Ytpampekijfjlkaa.X Go.Proofs.YtpampekijfjlkaaW.PrintWords Go.Proofs.YtpampekijfjlkaaW.PrintLast Go.Proofs.YtpampekijfjlkaaW.PrintMore

end Go.Proofs.Ytpampekijfjlkaa.L

-- printed by a program of this session's (xprint)
namespace Go.Proofs.Ytpampekijfjlkaa.X
open Go.RowKit Go.Proofs.YtpampekijfjlkaaW.PrintWords Go.Proofs.YtpampekijfjlkaaW.PrintLast Go.Proofs.YtpampekijfjlkaaW.PrintMore
attribute [local go_sem] max2_int min2_int max_two min_two max_three min_three max_four min_four   -- for this text's walks alone
set_option linter.unusedVariables false
set_option linter.unusedSimpArgs false

/-! ### impl_ClaimTable: function 47; what it hands to tableBy: function 110 -/
def impl_ClaimTable.f (k : Nat) (a0 : Int) (a1_0 : Int) (l1 : List (S52)) : Option (Int) := (impl_ClaimOk.f k a0 a1_0 l1).bind fun t => (if t = true then (impl_tableBy.f (fun k_ x_ => impl_maySay.f k_ a1_0 l1 x_) k a0) else (some (-1)))
theorem impl_ClaimTable.mono : ∀ a0 a1_0 l1 k, LeO (impl_ClaimTable.f k a0 a1_0 l1) (impl_ClaimTable.f (k + 1) a0 a1_0 l1) := by
 intro a0 a1_0 l1 k
 unfold impl_ClaimTable.f
 refine LeO.bind (impl_ClaimOk.mono _ _ _ _) (fun _ => ?_)
 refine LeO.ite ?_ (LeO.refl _)
 exact impl_tableBy.mono (fun k x => impl_maySay.mono _ _ _ _) _ _
set_option maxHeartbeats 8000000 in
set_option maxRecDepth 100000 in
theorem impl_ClaimTable.calls_1 (k : Nat) (a1_0 : Int) (A1 : Option Addr) (c1 : Nat) (l1 : List (S52)) (gb1 : Nat) (x : Int) (b : Bool) (w : World) (hg : w.heap[gb1]? = some (.cells #[.int .i64 a1_0, .slice A1 l1.length c1] 50 (0, 0))) (hr1 : Kd.C k52 w A1 l1.length l1) (hc1 : l1.length ≤ c1) (h : impl_maySay.f k a1_0 l1 x = some b) :
  Calls Try.prog 110 #[.int .i64 x, .pointer (some ⟨gb1, 0, none⟩)] w fun e w' => e = .returned (.bool b) ∧ Below w.heap.size w w' := by
 have hu50 := Try.underlying50
 have HR1 := Aside0.mk hr1
 have HC1 := Aside0.mk hc1
 clear hr1 hc1
 have HB := Aside0.mk (Below.refl w.heap.size w)
 have A6 := Aside0.mk h
 clear h
 have hcz0 : w.cell? ⟨gb1, 0, none⟩ = some (.int .i64 a1_0) := (blk_cell hg 0).trans rfl
 have hfz0 := blk_frozen hg 0
 have hcz1 : w.cell? ⟨gb1, 1, none⟩ = some (.slice A1 l1.length c1) := (blk_cell hg 1).trans rfl
 have hfz1 := blk_frozen hg 1
 clear hg
 go_enter Try.func110, Try.ntmps110
 go_wp2_with (first | ((with_reducible refine gate_callee (f := 111) rfl ?_); refine goesL_ (some 6) rfl rfl Try.func111 (by kernel_rfl) rfl #[.agg #[.int .i64 a1_0, .slice A1 l1.length c1], .int .i64 x] rfl (by (try simp only [List.map_toArray, List.map_cons, List.map_nil]); first | done | rfl) ?_; (with_reducible refine (impl_maySay.calls k a1_0 _ _ l1 x b _ ?side1 ?side2 A6.out).mono ?_); (case side1 => repeat (first | exact (Kd.C_below HR1.out HB.out) | (with_reducible refine Kd.C_alloc ?_ _) | (with_reducible refine Kd.C_drewN ?_ _) | (with_reducible refine Kd.C_drew ?_))); (case side2 => exact HC1.out);  rintro e w12 ⟨rfl, hb⟩; refine ⟨_, rfl, ?_⟩; have n0_ := Aside0.mk (below_step (by repeat (first | (with_reducible first | exact HB.out | apply below_alloc | apply pw_below_drewN | apply below_drew1) | exact HB.out)) hb); clear HB; have HB := n0_; clear n0_; (try clear hb)))
 go_ret
 exact ⟨rfl, (by repeat (first | (with_reducible first | exact HB.out | apply below_alloc | apply pw_below_drewN | apply below_drew1) | exact HB.out))⟩
set_option maxHeartbeats 8000000 in
set_option maxRecDepth 100000 in
theorem impl_ClaimTable.calls (k : Nat) (a0 : Int) (a1_0 : Int) (A1 : Option Addr) (c1 : Nat) (l1 : List (S52)) (r : Int) (w : World) (hr1 : Kd.C k52 w A1 l1.length l1) (hc1 : l1.length ≤ c1) (h : impl_ClaimTable.f k a0 a1_0 l1 = some r) :
  Calls Try.prog 47 #[.int .i64 a0, .agg #[.int .i64 a1_0, .slice A1 l1.length c1]] w fun e w' => e = .returned (.int .i64 r) ∧ Below w.heap.size w w' := by
 have hu50 := Try.underlying50
 have HR1 := Aside0.mk hr1
 have HC1 := Aside0.mk hc1
 clear hr1 hc1
 have HB := Aside0.mk (Below.refl w.heap.size w)
 have H : ((impl_ClaimOk.f k a0 a1_0 l1).bind fun t => (if t = true then (impl_tableBy.f (fun k_ x_ => impl_maySay.f k_ a1_0 l1 x_) k a0) else (some (-1)))) = some r := h
 clear h
 obtain ⟨t, A10, H⟩ := Option.bind_eq_some_iff.mp H
 have A1_ := Aside0.mk A10
 clear A10
 have hmf : ∀ (fn : Fn) (first cap : Array Value) (w : World), (Instr.makeFunc fn first cap).run Try.prog w = .ok (.func fn first cap) w := fun _ _ _ _ => rfl
 cases t with
 | false =>
  have hr_ : r = -1 := by simpa using H.symm
  subst hr_
  clear H
  go_enter Try.func47, Try.ntmps47
  go_wp2_with (first | ((with_reducible refine gate_dst (N := 3) rfl ?_); refine box_event ?hg (N := 3) ?hd (cs := #[.int .i64 a1_0, .slice A1 l1.length c1]) (t := 50) ?hr ?_; (case hd => rfl); (case hg => rfl); (case hr => first | (go_simp; done) | (go_simp; rfl)); intro gb1 hg w3 hbox hb; have n0_ := Aside0.mk (below_step (by repeat (first | (with_reducible first | exact HB.out | apply below_alloc | apply pw_below_drewN | apply below_drew1) | exact HB.out)) hb); have n1_ := Aside0.mk (hbox); clear HB; have HB := n0_; have BK1 := n1_; clear n0_ n1_; clear hb hbox hg; have hcz0 : w3.cell? ⟨gb1, 0, none⟩ = some (.int .i64 a1_0) := (blk_cell BK1.out 0).trans rfl; have hfz0 := blk_frozen BK1.out 0; have hcz1 : w3.cell? ⟨gb1, 1, none⟩ = some (.slice A1 l1.length c1) := (blk_cell BK1.out 1).trans rfl; have hfz1 := blk_frozen BK1.out 1) | ((with_reducible refine gate_callee (f := 77) rfl ?_); refine goesL_ (some 7) rfl rfl Try.func77 (by kernel_rfl) rfl #[.int .i64 a0, .agg #[.int .i64 a1_0, .slice A1 l1.length c1]] rfl (by (try simp only [List.map_toArray, List.map_cons, List.map_nil]); first | done | rfl) ?_; (with_reducible refine (impl_ClaimOk.calls k a0 a1_0 _ _ l1 false _ ?side1 ?side2 A1_.out).mono ?_); (case side1 => repeat (first | exact (Kd.C_below HR1.out HB.out) | (with_reducible refine Kd.C_alloc ?_ _) | (with_reducible refine Kd.C_drewN ?_ _) | (with_reducible refine Kd.C_drew ?_))); (case side2 => exact HC1.out);  rintro e w12 ⟨rfl, hb⟩; refine ⟨_, rfl, ?_⟩; have m0_ := Aside0.mk (blk_below BK1.out hb); clear BK1; have BK1 := m0_; clear m0_; have n0_ := Aside0.mk (below_step (by repeat (first | (with_reducible first | exact HB.out | apply below_alloc | apply pw_below_drewN | apply below_drew1) | exact HB.out)) hb); clear HB; have HB := n0_; clear n0_; (try clear hb)))
  go_ret
  exact ⟨rfl, (by repeat (first | (with_reducible first | exact HB.out | apply below_alloc | apply pw_below_drewN | apply below_drew1) | exact HB.out))⟩
 | true =>
  replace H := Aside0.mk (show impl_tableBy.f (fun k_ x_ => impl_maySay.f k_ a1_0 l1 x_) k a0 = some r from H)
  go_enter Try.func47, Try.ntmps47
  go_wp2_with (first | ((with_reducible refine gate_dst (N := 3) rfl ?_); refine box_event ?hg (N := 3) ?hd (cs := #[.int .i64 a1_0, .slice A1 l1.length c1]) (t := 50) ?hr ?_; (case hd => rfl); (case hg => rfl); (case hr => first | (go_simp; done) | (go_simp; rfl)); intro gb1 hg w3 hbox hb; have n0_ := Aside0.mk (below_step (by repeat (first | (with_reducible first | exact HB.out | apply below_alloc | apply pw_below_drewN | apply below_drew1) | exact HB.out)) hb); have n1_ := Aside0.mk (hbox); clear HB; have HB := n0_; have BK1 := n1_; clear n0_ n1_; clear hb hbox hg; have hcz0 : w3.cell? ⟨gb1, 0, none⟩ = some (.int .i64 a1_0) := (blk_cell BK1.out 0).trans rfl; have hfz0 := blk_frozen BK1.out 0; have hcz1 : w3.cell? ⟨gb1, 1, none⟩ = some (.slice A1 l1.length c1) := (blk_cell BK1.out 1).trans rfl; have hfz1 := blk_frozen BK1.out 1) | ((with_reducible refine gate_callee (f := 77) rfl ?_); refine goesL_ (some 7) rfl rfl Try.func77 (by kernel_rfl) rfl #[.int .i64 a0, .agg #[.int .i64 a1_0, .slice A1 l1.length c1]] rfl (by (try simp only [List.map_toArray, List.map_cons, List.map_nil]); first | done | rfl) ?_; (with_reducible refine (impl_ClaimOk.calls k a0 a1_0 _ _ l1 true _ ?side1 ?side2 A1_.out).mono ?_); (case side1 => repeat (first | exact (Kd.C_below HR1.out HB.out) | (with_reducible refine Kd.C_alloc ?_ _) | (with_reducible refine Kd.C_drewN ?_ _) | (with_reducible refine Kd.C_drew ?_))); (case side2 => exact HC1.out);  rintro e w12 ⟨rfl, hb⟩; refine ⟨_, rfl, ?_⟩; have m0_ := Aside0.mk (blk_below BK1.out hb); clear BK1; have BK1 := m0_; clear m0_; have n0_ := Aside0.mk (below_step (by repeat (first | (with_reducible first | exact HB.out | apply below_alloc | apply pw_below_drewN | apply below_drew1) | exact HB.out)) hb); clear HB; have HB := n0_; clear n0_; (try clear hb)) | ((with_reducible refine gate_callee (f := 109) rfl ?_); refine goesL_ (some 11) rfl rfl Try.func109 (by kernel_rfl) rfl #[.int .i64 a0, .func (.func 110) #[] #[.pointer (some ⟨gb1, 0, none⟩)]] rfl (by (try simp only [List.map_toArray, List.map_cons, List.map_nil]); first | done | rfl) ?_; (with_reducible refine (impl_tableBy.calls (fun k_ x_ => impl_maySay.f k_ a1_0 l1 x_) Try.func110 (by kernel_rfl) rfl #[.pointer (some ⟨gb1, 0, none⟩)] k a0 r _ ?hF H.out).mono ?_); (case hF => exact fun k x b W hb h => impl_ClaimTable.calls_1 k a1_0 _ _ l1 gb1 x b W (blk_below BK1.out hb) (Kd.C_below (Kd.C_below HR1.out HB.out) hb) HC1.out h);  rintro e w12 ⟨rfl, hb⟩; refine ⟨_, rfl, ?_⟩; have n0_ := Aside0.mk (below_step (by repeat (first | (with_reducible first | exact HB.out | apply below_alloc | apply pw_below_drewN | apply below_drew1) | exact HB.out)) hb); clear HB; have HB := n0_; clear n0_; (try clear hb)))
  go_ret
  exact ⟨rfl, (by repeat (first | (with_reducible first | exact HB.out | apply below_alloc | apply pw_below_drewN | apply below_drew1) | exact HB.out))⟩

end Go.Proofs.Ytpampekijfjlkaa.X

/- Plain laws of the tables of claims. -/
namespace Go.Proofs.Ytpampekijfjlkaa.L
open Go.RowKit Go.Proofs.Ytpampekijfjlkaa.X Go.Proofs.YtpampekijfjlkaaW.PrintWords Go.Proofs.YtpampekijfjlkaaW.PrintLast Go.Proofs.YtpampekijfjlkaaW.PrintMore

theorem impl_maySay_ev {p i : Int} {t : List M} (h : clok p i t = true) {w : Nat} (hw : w < 16) : Ev (fun k => impl_maySay.f k i t (w : Int)) (may i t w) := by
 obtain ⟨h0, h1, h2, _⟩ := clok_iff.1 h
 have h4 := (tok_iff.1 h2).2.1
 obtain ⟨j, rfl⟩ := Int.eq_ofNat_of_zero_le h0
 unfold impl_maySay.f
 refine Ev.bind (impl_holds_hv h2 hw) (Ev.yes h0 (Ev.cast (Ev.some _) ?_))
 rw [bit_and' hw (show j < 4 by omega)]
 rfl
end Go.Proofs.Ytpampekijfjlkaa.L

/- Plain law of claims that may be made. -/
namespace Go.Proofs.Ytpampekijfjlkaa.L
open Go.RowKit Go.Proofs.Ytpampekijfjlkaa.X Go.Proofs.YtpampekijfjlkaaW.PrintWords Go.Proofs.YtpampekijfjlkaaW.PrintLast Go.Proofs.YtpampekijfjlkaaW.PrintMore

noncomputable def maySay (p i : Int) (t : List M) (w : Int) : Bool := if clok p i t = true ∧ wok p w = true then may i t w.toNat else false
theorem impl_MaySay_ev (p i : Int) (t : List M) (w : Int) : Ev (fun k => impl_MaySay.f k p i t w) (maySay p i t w) := by
 unfold impl_MaySay.f
 refine Ev.bind (impl_ClaimOk_ev p i t) ?_
 by_cases hk : clok p i t = true
 ·refine Ev.yes hk ?_
  rw [impl_WorldOk_eq]
  simp only [Option.bind_some]
  by_cases hw : wok p w = true
  ·obtain ⟨v, rfl, hv', _⟩ := wok_nat hw
   refine Ev.yes hw (Ev.bind (impl_maySay_ev hk hv') (Ev.cast (Ev.some _) ?_))
   exact (if_pos ⟨hk, hw⟩).symm
  ·exact Ev.no hw (Ev.cast (Ev.some _) (if_neg (fun h => hw h.2)).symm)
 ·exact Ev.no hk (Ev.cast (Ev.some _) (if_neg (fun h => hk h.1)).symm)
end Go.Proofs.Ytpampekijfjlkaa.L

/- Plain laws of the laws' own comparing of rows of marks, and that the program lives. -/
namespace Go.Proofs.Ytpampekijfjlkaa.L
open Go.RowKit Go.Proofs.Ytpampekijfjlkaa.X Go.Proofs.YtpampekijfjlkaaW.PrintWords Go.Proofs.YtpampekijfjlkaaW.PrintLast Go.Proofs.YtpampekijfjlkaaW.PrintMore

theorem sameMarks_l0 (l : List M) (hl : l.length ≤ 4611686018427387904) : ∀ (suf pre : List M), l = pre ++ suf → Ev (fun k => laws_sameMarks.l0 k l l ((pre.length : Nat) : Int)) true := by
 intro suf
 induction suf with
 | nil =>
  intro pre he
  have hle : l.length = pre.length := by rw [he]; simp
  refine Ev.step (fun k => by simp only [laws_sameMarks.l0]; rfl) ?_
  exact Ev.no (by omega) (Ev.some _)
 | cons m t ih =>
  intro pre he
  have hle : l.length = pre.length + (t.length + 1) := by rw [he]; simp
  have hnext : wrap64 (((pre.length : Nat) : Int) + 1) = (((pre ++ [m]).length : Nat) : Int) := by rw [w64 (by omega) (by omega)]; simp
  refine Ev.step (fun k => by simp only [laws_sameMarks.l0]; rfl) ?_
  refine Ev.yes (by omega) (Ev.yes (by omega) (Ev.yes (by omega) (Ev.no (by simp) ?_)))
  rw [hnext]
  exact ih (pre ++ [m]) (by rw [he]; simp)
theorem sameMarks_ev (l : List M) (hl : l.length ≤ 4611686018427387904) : Ev (fun k => laws_sameMarks.f k l l) true := by
 unfold laws_sameMarks.f
 exact Ev.yes rfl (sameMarks_l0 l hl l [] rfl)
theorem alive_eq : laws_alive.f = some true := by decide +kernel
end Go.Proofs.Ytpampekijfjlkaa.L

/- Bits of a world as numbers. -/
namespace Go.Proofs.Ytpampekijfjlkaa.L
open Go.RowKit Go.Proofs.Ytpampekijfjlkaa.X Go.Proofs.YtpampekijfjlkaaW.PrintWords Go.Proofs.YtpampekijfjlkaaW.PrintLast Go.Proofs.YtpampekijfjlkaaW.PrintMore

theorem bit_int {w i : Nat} (hw : w < 16) (hi : i < 4) : Int.tmod (shr .i64 (w : Int) (i : Int)) 2 = if w.testBit i then 1 else 0 := by
 have : ∀ w : Fin 16, ∀ i : Fin 4, Int.tmod (shr .i64 ((w.val : Nat) : Int) ((i.val : Nat) : Int)) 2 = if w.val.testBit i.val then 1 else 0 := by decide +kernel
 exact this ⟨w, hw⟩ ⟨i, hi⟩
end Go.Proofs.Ytpampekijfjlkaa.L
