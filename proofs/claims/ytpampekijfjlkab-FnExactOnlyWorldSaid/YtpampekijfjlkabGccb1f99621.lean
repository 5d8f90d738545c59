/- Joined by a program of this session's: X28, X29, X39, X67, X89, X90, X122, X123, X124, X125, LH, LTB, LTY, LO, LCB, LST, LSTI, LSM, LCBS, LSTS, LSTT. -/
import Derived.Test.YtpampekijfjlkabG88b6054adb
import Derived.Test.YtpampekijfjlkabG95f3ff3750
import Derived.Test.YtpampekijfjlkabG946f423b6b
import Derived.Test.YtpampekijfjlkabGb5cf176a12
import Derived.Test.YtpampekijfjlkabG74520a95af
import Derived.Laws.BitsLemmas
import Derived.Test.YtpampekijfjlkabGd52a570e81

-- printed by a program of this session's (xprint)
namespace Go.Proofs.Ytpampekijfjlkab.X
open Go.RowKit Go.Proofs.YtpampekijfjlkabW.PrintWords Go.Proofs.YtpampekijfjlkabW.PrintLast Go.Proofs.YtpampekijfjlkabW.PrintMore
attribute [local go_sem] max2_int min2_int max_two min_two max_three min_three max_four min_four   -- for this text's walks alone
set_option linter.unusedVariables false
set_option linter.unusedSimpArgs false

/-! ### spec_ClaimOk: function 37 -/
def spec_ClaimOk.f (k : Nat) (a0 : Int) (a1_0 : Int) (l1_1 : List (S33)) : Option (Bool) := if a1_0 ≥ 0 then (if a1_0 < a0 then ((spec_TermOk.f k a0 l1_1).bind fun t370 => (if t370 = true then (some (decide ((l1_1.length : Int) ≤ 13))) else (some false))) else (some false)) else (some false)
theorem spec_ClaimOk.mono : ∀ a0 a1 a2 k, LeO (spec_ClaimOk.f k a0 a1 a2) (spec_ClaimOk.f (k + 1) a0 a1 a2) := by
 intro a0 a1 a2 k
 unfold spec_ClaimOk.f
 repeat' first
   | (with_reducible exact spec_TermOk.mono _ _ _)
   | (with_reducible exact LeO.refl _)
   | (with_reducible exact LeO.none _)
   | (with_reducible refine LeO.ite ?_ ?_)
   | (with_reducible refine LeO.bind ?_ (fun _ => ?_))
   | exact spec_TermOk.mono _ _ _
   | exact LeO.none _
   | refine LeO.ite ?_ ?_
   | refine LeO.bind ?_ (fun _ => ?_)
set_option maxHeartbeats 8000000 in
set_option maxRecDepth 100000 in
theorem spec_ClaimOk.calls (k : Nat) (a0 : Int) (a1_0 : Int) (A1_1 : Option Addr) (c1_1 : Nat) (l1_1 : List (S33)) (r : Bool) (w : World) (hr1_1 : Kd.C k33 w A1_1 l1_1.length l1_1) (hc1_1 : l1_1.length ≤ c1_1) (h : spec_ClaimOk.f k a0 a1_0 l1_1 = some r) :
  Calls Try.prog 37 #[.int .i64 a0, .agg #[.int .i64 a1_0, .slice A1_1 l1_1.length c1_1]] w fun e w' => e = .returned (.bool r) ∧ Below w.heap.size w w' := by
 have hu36 := Try.underlying36
 have HR1_1 := Aside0.mk hr1_1
 have HC1_1 := Aside0.mk hc1_1
 clear hr1_1 hc1_1
 have HB := Aside0.mk (Below.refl w.heap.size w)
 have H : (if a1_0 ≥ 0 then (if a1_0 < a0 then ((spec_TermOk.f k a0 l1_1).bind fun t370 => (if t370 = true then (some (decide ((l1_1.length : Int) ≤ 13))) else (some false))) else (some false)) else (some false)) = some r := h
 clear h
 by_cases c3 : a1_0 ≥ 0
 ·rw [if_pos c3] at H
  have c3b0 : decide (0 ≤ a1_0) = true := decide_eq_true c3
  clear c3
  by_cases c4 : a1_0 < a0
  ·rw [if_pos c4] at H
   have c4b0 : decide (a1_0 < a0) = true := decide_eq_true c4
   clear c4
   replace H := Option.bind_eq_some_iff.mp H
   obtain ⟨t370, A50, H⟩ := H
   replace H : (if t370 = true then (some (decide ((l1_1.length : Int) ≤ 13))) else (some false)) = some r := H
   have A5 := Aside0.mk A50
   clear A50
   by_cases c6 : t370 = true
   ·subst c6
    have H1 : (some (decide ((l1_1.length : Int) ≤ 13))) = some r := by rw [if_pos rfl] at H; exact H
    clear H
    have H := H1
    clear H1
    obtain rfl := Option.some.inj H
    go_enter Try.func37, Try.ntmps37
    go_wp2_with (first | ((with_reducible refine gate_dst (N := 3) rfl ?_); (try (refine gate_guard (by rfl) ?_; dsimp only)); refine box_event ?hg (N := 3) ?hd (cs := #[.int .i64 a1_0, .slice A1_1 l1_1.length c1_1]) (t := 36) ?hr ?_; (case hd => rfl); (case hg => rfl); (case hr => first | (go_simp; done) | (go_simp; rfl)); intro gb369 hg w7 hbox hb; have n0_ := Aside0.mk (below_step (by repeat (first | (with_reducible first | exact HB.out | apply below_alloc | apply pw_below_drewN | apply below_drew1) | exact HB.out)) hb); have n1_ := Aside0.mk (hbox); have n2_ := Aside0.mk ((by rw [hg]; exact (below_size (by repeat (first | (with_reducible first | exact HB.out | apply below_alloc | apply pw_below_drewN | apply below_drew1) | exact HB.out))) : w.heap.size ≤ gb369)); have n3_ := Aside0.mk ((by rw [hg]; exact (below_size (by repeat (first | (with_reducible first | exact HB.out | apply below_alloc | apply pw_below_drewN | apply below_drew1) | exact HB.out))) : w.heap.size ≤ gb369)); clear HB; have HB := n0_; have BK369 := n1_; have GW369 := n2_; have GE369 := n3_; clear n0_ n1_ n2_ n3_; clear hb hbox hg; have hcz8_0 : w7.cell? ⟨gb369, 0, none⟩ = some (.int .i64 a1_0) := (blk_cell BK369.out 0).trans rfl; have hcz8_1 : w7.cell? ⟨gb369, 1, none⟩ = some (.slice A1_1 l1_1.length c1_1) := (blk_cell BK369.out 1).trans rfl; have hfz8_0 := blk_frozen BK369.out 0; have hfz8_1 := blk_frozen BK369.out 1) | (go_at_call 68; (with_reducible refine (spec_TermOk.calls k a0 _ _ l1_1 true _ ?side1 ?side2 A5.out).mono ?_); (case side1 => repeat (first | exact (Kd.C_below HR1_1.out HB.out) | (with_reducible refine Kd.C_alloc ?_ _) | (with_reducible refine Kd.C_drewN ?_ _) | (with_reducible refine Kd.C_drew ?_))); (case side2 => exact HC1_1.out); rintro e w' ⟨rfl, ⟨nd, rfl⟩⟩))
    go_ret
    exact ⟨by first | rfl | (simp [errW_none, errW_some] <;> rfl) | (simp [*, errW_none, errW_some] <;> rfl), by repeat (first | (with_reducible first | exact HB.out | apply below_alloc | apply pw_below_drewN | apply below_drew1 | refine below_set ?_ GE369.out) | exact HB.out)⟩
   ·replace c6 := Bool.eq_false_iff.mpr c6
    subst c6
    have H1 : (some false) = some r := by rw [if_neg (show ¬ (false = true) by decide)] at H; exact H
    clear H
    have H := H1
    clear H1
    obtain rfl := Option.some.inj H
    go_enter Try.func37, Try.ntmps37
    go_wp2_with (first | ((with_reducible refine gate_dst (N := 3) rfl ?_); (try (refine gate_guard (by rfl) ?_; dsimp only)); refine box_event ?hg (N := 3) ?hd (cs := #[.int .i64 a1_0, .slice A1_1 l1_1.length c1_1]) (t := 36) ?hr ?_; (case hd => rfl); (case hg => rfl); (case hr => first | (go_simp; done) | (go_simp; rfl)); intro gb369 hg w9 hbox hb; have n0_ := Aside0.mk (below_step (by repeat (first | (with_reducible first | exact HB.out | apply below_alloc | apply pw_below_drewN | apply below_drew1) | exact HB.out)) hb); have n1_ := Aside0.mk (hbox); have n2_ := Aside0.mk ((by rw [hg]; exact (below_size (by repeat (first | (with_reducible first | exact HB.out | apply below_alloc | apply pw_below_drewN | apply below_drew1) | exact HB.out))) : w.heap.size ≤ gb369)); have n3_ := Aside0.mk ((by rw [hg]; exact (below_size (by repeat (first | (with_reducible first | exact HB.out | apply below_alloc | apply pw_below_drewN | apply below_drew1) | exact HB.out))) : w.heap.size ≤ gb369)); clear HB; have HB := n0_; have BK369 := n1_; have GW369 := n2_; have GE369 := n3_; clear n0_ n1_ n2_ n3_; clear hb hbox hg; have hcz10_0 : w9.cell? ⟨gb369, 0, none⟩ = some (.int .i64 a1_0) := (blk_cell BK369.out 0).trans rfl; have hcz10_1 : w9.cell? ⟨gb369, 1, none⟩ = some (.slice A1_1 l1_1.length c1_1) := (blk_cell BK369.out 1).trans rfl; have hfz10_0 := blk_frozen BK369.out 0; have hfz10_1 := blk_frozen BK369.out 1) | (go_at_call 68; (with_reducible refine (spec_TermOk.calls k a0 _ _ l1_1 false _ ?side1 ?side2 A5.out).mono ?_); (case side1 => repeat (first | exact (Kd.C_below HR1_1.out HB.out) | (with_reducible refine Kd.C_alloc ?_ _) | (with_reducible refine Kd.C_drewN ?_ _) | (with_reducible refine Kd.C_drew ?_))); (case side2 => exact HC1_1.out); rintro e w' ⟨rfl, ⟨nd, rfl⟩⟩))
    go_ret
    exact ⟨by first | rfl | (simp [errW_none, errW_some] <;> rfl) | (simp [*, errW_none, errW_some] <;> rfl), by repeat (first | (with_reducible first | exact HB.out | apply below_alloc | apply pw_below_drewN | apply below_drew1 | refine below_set ?_ GE369.out) | exact HB.out)⟩
  ·rw [if_neg c4] at H
   have c4b0 : decide (a1_0 < a0) = false := decide_eq_false c4
   clear c4
   obtain rfl := Option.some.inj H
   go_enter Try.func37, Try.ntmps37
   go_wp2_with (first | ((with_reducible refine gate_dst (N := 3) rfl ?_); (try (refine gate_guard (by rfl) ?_; dsimp only)); refine box_event ?hg (N := 3) ?hd (cs := #[.int .i64 a1_0, .slice A1_1 l1_1.length c1_1]) (t := 36) ?hr ?_; (case hd => rfl); (case hg => rfl); (case hr => first | (go_simp; done) | (go_simp; rfl)); intro gb369 hg w11 hbox hb; have n0_ := Aside0.mk (below_step (by repeat (first | (with_reducible first | exact HB.out | apply below_alloc | apply pw_below_drewN | apply below_drew1) | exact HB.out)) hb); have n1_ := Aside0.mk (hbox); have n2_ := Aside0.mk ((by rw [hg]; exact (below_size (by repeat (first | (with_reducible first | exact HB.out | apply below_alloc | apply pw_below_drewN | apply below_drew1) | exact HB.out))) : w.heap.size ≤ gb369)); have n3_ := Aside0.mk ((by rw [hg]; exact (below_size (by repeat (first | (with_reducible first | exact HB.out | apply below_alloc | apply pw_below_drewN | apply below_drew1) | exact HB.out))) : w.heap.size ≤ gb369)); clear HB; have HB := n0_; have BK369 := n1_; have GW369 := n2_; have GE369 := n3_; clear n0_ n1_ n2_ n3_; clear hb hbox hg; have hcz12_0 : w11.cell? ⟨gb369, 0, none⟩ = some (.int .i64 a1_0) := (blk_cell BK369.out 0).trans rfl; have hcz12_1 : w11.cell? ⟨gb369, 1, none⟩ = some (.slice A1_1 l1_1.length c1_1) := (blk_cell BK369.out 1).trans rfl; have hfz12_0 := blk_frozen BK369.out 0; have hfz12_1 := blk_frozen BK369.out 1))
   go_ret
   exact ⟨by first | rfl | (simp [errW_none, errW_some] <;> rfl) | (simp [*, errW_none, errW_some] <;> rfl), by repeat (first | (with_reducible first | exact HB.out | apply below_alloc | apply pw_below_drewN | apply below_drew1 | refine below_set ?_ GE369.out) | exact HB.out)⟩
 ·rw [if_neg c3] at H
  have c3b0 : decide (0 ≤ a1_0) = false := decide_eq_false c3
  clear c3
  obtain rfl := Option.some.inj H
  go_enter Try.func37, Try.ntmps37
  go_wp2_with (first | ((with_reducible refine gate_dst (N := 3) rfl ?_); (try (refine gate_guard (by rfl) ?_; dsimp only)); refine box_event ?hg (N := 3) ?hd (cs := #[.int .i64 a1_0, .slice A1_1 l1_1.length c1_1]) (t := 36) ?hr ?_; (case hd => rfl); (case hg => rfl); (case hr => first | (go_simp; done) | (go_simp; rfl)); intro gb369 hg w13 hbox hb; have n0_ := Aside0.mk (below_step (by repeat (first | (with_reducible first | exact HB.out | apply below_alloc | apply pw_below_drewN | apply below_drew1) | exact HB.out)) hb); have n1_ := Aside0.mk (hbox); have n2_ := Aside0.mk ((by rw [hg]; exact (below_size (by repeat (first | (with_reducible first | exact HB.out | apply below_alloc | apply pw_below_drewN | apply below_drew1) | exact HB.out))) : w.heap.size ≤ gb369)); have n3_ := Aside0.mk ((by rw [hg]; exact (below_size (by repeat (first | (with_reducible first | exact HB.out | apply below_alloc | apply pw_below_drewN | apply below_drew1) | exact HB.out))) : w.heap.size ≤ gb369)); clear HB; have HB := n0_; have BK369 := n1_; have GW369 := n2_; have GE369 := n3_; clear n0_ n1_ n2_ n3_; clear hb hbox hg; have hcz14_0 : w13.cell? ⟨gb369, 0, none⟩ = some (.int .i64 a1_0) := (blk_cell BK369.out 0).trans rfl; have hcz14_1 : w13.cell? ⟨gb369, 1, none⟩ = some (.slice A1_1 l1_1.length c1_1) := (blk_cell BK369.out 1).trans rfl; have hfz14_0 := blk_frozen BK369.out 0; have hfz14_1 := blk_frozen BK369.out 1))
  go_ret
  exact ⟨by first | rfl | (simp [errW_none, errW_some] <;> rfl) | (simp [*, errW_none, errW_some] <;> rfl), by repeat (first | (with_reducible first | exact HB.out | apply below_alloc | apply pw_below_drewN | apply below_drew1 | refine below_set ?_ GE369.out) | exact HB.out)⟩

end Go.Proofs.Ytpampekijfjlkab.X

-- printed by a program of this session's (xprint)
namespace Go.Proofs.Ytpampekijfjlkab.X
open Go.RowKit Go.Proofs.YtpampekijfjlkabW.PrintWords Go.Proofs.YtpampekijfjlkabW.PrintLast Go.Proofs.YtpampekijfjlkabW.PrintMore
attribute [local go_sem] max2_int min2_int max_two min_two max_three min_three max_four min_four   -- for this text's walks alone
set_option linter.unusedVariables false
set_option linter.unusedSimpArgs false

/-! ### spec_StoryOk: function 25 -/
def spec_StoryOk.l0 : Nat → Int → List (S36) → Int → Option (Bool)
 | 0, _, _, _ => none
 | k + 1, x0, x1, x5 => if x5 < (x1.length : Int) then (if 0 ≤ x5 then ((spec_ClaimOk.f k x0 ((rd_T36 x1 x5).f0) ((rd_T36 x1 x5).f1)).bind fun t372 => (if t372 = true then (spec_StoryOk.l0 k x0 x1 (wrap64 (x5 + 1))) else (some false))) else (none)) else ((spec_l1In.f x0 1 4).bind fun t373 => (if t373 = true then (some (decide ((x1.length : Int) ≤ 6))) else (some false)))
def spec_StoryOk.f (k : Nat) (a0 : Int) (l1 : List (S36)) : Option (Bool) := spec_StoryOk.l0 k a0 l1 0
theorem spec_StoryOk.mono_l : ∀ k, (∀ y0 y1 y2, LeO (spec_StoryOk.l0 k y0 y1 y2) (spec_StoryOk.l0 (k + 1) y0 y1 y2))
 | 0 => fun _ _ _ r h => by simp [spec_StoryOk.l0] at h
 | k + 1 => by
  have ih0 := spec_StoryOk.mono_l k
  ·intro y0 y1 y2
   unfold spec_StoryOk.l0
   repeat' first
   | (with_reducible exact ih0 _ _ _)
   | (with_reducible exact spec_ClaimOk.mono _ _ _ _)
   | (with_reducible exact LeO.refl _)
   | (with_reducible exact LeO.none _)
   | (with_reducible refine LeO.ite ?_ ?_)
   | (with_reducible refine LeO.bind ?_ (fun _ => ?_))
   | exact ih0 _ _ _
   | exact spec_ClaimOk.mono _ _ _ _
   | exact LeO.none _
   | refine LeO.ite ?_ ?_
   | refine LeO.bind ?_ (fun _ => ?_)
theorem spec_StoryOk.mono : ∀ a0 a1 k, LeO (spec_StoryOk.f k a0 a1) (spec_StoryOk.f (k + 1) a0 a1) := by
 intro a0 a1 k
 have ih0 := spec_StoryOk.mono_l k
 unfold spec_StoryOk.f
 repeat' first
   | (with_reducible exact ih0 _ _ _)
   | (with_reducible exact spec_ClaimOk.mono _ _ _ _)
   | (with_reducible exact LeO.refl _)
   | (with_reducible exact LeO.none _)
   | (with_reducible refine LeO.ite ?_ ?_)
   | (with_reducible refine LeO.bind ?_ (fun _ => ?_))
   | exact ih0 _ _ _
   | exact spec_ClaimOk.mono _ _ _ _
   | exact LeO.none _
   | refine LeO.ite ?_ ?_
   | refine LeO.bind ?_ (fun _ => ?_)
set_option maxHeartbeats 8000000 in
set_option maxRecDepth 100000 in
theorem spec_StoryOk.calls (k : Nat) (a0 : Int) (A1 : Option Addr) (c1 : Nat) (l1 : List (S36)) (r : Bool) (w : World) (hr1 : Kd.C k36 w A1 l1.length l1) (hc1 : l1.length ≤ c1) (h : spec_StoryOk.f k a0 l1 = some r) :
  Calls Try.prog 25 #[.int .i64 a0, .slice A1 l1.length c1] w fun e w' => e = .returned (.bool r) ∧ Below w.heap.size w w' := by
 have hu36 := Try.underlying36
 have HR1 := Aside0.mk hr1
 have HC1 := Aside0.mk hc1
 clear hr1 hc1
 have HB := Aside0.mk (Below.refl w.heap.size w)
 have H : (spec_StoryOk.l0 k a0 l1 0) = some r := h
 clear h
 have H' := Aside0.mk H
 clear H
 go_enter Try.func25, Try.ntmps25
 go_wp2
 go_loopg [5] k (fun kq v5 w' => ∃ (x5_1 : Int), v5 = .int .i64 x5_1 ∧ Aside0 (spec_StoryOk.l0 kq a0 l1 x5_1 = some r) ∧ Aside0 (kq ≤ k) ∧ Aside0 (Below w.heap.size w w'))
 case atStart => exact ⟨(0), (by first | rfl | (simp; done) | (simp [*]; done)), H', ⟨Nat.le_refl _⟩, ⟨by repeat (first | (with_reducible first | exact HB.out | apply below_alloc | apply pw_below_drewN | apply below_drew1) | exact HB.out)⟩⟩
 case round =>
  clear H'
  try clear c1
  try clear c2
  try clear p2
  obtain ⟨x5_1, rfl, HA, HK1, HB⟩ := hrel
  cases gk with
  | zero => exact absurd HA.out (by simp [spec_StoryOk.l0])
  | succ k1 =>
   have H := HA.out
   clear HA
   simp only [spec_StoryOk.l0] at H
   by_cases c3 : x5_1 < (l1.length : Int)
   ·rw [if_pos c3] at H
    have c3b0 : decide (x5_1 < (l1.length : Int)) = true := decide_eq_true c3
    clear c3
    by_cases c4 : 0 ≤ x5_1
    ·rw [if_pos c4] at H
     have c4b0 : decide (0 ≤ x5_1) = true := decide_eq_true c4
     clear c4
     replace H := Option.bind_eq_some_iff.mp H
     obtain ⟨t372, A50, H⟩ := H
     replace H : (if t372 = true then (spec_StoryOk.l0 k1 a0 l1 (wrap64 (x5_1 + 1))) else (some false)) = some r := H
     have A5 := Aside0.mk A50
     clear A50
     by_cases c6 : t372 = true
     ·subst c6
      have H1 : (spec_StoryOk.l0 k1 a0 l1 (wrap64 (x5_1 + 1))) = some r := by rw [if_pos rfl] at H; exact H
      clear H
      have H := H1
      clear H1
      have H' := Aside0.mk H
      clear H
      have p371 : 0 ≤ (x5_1 : Int) := of_decide_eq_true (by first | (with_reducible assumption) | assumption)
      have q371 : x5_1 < (l1.length : Int) := of_decide_eq_true (by first | (with_reducible assumption) | assumption)
      obtain ⟨ad371, A371_1, c371_1, e371, hx371_0, hx371_1, hl371_1, hi371_1⟩ := at_T36 HR1.out x5_1 p371 q371
      cases e371
      replace hx371_0 := (HB.out.cell (World.block_lt_of_cell? w _ hx371_0)).trans hx371_0
      replace hx371_1 := (HB.out.cell (World.block_lt_of_cell? w _ hx371_1)).trans hx371_1
      have HR371_1 := Aside0.mk hi371_1
      have HC371_1 := Aside0.mk hl371_1
      clear hi371_1 hl371_1
      replace p371 := eq_true p371
      replace q371 := eq_true q371
      go_wp2_with (first | ((with_reducible refine gate_callee (f := 37) rfl ?_); refine goesL_ (some 17) rfl rfl Try.func37 (by kernel_rfl) rfl #[.int .i64 a0, .agg #[.int .i64 ((rd_T36 l1 x5_1).f0), .slice A371_1 ((rd_T36 l1 x5_1).f1).length c371_1]] rfl (by (try simp only [List.map_toArray, List.map_cons, List.map_nil]); first | done | rfl | (simp only [List.length_drop, List.length_take]; rfl)) ?_; (with_reducible refine (spec_ClaimOk.calls k1 a0 ((rd_T36 l1 x5_1).f0) _ _ ((rd_T36 l1 x5_1).f1) true _ ?side1 ?side2 A5.out).mono ?_); (case side1 => repeat (first | exact (Kd.C_below HR371_1.out HB.out) | (with_reducible refine Kd.C_alloc ?_ _) | (with_reducible refine Kd.C_drewN ?_ _) | (with_reducible refine Kd.C_drew ?_))); (case side2 => exact HC371_1.out); rintro e w7 ⟨rfl, hb⟩; refine ⟨_, rfl, ?_⟩; have n0_ := Aside0.mk (below_step (by repeat (first | (with_reducible first | exact HB.out | apply below_alloc | apply pw_below_drewN | apply below_drew1) | exact HB.out)) hb); clear HB; have HB := n0_; clear n0_; (try clear hb); (try clear hb2); (try clear hk); (try clear hi)))
      go_roundg k1
      case measure => have := HK1.out; omega
      case rel => exact ⟨(wrap64 (x5_1 + 1)), (by first | rfl | (simp; done) | (simp [*]; done)), H', ⟨by have := HK1.out; omega⟩, ⟨by repeat (first | (with_reducible first | exact HB.out | apply below_alloc | apply pw_below_drewN | apply below_drew1) | exact HB.out)⟩⟩
     ·replace c6 := Bool.eq_false_iff.mpr c6
      subst c6
      have H1 : (some false) = some r := by rw [if_neg (show ¬ (false = true) by decide)] at H; exact H
      clear H
      have H := H1
      clear H1
      obtain rfl := Option.some.inj H
      have p371 : 0 ≤ (x5_1 : Int) := of_decide_eq_true (by first | (with_reducible assumption) | assumption)
      have q371 : x5_1 < (l1.length : Int) := of_decide_eq_true (by first | (with_reducible assumption) | assumption)
      obtain ⟨ad371, A371_1, c371_1, e371, hx371_0, hx371_1, hl371_1, hi371_1⟩ := at_T36 HR1.out x5_1 p371 q371
      cases e371
      replace hx371_0 := (HB.out.cell (World.block_lt_of_cell? w _ hx371_0)).trans hx371_0
      replace hx371_1 := (HB.out.cell (World.block_lt_of_cell? w _ hx371_1)).trans hx371_1
      have HR371_1 := Aside0.mk hi371_1
      have HC371_1 := Aside0.mk hl371_1
      clear hi371_1 hl371_1
      replace p371 := eq_true p371
      replace q371 := eq_true q371
      go_wp2_with (first | ((with_reducible refine gate_callee (f := 37) rfl ?_); refine goesL_ (some 17) rfl rfl Try.func37 (by kernel_rfl) rfl #[.int .i64 a0, .agg #[.int .i64 ((rd_T36 l1 x5_1).f0), .slice A371_1 ((rd_T36 l1 x5_1).f1).length c371_1]] rfl (by (try simp only [List.map_toArray, List.map_cons, List.map_nil]); first | done | rfl | (simp only [List.length_drop, List.length_take]; rfl)) ?_; (with_reducible refine (spec_ClaimOk.calls k1 a0 ((rd_T36 l1 x5_1).f0) _ _ ((rd_T36 l1 x5_1).f1) false _ ?side1 ?side2 A5.out).mono ?_); (case side1 => repeat (first | exact (Kd.C_below HR371_1.out HB.out) | (with_reducible refine Kd.C_alloc ?_ _) | (with_reducible refine Kd.C_drewN ?_ _) | (with_reducible refine Kd.C_drew ?_))); (case side2 => exact HC371_1.out); rintro e w8 ⟨rfl, hb⟩; refine ⟨_, rfl, ?_⟩; have n0_ := Aside0.mk (below_step (by repeat (first | (with_reducible first | exact HB.out | apply below_alloc | apply pw_below_drewN | apply below_drew1) | exact HB.out)) hb); clear HB; have HB := n0_; clear n0_; (try clear hb); (try clear hb2); (try clear hk); (try clear hi)))
      go_ret
      exact ⟨by first | rfl | (simp [errW_none, errW_some] <;> rfl) | (simp [*, errW_none, errW_some] <;> rfl), by repeat (first | (with_reducible first | exact HB.out | apply below_alloc | apply pw_below_drewN | apply below_drew1) | exact HB.out)⟩
    ·rw [if_neg c4] at H
     exact absurd H (by simp)
   ·rw [if_neg c3] at H
    have c3b0 : decide (x5_1 < (l1.length : Int)) = false := decide_eq_false c3
    clear c3
    replace H := Option.bind_eq_some_iff.mp H
    obtain ⟨t373, A90, H⟩ := H
    replace H : (if t373 = true then (some (decide ((l1.length : Int) ≤ 6))) else (some false)) = some r := H
    have A9 := Aside0.mk A90
    clear A90
    by_cases c10 : t373 = true
    ·subst c10
     have H1 : (some (decide ((l1.length : Int) ≤ 6))) = some r := by rw [if_pos rfl] at H; exact H
     clear H
     have H := H1
     clear H1
     obtain rfl := Option.some.inj H
     go_wp2_with (first | ((with_reducible refine gate_callee (f := 98) rfl ?_); refine goesL_ (some 20) rfl rfl Try.func98 (by kernel_rfl) rfl #[.int .i64 a0, .int .i64 1, .int .i64 4] rfl (by (try simp only [List.map_toArray, List.map_cons, List.map_nil]); first | done | rfl | (simp only [List.length_drop, List.length_take]; rfl)) ?_; (with_reducible refine (spec_l1In.calls a0 1 4 true _ A9.out).mono ?_); rintro e w' ⟨rfl, ⟨nd, rfl⟩⟩; refine ⟨_, rfl, ?_⟩))
     go_ret
     exact ⟨by first | rfl | (simp [errW_none, errW_some] <;> rfl) | (simp [*, errW_none, errW_some] <;> rfl), by repeat (first | (with_reducible first | exact HB.out | apply below_alloc | apply pw_below_drewN | apply below_drew1) | exact HB.out)⟩
    ·replace c10 := Bool.eq_false_iff.mpr c10
     subst c10
     have H1 : (some false) = some r := by rw [if_neg (show ¬ (false = true) by decide)] at H; exact H
     clear H
     have H := H1
     clear H1
     obtain rfl := Option.some.inj H
     go_wp2_with (first | ((with_reducible refine gate_callee (f := 98) rfl ?_); refine goesL_ (some 20) rfl rfl Try.func98 (by kernel_rfl) rfl #[.int .i64 a0, .int .i64 1, .int .i64 4] rfl (by (try simp only [List.map_toArray, List.map_cons, List.map_nil]); first | done | rfl | (simp only [List.length_drop, List.length_take]; rfl)) ?_; (with_reducible refine (spec_l1In.calls a0 1 4 false _ A9.out).mono ?_); rintro e w' ⟨rfl, ⟨nd, rfl⟩⟩; refine ⟨_, rfl, ?_⟩))
     go_ret
     exact ⟨by first | rfl | (simp [errW_none, errW_some] <;> rfl) | (simp [*, errW_none, errW_some] <;> rfl), by repeat (first | (with_reducible first | exact HB.out | apply below_alloc | apply pw_below_drewN | apply below_drew1) | exact HB.out)⟩

end Go.Proofs.Ytpampekijfjlkab.X

-- printed by a program of this session's (xprint)
namespace Go.Proofs.Ytpampekijfjlkab.X
open Go.RowKit Go.Proofs.YtpampekijfjlkabW.PrintWords Go.Proofs.YtpampekijfjlkabW.PrintLast Go.Proofs.YtpampekijfjlkabW.PrintMore
attribute [local go_sem] max2_int min2_int max_two min_two max_three min_three max_four min_four   -- for this text's walks alone
set_option linter.unusedVariables false
set_option linter.unusedSimpArgs false

/-! ### spec_l4May: function 101 -/
def spec_l4May.f (k : Nat) (a0_0 : Int) (l0_1 : List (S33)) (a1 : Int) : Option (Bool) := if 0 ≤ a0_0 then ((spec_l3Holds.f k l0_1 a1).bind fun t437 => (some (((Int.tmod (shr .i64 a1 a0_0) 2) == 1) == t437))) else (none)
theorem spec_l4May.mono : ∀ a0 a1 a2 k, LeO (spec_l4May.f k a0 a1 a2) (spec_l4May.f (k + 1) a0 a1 a2) := by
 intro a0 a1 a2 k
 unfold spec_l4May.f
 repeat' first
   | (with_reducible exact spec_l3Holds.mono _ _ _)
   | (with_reducible exact LeO.refl _)
   | (with_reducible exact LeO.none _)
   | (with_reducible refine LeO.ite ?_ ?_)
   | (with_reducible refine LeO.bind ?_ (fun _ => ?_))
   | exact spec_l3Holds.mono _ _ _
   | exact LeO.none _
   | refine LeO.ite ?_ ?_
   | refine LeO.bind ?_ (fun _ => ?_)
set_option maxHeartbeats 8000000 in
set_option maxRecDepth 100000 in
theorem spec_l4May.calls (k : Nat) (a0_0 : Int) (A0_1 : Option Addr) (c0_1 : Nat) (l0_1 : List (S33)) (a1 : Int) (r : Bool) (w : World) (hr0_1 : Kd.C k33 w A0_1 l0_1.length l0_1) (hc0_1 : l0_1.length ≤ c0_1) (h : spec_l4May.f k a0_0 l0_1 a1 = some r) :
  Calls Try.prog 101 #[.agg #[.int .i64 a0_0, .slice A0_1 l0_1.length c0_1], .int .i64 a1] w fun e w' => e = .returned (.bool r) ∧ Below w.heap.size w w' := by
 have hu36 := Try.underlying36
 have HR0_1 := Aside0.mk hr0_1
 have HC0_1 := Aside0.mk hc0_1
 clear hr0_1 hc0_1
 have HB := Aside0.mk (Below.refl w.heap.size w)
 have H : (if 0 ≤ a0_0 then ((spec_l3Holds.f k l0_1 a1).bind fun t437 => (some (((Int.tmod (shr .i64 a1 a0_0) 2) == 1) == t437))) else (none)) = some r := h
 clear h
 by_cases c3 : 0 ≤ a0_0
 ·rw [if_pos c3] at H
  have c3b0 := eq_true c3
  have c3b1 : decide (0 ≤ a0_0) = true := decide_eq_true c3
  clear c3
  obtain ⟨ji4, hji4⟩ : ∃ j_ : Int, (shr .i64 a1 a0_0) = j_ := ⟨_, rfl⟩
  replace H : ((spec_l3Holds.f k l0_1 a1).bind fun t437 => (some (((Int.tmod (ji4) 2) == 1) == t437))) = some r := by first | (rw [hji4] at H; exact H) | (simp only [hji4] at H ⊢; exact H)
  have hji4_ : (a1 / 2 ^ min a0_0.toNat 64) = ji4 := hji4
  have hji4z : a0_0 ≤ 64 → (a1 / 2 ^ a0_0.toNat) = ji4 := shr_small hji4
  replace H := Option.bind_eq_some_iff.mp H
  obtain ⟨t437, A50, H⟩ := H
  replace H : (some (((Int.tmod (ji4) 2) == 1) == t437)) = some r := H
  have A5 := Aside0.mk A50
  clear A50
  obtain rfl := Option.some.inj H
  go_enter Try.func101, Try.ntmps101
  go_wp2_with (first | ((with_reducible refine gate_dst (N := 2) rfl ?_); refine box_event ?hg (N := 2) ?hd (cs := #[.int .i64 a0_0, .slice A0_1 l0_1.length c0_1]) (t := 36) ?hr ?_; (case hd => rfl); (case hg => rfl); (case hr => first | (go_simp; done) | (go_simp; rfl)); intro gb436 hg w6 hbox hb; have n0_ := Aside0.mk (below_step (by repeat (first | (with_reducible first | exact HB.out | apply below_alloc | apply pw_below_drewN | apply below_drew1) | exact HB.out)) hb); have n1_ := Aside0.mk (hbox); have n2_ := Aside0.mk ((by rw [hg]; exact (below_size (by repeat (first | (with_reducible first | exact HB.out | apply below_alloc | apply pw_below_drewN | apply below_drew1) | exact HB.out))) : w.heap.size ≤ gb436)); have n3_ := Aside0.mk ((by rw [hg]; exact (below_size (by repeat (first | (with_reducible first | exact HB.out | apply below_alloc | apply pw_below_drewN | apply below_drew1) | exact HB.out))) : w.heap.size ≤ gb436)); clear HB; have HB := n0_; have BK436 := n1_; have GW436 := n2_; have GE436 := n3_; clear n0_ n1_ n2_ n3_; clear hb hbox hg; have hcz7_0 : w6.cell? ⟨gb436, 0, none⟩ = some (.int .i64 a0_0) := (blk_cell BK436.out 0).trans rfl; have hcz7_1 : w6.cell? ⟨gb436, 1, none⟩ = some (.slice A0_1 l0_1.length c0_1) := (blk_cell BK436.out 1).trans rfl; have hfz7_0 := blk_frozen BK436.out 0; have hfz7_1 := blk_frozen BK436.out 1) | (go_at_call 140; (with_reducible refine (spec_l3Holds.calls k _ _ l0_1 a1 t437 _ ?side1 ?side2 A5.out).mono ?_); (case side1 => repeat (first | exact (Kd.C_below HR0_1.out HB.out) | (with_reducible refine Kd.C_alloc ?_ _) | (with_reducible refine Kd.C_drewN ?_ _) | (with_reducible refine Kd.C_drew ?_))); (case side2 => exact HC0_1.out); rintro e w' ⟨rfl, ⟨nd, rfl⟩⟩; (try first | exact ⟨rfl, _, World.drewN_drewN _ _ _⟩ | exact ⟨rfl, _, Eq.trans (World.drewN_drewN _ _ _) (congrArg (World.drewN _) (Nat.add_assoc _ _ _))⟩)))
  repeat (go_quiet (first | ((with_reducible refine gate_dst (N := 2) rfl ?_); refine box_event ?hg (N := 2) ?hd (cs := #[.int .i64 a0_0, .slice A0_1 l0_1.length c0_1]) (t := 36) ?hr ?_; (case hd => rfl); (case hg => rfl); (case hr => first | (go_simp; done) | (go_simp; rfl)); intro gb436 hg w6 hbox hb; have n0_ := Aside0.mk (below_step (by repeat (first | (with_reducible first | exact HB.out | apply below_alloc | apply pw_below_drewN | apply below_drew1) | exact HB.out)) hb); have n1_ := Aside0.mk (hbox); have n2_ := Aside0.mk ((by rw [hg]; exact (below_size (by repeat (first | (with_reducible first | exact HB.out | apply below_alloc | apply pw_below_drewN | apply below_drew1) | exact HB.out))) : w.heap.size ≤ gb436)); have n3_ := Aside0.mk ((by rw [hg]; exact (below_size (by repeat (first | (with_reducible first | exact HB.out | apply below_alloc | apply pw_below_drewN | apply below_drew1) | exact HB.out))) : w.heap.size ≤ gb436)); clear HB; have HB := n0_; have BK436 := n1_; have GW436 := n2_; have GE436 := n3_; clear n0_ n1_ n2_ n3_; clear hb hbox hg; have hcz7_0 : w6.cell? ⟨gb436, 0, none⟩ = some (.int .i64 a0_0) := (blk_cell BK436.out 0).trans rfl; have hcz7_1 : w6.cell? ⟨gb436, 1, none⟩ = some (.slice A0_1 l0_1.length c0_1) := (blk_cell BK436.out 1).trans rfl; have hfz7_0 := blk_frozen BK436.out 0; have hfz7_1 := blk_frozen BK436.out 1) | (go_at_call 140; (with_reducible refine (spec_l3Holds.calls k _ _ l0_1 a1 t437 _ ?side1 ?side2 A5.out).mono ?_); (case side1 => repeat (first | exact (Kd.C_below HR0_1.out HB.out) | (with_reducible refine Kd.C_alloc ?_ _) | (with_reducible refine Kd.C_drewN ?_ _) | (with_reducible refine Kd.C_drew ?_))); (case side2 => exact HC0_1.out); rintro e w' ⟨rfl, ⟨nd, rfl⟩⟩; (try first | exact ⟨rfl, _, World.drewN_drewN _ _ _⟩ | exact ⟨rfl, _, Eq.trans (World.drewN_drewN _ _ _) (congrArg (World.drewN _) (Nat.add_assoc _ _ _))⟩))); try go_wp2_with (first | ((with_reducible refine gate_dst (N := 2) rfl ?_); refine box_event ?hg (N := 2) ?hd (cs := #[.int .i64 a0_0, .slice A0_1 l0_1.length c0_1]) (t := 36) ?hr ?_; (case hd => rfl); (case hg => rfl); (case hr => first | (go_simp; done) | (go_simp; rfl)); intro gb436 hg w6 hbox hb; have n0_ := Aside0.mk (below_step (by repeat (first | (with_reducible first | exact HB.out | apply below_alloc | apply pw_below_drewN | apply below_drew1) | exact HB.out)) hb); have n1_ := Aside0.mk (hbox); have n2_ := Aside0.mk ((by rw [hg]; exact (below_size (by repeat (first | (with_reducible first | exact HB.out | apply below_alloc | apply pw_below_drewN | apply below_drew1) | exact HB.out))) : w.heap.size ≤ gb436)); have n3_ := Aside0.mk ((by rw [hg]; exact (below_size (by repeat (first | (with_reducible first | exact HB.out | apply below_alloc | apply pw_below_drewN | apply below_drew1) | exact HB.out))) : w.heap.size ≤ gb436)); clear HB; have HB := n0_; have BK436 := n1_; have GW436 := n2_; have GE436 := n3_; clear n0_ n1_ n2_ n3_; clear hb hbox hg; have hcz7_0 : w6.cell? ⟨gb436, 0, none⟩ = some (.int .i64 a0_0) := (blk_cell BK436.out 0).trans rfl; have hcz7_1 : w6.cell? ⟨gb436, 1, none⟩ = some (.slice A0_1 l0_1.length c0_1) := (blk_cell BK436.out 1).trans rfl; have hfz7_0 := blk_frozen BK436.out 0; have hfz7_1 := blk_frozen BK436.out 1) | (go_at_call 140; (with_reducible refine (spec_l3Holds.calls k _ _ l0_1 a1 t437 _ ?side1 ?side2 A5.out).mono ?_); (case side1 => repeat (first | exact (Kd.C_below HR0_1.out HB.out) | (with_reducible refine Kd.C_alloc ?_ _) | (with_reducible refine Kd.C_drewN ?_ _) | (with_reducible refine Kd.C_drew ?_))); (case side2 => exact HC0_1.out); rintro e w' ⟨rfl, ⟨nd, rfl⟩⟩; (try first | exact ⟨rfl, _, World.drewN_drewN _ _ _⟩ | exact ⟨rfl, _, Eq.trans (World.drewN_drewN _ _ _) (congrArg (World.drewN _) (Nat.add_assoc _ _ _))⟩))))
  go_ret
  exact ⟨by first | rfl | (simp [errW_none, errW_some] <;> rfl) | (simp only [← hji4]; first | rfl | (simp [errW_none, errW_some] <;> rfl)) | (simp [*, errW_none, errW_some] <;> rfl), by repeat (first | (with_reducible first | exact HB.out | apply below_alloc | apply pw_below_drewN | apply below_drew1 | refine below_set ?_ GE436.out) | exact HB.out)⟩
 ·rw [if_neg c3] at H
  exact absurd H (by simp)

end Go.Proofs.Ytpampekijfjlkab.X

-- printed by a program of this session's (xprint)
namespace Go.Proofs.Ytpampekijfjlkab.X
open Go.RowKit Go.Proofs.YtpampekijfjlkabW.PrintWords Go.Proofs.YtpampekijfjlkabW.PrintLast Go.Proofs.YtpampekijfjlkabW.PrintMore
attribute [local go_sem] max2_int min2_int max_two min_two max_three min_three max_four min_four   -- for this text's walks alone
set_option linter.unusedVariables false
set_option linter.unusedSimpArgs false

/-! ### spec_l4Table: function 114 -/
def spec_l4Table.l0 : Nat → Int → Int → Int → Int → List (S33) → Option (Int)
 | 0, _, _, _, _, _ => none
 | k + 1, x0, x5, x6, x648000, x648001 => if 0 ≤ x0 then (if x6 < (shl .i64 1 x0) then ((spec_l4May.f k x648000 x648001 x6).bind fun t648 => (if t648 = true then (if 0 ≤ x6 then (spec_l4Table.l0 k x0 (Go.bits .or .i64 x5 (shl .i64 1 x6)) (wrap64 (x6 + 1)) x648000 x648001) else (none)) else (spec_l4Table.l0 k x0 x5 (wrap64 (x6 + 1)) x648000 x648001))) else (some x5)) else (none)
def spec_l4Table.f (k : Nat) (a0 : Int) (a1_0 : Int) (l1_1 : List (S33)) : Option (Int) := spec_l4Table.l0 k a0 0 0 a1_0 l1_1
theorem spec_l4Table.mono_l : ∀ k, (∀ y0 y1 y2 y3 y4, LeO (spec_l4Table.l0 k y0 y1 y2 y3 y4) (spec_l4Table.l0 (k + 1) y0 y1 y2 y3 y4))
 | 0 => fun _ _ _ _ _ r h => by simp [spec_l4Table.l0] at h
 | k + 1 => by
  have ih0 := spec_l4Table.mono_l k
  ·intro y0 y1 y2 y3 y4
   unfold spec_l4Table.l0
   repeat' first
   | (with_reducible exact ih0 _ _ _ _ _)
   | (with_reducible exact spec_l4May.mono _ _ _ _)
   | (with_reducible exact LeO.refl _)
   | (with_reducible exact LeO.none _)
   | (with_reducible refine LeO.ite ?_ ?_)
   | (with_reducible refine LeO.bind ?_ (fun _ => ?_))
   | exact ih0 _ _ _ _ _
   | exact spec_l4May.mono _ _ _ _
   | exact LeO.none _
   | refine LeO.ite ?_ ?_
   | refine LeO.bind ?_ (fun _ => ?_)
theorem spec_l4Table.mono : ∀ a0 a1 a2 k, LeO (spec_l4Table.f k a0 a1 a2) (spec_l4Table.f (k + 1) a0 a1 a2) := by
 intro a0 a1 a2 k
 have ih0 := spec_l4Table.mono_l k
 unfold spec_l4Table.f
 repeat' first
   | (with_reducible exact ih0 _ _ _ _ _)
   | (with_reducible exact spec_l4May.mono _ _ _ _)
   | (with_reducible exact LeO.refl _)
   | (with_reducible exact LeO.none _)
   | (with_reducible refine LeO.ite ?_ ?_)
   | (with_reducible refine LeO.bind ?_ (fun _ => ?_))
   | exact ih0 _ _ _ _ _
   | exact spec_l4May.mono _ _ _ _
   | exact LeO.none _
   | refine LeO.ite ?_ ?_
   | refine LeO.bind ?_ (fun _ => ?_)
set_option maxHeartbeats 8000000 in
set_option maxRecDepth 100000 in
theorem spec_l4Table.calls (k : Nat) (a0 : Int) (a1_0 : Int) (A1_1 : Option Addr) (c1_1 : Nat) (l1_1 : List (S33)) (r : Int) (w : World) (hr1_1 : Kd.C k33 w A1_1 l1_1.length l1_1) (hc1_1 : l1_1.length ≤ c1_1) (h : spec_l4Table.f k a0 a1_0 l1_1 = some r) :
  Calls Try.prog 114 #[.int .i64 a0, .agg #[.int .i64 a1_0, .slice A1_1 l1_1.length c1_1]] w fun e w' => e = .returned (.int .i64 r) ∧ Below w.heap.size w w' := by
 have hu36 := Try.underlying36
 have HR1_1 := Aside0.mk hr1_1
 have HC1_1 := Aside0.mk hc1_1
 clear hr1_1 hc1_1
 have HB := Aside0.mk (Below.refl w.heap.size w)
 have H : (spec_l4Table.l0 k a0 0 0 a1_0 l1_1) = some r := h
 clear h
 have H' := Aside0.mk H
 clear H
 go_enter Try.func114, Try.ntmps114
 go_wp2_with (first | ((with_reducible refine gate_dst (N := 3) rfl ?_); refine box_event ?hg (N := 3) ?hd (cs := #[.int .i64 a1_0, .slice A1_1 l1_1.length c1_1]) (t := 36) ?hr ?_; (case hd => rfl); (case hg => rfl); (case hr => first | (go_simp; done) | (go_simp; rfl)); intro gb647 hg w3 hbox hb; have n0_ := Aside0.mk (below_step (by repeat (first | (with_reducible first | exact HB.out | apply below_alloc | apply pw_below_drewN | apply below_drew1) | exact HB.out)) hb); have n1_ := Aside0.mk (hbox); have n2_ := Aside0.mk ((by rw [hg]; exact (below_size (by repeat (first | (with_reducible first | exact HB.out | apply below_alloc | apply pw_below_drewN | apply below_drew1) | exact HB.out))) : w.heap.size ≤ gb647)); have n3_ := Aside0.mk ((by rw [hg]; exact (below_size (by repeat (first | (with_reducible first | exact HB.out | apply below_alloc | apply pw_below_drewN | apply below_drew1) | exact HB.out))) : w.heap.size ≤ gb647)); clear HB; have HB := n0_; have BK647 := n1_; have GW647 := n2_; have GE647 := n3_; clear n0_ n1_ n2_ n3_; clear hb hbox hg))
 go_loopg [5, 6] k (fun kq v5 v6 w' => ∃ (x5_1 : Int) (x6_1 : Int), v5 = .int .i64 x5_1 ∧ v6 = .int .i64 x6_1 ∧ Aside0 (spec_l4Table.l0 kq a0 x5_1 x6_1 a1_0 l1_1 = some r) ∧ Aside0 (kq ≤ k) ∧ Aside0 (w'.heap[gb647]? = some (.cells #[.int .i64 a1_0, (.slice A1_1 l1_1.length c1_1)] 36 (0, 0))) ∧ Aside0 (Below w.heap.size w w'))
 case atStart => exact ⟨(0), (0), (by first | rfl | (simp; done) | (simp [*]; done)), (by first | rfl | (simp; done) | (simp [*]; done)), H', ⟨Nat.le_refl _⟩, ⟨by (with_reducible repeat (first | refine blk_drewN ?_ _ | refine blk_drew ?_ | refine blk_alloc ?_ _)); exact BK647.out⟩, ⟨by repeat (first | (with_reducible first | exact HB.out | apply below_alloc | apply pw_below_drewN | apply below_drew1 | refine below_set ?_ GE647.out) | exact HB.out)⟩⟩
 case round =>
  clear H'
  try clear c1
  try clear p2
  obtain ⟨x5_1, x6_1, rfl, rfl, HA, HK1, BK647, HB⟩ := hrel
  cases gk with
  | zero => exact absurd HA.out (by simp [spec_l4Table.l0])
  | succ k1 =>
   have H := HA.out
   clear HA
   simp only [spec_l4Table.l0] at H
   by_cases c4 : 0 ≤ a0
   ·rw [if_pos c4] at H
    have c4b0 := eq_true c4
    have c4b1 : decide (0 ≤ a0) = true := decide_eq_true c4
    clear c4
    obtain ⟨ji5, hji5⟩ : ∃ j_ : Int, (shl .i64 1 a0) = j_ := ⟨_, rfl⟩
    replace H : (if x6_1 < (ji5) then ((spec_l4May.f k1 a1_0 l1_1 x6_1).bind fun t648 => (if t648 = true then (if 0 ≤ x6_1 then (spec_l4Table.l0 k1 a0 (Go.bits .or .i64 x5_1 (shl .i64 1 x6_1)) (wrap64 (x6_1 + 1)) a1_0 l1_1) else (none)) else (spec_l4Table.l0 k1 a0 x5_1 (wrap64 (x6_1 + 1)) a1_0 l1_1))) else (some x5_1)) = some r := by first | (rw [hji5] at H; exact H) | (simp only [hji5] at H ⊢; exact H)
    have hji5_ : (IntKind.i64.wrap (1 * 2 ^ min a0.toNat 64)) = ji5 := hji5
    have hji5z : a0 ≤ 64 → (IntKind.i64.wrap (1 * 2 ^ a0.toNat)) = ji5 := shl_small hji5
    have hji5u : (IntKind.i64.wrap (2 ^ min a0.toNat 64)) = ji5 := by have h_ := hji5_; rw [Int.one_mul] at h_; exact h_
    have hji5v : a0 ≤ 64 → (IntKind.i64.wrap (2 ^ a0.toNat)) = ji5 := fun hle_ => by have h_ := hji5z hle_; rw [Int.one_mul] at h_; exact h_
    have hji5y : (wrap64 (1 * 2 ^ min a0.toNat 64)) = ji5 := (i64_w _).symm.trans hji5_
    have hji5x : a0 ≤ 64 → (wrap64 (1 * 2 ^ a0.toNat)) = ji5 := fun h_ => (i64_w _).symm.trans (hji5z h_)
    by_cases c6 : x6_1 < (ji5)
    ·rw [if_pos c6] at H
     have c6b0 : decide (x6_1 < (ji5)) = true := decide_eq_true c6
     clear c6
     replace H := Option.bind_eq_some_iff.mp H
     obtain ⟨t648, A70, H⟩ := H
     replace H : (if t648 = true then (if 0 ≤ x6_1 then (spec_l4Table.l0 k1 a0 (Go.bits .or .i64 x5_1 (shl .i64 1 x6_1)) (wrap64 (x6_1 + 1)) a1_0 l1_1) else (none)) else (spec_l4Table.l0 k1 a0 x5_1 (wrap64 (x6_1 + 1)) a1_0 l1_1)) = some r := H
     have A7 := Aside0.mk A70
     clear A70
     by_cases c8 : t648 = true
     ·subst c8
      have H1 : (if 0 ≤ x6_1 then (spec_l4Table.l0 k1 a0 (Go.bits .or .i64 x5_1 (shl .i64 1 x6_1)) (wrap64 (x6_1 + 1)) a1_0 l1_1) else (none)) = some r := by rw [if_pos rfl] at H; exact H
      clear H
      have H := H1
      clear H1
      by_cases c9 : 0 ≤ x6_1
      ·rw [if_pos c9] at H
       have c9b0 := eq_true c9
       have c9b1 : decide (0 ≤ x6_1) = true := decide_eq_true c9
       clear c9
       obtain ⟨ji10, hji10⟩ : ∃ j_ : Int, (shl .i64 1 x6_1) = j_ := ⟨_, rfl⟩
       replace H : (spec_l4Table.l0 k1 a0 (Go.bits .or .i64 x5_1 (ji10)) (wrap64 (x6_1 + 1)) a1_0 l1_1) = some r := by first | (rw [hji10] at H; exact H) | (simp only [hji10] at H ⊢; exact H)
       (try rw [hji10] at A7)
       have hji10_ : (IntKind.i64.wrap (1 * 2 ^ min x6_1.toNat 64)) = ji10 := hji10
       have hji10z : x6_1 ≤ 64 → (IntKind.i64.wrap (1 * 2 ^ x6_1.toNat)) = ji10 := shl_small hji10
       have hji10u : (IntKind.i64.wrap (2 ^ min x6_1.toNat 64)) = ji10 := by have h_ := hji10_; rw [Int.one_mul] at h_; exact h_
       have hji10v : x6_1 ≤ 64 → (IntKind.i64.wrap (2 ^ x6_1.toNat)) = ji10 := fun hle_ => by have h_ := hji10z hle_; rw [Int.one_mul] at h_; exact h_
       have hji10y : (wrap64 (1 * 2 ^ min x6_1.toNat 64)) = ji10 := (i64_w _).symm.trans hji10_
       have hji10x : x6_1 ≤ 64 → (wrap64 (1 * 2 ^ x6_1.toNat)) = ji10 := fun h_ => (i64_w _).symm.trans (hji10z h_)
       have H' := Aside0.mk H
       clear H
       have hcz11_0 : wr.cell? ⟨gb647, 0, none⟩ = some (.int .i64 a1_0) := (blk_cell BK647.out 0).trans rfl
       have hcz11_1 : wr.cell? ⟨gb647, 1, none⟩ = some (.slice A1_1 l1_1.length c1_1) := (blk_cell BK647.out 1).trans rfl
       have hfz11_0 := blk_frozen BK647.out 0
       have hfz11_1 := blk_frozen BK647.out 1
       go_wp2_with (first | ((with_reducible refine gate_callee (f := 101) rfl ?_); refine goesL_ (some 15) rfl rfl Try.func101 (by kernel_rfl) rfl #[.agg #[.int .i64 a1_0, .slice A1_1 l1_1.length c1_1], .int .i64 x6_1] rfl (by (try simp only [List.map_toArray, List.map_cons, List.map_nil]); first | done | rfl | (simp only [List.length_drop, List.length_take]; rfl)) ?_; (with_reducible refine (spec_l4May.calls k1 a1_0 _ _ l1_1 x6_1 true _ ?side1 ?side2 A7.out).mono ?_); (case side1 => repeat (first | exact (Kd.C_below HR1_1.out HB.out) | (with_reducible refine Kd.C_alloc ?_ _) | (with_reducible refine Kd.C_drewN ?_ _) | (with_reducible refine Kd.C_drew ?_))); (case side2 => exact HC1_1.out); rintro e w12 ⟨rfl, hb⟩; refine ⟨_, rfl, ?_⟩; have n0_ := Aside0.mk (blk_below (g := gb647) (o := .cells #[.int .i64 a1_0, .slice A1_1 l1_1.length c1_1] 36 (0, 0)) (by (with_reducible repeat (first | refine blk_drewN ?_ _ | refine blk_drew ?_ | refine blk_alloc ?_ _)); exact BK647.out) hb); have n1_ := Aside0.mk (below_step (by repeat (first | (with_reducible first | exact HB.out | apply below_alloc | apply pw_below_drewN | apply below_drew1 | refine below_set ?_ GE647.out) | exact HB.out)) hb); clear BK647; clear HB; have BK647 := n0_; have HB := n1_; clear n0_ n1_; (try clear hb); (try clear hb2); (try clear hk); (try clear hi)))
       go_roundg k1
       case measure => have := HK1.out; omega
       case rel => exact ⟨(Go.bits .or .i64 x5_1 (ji10)), (wrap64 (x6_1 + 1)), (by first | rfl | (simp; done) | (simp only [← hji10] <;> (first | rfl | simp)) | (simp [*]; done)), (by first | rfl | (simp; done) | (simp [*]; done)), H', ⟨by have := HK1.out; omega⟩, ⟨by (with_reducible repeat (first | refine blk_drewN ?_ _ | refine blk_drew ?_ | refine blk_alloc ?_ _)); exact BK647.out⟩, ⟨by repeat (first | (with_reducible first | exact HB.out | apply below_alloc | apply pw_below_drewN | apply below_drew1 | refine below_set ?_ GE647.out) | exact HB.out)⟩⟩
      ·rw [if_neg c9] at H
       exact absurd H (by simp)
     ·replace c8 := Bool.eq_false_iff.mpr c8
      subst c8
      have H1 : (spec_l4Table.l0 k1 a0 x5_1 (wrap64 (x6_1 + 1)) a1_0 l1_1) = some r := by rw [if_neg (show ¬ (false = true) by decide)] at H; exact H
      clear H
      have H := H1
      clear H1
      have H' := Aside0.mk H
      clear H
      have hcz13_0 : wr.cell? ⟨gb647, 0, none⟩ = some (.int .i64 a1_0) := (blk_cell BK647.out 0).trans rfl
      have hcz13_1 : wr.cell? ⟨gb647, 1, none⟩ = some (.slice A1_1 l1_1.length c1_1) := (blk_cell BK647.out 1).trans rfl
      have hfz13_0 := blk_frozen BK647.out 0
      have hfz13_1 := blk_frozen BK647.out 1
      go_wp2_with (first | ((with_reducible refine gate_callee (f := 101) rfl ?_); refine goesL_ (some 15) rfl rfl Try.func101 (by kernel_rfl) rfl #[.agg #[.int .i64 a1_0, .slice A1_1 l1_1.length c1_1], .int .i64 x6_1] rfl (by (try simp only [List.map_toArray, List.map_cons, List.map_nil]); first | done | rfl | (simp only [List.length_drop, List.length_take]; rfl)) ?_; (with_reducible refine (spec_l4May.calls k1 a1_0 _ _ l1_1 x6_1 false _ ?side1 ?side2 A7.out).mono ?_); (case side1 => repeat (first | exact (Kd.C_below HR1_1.out HB.out) | (with_reducible refine Kd.C_alloc ?_ _) | (with_reducible refine Kd.C_drewN ?_ _) | (with_reducible refine Kd.C_drew ?_))); (case side2 => exact HC1_1.out); rintro e w14 ⟨rfl, hb⟩; refine ⟨_, rfl, ?_⟩; have n0_ := Aside0.mk (blk_below (g := gb647) (o := .cells #[.int .i64 a1_0, .slice A1_1 l1_1.length c1_1] 36 (0, 0)) (by (with_reducible repeat (first | refine blk_drewN ?_ _ | refine blk_drew ?_ | refine blk_alloc ?_ _)); exact BK647.out) hb); have n1_ := Aside0.mk (below_step (by repeat (first | (with_reducible first | exact HB.out | apply below_alloc | apply pw_below_drewN | apply below_drew1 | refine below_set ?_ GE647.out) | exact HB.out)) hb); clear BK647; clear HB; have BK647 := n0_; have HB := n1_; clear n0_ n1_; (try clear hb); (try clear hb2); (try clear hk); (try clear hi)))
      go_roundg k1
      case measure => have := HK1.out; omega
      case rel => exact ⟨(x5_1), (wrap64 (x6_1 + 1)), (by first | rfl | (simp; done) | (simp [*]; done)), (by first | rfl | (simp; done) | (simp [*]; done)), H', ⟨by have := HK1.out; omega⟩, ⟨by (with_reducible repeat (first | refine blk_drewN ?_ _ | refine blk_drew ?_ | refine blk_alloc ?_ _)); exact BK647.out⟩, ⟨by repeat (first | (with_reducible first | exact HB.out | apply below_alloc | apply pw_below_drewN | apply below_drew1 | refine below_set ?_ GE647.out) | exact HB.out)⟩⟩
    ·rw [if_neg c6] at H
     have c6b0 : decide (x6_1 < (ji5)) = false := decide_eq_false c6
     clear c6
     obtain rfl := Option.some.inj H
     go_wp2
     go_ret
     exact ⟨by first | rfl | (simp [errW_none, errW_some] <;> rfl) | (simp only [← hji5]; first | rfl | (simp [errW_none, errW_some] <;> rfl)) | (simp [*, errW_none, errW_some] <;> rfl), by repeat (first | (with_reducible first | exact HB.out | apply below_alloc | apply pw_below_drewN | apply below_drew1 | refine below_set ?_ GE647.out) | exact HB.out)⟩
   ·rw [if_neg c4] at H
    exact absurd H (by simp)

end Go.Proofs.Ytpampekijfjlkab.X

-- printed by a program of this session's (xprint)
namespace Go.Proofs.Ytpampekijfjlkab.X
open Go.RowKit Go.Proofs.YtpampekijfjlkabW.PrintWords Go.Proofs.YtpampekijfjlkabW.PrintLast Go.Proofs.YtpampekijfjlkabW.PrintMore
attribute [local go_sem] max2_int min2_int max_two min_two max_three min_three max_four min_four   -- for this text's walks alone
set_option linter.unusedVariables false
set_option linter.unusedSimpArgs false

/-! ### spec_l4Story: function 127 -/
def spec_l4Story.l0 : Nat → Int → List (S36) → Int → Int → Option (Int)
 | 0, _, _, _, _ => none
 | k + 1, x0, x1, x5, x6 => if x6 < (x1.length : Int) then (if 0 ≤ x6 then ((spec_l4Table.f k x0 ((rd_T36 x1 x6).f0) ((rd_T36 x1 x6).f1)).bind fun t783 => (spec_l4Story.l0 k x0 x1 (Go.bits .and .i64 x5 t783) (wrap64 (x6 + 1)))) else (none)) else (some x5)
def spec_l4Story.f (k : Nat) (a0 : Int) (l1 : List (S36)) : Option (Int) := if 0 ≤ a0 then (spec_l4Story.l0 k a0 l1 (wrap64 ((shl .i64 1 (shl .u64 1 a0)) - 1)) 0) else (none)
theorem spec_l4Story.mono_l : ∀ k, (∀ y0 y1 y2 y3, LeO (spec_l4Story.l0 k y0 y1 y2 y3) (spec_l4Story.l0 (k + 1) y0 y1 y2 y3))
 | 0 => fun _ _ _ _ r h => by simp [spec_l4Story.l0] at h
 | k + 1 => by
  have ih0 := spec_l4Story.mono_l k
  ·intro y0 y1 y2 y3
   unfold spec_l4Story.l0
   repeat' first
   | (with_reducible exact ih0 _ _ _ _)
   | (with_reducible exact spec_l4Table.mono _ _ _ _)
   | (with_reducible exact LeO.refl _)
   | (with_reducible exact LeO.none _)
   | (with_reducible refine LeO.ite ?_ ?_)
   | (with_reducible refine LeO.bind ?_ (fun _ => ?_))
   | exact ih0 _ _ _ _
   | exact spec_l4Table.mono _ _ _ _
   | exact LeO.none _
   | refine LeO.ite ?_ ?_
   | refine LeO.bind ?_ (fun _ => ?_)
theorem spec_l4Story.mono : ∀ a0 a1 k, LeO (spec_l4Story.f k a0 a1) (spec_l4Story.f (k + 1) a0 a1) := by
 intro a0 a1 k
 have ih0 := spec_l4Story.mono_l k
 unfold spec_l4Story.f
 repeat' first
   | (with_reducible exact ih0 _ _ _ _)
   | (with_reducible exact spec_l4Table.mono _ _ _ _)
   | (with_reducible exact LeO.refl _)
   | (with_reducible exact LeO.none _)
   | (with_reducible refine LeO.ite ?_ ?_)
   | (with_reducible refine LeO.bind ?_ (fun _ => ?_))
   | exact ih0 _ _ _ _
   | exact spec_l4Table.mono _ _ _ _
   | exact LeO.none _
   | refine LeO.ite ?_ ?_
   | refine LeO.bind ?_ (fun _ => ?_)
set_option maxHeartbeats 8000000 in
set_option maxRecDepth 100000 in
theorem spec_l4Story.calls (k : Nat) (a0 : Int) (A1 : Option Addr) (c1 : Nat) (l1 : List (S36)) (r : Int) (w : World) (hr1 : Kd.C k36 w A1 l1.length l1) (hc1 : l1.length ≤ c1) (h : spec_l4Story.f k a0 l1 = some r) :
  Calls Try.prog 127 #[.int .i64 a0, .slice A1 l1.length c1] w fun e w' => e = .returned (.int .i64 r) ∧ Below w.heap.size w w' := by
 have hu36 := Try.underlying36
 have HR1 := Aside0.mk hr1
 have HC1 := Aside0.mk hc1
 clear hr1 hc1
 have HB := Aside0.mk (Below.refl w.heap.size w)
 have H : (if 0 ≤ a0 then (spec_l4Story.l0 k a0 l1 (wrap64 ((shl .i64 1 (shl .u64 1 a0)) - 1)) 0) else (none)) = some r := h
 clear h
 by_cases c3 : 0 ≤ a0
 ·rw [if_pos c3] at H
  have c3b0 := eq_true c3
  have c3b1 : decide (0 ≤ a0) = true := decide_eq_true c3
  clear c3
  obtain ⟨ji4, hji4⟩ : ∃ j_ : Int, (shl .u64 1 a0) = j_ := ⟨_, rfl⟩
  have hji4_n : (0 ≤ ji4) = True := eq_true (by rw [← hji4]; exact shl_u64_nonneg _ _)
  replace H : (spec_l4Story.l0 k a0 l1 (wrap64 ((shl .i64 1 (ji4)) - 1)) 0) = some r := by first | (rw [hji4] at H; exact H) | (simp only [hji4] at H ⊢; exact H)
  have hji4_ : (IntKind.u64.wrap (1 * 2 ^ min a0.toNat 64)) = ji4 := hji4
  have hji4z : a0 ≤ 64 → (IntKind.u64.wrap (1 * 2 ^ a0.toNat)) = ji4 := shl_small hji4
  have hji4u : (IntKind.u64.wrap (2 ^ min a0.toNat 64)) = ji4 := by have h_ := hji4_; rw [Int.one_mul] at h_; exact h_
  have hji4v : a0 ≤ 64 → (IntKind.u64.wrap (2 ^ a0.toNat)) = ji4 := fun hle_ => by have h_ := hji4z hle_; rw [Int.one_mul] at h_; exact h_
  obtain ⟨ji5, hji5⟩ : ∃ j_ : Int, (shl .i64 1 (ji4)) = j_ := ⟨_, rfl⟩
  replace H : (spec_l4Story.l0 k a0 l1 (wrap64 ((ji5) - 1)) 0) = some r := by first | (rw [hji5] at H; exact H) | (simp only [hji5] at H ⊢; exact H)
  have hji5_ : (IntKind.i64.wrap (1 * 2 ^ min (ji4).toNat 64)) = ji5 := hji5
  have hji5z : (ji4) ≤ 64 → (IntKind.i64.wrap (1 * 2 ^ (ji4).toNat)) = ji5 := shl_small hji5
  have hji5u : (IntKind.i64.wrap (2 ^ min (ji4).toNat 64)) = ji5 := by have h_ := hji5_; rw [Int.one_mul] at h_; exact h_
  have hji5v : (ji4) ≤ 64 → (IntKind.i64.wrap (2 ^ (ji4).toNat)) = ji5 := fun hle_ => by have h_ := hji5z hle_; rw [Int.one_mul] at h_; exact h_
  have hji5y : (wrap64 (1 * 2 ^ min (ji4).toNat 64)) = ji5 := (i64_w _).symm.trans hji5_
  have hji5x : (ji4) ≤ 64 → (wrap64 (1 * 2 ^ (ji4).toNat)) = ji5 := fun h_ => (i64_w _).symm.trans (hji5z h_)
  have H' := Aside0.mk H
  clear H
  go_enter Try.func127, Try.ntmps127
  go_wp2
  go_loopg [5, 6] k (fun kq v5 v6 w' => ∃ (x5_1 : Int) (x6_1 : Int), v5 = .int .i64 x5_1 ∧ v6 = .int .i64 x6_1 ∧ Aside0 (spec_l4Story.l0 kq a0 l1 x5_1 x6_1 = some r) ∧ Aside0 (kq ≤ k) ∧ Aside0 (Below w.heap.size w w'))
  case atStart => exact ⟨(wrap64 ((ji5) - 1)), (0), (by first | rfl | (simp; done) | (simp only [← hji5] <;> (first | rfl | simp)) | (simp [*]; done)), (by first | rfl | (simp; done) | (simp [*]; done)), H', ⟨Nat.le_refl _⟩, ⟨by repeat (first | (with_reducible first | exact HB.out | apply below_alloc | apply pw_below_drewN | apply below_drew1) | exact HB.out)⟩⟩
  case round =>
   clear H'
   try clear c1
   try clear p2
   try clear c3
   try clear c3b0
   try clear c3b1
   obtain ⟨x5_1, x6_1, rfl, rfl, HA, HK1, HB⟩ := hrel
   cases gk with
   | zero => exact absurd HA.out (by simp [spec_l4Story.l0])
   | succ k1 =>
    have H := HA.out
    clear HA
    simp only [spec_l4Story.l0] at H
    by_cases c6 : x6_1 < (l1.length : Int)
    ·rw [if_pos c6] at H
     have c6b0 : decide (x6_1 < (l1.length : Int)) = true := decide_eq_true c6
     clear c6
     by_cases c7 : 0 ≤ x6_1
     ·rw [if_pos c7] at H
      have c7b0 : decide (0 ≤ x6_1) = true := decide_eq_true c7
      clear c7
      replace H := Option.bind_eq_some_iff.mp H
      obtain ⟨t783, A80, H⟩ := H
      replace H : (spec_l4Story.l0 k1 a0 l1 (Go.bits .and .i64 x5_1 t783) (wrap64 (x6_1 + 1))) = some r := H
      have A8 := Aside0.mk A80
      clear A80
      have H' := Aside0.mk H
      clear H
      have p782 : 0 ≤ (x6_1 : Int) := of_decide_eq_true (by first | (with_reducible assumption) | assumption)
      have q782 : x6_1 < (l1.length : Int) := of_decide_eq_true (by first | (with_reducible assumption) | assumption)
      obtain ⟨ad782, A782_1, c782_1, e782, hx782_0, hx782_1, hl782_1, hi782_1⟩ := at_T36 HR1.out x6_1 p782 q782
      cases e782
      replace hx782_0 := (HB.out.cell (World.block_lt_of_cell? w _ hx782_0)).trans hx782_0
      replace hx782_1 := (HB.out.cell (World.block_lt_of_cell? w _ hx782_1)).trans hx782_1
      have HR782_1 := Aside0.mk hi782_1
      have HC782_1 := Aside0.mk hl782_1
      clear hi782_1 hl782_1
      replace p782 := eq_true p782
      replace q782 := eq_true q782
      go_wp2_with (first | ((with_reducible refine gate_callee (f := 114) rfl ?_); refine goesL_ (some 23) rfl rfl Try.func114 (by kernel_rfl) rfl #[.int .i64 a0, .agg #[.int .i64 ((rd_T36 l1 x6_1).f0), .slice A782_1 ((rd_T36 l1 x6_1).f1).length c782_1]] rfl (by (try simp only [List.map_toArray, List.map_cons, List.map_nil]); first | done | rfl | (simp only [List.length_drop, List.length_take]; rfl)) ?_; (with_reducible refine (spec_l4Table.calls k1 a0 ((rd_T36 l1 x6_1).f0) _ _ ((rd_T36 l1 x6_1).f1) t783 _ ?side1 ?side2 A8.out).mono ?_); (case side1 => repeat (first | exact (Kd.C_below HR782_1.out HB.out) | (with_reducible refine Kd.C_alloc ?_ _) | (with_reducible refine Kd.C_drewN ?_ _) | (with_reducible refine Kd.C_drew ?_))); (case side2 => exact HC782_1.out); rintro e w9 ⟨rfl, hb⟩; refine ⟨_, rfl, ?_⟩; have n0_ := Aside0.mk (below_step (by repeat (first | (with_reducible first | exact HB.out | apply below_alloc | apply pw_below_drewN | apply below_drew1) | exact HB.out)) hb); clear HB; have HB := n0_; clear n0_; (try clear hb); (try clear hb2); (try clear hk); (try clear hi)))
      go_roundg k1
      case measure => have := HK1.out; omega
      case rel => exact ⟨(Go.bits .and .i64 x5_1 t783), (wrap64 (x6_1 + 1)), (by first | rfl | (simp; done) | (simp [*]; done)), (by first | rfl | (simp; done) | (simp [*]; done)), H', ⟨by have := HK1.out; omega⟩, ⟨by repeat (first | (with_reducible first | exact HB.out | apply below_alloc | apply pw_below_drewN | apply below_drew1) | exact HB.out)⟩⟩
     ·rw [if_neg c7] at H
      exact absurd H (by simp)
    ·rw [if_neg c6] at H
     have c6b0 : decide (x6_1 < (l1.length : Int)) = false := decide_eq_false c6
     clear c6
     obtain rfl := Option.some.inj H
     go_wp2
     go_ret
     exact ⟨by first | rfl | (simp [errW_none, errW_some] <;> rfl) | (simp only [← hji4, ← hji5]; first | rfl | (simp [errW_none, errW_some] <;> rfl)) | (simp [*, errW_none, errW_some] <;> rfl), by repeat (first | (with_reducible first | exact HB.out | apply below_alloc | apply pw_below_drewN | apply below_drew1) | exact HB.out)⟩
 ·rw [if_neg c3] at H
  exact absurd H (by simp)

end Go.Proofs.Ytpampekijfjlkab.X

-- printed by a program of this session's (xprint)
namespace Go.Proofs.Ytpampekijfjlkab.X
open Go.RowKit Go.Proofs.YtpampekijfjlkabW.PrintWords Go.Proofs.YtpampekijfjlkabW.PrintLast Go.Proofs.YtpampekijfjlkabW.PrintMore
attribute [local go_sem] max2_int min2_int max_two min_two max_three min_three max_four min_four   -- for this text's walks alone
set_option linter.unusedVariables false
set_option linter.unusedSimpArgs false

/-! ### spec_StoryTable: function 60 -/
def spec_StoryTable.f (k : Nat) (a0 : Int) (l1 : List (S36)) : Option (Int) := (spec_StoryOk.f k a0 l1).bind fun t784 => (if t784 = true then ((spec_l4Story.f k a0 l1).bind fun t785 => (some t785)) else (some (-1)))
theorem spec_StoryTable.mono : ∀ a0 a1 k, LeO (spec_StoryTable.f k a0 a1) (spec_StoryTable.f (k + 1) a0 a1) := by
 intro a0 a1 k
 unfold spec_StoryTable.f
 repeat' first
   | (with_reducible exact spec_StoryOk.mono _ _ _)
   | (with_reducible exact spec_l4Story.mono _ _ _)
   | (with_reducible exact LeO.refl _)
   | (with_reducible exact LeO.none _)
   | (with_reducible refine LeO.ite ?_ ?_)
   | (with_reducible refine LeO.bind ?_ (fun _ => ?_))
   | exact spec_StoryOk.mono _ _ _
   | exact spec_l4Story.mono _ _ _
   | exact LeO.none _
   | refine LeO.ite ?_ ?_
   | refine LeO.bind ?_ (fun _ => ?_)
set_option maxHeartbeats 8000000 in
set_option maxRecDepth 100000 in
theorem spec_StoryTable.calls (k : Nat) (a0 : Int) (A1 : Option Addr) (c1 : Nat) (l1 : List (S36)) (r : Int) (w : World) (hr1 : Kd.C k36 w A1 l1.length l1) (hc1 : l1.length ≤ c1) (h : spec_StoryTable.f k a0 l1 = some r) :
  Calls Try.prog 60 #[.int .i64 a0, .slice A1 l1.length c1] w fun e w' => e = .returned (.int .i64 r) ∧ Below w.heap.size w w' := by
 have HR1 := Aside0.mk hr1
 have HC1 := Aside0.mk hc1
 clear hr1 hc1
 have HB := Aside0.mk (Below.refl w.heap.size w)
 have H : ((spec_StoryOk.f k a0 l1).bind fun t784 => (if t784 = true then ((spec_l4Story.f k a0 l1).bind fun t785 => (some t785)) else (some (-1)))) = some r := h
 clear h
 replace H := Option.bind_eq_some_iff.mp H
 obtain ⟨t784, A30, H⟩ := H
 replace H : (if t784 = true then ((spec_l4Story.f k a0 l1).bind fun t785 => (some t785)) else (some (-1))) = some r := H
 have A3 := Aside0.mk A30
 clear A30
 by_cases c4 : t784 = true
 ·subst c4
  have H1 : ((spec_l4Story.f k a0 l1).bind fun t785 => (some t785)) = some r := by rw [if_pos rfl] at H; exact H
  clear H
  have H := H1
  clear H1
  replace H := Option.bind_eq_some_iff.mp H
  obtain ⟨t785, A50, H⟩ := H
  replace H : (some t785) = some r := H
  have A5 := Aside0.mk A50
  clear A50
  obtain rfl := Option.some.inj H
  go_enter Try.func60, Try.ntmps60
  go_wp2_with (first | ((with_reducible refine gate_callee (f := 25) rfl ?_); refine goesL_ (some 7) rfl rfl Try.func25 (by kernel_rfl) rfl #[.int .i64 a0, .slice A1 l1.length c1] rfl (by (try simp only [List.map_toArray, List.map_cons, List.map_nil]); first | done | rfl | (simp only [List.length_drop, List.length_take]; rfl)) ?_; (with_reducible refine (spec_StoryOk.calls k a0 _ _ l1 true _ ?side1 ?side2 A3.out).mono ?_); (case side1 => repeat (first | exact HR1.out | (with_reducible refine Kd.C_alloc ?_ _) | (with_reducible refine Kd.C_drewN ?_ _) | (with_reducible refine Kd.C_drew ?_))); (case side2 => exact HC1.out); rintro e w6 ⟨rfl, hb⟩; refine ⟨_, rfl, ?_⟩; have n0_ := Aside0.mk (below_step (by repeat (first | (with_reducible first | exact HB.out | apply below_alloc | apply pw_below_drewN | apply below_drew1) | exact HB.out)) hb); clear HB; have HB := n0_; clear n0_; (try clear hb); (try clear hb2); (try clear hk); (try clear hi)) | ((with_reducible refine gate_callee (f := 127) rfl ?_); refine goesL_ (some 11) rfl rfl Try.func127 (by kernel_rfl) rfl #[.int .i64 a0, .slice A1 l1.length c1] rfl (by (try simp only [List.map_toArray, List.map_cons, List.map_nil]); first | done | rfl | (simp only [List.length_drop, List.length_take]; rfl)) ?_; (with_reducible refine (spec_l4Story.calls k a0 _ _ l1 t785 _ ?side1 ?side2 A5.out).mono ?_); (case side1 => repeat (first | exact (Kd.C_below HR1.out HB.out) | (with_reducible refine Kd.C_alloc ?_ _) | (with_reducible refine Kd.C_drewN ?_ _) | (with_reducible refine Kd.C_drew ?_))); (case side2 => exact HC1.out); rintro e w7 ⟨rfl, hb⟩; refine ⟨_, rfl, ?_⟩; have n0_ := Aside0.mk (below_step (by repeat (first | (with_reducible first | exact HB.out | apply below_alloc | apply pw_below_drewN | apply below_drew1) | exact HB.out)) hb); clear HB; have HB := n0_; clear n0_; (try clear hb); (try clear hb2); (try clear hk); (try clear hi)))
  go_ret
  exact ⟨by first | rfl | (simp [errW_none, errW_some] <;> rfl) | (simp [*, errW_none, errW_some] <;> rfl), by repeat (first | (with_reducible first | exact HB.out | apply below_alloc | apply pw_below_drewN | apply below_drew1) | exact HB.out)⟩
 ·replace c4 := Bool.eq_false_iff.mpr c4
  subst c4
  have H1 : (some (-1)) = some r := by rw [if_neg (show ¬ (false = true) by decide)] at H; exact H
  clear H
  have H := H1
  clear H1
  obtain rfl := Option.some.inj H
  go_enter Try.func60, Try.ntmps60
  go_wp2_with (first | ((with_reducible refine gate_callee (f := 25) rfl ?_); refine goesL_ (some 7) rfl rfl Try.func25 (by kernel_rfl) rfl #[.int .i64 a0, .slice A1 l1.length c1] rfl (by (try simp only [List.map_toArray, List.map_cons, List.map_nil]); first | done | rfl | (simp only [List.length_drop, List.length_take]; rfl)) ?_; (with_reducible refine (spec_StoryOk.calls k a0 _ _ l1 false _ ?side1 ?side2 A3.out).mono ?_); (case side1 => repeat (first | exact HR1.out | (with_reducible refine Kd.C_alloc ?_ _) | (with_reducible refine Kd.C_drewN ?_ _) | (with_reducible refine Kd.C_drew ?_))); (case side2 => exact HC1.out); rintro e w8 ⟨rfl, hb⟩; refine ⟨_, rfl, ?_⟩; have n0_ := Aside0.mk (below_step (by repeat (first | (with_reducible first | exact HB.out | apply below_alloc | apply pw_below_drewN | apply below_drew1) | exact HB.out)) hb); clear HB; have HB := n0_; clear n0_; (try clear hb); (try clear hb2); (try clear hk); (try clear hi)))
  go_ret
  exact ⟨by first | rfl | (simp [errW_none, errW_some] <;> rfl) | (simp [*, errW_none, errW_some] <;> rfl), by repeat (first | (with_reducible first | exact HB.out | apply below_alloc | apply pw_below_drewN | apply below_drew1) | exact HB.out)⟩

end Go.Proofs.Ytpampekijfjlkab.X

-- printed by a program of this session's (xprint)
namespace Go.Proofs.Ytpampekijfjlkab.X
open Go.RowKit Go.Proofs.YtpampekijfjlkabW.PrintWords Go.Proofs.YtpampekijfjlkabW.PrintLast Go.Proofs.YtpampekijfjlkabW.PrintMore
attribute [local go_sem] max2_int min2_int max_two min_two max_three min_three max_four min_four   -- for this text's walks alone
set_option linter.unusedVariables false
set_option linter.unusedSimpArgs false

/-! ### spec_TableOk: function 146 -/
def spec_TableOk.f (a0 : Int) (a1 : Int) : Option (Bool) := (spec_l1In.f a0 1 4).bind fun t1146 => (if t1146 = true then (if 0 ≤ a0 then ((spec_l1In.f a1 0 (wrap64 ((shl .i64 1 (shl .u64 1 a0)) - 1))).bind fun t1147 => (some t1147)) else (none)) else (some false))
set_option maxHeartbeats 8000000 in
set_option maxRecDepth 100000 in
theorem spec_TableOk.calls (a0 : Int) (a1 : Int) (r : Bool) (w : World) (h : spec_TableOk.f a0 a1 = some r) :
  Calls Try.prog 146 #[.int .i64 a0, .int .i64 a1] w fun e w' => e = .returned (.bool r) ∧ Drawn0 w w' := by
 have H : ((spec_l1In.f a0 1 4).bind fun t1146 => (if t1146 = true then (if 0 ≤ a0 then ((spec_l1In.f a1 0 (wrap64 ((shl .i64 1 (shl .u64 1 a0)) - 1))).bind fun t1147 => (some t1147)) else (none)) else (some false))) = some r := h
 clear h
 replace H := Option.bind_eq_some_iff.mp H
 obtain ⟨t1146, A30, H⟩ := H
 replace H : (if t1146 = true then (if 0 ≤ a0 then ((spec_l1In.f a1 0 (wrap64 ((shl .i64 1 (shl .u64 1 a0)) - 1))).bind fun t1147 => (some t1147)) else (none)) else (some false)) = some r := H
 have A3 := Aside0.mk A30
 clear A30
 by_cases c4 : t1146 = true
 ·subst c4
  have H1 : (if 0 ≤ a0 then ((spec_l1In.f a1 0 (wrap64 ((shl .i64 1 (shl .u64 1 a0)) - 1))).bind fun t1147 => (some t1147)) else (none)) = some r := by rw [if_pos rfl] at H; exact H
  clear H
  have H := H1
  clear H1
  by_cases c5 : 0 ≤ a0
  ·rw [if_pos c5] at H
   have c5b0 := eq_true c5
   have c5b1 : decide (0 ≤ a0) = true := decide_eq_true c5
   clear c5
   obtain ⟨ji6, hji6⟩ : ∃ j_ : Int, (shl .u64 1 a0) = j_ := ⟨_, rfl⟩
   have hji6_n : (0 ≤ ji6) = True := eq_true (by rw [← hji6]; exact shl_u64_nonneg _ _)
   replace H : ((spec_l1In.f a1 0 (wrap64 ((shl .i64 1 (ji6)) - 1))).bind fun t1147 => (some t1147)) = some r := by first | (rw [hji6] at H; exact H) | (simp only [hji6] at H ⊢; exact H)
   (try rw [hji6] at A3)
   have hji6_ : (IntKind.u64.wrap (1 * 2 ^ min a0.toNat 64)) = ji6 := hji6
   have hji6z : a0 ≤ 64 → (IntKind.u64.wrap (1 * 2 ^ a0.toNat)) = ji6 := shl_small hji6
   have hji6u : (IntKind.u64.wrap (2 ^ min a0.toNat 64)) = ji6 := by have h_ := hji6_; rw [Int.one_mul] at h_; exact h_
   have hji6v : a0 ≤ 64 → (IntKind.u64.wrap (2 ^ a0.toNat)) = ji6 := fun hle_ => by have h_ := hji6z hle_; rw [Int.one_mul] at h_; exact h_
   obtain ⟨ji7, hji7⟩ : ∃ j_ : Int, (shl .i64 1 (ji6)) = j_ := ⟨_, rfl⟩
   replace H : ((spec_l1In.f a1 0 (wrap64 ((ji7) - 1))).bind fun t1147 => (some t1147)) = some r := by first | (rw [hji7] at H; exact H) | (simp only [hji7] at H ⊢; exact H)
   (try rw [hji7] at A3)
   have hji7_ : (IntKind.i64.wrap (1 * 2 ^ min (ji6).toNat 64)) = ji7 := hji7
   have hji7z : (ji6) ≤ 64 → (IntKind.i64.wrap (1 * 2 ^ (ji6).toNat)) = ji7 := shl_small hji7
   have hji7u : (IntKind.i64.wrap (2 ^ min (ji6).toNat 64)) = ji7 := by have h_ := hji7_; rw [Int.one_mul] at h_; exact h_
   have hji7v : (ji6) ≤ 64 → (IntKind.i64.wrap (2 ^ (ji6).toNat)) = ji7 := fun hle_ => by have h_ := hji7z hle_; rw [Int.one_mul] at h_; exact h_
   have hji7y : (wrap64 (1 * 2 ^ min (ji6).toNat 64)) = ji7 := (i64_w _).symm.trans hji7_
   have hji7x : (ji6) ≤ 64 → (wrap64 (1 * 2 ^ (ji6).toNat)) = ji7 := fun h_ => (i64_w _).symm.trans (hji7z h_)
   replace H := Option.bind_eq_some_iff.mp H
   obtain ⟨t1147, A80, H⟩ := H
   replace H : (some t1147) = some r := H
   have A8 := Aside0.mk A80
   clear A80
   obtain rfl := Option.some.inj H
   go_enter Try.func146, Try.ntmps146
   go_wp2_with (first | ((with_reducible refine gate_callee (f := 98) rfl ?_); refine goesL_ (some 6) rfl rfl Try.func98 (by kernel_rfl) rfl #[.int .i64 a0, .int .i64 1, .int .i64 4] rfl (by (try simp only [List.map_toArray, List.map_cons, List.map_nil]); first | done | rfl | (simp only [List.length_drop, List.length_take]; rfl)) ?_; (with_reducible refine (spec_l1In.calls a0 1 4 true _ A3.out).mono ?_); rintro e w' ⟨rfl, ⟨nd, rfl⟩⟩; refine ⟨_, rfl, ?_⟩) | (go_at_call 98; (with_reducible refine (spec_l1In.calls a1 0 (wrap64 ((ji7) - 1)) t1147 _ A8.out).mono ?_); rintro e w' ⟨rfl, ⟨nd, rfl⟩⟩))
   go_ret
   exact ⟨by first | rfl | (simp; done) | (simp only [← hji6, ← hji7] <;> (first | rfl | simp)) | (simp [*]; done), by repeat (first | exact Drawn0.refl _ | apply Drawn0.step)⟩
  ·rw [if_neg c5] at H
   exact absurd H (by simp)
 ·replace c4 := Bool.eq_false_iff.mpr c4
  subst c4
  have H1 : (some false) = some r := by rw [if_neg (show ¬ (false = true) by decide)] at H; exact H
  clear H
  have H := H1
  clear H1
  obtain rfl := Option.some.inj H
  go_enter Try.func146, Try.ntmps146
  go_wp2_with (first | ((with_reducible refine gate_callee (f := 98) rfl ?_); refine goesL_ (some 6) rfl rfl Try.func98 (by kernel_rfl) rfl #[.int .i64 a0, .int .i64 1, .int .i64 4] rfl (by (try simp only [List.map_toArray, List.map_cons, List.map_nil]); first | done | rfl | (simp only [List.length_drop, List.length_take]; rfl)) ?_; (with_reducible refine (spec_l1In.calls a0 1 4 false _ A3.out).mono ?_); rintro e w' ⟨rfl, ⟨nd, rfl⟩⟩; refine ⟨_, rfl, ?_⟩))
  go_ret
  exact ⟨by first | rfl | (simp; done) | (simp [*]; done), by repeat (first | exact Drawn0.refl _ | apply Drawn0.step)⟩

end Go.Proofs.Ytpampekijfjlkab.X

-- printed by a program of this session's (xprint)
namespace Go.Proofs.Ytpampekijfjlkab.X
open Go.RowKit Go.Proofs.YtpampekijfjlkabW.PrintWords Go.Proofs.YtpampekijfjlkabW.PrintLast Go.Proofs.YtpampekijfjlkabW.PrintMore
attribute [local go_sem] max2_int min2_int max_two min_two max_three min_three max_four min_four   -- for this text's walks alone
set_option linter.unusedVariables false
set_option linter.unusedSimpArgs false

/-! ### spec_WorldsIn: function 134 -/
mutual
def spec_WorldsIn.l0 : Nat → Int → Int → List Int → Int → Option (List Int)
 | 0, _, _, _, _ => none
 | k + 1, x0, x1, x5, x6 => (spec_TableOk.f x0 x1).bind fun t1151 => (if t1151 = true then (if 0 ≤ x0 then (spec_WorldsIn.j1 k x0 x1 x5 x6 (decide (x6 < (shl .i64 1 x0)))) else (none)) else (spec_WorldsIn.j1 k x0 x1 x5 x6 false))
def spec_WorldsIn.j1 : Nat → Int → Int → List Int → Int → Bool → Option (List Int)
 | 0, _, _, _, _, _ => none
 | k + 1, x0, x1, x5, x6, x16 => if x16 = true then (if 0 ≤ x6 then (if (Int.tmod (shr .i64 x1 x6) 2) = 1 then (if x5.length < 17592186044416 then (spec_WorldsIn.l0 k x0 x1 (x5 ++ [x6]) (wrap64 (x6 + 1))) else (none)) else (spec_WorldsIn.l0 k x0 x1 x5 (wrap64 (x6 + 1)))) else (none)) else (some x5)
end
def spec_WorldsIn.f (k : Nat) (a0 : Int) (a1 : Int) : Option (List Int) := spec_WorldsIn.l0 k a0 a1 (([] : List Int)) 0
theorem spec_WorldsIn.mono_l : ∀ k, (∀ y0 y1 y2 y3, LeO (spec_WorldsIn.l0 k y0 y1 y2 y3) (spec_WorldsIn.l0 (k + 1) y0 y1 y2 y3)) ∧ (∀ y0 y1 y2 y3 y4, LeO (spec_WorldsIn.j1 k y0 y1 y2 y3 y4) (spec_WorldsIn.j1 (k + 1) y0 y1 y2 y3 y4))
 | 0 => ⟨fun _ _ _ _ r h => by simp [spec_WorldsIn.l0] at h, fun _ _ _ _ _ r h => by simp [spec_WorldsIn.j1] at h⟩
 | k + 1 => by
  obtain ⟨ih0, ih1⟩ := spec_WorldsIn.mono_l k
  refine ⟨?_, ?_⟩
  ·intro y0 y1 y2 y3
   unfold spec_WorldsIn.l0
   repeat' first
   | (with_reducible exact ih0 _ _ _ _)
   | (with_reducible exact ih1 _ _ _ _ _)
   | (with_reducible exact LeO.refl _)
   | (with_reducible exact LeO.none _)
   | (with_reducible refine LeO.ite ?_ ?_)
   | (with_reducible refine LeO.bind ?_ (fun _ => ?_))
   | exact ih0 _ _ _ _
   | exact ih1 _ _ _ _ _
   | exact LeO.none _
   | refine LeO.ite ?_ ?_
   | refine LeO.bind ?_ (fun _ => ?_)
  ·intro y0 y1 y2 y3 y4
   unfold spec_WorldsIn.j1
   repeat' first
   | (with_reducible exact ih0 _ _ _ _)
   | (with_reducible exact ih1 _ _ _ _ _)
   | (with_reducible exact LeO.refl _)
   | (with_reducible exact LeO.none _)
   | (with_reducible refine LeO.ite ?_ ?_)
   | (with_reducible refine LeO.bind ?_ (fun _ => ?_))
   | exact ih0 _ _ _ _
   | exact ih1 _ _ _ _ _
   | exact LeO.none _
   | refine LeO.ite ?_ ?_
   | refine LeO.bind ?_ (fun _ => ?_)
theorem spec_WorldsIn.mono : ∀ a0 a1 k, LeO (spec_WorldsIn.f k a0 a1) (spec_WorldsIn.f (k + 1) a0 a1) := by
 intro a0 a1 k
 obtain ⟨ih0, ih1⟩ := spec_WorldsIn.mono_l k
 unfold spec_WorldsIn.f
 repeat' first
   | (with_reducible exact ih0 _ _ _ _)
   | (with_reducible exact ih1 _ _ _ _ _)
   | (with_reducible exact LeO.refl _)
   | (with_reducible exact LeO.none _)
   | (with_reducible refine LeO.ite ?_ ?_)
   | (with_reducible refine LeO.bind ?_ (fun _ => ?_))
   | exact ih0 _ _ _ _
   | exact ih1 _ _ _ _ _
   | exact LeO.none _
   | refine LeO.ite ?_ ?_
   | refine LeO.bind ?_ (fun _ => ?_)
set_option maxHeartbeats 8000000 in
set_option maxRecDepth 100000 in
theorem spec_WorldsIn.calls (k : Nat) (a0 : Int) (a1 : Int) (r : List Int) (w : World) (h : spec_WorldsIn.f k a0 a1 = some r) :
  Calls Try.prog 134 #[.int .i64 a0, .int .i64 a1] w fun e w' => ∃ v0_ : Value, e = .returned (v0_) ∧ Kd.R (Kd.int .i64) 3 w' w.heap.size (fun _ => True) v0_ r ∧ Below w.heap.size w w' := by
 have HB := Aside0.mk (Below.refl w.heap.size w)
 have H : (spec_WorldsIn.l0 k a0 a1 (([] : List Int)) 0) = some r := h
 clear h
 obtain ⟨y1148, hy1148⟩ : ∃ y_ : List Int, y_ = (([] : List Int)) := ⟨_, rfl⟩
 replace H : (spec_WorldsIn.l0 k a0 a1 y1148 0) = some r := by first | (rw [hy1148]; with_reducible exact H) | (have H2_ := (Option.bind_some _ _).symm.trans H; rw [hy1148]; with_reducible exact H2_) | (have H2_ := (Option.bind_some _ _).symm.trans H; with_reducible exact H2_) | with_reducible exact H | (rw [hy1148]; exact H) | exact H
 have Ny1148 := Aside0.mk hy1148
 clear hy1148
 have H' := Aside0.mk H
 clear H
 go_enter Try.func134, Try.ntmps134
 go_wp2_with (first | ((with_reducible refine gate_dst (N := 7) rfl ?_); refine Kd.R_lit (Kd.int .i64) _ 3 ?hg (N := 7) ?hd (xs := ([] : List Int)) (inner := []) (ok := fun _ => True) (okp := fun _ => True) ?hr ?hp (fun _ hk => hk) trivial (Below.refl _ _) (Nat.le_refl _) (by simp) ?_; (case hd => rfl); (case hg => rfl); (case hr => first | (go_simp; done) | (go_simp; rfl)); (case hp => exact (Reps.none _ _)); intro v1149 w3 ho4 hb hg_ hnew_; clear hg_ hnew_; (first | rw [← Ny1148.out] at ho4 | (simp only [Int.reduceToNat] at ho4; rw [← Ny1148.out] at ho4)); have n0_ := Aside0.mk (Kd.R_lower ho4 (below_size (by repeat (first | (with_reducible first | exact HB.out | apply below_alloc | apply pw_below_drewN | apply below_drew1) | exact HB.out)))); have n1_ := Aside0.mk (below_step (by repeat (first | (with_reducible first | exact HB.out | apply below_alloc | apply pw_below_drewN | apply below_drew1) | exact HB.out)) hb); clear HB; have HO1150 := n0_; have HB := n1_; clear n0_ n1_; clear hb ho4))
 go_loopg [5, 6] k (fun kq v5 v6 w' => ∃ (x5_1 : List Int) (x6_1 : Int), v6 = .int .i64 x6_1 ∧ Aside0 (spec_WorldsIn.l0 kq a0 a1 x5_1 x6_1 = some r) ∧ Aside0 (kq ≤ k) ∧ Aside0 (Kd.R (Kd.int .i64) 3 w' w.heap.size (fun _ => True) v5 x5_1) ∧ Aside0 (Below w.heap.size w w'))
 case atStart => exact ⟨(y1148), (0), (by first | rfl | (simp; done) | (simp [*]; done)), H', ⟨Nat.le_refl _⟩, ⟨by (with_reducible repeat (first | apply Kd.R_alloc | apply Kd.R_drewN | apply Kd.R_drew)); exact HO1150.out⟩, ⟨by repeat (first | (with_reducible first | exact HB.out | apply below_alloc | apply pw_below_drewN | apply below_drew1) | exact HB.out)⟩⟩
 case round =>
  clear H'
  try clear c1
  try clear p2
  obtain ⟨x5_1, x6_1, rfl, HA, HK1, HO_5, HB⟩ := hrel
  cases gk with
  | zero => exact absurd HA.out (by simp [spec_WorldsIn.l0])
  | succ k1 =>
   have H := HA.out
   clear HA
   simp only [spec_WorldsIn.l0] at H
   have HC5 := Aside0.mk H
   clear H
   go_upto_region 3 with (fail)
   go_cut [16] (fun v16 wc => ∃ (kq : Nat) (x16_4 : Bool), v16 = .bool x16_4 ∧ Aside0 (spec_WorldsIn.j1 kq a0 a1 x5_1 x6_1 x16_4 = some r) ∧ Aside0 (kq ≤ k1) ∧ Aside0 (Kd.R (Kd.int .i64) 3 wc w.heap.size (fun _ => True) u5 x5_1) ∧ Aside0 (Below w.heap.size w wc))
   case first =>
    have H := HC5.out
    clear HC5
    replace H := Option.bind_eq_some_iff.mp H
    obtain ⟨t1151, A60, H⟩ := H
    replace H : (if t1151 = true then (if 0 ≤ a0 then (spec_WorldsIn.j1 k1 a0 a1 x5_1 x6_1 (decide (x6_1 < (shl .i64 1 a0)))) else (none)) else (spec_WorldsIn.j1 k1 a0 a1 x5_1 x6_1 false)) = some r := H
    have A6 := Aside0.mk A60
    clear A60
    by_cases c7 : t1151 = true
    ·subst c7
     have H1 : (if 0 ≤ a0 then (spec_WorldsIn.j1 k1 a0 a1 x5_1 x6_1 (decide (x6_1 < (shl .i64 1 a0)))) else (none)) = some r := by rw [if_pos rfl] at H; exact H
     clear H
     have H := H1
     clear H1
     by_cases c8 : 0 ≤ a0
     ·rw [if_pos c8] at H
      have c8b0 := eq_true c8
      have c8b1 : decide (0 ≤ a0) = true := decide_eq_true c8
      clear c8
      obtain ⟨ji9, hji9⟩ : ∃ j_ : Int, (shl .i64 1 a0) = j_ := ⟨_, rfl⟩
      replace H : (spec_WorldsIn.j1 k1 a0 a1 x5_1 x6_1 (decide (x6_1 < (ji9)))) = some r := by first | (rw [hji9] at H; exact H) | (simp only [hji9] at H ⊢; exact H)
      (try rw [hji9] at A6)
      have hji9_ : (IntKind.i64.wrap (1 * 2 ^ min a0.toNat 64)) = ji9 := hji9
      have hji9z : a0 ≤ 64 → (IntKind.i64.wrap (1 * 2 ^ a0.toNat)) = ji9 := shl_small hji9
      have hji9u : (IntKind.i64.wrap (2 ^ min a0.toNat 64)) = ji9 := by have h_ := hji9_; rw [Int.one_mul] at h_; exact h_
      have hji9v : a0 ≤ 64 → (IntKind.i64.wrap (2 ^ a0.toNat)) = ji9 := fun hle_ => by have h_ := hji9z hle_; rw [Int.one_mul] at h_; exact h_
      have hji9y : (wrap64 (1 * 2 ^ min a0.toNat 64)) = ji9 := (i64_w _).symm.trans hji9_
      have hji9x : a0 ≤ 64 → (wrap64 (1 * 2 ^ a0.toNat)) = ji9 := fun h_ => (i64_w _).symm.trans (hji9z h_)
      have H' := Aside0.mk H
      clear H
      go_wp2_with (first | ((with_reducible refine gate_callee (f := 146) rfl ?_); refine goesL_ (some 10) rfl rfl Try.func146 (by kernel_rfl) rfl #[.int .i64 a0, .int .i64 a1] rfl (by (try simp only [List.map_toArray, List.map_cons, List.map_nil]); first | done | rfl | (simp only [List.length_drop, List.length_take]; rfl)) ?_; (with_reducible refine (spec_TableOk.calls a0 a1 true _ A6.out).mono ?_); rintro e w' ⟨rfl, ⟨nd, rfl⟩⟩; refine ⟨_, rfl, ?_⟩))
      go_meet
      case rel => exact ⟨_, (decide (x6_1 < (ji9))), (by first | rfl | (simp; done) | (simp only [← hji9] <;> (first | rfl | simp)) | (simp [*]; done)), H', ⟨by have := HK1.out; first | omega | exact Nat.le_refl _⟩, ⟨by (with_reducible repeat (first | apply Kd.R_alloc | apply Kd.R_drewN | apply Kd.R_drew)); exact HO_5.out⟩, ⟨by repeat (first | (with_reducible first | exact HB.out | apply below_alloc | apply pw_below_drewN | apply below_drew1) | exact HB.out)⟩⟩
     ·rw [if_neg c8] at H
      exact absurd H (by simp)
    ·replace c7 := Bool.eq_false_iff.mpr c7
     subst c7
     have H1 : (spec_WorldsIn.j1 k1 a0 a1 x5_1 x6_1 false) = some r := by rw [if_neg (show ¬ (false = true) by decide)] at H; exact H
     clear H
     have H := H1
     clear H1
     have H' := Aside0.mk H
     clear H
     go_wp2_with (first | ((with_reducible refine gate_callee (f := 146) rfl ?_); refine goesL_ (some 10) rfl rfl Try.func146 (by kernel_rfl) rfl #[.int .i64 a0, .int .i64 a1] rfl (by (try simp only [List.map_toArray, List.map_cons, List.map_nil]); first | done | rfl | (simp only [List.length_drop, List.length_take]; rfl)) ?_; (with_reducible refine (spec_TableOk.calls a0 a1 false _ A6.out).mono ?_); rintro e w' ⟨rfl, ⟨nd, rfl⟩⟩; refine ⟨_, rfl, ?_⟩))
     go_meet
     case rel => exact ⟨_, (false), (by first | rfl | (simp; done) | (simp [*]; done)), H', ⟨by have := HK1.out; first | omega | exact Nat.le_refl _⟩, ⟨by (with_reducible repeat (first | apply Kd.R_alloc | apply Kd.R_drewN | apply Kd.R_drew)); exact HO_5.out⟩, ⟨by repeat (first | (with_reducible first | exact HB.out | apply below_alloc | apply pw_below_drewN | apply below_drew1) | exact HB.out)⟩⟩
   case rest =>
    clear HC5
    try clear c1
    try clear p2
    try clear p6
    try clear c7
    try clear c8
    try clear c8b0
    try clear c8b1
    try clear p2
    obtain ⟨kq, x16_4, rfl, HA, HJ4, HO_5, HB⟩ := hcut
    cases kq with
    | zero => exact absurd HA.out (by simp [spec_WorldsIn.j1])
    | succ kj4 =>
     have H := HA.out
     clear HA
     simp only [spec_WorldsIn.j1] at H
     by_cases c10 : x16_4 = true
     ·subst c10
      have H1 : (if 0 ≤ x6_1 then (if (Int.tmod (shr .i64 a1 x6_1) 2) = 1 then (if x5_1.length < 17592186044416 then (spec_WorldsIn.l0 kj4 a0 a1 (x5_1 ++ [x6_1]) (wrap64 (x6_1 + 1))) else (none)) else (spec_WorldsIn.l0 kj4 a0 a1 x5_1 (wrap64 (x6_1 + 1)))) else (none)) = some r := by rw [if_pos rfl] at H; exact H
      clear H
      have H := H1
      clear H1
      by_cases c11 : 0 ≤ x6_1
      ·rw [if_pos c11] at H
       have c11b0 := eq_true c11
       have c11b1 : decide (0 ≤ x6_1) = true := decide_eq_true c11
       clear c11
       obtain ⟨ji12, hji12⟩ : ∃ j_ : Int, (shr .i64 a1 x6_1) = j_ := ⟨_, rfl⟩
       replace H : (if (Int.tmod (ji12) 2) = 1 then (if x5_1.length < 17592186044416 then (spec_WorldsIn.l0 kj4 a0 a1 (x5_1 ++ [x6_1]) (wrap64 (x6_1 + 1))) else (none)) else (spec_WorldsIn.l0 kj4 a0 a1 x5_1 (wrap64 (x6_1 + 1)))) = some r := by first | (rw [hji12] at H; exact H) | (simp only [hji12] at H ⊢; exact H)
       have hji12_ : (a1 / 2 ^ min x6_1.toNat 64) = ji12 := hji12
       have hji12z : x6_1 ≤ 64 → (a1 / 2 ^ x6_1.toNat) = ji12 := shr_small hji12
       by_cases c13 : (Int.tmod (ji12) 2) = 1
       ·rw [if_pos c13] at H
        have c13b0 : ((Int.tmod (ji12) 2) == 1) = true := beq_iff_eq.mpr c13
        have c13b1 : ((Int.tmod (ji12) 2) != 1) = false := bne_eq_false_iff_eq.mpr c13
        clear c13
        by_cases c14 : x5_1.length < 17592186044416
        ·rw [if_pos c14] at H
         have LMc14 := Aside0.mk c14
         clear c14
         obtain ⟨y1152, hy1152⟩ : ∃ y_ : List Int, y_ = (x5_1 ++ [x6_1]) := ⟨_, rfl⟩
         replace H : (spec_WorldsIn.l0 kj4 a0 a1 y1152 (wrap64 (x6_1 + 1))) = some r := by first | (rw [hy1152]; with_reducible exact H) | (have H2_ := (Option.bind_some _ _).symm.trans H; rw [hy1152]; with_reducible exact H2_) | (have H2_ := (Option.bind_some _ _).symm.trans H; with_reducible exact H2_) | with_reducible exact H | (rw [hy1152]; exact H) | exact H
         have Ny1152 := Aside0.mk hy1152
         clear hy1152
         have H' := Aside0.mk H
         clear H
         go_wp2_with (first | ((with_reducible refine gate_builtin (b := .append) (xs := #[.tmp 24, .tmp 26]) rfl ?_); at_builtin; refine Kd.R_append (Kd.int .i64) (w0 := w) w.heap.size rfl (.tmp 24) (.tmp 26) 26 3 (.int .i64 0) 8 rfl Try.underlying26 info3 rfl (by decide) (by omega) u5 x5_1 x6_1 [.int .i64 x6_1] (fun _ => True) (fun _ => False) rfl rfl ?aP (fun _ hk => hk.elim) ?aF ?aO ?aB ?aS ?aL ?_; (case aP => exact rfl); (case aB => exact (by repeat (first | (with_reducible first | exact HB.out | apply below_alloc | apply pw_below_drewN | apply below_drew1) | exact HB.out))); (case aF => exact (fun _ _ => trivial)); (case aO => exact (by (with_reducible repeat (first | apply Kd.R_alloc | apply Kd.R_drewN | apply Kd.R_drew)); exact HO_5.out)); (case aS => exact (below_size (by repeat (first | (with_reducible first | exact HB.out | apply below_alloc | apply pw_below_drewN | apply below_drew1) | exact HB.out)))); (case aL => have := LMc14.out; omega); intro v1153 w15 ho hb hg hat; rw [← Ny1152.out] at ho; have n0_ := Aside0.mk (hb); have n1_ := Aside0.mk (ho); clear HB; clear HO_5; have HB := n0_; have HO1154 := n1_; clear n0_ n1_; clear ho hb hg hat))
         go_roundg kj4
         case measure => have := HK1.out; have := HJ4.out; omega
         case rel => exact ⟨(y1152), (wrap64 (x6_1 + 1)), (by first | rfl | (simp; done) | (simp [*]; done)), H', ⟨by have := HK1.out; have := HJ4.out; omega⟩, ⟨by (with_reducible repeat (first | apply Kd.R_alloc | apply Kd.R_drewN | apply Kd.R_drew)); exact HO1154.out⟩, ⟨by repeat (first | (with_reducible first | exact HB.out | apply below_alloc | apply pw_below_drewN | apply below_drew1) | exact HB.out)⟩⟩
        ·rw [if_neg c14] at H
         exact absurd H (by simp)
       ·rw [if_neg c13] at H
        have c13b0 : ((Int.tmod (ji12) 2) == 1) = false := beq_eq_false_iff_ne.mpr c13
        have c13b1 : ((Int.tmod (ji12) 2) != 1) = true := bne_iff_ne.mpr c13
        have H' := Aside0.mk H
        clear H
        go_wp2
        go_roundg kj4
        case measure => have := HK1.out; have := HJ4.out; omega
        case rel => exact ⟨(x5_1), (wrap64 (x6_1 + 1)), (by first | rfl | (simp; done) | (simp [*]; done)), H', ⟨by have := HK1.out; have := HJ4.out; omega⟩, ⟨by (with_reducible repeat (first | apply Kd.R_alloc | apply Kd.R_drewN | apply Kd.R_drew)); exact HO_5.out⟩, ⟨by repeat (first | (with_reducible first | exact HB.out | apply below_alloc | apply pw_below_drewN | apply below_drew1) | exact HB.out)⟩⟩
      ·rw [if_neg c11] at H
       exact absurd H (by simp)
     ·replace c10 := Bool.eq_false_iff.mpr c10
      subst c10
      have H1 : (some x5_1) = some r := by rw [if_neg (show ¬ (false = true) by decide)] at H; exact H
      clear H
      have H := H1
      clear H1
      obtain rfl := Option.some.inj H
      go_wp2
      go_ret
      exact ⟨_, by first | rfl | (simp [errW_none, errW_some] <;> rfl) | (simp [*, errW_none, errW_some] <;> rfl), by (with_reducible repeat (first | apply Kd.R_alloc | apply Kd.R_drewN | apply Kd.R_drew)); exact HO_5.out, by repeat (first | (with_reducible first | exact HB.out | apply below_alloc | apply pw_below_drewN | apply below_drew1) | exact HB.out)⟩

end Go.Proofs.Ytpampekijfjlkab.X

-- printed by a program of this session's (xprint)
namespace Go.Proofs.Ytpampekijfjlkab.X
open Go.RowKit Go.Proofs.YtpampekijfjlkabW.PrintWords Go.Proofs.YtpampekijfjlkabW.PrintLast Go.Proofs.YtpampekijfjlkabW.PrintMore
attribute [local go_sem] max2_int min2_int max_two min_two max_three min_three max_four min_four   -- for this text's walks alone
set_option linter.unusedVariables false
set_option linter.unusedSimpArgs false

/-! ### spec_OnlyWorld: function 83 -/
def spec_OnlyWorld.f (k : Nat) (a0 : Int) (l1 : List (S36)) : Option (Int × Bool) := (spec_StoryTable.f k a0 l1).bind fun t1155 => ((spec_WorldsIn.f k a0 t1155).bind fun t1156 => (if (t1156.length : Int) = 1 then (if 0 < (t1156.length : Int) then (some (rd t1156 0, true)) else (none)) else (some ((-1), false))))
theorem spec_OnlyWorld.mono : ∀ a0 a1 k, LeO (spec_OnlyWorld.f k a0 a1) (spec_OnlyWorld.f (k + 1) a0 a1) := by
 intro a0 a1 k
 unfold spec_OnlyWorld.f
 repeat' first
   | (with_reducible exact spec_StoryTable.mono _ _ _)
   | (with_reducible exact spec_WorldsIn.mono _ _ _)
   | (with_reducible exact LeO.refl _)
   | (with_reducible exact LeO.none _)
   | (with_reducible refine LeO.ite ?_ ?_)
   | (with_reducible refine LeO.bind ?_ (fun _ => ?_))
   | exact spec_StoryTable.mono _ _ _
   | exact spec_WorldsIn.mono _ _ _
   | exact LeO.none _
   | refine LeO.ite ?_ ?_
   | refine LeO.bind ?_ (fun _ => ?_)
set_option maxHeartbeats 8000000 in
set_option maxRecDepth 100000 in
theorem spec_OnlyWorld.calls (k : Nat) (a0 : Int) (A1 : Option Addr) (c1 : Nat) (l1 : List (S36)) (r1 : Int) (r2 : Bool) (w : World) (hr1 : Kd.C k36 w A1 l1.length l1) (hc1 : l1.length ≤ c1) (h : spec_OnlyWorld.f k a0 l1 = some (r1, r2)) :
  Calls Try.prog 83 #[.int .i64 a0, .slice A1 l1.length c1] w fun e w' => e = .returned (.tuple #[.int .i64 r1, .bool r2]) ∧ Below w.heap.size w w' := by
 have HR1 := Aside0.mk hr1
 have HC1 := Aside0.mk hc1
 clear hr1 hc1
 have HB := Aside0.mk (Below.refl w.heap.size w)
 have H : ((spec_StoryTable.f k a0 l1).bind fun t1155 => ((spec_WorldsIn.f k a0 t1155).bind fun t1156 => (if (t1156.length : Int) = 1 then (if 0 < (t1156.length : Int) then (some (rd t1156 0, true)) else (none)) else (some ((-1), false))))) = some (r1, r2) := h
 clear h
 replace H := Option.bind_eq_some_iff.mp H
 obtain ⟨t1155, A30, H⟩ := H
 replace H : ((spec_WorldsIn.f k a0 t1155).bind fun t1156 => (if (t1156.length : Int) = 1 then (if 0 < (t1156.length : Int) then (some (rd t1156 0, true)) else (none)) else (some ((-1), false)))) = some (r1, r2) := H
 have A3 := Aside0.mk A30
 clear A30
 replace H := Option.bind_eq_some_iff.mp H
 obtain ⟨t1156, A40, H⟩ := H
 replace H : (if (t1156.length : Int) = 1 then (if 0 < (t1156.length : Int) then (some (rd t1156 0, true)) else (none)) else (some ((-1), false))) = some (r1, r2) := H
 have A4 := Aside0.mk A40
 clear A40
 by_cases c5 : (t1156.length : Int) = 1
 ·rw [if_pos c5] at H
  have c5b0 : ((t1156.length : Int) == 1) = true := beq_iff_eq.mpr c5
  have c5b1 : ((t1156.length : Int) != 1) = false := bne_eq_false_iff_eq.mpr c5
  clear c5
  by_cases c6 : 0 < (t1156.length : Int)
  ·rw [if_pos c6] at H
   have c6b0 : decide (0 < (t1156.length : Int)) = true := decide_eq_true c6
   have c6b1 : decide (0 < t1156.length) = true := decide_eq_true (by omega)
   clear c6
   simp only [Option.some.injEq, Prod.mk.injEq] at H
   obtain ⟨rfl, rfl⟩ := H
   go_enter Try.func83, Try.ntmps83
   go_wp2_with (first | ((with_reducible refine gate_callee (f := 60) rfl ?_); refine goesL_ (some 10) rfl rfl Try.func60 (by kernel_rfl) rfl #[.int .i64 a0, .slice A1 l1.length c1] rfl (by (try simp only [List.map_toArray, List.map_cons, List.map_nil]); first | done | rfl | (simp only [List.length_drop, List.length_take]; rfl)) ?_; (with_reducible refine (spec_StoryTable.calls k a0 _ _ l1 t1155 _ ?side1 ?side2 A3.out).mono ?_); (case side1 => repeat (first | exact HR1.out | (with_reducible refine Kd.C_alloc ?_ _) | (with_reducible refine Kd.C_drewN ?_ _) | (with_reducible refine Kd.C_drew ?_))); (case side2 => exact HC1.out); rintro e w7 ⟨rfl, hb⟩; refine ⟨_, rfl, ?_⟩; have n0_ := Aside0.mk (below_step (by repeat (first | (with_reducible first | exact HB.out | apply below_alloc | apply pw_below_drewN | apply below_drew1) | exact HB.out)) hb); clear HB; have HB := n0_; clear n0_; (try clear hb); (try clear hb2); (try clear hk); (try clear hi)) | ((with_reducible refine gate_callee (f := 134) rfl ?_); refine goesL_ (some 11) rfl rfl Try.func134 (by kernel_rfl) rfl #[.int .i64 a0, .int .i64 t1155] rfl (by (try simp only [List.map_toArray, List.map_cons, List.map_nil]); first | done | rfl | (simp only [List.length_drop, List.length_take]; rfl)) ?_; (with_reducible refine (spec_WorldsIn.calls k a0 t1155 t1156 _ A4.out).mono ?_); rintro e w8 ⟨v1157, rfl, ho0, hb⟩; refine ⟨_, rfl, ?_⟩; have n0_ := Aside0.mk (Kd.R_lower ho0 (below_size (by repeat (first | (with_reducible first | exact HB.out | apply below_alloc | apply pw_below_drewN | apply below_drew1) | exact HB.out)))); have n1_ := Aside0.mk (below_step (by repeat (first | (with_reducible first | exact HB.out | apply below_alloc | apply pw_below_drewN | apply below_drew1) | exact HB.out)) hb); clear HB; have HO1158 := n0_; have HB := n1_; clear n0_ n1_; (try clear hb); (try clear hb2); (try clear hk); (try clear hi); (try clear ho0); obtain ⟨Ao9, co9, eo9⟩ := Kd.R_slice HO1158.out; subst eo9; have p1159 : 0 ≤ (0 : Int) := (by omega); have q1159 : 0 < (t1156.length : Int) := of_decide_eq_true (by first | (with_reducible assumption) | assumption); obtain ⟨ad1159, e1159, hx1159_0⟩ := Kd.at_int (Kd.R_reads' HO1158.out).2.2 0 p1159 q1159; cases e1159; have qi1159 : (0 < t1156.length) = True := eq_true (by omega); (try rw [show ((0 : Int)).toNat = 0 from rfl] at hx1159_0); (try rw [Addr.add_zero'] at hx1159_0); replace p1159 := eq_true p1159; replace q1159 := eq_true q1159))
   go_ret2
   exact ⟨by first | rfl | (simp [errW_none, errW_some] <;> rfl) | (simp [*, errW_none, errW_some] <;> rfl), by repeat (first | (with_reducible first | exact HB.out | apply below_alloc | apply pw_below_drewN | apply below_drew1) | exact HB.out)⟩
  ·rw [if_neg c6] at H
   exact absurd H (by simp)
 ·rw [if_neg c5] at H
  have c5b0 : ((t1156.length : Int) == 1) = false := beq_eq_false_iff_ne.mpr c5
  have c5b1 : ((t1156.length : Int) != 1) = true := bne_iff_ne.mpr c5
  simp only [Option.some.injEq, Prod.mk.injEq] at H
  obtain ⟨rfl, rfl⟩ := H
  go_enter Try.func83, Try.ntmps83
  go_wp2_with (first | ((with_reducible refine gate_callee (f := 60) rfl ?_); refine goesL_ (some 10) rfl rfl Try.func60 (by kernel_rfl) rfl #[.int .i64 a0, .slice A1 l1.length c1] rfl (by (try simp only [List.map_toArray, List.map_cons, List.map_nil]); first | done | rfl | (simp only [List.length_drop, List.length_take]; rfl)) ?_; (with_reducible refine (spec_StoryTable.calls k a0 _ _ l1 t1155 _ ?side1 ?side2 A3.out).mono ?_); (case side1 => repeat (first | exact HR1.out | (with_reducible refine Kd.C_alloc ?_ _) | (with_reducible refine Kd.C_drewN ?_ _) | (with_reducible refine Kd.C_drew ?_))); (case side2 => exact HC1.out); rintro e w10 ⟨rfl, hb⟩; refine ⟨_, rfl, ?_⟩; have n0_ := Aside0.mk (below_step (by repeat (first | (with_reducible first | exact HB.out | apply below_alloc | apply pw_below_drewN | apply below_drew1) | exact HB.out)) hb); clear HB; have HB := n0_; clear n0_; (try clear hb); (try clear hb2); (try clear hk); (try clear hi)) | ((with_reducible refine gate_callee (f := 134) rfl ?_); refine goesL_ (some 11) rfl rfl Try.func134 (by kernel_rfl) rfl #[.int .i64 a0, .int .i64 t1155] rfl (by (try simp only [List.map_toArray, List.map_cons, List.map_nil]); first | done | rfl | (simp only [List.length_drop, List.length_take]; rfl)) ?_; (with_reducible refine (spec_WorldsIn.calls k a0 t1155 t1156 _ A4.out).mono ?_); rintro e w11 ⟨v1157, rfl, ho0, hb⟩; refine ⟨_, rfl, ?_⟩; have n0_ := Aside0.mk (Kd.R_lower ho0 (below_size (by repeat (first | (with_reducible first | exact HB.out | apply below_alloc | apply pw_below_drewN | apply below_drew1) | exact HB.out)))); have n1_ := Aside0.mk (below_step (by repeat (first | (with_reducible first | exact HB.out | apply below_alloc | apply pw_below_drewN | apply below_drew1) | exact HB.out)) hb); clear HB; have HO1158 := n0_; have HB := n1_; clear n0_ n1_; (try clear hb); (try clear hb2); (try clear hk); (try clear hi); (try clear ho0); obtain ⟨Ao12, co12, eo12⟩ := Kd.R_slice HO1158.out; subst eo12))
  go_ret2
  exact ⟨by first | rfl | (simp [errW_none, errW_some] <;> rfl) | (simp [*, errW_none, errW_some] <;> rfl), by repeat (first | (with_reducible first | exact HB.out | apply below_alloc | apply pw_below_drewN | apply below_drew1) | exact HB.out)⟩

end Go.Proofs.Ytpampekijfjlkab.X

-- printed by a program of this session's (xprint)
namespace Go.Proofs.Ytpampekijfjlkab.X
open Go.RowKit Go.Proofs.YtpampekijfjlkabW.PrintWords Go.Proofs.YtpampekijfjlkabW.PrintLast Go.Proofs.YtpampekijfjlkabW.PrintMore
attribute [local go_sem] max2_int min2_int max_two min_two max_three min_three max_four min_four   -- for this text's walks alone
set_option linter.unusedVariables false
set_option linter.unusedSimpArgs false

/-! ### laws_FnExactOnlyWorld: function 17 -/
def laws_FnExactOnlyWorld.j0 : Nat → List (S40) → List (S36) → Bool → Option (Bool)
 | 0, _, _, _ => none
 | k + 1, x1, x8, x38 => if x38 = true then (some false) else ((laws_toClaimS.f k x1).bind fun t1171 => ((laws_eqClaimS.f k x8 t1171).bind fun t1174 => (if t1174 = true then (some true) else (some false))))
def laws_FnExactOnlyWorld.f (k : Nat) (a0 : Int) (l1 : List (S40)) : Option (Bool) := (laws_szClaimS.f k l1 1048576).bind fun t1160 => (if t1160 < 0 then (some true) else ((laws_toClaimS.f k l1).bind fun t1161 => ((spec_OnlyWorld.f k a0 t1161).bind fun bt1164 => ((laws_toClaimS.f k l1).bind fun t1166 => ((impl_OnlyWorld.f k a0 t1166).bind fun bt1169 => (if bt1169.1 = bt1164.1 then (laws_FnExactOnlyWorld.j0 k l1 t1166 (bt1169.2 != bt1164.2)) else (laws_FnExactOnlyWorld.j0 k l1 t1166 true)))))))
theorem laws_FnExactOnlyWorld.mono_l : ∀ k, (∀ y0 y1 y2, LeO (laws_FnExactOnlyWorld.j0 k y0 y1 y2) (laws_FnExactOnlyWorld.j0 (k + 1) y0 y1 y2))
 | 0 => fun _ _ _ r h => by simp [laws_FnExactOnlyWorld.j0] at h
 | k + 1 => by
  have ih0 := laws_FnExactOnlyWorld.mono_l k
  ·intro y0 y1 y2
   unfold laws_FnExactOnlyWorld.j0
   repeat' first
   | (with_reducible exact ih0 _ _ _)
   | (with_reducible exact impl_OnlyWorld.mono _ _ _)
   | (with_reducible exact laws_eqClaimS.mono _ _ _)
   | (with_reducible exact laws_szClaimS.mono _ _ _)
   | (with_reducible exact laws_toClaimS.mono _ _)
   | (with_reducible exact spec_OnlyWorld.mono _ _ _)
   | (with_reducible exact LeO.refl _)
   | (with_reducible exact LeO.none _)
   | (with_reducible refine LeO.ite ?_ ?_)
   | (with_reducible refine LeO.bind ?_ (fun _ => ?_))
   | exact ih0 _ _ _
   | exact impl_OnlyWorld.mono _ _ _
   | exact laws_eqClaimS.mono _ _ _
   | exact laws_szClaimS.mono _ _ _
   | exact laws_toClaimS.mono _ _
   | exact spec_OnlyWorld.mono _ _ _
   | exact LeO.none _
   | refine LeO.ite ?_ ?_
   | refine LeO.bind ?_ (fun _ => ?_)
theorem laws_FnExactOnlyWorld.mono : ∀ a0 a1 k, LeO (laws_FnExactOnlyWorld.f k a0 a1) (laws_FnExactOnlyWorld.f (k + 1) a0 a1) := by
 intro a0 a1 k
 have ih0 := laws_FnExactOnlyWorld.mono_l k
 unfold laws_FnExactOnlyWorld.f
 repeat' first
   | (with_reducible exact ih0 _ _ _)
   | (with_reducible exact impl_OnlyWorld.mono _ _ _)
   | (with_reducible exact laws_eqClaimS.mono _ _ _)
   | (with_reducible exact laws_szClaimS.mono _ _ _)
   | (with_reducible exact laws_toClaimS.mono _ _)
   | (with_reducible exact spec_OnlyWorld.mono _ _ _)
   | (with_reducible exact LeO.refl _)
   | (with_reducible exact LeO.none _)
   | (with_reducible refine LeO.ite ?_ ?_)
   | (with_reducible refine LeO.bind ?_ (fun _ => ?_))
   | exact ih0 _ _ _
   | exact impl_OnlyWorld.mono _ _ _
   | exact laws_eqClaimS.mono _ _ _
   | exact laws_szClaimS.mono _ _ _
   | exact laws_toClaimS.mono _ _
   | exact spec_OnlyWorld.mono _ _ _
   | exact LeO.none _
   | refine LeO.ite ?_ ?_
   | refine LeO.bind ?_ (fun _ => ?_)
set_option maxHeartbeats 8000000 in
set_option maxRecDepth 100000 in
theorem laws_FnExactOnlyWorld.calls (k : Nat) (a0 : Int) (A1 : Option Addr) (c1 : Nat) (l1 : List (S40)) (r : Bool) (w : World) (hr1 : Kd.C k40 w A1 l1.length l1) (hc1 : l1.length ≤ c1) (h : laws_FnExactOnlyWorld.f k a0 l1 = some r) :
  Calls Try.prog 17 #[.int .i64 a0, .slice A1 l1.length c1] w fun e w' => e = .returned (.bool r) ∧ Below w.heap.size w w' := by
 have HR1 := Aside0.mk hr1
 have HC1 := Aside0.mk hc1
 clear hr1 hc1
 have HB := Aside0.mk (Below.refl w.heap.size w)
 have H : ((laws_szClaimS.f k l1 1048576).bind fun t1160 => (if t1160 < 0 then (some true) else ((laws_toClaimS.f k l1).bind fun t1161 => ((spec_OnlyWorld.f k a0 t1161).bind fun bt1164 => ((laws_toClaimS.f k l1).bind fun t1166 => ((impl_OnlyWorld.f k a0 t1166).bind fun bt1169 => (if bt1169.1 = bt1164.1 then (laws_FnExactOnlyWorld.j0 k l1 t1166 (bt1169.2 != bt1164.2)) else (laws_FnExactOnlyWorld.j0 k l1 t1166 true)))))))) = some r := h
 clear h
 replace H := Option.bind_eq_some_iff.mp H
 obtain ⟨t1160, A30, H⟩ := H
 replace H : (if t1160 < 0 then (some true) else ((laws_toClaimS.f k l1).bind fun t1161 => ((spec_OnlyWorld.f k a0 t1161).bind fun bt1164 => ((laws_toClaimS.f k l1).bind fun t1166 => ((impl_OnlyWorld.f k a0 t1166).bind fun bt1169 => (if bt1169.1 = bt1164.1 then (laws_FnExactOnlyWorld.j0 k l1 t1166 (bt1169.2 != bt1164.2)) else (laws_FnExactOnlyWorld.j0 k l1 t1166 true))))))) = some r := H
 have A3 := Aside0.mk A30
 clear A30
 by_cases c4 : t1160 < 0
 ·rw [if_pos c4] at H
  have c4b0 : decide (t1160 < 0) = true := decide_eq_true c4
  clear c4
  obtain rfl := Option.some.inj H
  go_enter Try.func17, Try.ntmps17
  go_wp2_with (first | ((with_reducible refine gate_callee (f := 71) rfl ?_); refine goesL_ (some 13) rfl rfl Try.func71 (by kernel_rfl) rfl #[.slice A1 l1.length c1, .int .i64 1048576] rfl (by (try simp only [List.map_toArray, List.map_cons, List.map_nil]); first | done | rfl | (simp only [List.length_drop, List.length_take]; rfl)) ?_; (with_reducible refine (laws_szClaimS.calls k _ _ l1 1048576 t1160 _ ?side1 ?side2 A3.out).mono ?_); (case side1 => repeat (first | exact HR1.out | (with_reducible refine Kd.C_alloc ?_ _) | (with_reducible refine Kd.C_drewN ?_ _) | (with_reducible refine Kd.C_drew ?_))); (case side2 => exact HC1.out); rintro e w5 ⟨rfl, hb⟩; refine ⟨_, rfl, ?_⟩; have n0_ := Aside0.mk (below_step (by repeat (first | (with_reducible first | exact HB.out | apply below_alloc | apply pw_below_drewN | apply below_drew1) | exact HB.out)) hb); clear HB; have HB := n0_; clear n0_; (try clear hb); (try clear hb2); (try clear hk); (try clear hi)))
  go_ret
  exact ⟨by first | rfl | (simp [errW_none, errW_some] <;> rfl) | (simp [*, errW_none, errW_some] <;> rfl), by repeat (first | (with_reducible first | exact HB.out | apply below_alloc | apply pw_below_drewN | apply below_drew1) | exact HB.out)⟩
 ·rw [if_neg c4] at H
  have c4b0 : decide (t1160 < 0) = false := decide_eq_false c4
  clear c4
  replace H := Option.bind_eq_some_iff.mp H
  obtain ⟨t1161, A60, H⟩ := H
  replace H : ((spec_OnlyWorld.f k a0 t1161).bind fun bt1164 => ((laws_toClaimS.f k l1).bind fun t1166 => ((impl_OnlyWorld.f k a0 t1166).bind fun bt1169 => (if bt1169.1 = bt1164.1 then (laws_FnExactOnlyWorld.j0 k l1 t1166 (bt1169.2 != bt1164.2)) else (laws_FnExactOnlyWorld.j0 k l1 t1166 true))))) = some r := H
  have A6 := Aside0.mk A60
  clear A60
  replace H := Option.bind_eq_some_iff.mp H
  obtain ⟨⟨t1164, t1165⟩, A70, H⟩ := H
  replace H : ((laws_toClaimS.f k l1).bind fun t1166 => ((impl_OnlyWorld.f k a0 t1166).bind fun bt1169 => (if bt1169.1 = t1164 then (laws_FnExactOnlyWorld.j0 k l1 t1166 (bt1169.2 != t1165)) else (laws_FnExactOnlyWorld.j0 k l1 t1166 true)))) = some r := H
  have A7 := Aside0.mk A70
  clear A70
  replace H := Option.bind_eq_some_iff.mp H
  obtain ⟨t1166, A80, H⟩ := H
  replace H : ((impl_OnlyWorld.f k a0 t1166).bind fun bt1169 => (if bt1169.1 = t1164 then (laws_FnExactOnlyWorld.j0 k l1 t1166 (bt1169.2 != t1165)) else (laws_FnExactOnlyWorld.j0 k l1 t1166 true))) = some r := H
  have A8 := Aside0.mk A80
  clear A80
  replace H := Option.bind_eq_some_iff.mp H
  obtain ⟨⟨t1169, t1170⟩, A90, H⟩ := H
  replace H : (if t1169 = t1164 then (laws_FnExactOnlyWorld.j0 k l1 t1166 (t1170 != t1165)) else (laws_FnExactOnlyWorld.j0 k l1 t1166 true)) = some r := H
  have A9 := Aside0.mk A90
  clear A90
  have HC10 := Aside0.mk H
  clear H
  go_enter Try.func17, Try.ntmps17
  go_upto_region 8 with (first | ((with_reducible refine gate_callee (f := 71) rfl ?_); refine goesL_ (some 13) rfl rfl Try.func71 (by kernel_rfl) rfl #[.slice A1 l1.length c1, .int .i64 1048576] rfl (by (try simp only [List.map_toArray, List.map_cons, List.map_nil]); first | done | rfl | (simp only [List.length_drop, List.length_take]; rfl)) ?_; (with_reducible refine (laws_szClaimS.calls k _ _ l1 1048576 t1160 _ ?side1 ?side2 A3.out).mono ?_); (case side1 => repeat (first | exact HR1.out | (with_reducible refine Kd.C_alloc ?_ _) | (with_reducible refine Kd.C_drewN ?_ _) | (with_reducible refine Kd.C_drew ?_))); (case side2 => exact HC1.out); rintro e w11 ⟨rfl, hb⟩; refine ⟨_, rfl, ?_⟩; have n0_ := Aside0.mk (below_step (by repeat (first | (with_reducible first | exact HB.out | apply below_alloc | apply pw_below_drewN | apply below_drew1) | exact HB.out)) hb); clear HB; have HB := n0_; clear n0_; (try clear hb); (try clear hb2); (try clear hk); (try clear hi)) | ((with_reducible refine gate_callee (f := 72) rfl ?_); refine goesL_ (some 19) rfl rfl Try.func72 (by kernel_rfl) rfl #[.slice A1 l1.length c1] rfl (by (try simp only [List.map_toArray, List.map_cons, List.map_nil]); first | done | rfl | (simp only [List.length_drop, List.length_take]; rfl)) ?_; (with_reducible refine (laws_toClaimS.calls k _ _ l1 t1161 _ ?side1 ?side2 A6.out).mono ?_); (case side1 => repeat (first | exact (Kd.C_below HR1.out HB.out) | (with_reducible refine Kd.C_alloc ?_ _) | (with_reducible refine Kd.C_drewN ?_ _) | (with_reducible refine Kd.C_drew ?_))); (case side2 => exact HC1.out); rintro e w12 ⟨v1162, rfl, ho0, hb⟩; refine ⟨_, rfl, ?_⟩; have n0_ := Aside0.mk (Kd.S_lower ho0 (below_size (by repeat (first | (with_reducible first | exact HB.out | apply below_alloc | apply pw_below_drewN | apply below_drew1) | exact HB.out)))); have n1_ := Aside0.mk (below_step (by repeat (first | (with_reducible first | exact HB.out | apply below_alloc | apply pw_below_drewN | apply below_drew1) | exact HB.out)) hb); clear HB; have HO1163 := n0_; have HB := n1_; clear n0_ n1_; (try clear hb); (try clear hb2); (try clear hk); (try clear hi); (try clear ho0); obtain ⟨Ao13, co13, eo13⟩ := Kd.S_slice HO1163.out; subst eo13) | ((with_reducible refine gate_callee (f := 83) rfl ?_); refine goesL_ (some 20) rfl rfl Try.func83 (by kernel_rfl) rfl #[.int .i64 a0, .slice Ao13 t1161.length co13] rfl (by (try simp only [List.map_toArray, List.map_cons, List.map_nil]); first | done | rfl | (simp only [List.length_drop, List.length_take]; rfl)) ?_; (with_reducible refine (spec_OnlyWorld.calls k a0 _ _ t1161 t1164 t1165 _ ?side1 ?side2 A7.out).mono ?_); (case side1 => repeat (first | exact (Kd.S_reads' HO1163.out).2.2 | (with_reducible refine Kd.C_alloc ?_ _) | (with_reducible refine Kd.C_drewN ?_ _) | (with_reducible refine Kd.C_drew ?_))); (case side2 => exact (Kd.S_reads' HO1163.out).2.1); rintro e w14 ⟨rfl, hb⟩; refine ⟨_, rfl, ?_⟩; have n0_ := Aside0.mk (Kd.S_below (by (with_reducible repeat (first | apply Kd.S_alloc | apply Kd.S_drewN | apply Kd.S_drew)); exact HO1163.out) hb); have n1_ := Aside0.mk (below_step (by repeat (first | (with_reducible first | exact HB.out | apply below_alloc | apply pw_below_drewN | apply below_drew1) | exact HB.out)) hb); clear HO1163; clear HB; have HO1163 := n0_; have HB := n1_; clear n0_ n1_; (try clear hb); (try clear hb2); (try clear hk); (try clear hi)) | ((with_reducible refine gate_callee (f := 72) rfl ?_); refine goesL_ (some 24) rfl rfl Try.func72 (by kernel_rfl) rfl #[.slice A1 l1.length c1] rfl (by (try simp only [List.map_toArray, List.map_cons, List.map_nil]); first | done | rfl | (simp only [List.length_drop, List.length_take]; rfl)) ?_; (with_reducible refine (laws_toClaimS.calls k _ _ l1 t1166 _ ?side1 ?side2 A8.out).mono ?_); (case side1 => repeat (first | exact (Kd.C_below HR1.out HB.out) | (with_reducible refine Kd.C_alloc ?_ _) | (with_reducible refine Kd.C_drewN ?_ _) | (with_reducible refine Kd.C_drew ?_))); (case side2 => exact HC1.out); rintro e w15 ⟨v1167, rfl, ho0, hb⟩; refine ⟨_, rfl, ?_⟩; have n0_ := Aside0.mk (Kd.S_elder' (by (with_reducible repeat (first | apply Kd.S_alloc | apply Kd.S_drewN | apply Kd.S_drew)); exact HO1163.out) (Kd.S_base ho0) hb); have n1_ := Aside0.mk (Kd.S_lower (Kd.S_new' ho0 (Kd.S_lt (by (with_reducible repeat (first | apply Kd.S_alloc | apply Kd.S_drewN | apply Kd.S_drew)); exact HO1163.out))) (below_size (by repeat (first | (with_reducible first | exact HB.out | apply below_alloc | apply pw_below_drewN | apply below_drew1) | exact HB.out)))); have n2_ := Aside0.mk (below_step (by repeat (first | (with_reducible first | exact HB.out | apply below_alloc | apply pw_below_drewN | apply below_drew1) | exact HB.out)) hb); clear HO1163; clear HB; have HO1163 := n0_; have HO1168 := n1_; have HB := n2_; clear n0_ n1_ n2_; (try clear hb); (try clear hb2); (try clear hk); (try clear hi); (try clear ho0); obtain ⟨Ao16, co16, eo16⟩ := Kd.S_slice HO1168.out; subst eo16) | ((with_reducible refine gate_callee (f := 24) rfl ?_); refine goesL_ (some 28) rfl rfl Try.func24 (by kernel_rfl) rfl #[.int .i64 a0, .slice Ao16 t1166.length co16] rfl (by (try simp only [List.map_toArray, List.map_cons, List.map_nil]); first | done | rfl | (simp only [List.length_drop, List.length_take]; rfl)) ?_; (with_reducible refine (impl_OnlyWorld.calls k a0 _ _ t1166 t1169 t1170 _ ?side1 ?side2 A9.out).mono ?_); (case side1 => repeat (first | exact (Kd.S_reads' HO1168.out).2.2 | (with_reducible refine Kd.C_alloc ?_ _) | (with_reducible refine Kd.C_drewN ?_ _) | (with_reducible refine Kd.C_drew ?_))); (case side2 => exact (Kd.S_reads' HO1168.out).2.1); rintro e w17 ⟨rfl, hb⟩; refine ⟨_, rfl, ?_⟩; have n0_ := Aside0.mk (Kd.S_below (by (with_reducible repeat (first | apply Kd.S_alloc | apply Kd.S_drewN | apply Kd.S_drew)); exact HO1163.out) hb); have n1_ := Aside0.mk (Kd.S_below (by (with_reducible repeat (first | apply Kd.S_alloc | apply Kd.S_drewN | apply Kd.S_drew)); exact HO1168.out) hb); have n2_ := Aside0.mk (below_step (by repeat (first | (with_reducible first | exact HB.out | apply below_alloc | apply pw_below_drewN | apply below_drew1) | exact HB.out)) hb); clear HO1163; clear HO1168; clear HB; have HO1163 := n0_; have HO1168 := n1_; have HB := n2_; clear n0_ n1_ n2_; (try clear hb); (try clear hb2); (try clear hk); (try clear hi)))
  (try simp only [Act.put, List.setIfInBounds_toArray, List.set_cons_zero, List.set_cons_succ])
  go_cut [38] (fun v38 wc => ∃ (kq : Nat) (x38_9 : Bool), v38 = .bool x38_9 ∧ Aside0 (laws_FnExactOnlyWorld.j0 kq l1 t1166 x38_9 = some r) ∧ Aside0 (kq ≤ k) ∧ Aside0 (Kd.S k36 36 wc w.heap.size (fun _ => True) (.slice Ao16 t1166.length co16) t1166) ∧ Aside0 (Below w.heap.size w wc))
  case first =>
   have H := HC10.out
   clear HC10
   by_cases c18 : t1169 = t1164
   ·rw [if_pos c18] at H
    have c18b0 : (t1169 == t1164) = true := beq_iff_eq.mpr c18
    have c18b1 : (t1169 != t1164) = false := bne_eq_false_iff_eq.mpr c18
    clear c18
    (first | rw [c18b0] | (simp only [i64_w, i32_w]; rw [c18b0]) | skip)
    have H' := Aside0.mk H
    clear H
    go_wp2
    go_meet
    case rel => exact ⟨_, ((t1170 != t1165)), (by first | rfl | (simp; done) | (simp [*]; done)), H', ⟨by first | omega | exact Nat.le_refl _⟩, ⟨by (with_reducible repeat (first | apply Kd.S_alloc | apply Kd.S_drewN | apply Kd.S_drew)); exact Kd.S_mono HO1168.out (fun _ hk => trivial)⟩, ⟨by repeat (first | (with_reducible first | exact HB.out | apply below_alloc | apply pw_below_drewN | apply below_drew1) | exact HB.out)⟩⟩
   ·rw [if_neg c18] at H
    have c18b0 : (t1169 == t1164) = false := beq_eq_false_iff_ne.mpr c18
    have c18b1 : (t1169 != t1164) = true := bne_iff_ne.mpr c18
    (first | rw [c18b0] | (simp only [i64_w, i32_w]; rw [c18b0]) | skip)
    have H' := Aside0.mk H
    clear H
    go_wp2
    go_meet
    case rel => exact ⟨_, (true), (by first | rfl | (simp; done) | (simp [*]; done)), H', ⟨by first | omega | exact Nat.le_refl _⟩, ⟨by (with_reducible repeat (first | apply Kd.S_alloc | apply Kd.S_drewN | apply Kd.S_drew)); exact Kd.S_mono HO1168.out (fun _ hk => trivial)⟩, ⟨by repeat (first | (with_reducible first | exact HB.out | apply below_alloc | apply pw_below_drewN | apply below_drew1) | exact HB.out)⟩⟩
  case rest =>
   clear HC10
   try clear c1
   try clear c2
   try clear p2
   try clear c4
   try clear c4b0
   try clear c7
   try clear c8
   try clear c17
   try clear c18
   try clear c18b0
   try clear c18b1
   obtain ⟨kq, x38_9, rfl, HA, HJ9, HO_8, HB⟩ := hcut
   cases kq with
   | zero => exact absurd HA.out (by simp [laws_FnExactOnlyWorld.j0])
   | succ kj9 =>
    have H := HA.out
    clear HA
    simp only [laws_FnExactOnlyWorld.j0] at H
    by_cases c19 : x38_9 = true
    ·subst c19
     have H1 : (some false) = some r := by rw [if_pos rfl] at H; exact H
     clear H
     have H := H1
     clear H1
     obtain rfl := Option.some.inj H
     go_wp2
     go_ret
     exact ⟨by first | rfl | (simp [errW_none, errW_some] <;> rfl) | (simp [*, errW_none, errW_some] <;> rfl), by repeat (first | (with_reducible first | exact HB.out | apply below_alloc | apply pw_below_drewN | apply below_drew1) | exact HB.out)⟩
    ·replace c19 := Bool.eq_false_iff.mpr c19
     subst c19
     have H1 : ((laws_toClaimS.f kj9 l1).bind fun t1171 => ((laws_eqClaimS.f kj9 t1166 t1171).bind fun t1174 => (if t1174 = true then (some true) else (some false)))) = some r := by rw [if_neg (show ¬ (false = true) by decide)] at H; exact H
     clear H
     have H := H1
     clear H1
     replace H := Option.bind_eq_some_iff.mp H
     obtain ⟨t1171, A200, H⟩ := H
     replace H : ((laws_eqClaimS.f kj9 t1166 t1171).bind fun t1174 => (if t1174 = true then (some true) else (some false))) = some r := H
     have A20 := Aside0.mk A200
     clear A200
     replace H := Option.bind_eq_some_iff.mp H
     obtain ⟨t1174, A210, H⟩ := H
     replace H : (if t1174 = true then (some true) else (some false)) = some r := H
     have A21 := Aside0.mk A210
     clear A210
     by_cases c22 : t1174 = true
     ·subst c22
      have H1 : (some true) = some r := by rw [if_pos rfl] at H; exact H
      clear H
      have H := H1
      clear H1
      obtain rfl := Option.some.inj H
      go_wp2_with (first | ((with_reducible refine gate_callee (f := 72) rfl ?_); refine goesL_ (some 41) rfl rfl Try.func72 (by kernel_rfl) rfl #[.slice A1 l1.length c1] rfl (by (try simp only [List.map_toArray, List.map_cons, List.map_nil]); first | done | rfl | (simp only [List.length_drop, List.length_take]; rfl)) ?_; (with_reducible refine (laws_toClaimS.calls kj9 _ _ l1 t1171 _ ?side1 ?side2 A20.out).mono ?_); (case side1 => repeat (first | exact (Kd.C_below HR1.out HB.out) | (with_reducible refine Kd.C_alloc ?_ _) | (with_reducible refine Kd.C_drewN ?_ _) | (with_reducible refine Kd.C_drew ?_))); (case side2 => exact HC1.out); rintro e w23 ⟨v1172, rfl, ho0, hb⟩; refine ⟨_, rfl, ?_⟩; have n0_ := Aside0.mk (Kd.S_elder' (by (with_reducible repeat (first | apply Kd.S_alloc | apply Kd.S_drewN | apply Kd.S_drew)); exact HO_8.out) (Kd.S_base ho0) hb); have n1_ := Aside0.mk (Kd.S_lower (Kd.S_new' ho0 (Kd.S_lt (by (with_reducible repeat (first | apply Kd.S_alloc | apply Kd.S_drewN | apply Kd.S_drew)); exact HO_8.out))) (below_size (by repeat (first | (with_reducible first | exact HB.out | apply below_alloc | apply pw_below_drewN | apply below_drew1) | exact HB.out)))); have n2_ := Aside0.mk (below_step (by repeat (first | (with_reducible first | exact HB.out | apply below_alloc | apply pw_below_drewN | apply below_drew1) | exact HB.out)) hb); clear HO_8; clear HB; have HO_8 := n0_; have HO1173 := n1_; have HB := n2_; clear n0_ n1_ n2_; (try clear hb); (try clear hb2); (try clear hk); (try clear hi); (try clear ho0); obtain ⟨Ao24, co24, eo24⟩ := Kd.S_slice HO1173.out; subst eo24) | ((with_reducible refine gate_callee (f := 73) rfl ?_); refine goesL_ (some 42) rfl rfl Try.func73 (by kernel_rfl) rfl #[.slice Ao16 t1166.length co16, .slice Ao24 t1171.length co24] rfl (by (try simp only [List.map_toArray, List.map_cons, List.map_nil]); first | done | rfl | (simp only [List.length_drop, List.length_take]; rfl)) ?_; (with_reducible refine (laws_eqClaimS.calls kj9 _ _ t1166 _ _ t1171 true _ ?side1 ?side2 ?side3 ?side4 A21.out).mono ?_); (case side1 => repeat (first | exact (Kd.S_reads' HO_8.out).2.2 | (with_reducible refine Kd.C_alloc ?_ _) | (with_reducible refine Kd.C_drewN ?_ _) | (with_reducible refine Kd.C_drew ?_))); (case side2 => exact (Kd.S_reads' HO_8.out).2.1); (case side3 => repeat (first | exact (Kd.S_reads' HO1173.out).2.2 | (with_reducible refine Kd.C_alloc ?_ _) | (with_reducible refine Kd.C_drewN ?_ _) | (with_reducible refine Kd.C_drew ?_))); (case side4 => exact (Kd.S_reads' HO1173.out).2.1); rintro e w25 ⟨rfl, hb⟩; refine ⟨_, rfl, ?_⟩; have n0_ := Aside0.mk (Kd.S_below (by (with_reducible repeat (first | apply Kd.S_alloc | apply Kd.S_drewN | apply Kd.S_drew)); exact HO_8.out) hb); have n1_ := Aside0.mk (Kd.S_below (by (with_reducible repeat (first | apply Kd.S_alloc | apply Kd.S_drewN | apply Kd.S_drew)); exact HO1173.out) hb); have n2_ := Aside0.mk (below_step (by repeat (first | (with_reducible first | exact HB.out | apply below_alloc | apply pw_below_drewN | apply below_drew1) | exact HB.out)) hb); clear HO_8; clear HO1173; clear HB; have HO_8 := n0_; have HO1173 := n1_; have HB := n2_; clear n0_ n1_ n2_; (try clear hb); (try clear hb2); (try clear hk); (try clear hi)))
      go_ret
      exact ⟨by first | rfl | (simp [errW_none, errW_some] <;> rfl) | (simp [*, errW_none, errW_some] <;> rfl), by repeat (first | (with_reducible first | exact HB.out | apply below_alloc | apply pw_below_drewN | apply below_drew1) | exact HB.out)⟩
     ·replace c22 := Bool.eq_false_iff.mpr c22
      subst c22
      have H1 : (some false) = some r := by rw [if_neg (show ¬ (false = true) by decide)] at H; exact H
      clear H
      have H := H1
      clear H1
      obtain rfl := Option.some.inj H
      go_wp2_with (first | ((with_reducible refine gate_callee (f := 72) rfl ?_); refine goesL_ (some 41) rfl rfl Try.func72 (by kernel_rfl) rfl #[.slice A1 l1.length c1] rfl (by (try simp only [List.map_toArray, List.map_cons, List.map_nil]); first | done | rfl | (simp only [List.length_drop, List.length_take]; rfl)) ?_; (with_reducible refine (laws_toClaimS.calls kj9 _ _ l1 t1171 _ ?side1 ?side2 A20.out).mono ?_); (case side1 => repeat (first | exact (Kd.C_below HR1.out HB.out) | (with_reducible refine Kd.C_alloc ?_ _) | (with_reducible refine Kd.C_drewN ?_ _) | (with_reducible refine Kd.C_drew ?_))); (case side2 => exact HC1.out); rintro e w26 ⟨v1172, rfl, ho0, hb⟩; refine ⟨_, rfl, ?_⟩; have n0_ := Aside0.mk (Kd.S_elder' (by (with_reducible repeat (first | apply Kd.S_alloc | apply Kd.S_drewN | apply Kd.S_drew)); exact HO_8.out) (Kd.S_base ho0) hb); have n1_ := Aside0.mk (Kd.S_lower (Kd.S_new' ho0 (Kd.S_lt (by (with_reducible repeat (first | apply Kd.S_alloc | apply Kd.S_drewN | apply Kd.S_drew)); exact HO_8.out))) (below_size (by repeat (first | (with_reducible first | exact HB.out | apply below_alloc | apply pw_below_drewN | apply below_drew1) | exact HB.out)))); have n2_ := Aside0.mk (below_step (by repeat (first | (with_reducible first | exact HB.out | apply below_alloc | apply pw_below_drewN | apply below_drew1) | exact HB.out)) hb); clear HO_8; clear HB; have HO_8 := n0_; have HO1173 := n1_; have HB := n2_; clear n0_ n1_ n2_; (try clear hb); (try clear hb2); (try clear hk); (try clear hi); (try clear ho0); obtain ⟨Ao27, co27, eo27⟩ := Kd.S_slice HO1173.out; subst eo27) | ((with_reducible refine gate_callee (f := 73) rfl ?_); refine goesL_ (some 42) rfl rfl Try.func73 (by kernel_rfl) rfl #[.slice Ao16 t1166.length co16, .slice Ao27 t1171.length co27] rfl (by (try simp only [List.map_toArray, List.map_cons, List.map_nil]); first | done | rfl | (simp only [List.length_drop, List.length_take]; rfl)) ?_; (with_reducible refine (laws_eqClaimS.calls kj9 _ _ t1166 _ _ t1171 false _ ?side1 ?side2 ?side3 ?side4 A21.out).mono ?_); (case side1 => repeat (first | exact (Kd.S_reads' HO_8.out).2.2 | (with_reducible refine Kd.C_alloc ?_ _) | (with_reducible refine Kd.C_drewN ?_ _) | (with_reducible refine Kd.C_drew ?_))); (case side2 => exact (Kd.S_reads' HO_8.out).2.1); (case side3 => repeat (first | exact (Kd.S_reads' HO1173.out).2.2 | (with_reducible refine Kd.C_alloc ?_ _) | (with_reducible refine Kd.C_drewN ?_ _) | (with_reducible refine Kd.C_drew ?_))); (case side4 => exact (Kd.S_reads' HO1173.out).2.1); rintro e w28 ⟨rfl, hb⟩; refine ⟨_, rfl, ?_⟩; have n0_ := Aside0.mk (Kd.S_below (by (with_reducible repeat (first | apply Kd.S_alloc | apply Kd.S_drewN | apply Kd.S_drew)); exact HO_8.out) hb); have n1_ := Aside0.mk (Kd.S_below (by (with_reducible repeat (first | apply Kd.S_alloc | apply Kd.S_drewN | apply Kd.S_drew)); exact HO1173.out) hb); have n2_ := Aside0.mk (below_step (by repeat (first | (with_reducible first | exact HB.out | apply below_alloc | apply pw_below_drewN | apply below_drew1) | exact HB.out)) hb); clear HO_8; clear HO1173; clear HB; have HO_8 := n0_; have HO1173 := n1_; have HB := n2_; clear n0_ n1_ n2_; (try clear hb); (try clear hb2); (try clear hk); (try clear hi)))
      go_ret
      exact ⟨by first | rfl | (simp [errW_none, errW_some] <;> rfl) | (simp [*, errW_none, errW_some] <;> rfl), by repeat (first | (with_reducible first | exact HB.out | apply below_alloc | apply pw_below_drewN | apply below_drew1) | exact HB.out)⟩

/-- THE ONE PURE STATEMENT of laws_FnExactOnlyWorld: this session's. -/
def laws_FnExactOnlyWorld.Pure : Prop := ∀ (a0 : Int) (l1 : List (S40)), (Lit.int .i64 a0).wf = true → l1.length ≤ 9223372036854775807 → (∀ y ∈ l1, wf40 y) → (∀ y ∈ l1, y.f1.length ≤ 9223372036854775807) → ∃ k, laws_FnExactOnlyWorld.f k a0 l1 = some true
theorem laws_FnExactOnlyWorld.walk (P : laws_FnExactOnlyWorld.Pure) (a0 : Int) (A1 : Option Addr) (c1 : Nat) (l1 : List (S40)) (w : World) (hw0 : (Lit.int .i64 a0).wf = true) (hr1 : Kd.C k40 w A1 l1.length l1) (hc1 : l1.length ≤ c1) (hw1 : (∀ y ∈ l1, wf40 y)) :
  Calls Try.prog 17 #[.int .i64 a0, .slice A1 l1.length c1] w fun e w' => e = .returned (.bool true) ∧ Below w.heap.size w w' := by
 obtain ⟨k, h⟩ := P a0 l1 hw0 hr1.2.1 hw1 (fun y hy => by obtain ⟨i_, hi_, rfl⟩ := List.mem_iff_getElem.1 hy; obtain ⟨_, _, _, _, _, _, _, hC_⟩ := at_T40 hr1 (i_ : Int) (by omega) (by omega); have h_ := hC_.2.1; simpa [rd_T40, List.getD, hi_] using h_)
 refine (laws_FnExactOnlyWorld.calls k a0 A1 c1 l1 true w hr1 hc1 h).mono ?_
 rintro e w' ⟨rfl, hd⟩
 exact ⟨rfl, hd⟩

end Go.Proofs.Ytpampekijfjlkab.X

/- Plain laws of terms, third text: what a valid row of marks says in a world, as a function of the row alone. -/
namespace Go.Proofs.Ytpampekijfjlkab.L
open Go.RowKit Go.Proofs.Ytpampekijfjlkab.X Go.Proofs.YtpampekijfjlkabW.PrintWords Go.Proofs.YtpampekijfjlkabW.PrintLast Go.Proofs.YtpampekijfjlkabW.PrintMore

theorem Tm.good_four {p : Int} (hp : p ≤ 4) : ∀ a : Tm, a.good p → a.good 4
 | .tell i, h => by have h' : (i : Int) < p := h; show (i : Int) < 4; omega
 | .cnt n, h => by have h' : (n : Int) ≤ p + 1 := h; show (n : Int) ≤ 4 + 1; omega
 | .neg a, h => good_four hp a h
 | .bin o a b, h => ⟨h.1, good_four hp a h.2.1, good_four hp b h.2.2⟩
open Classical in
/-- The tree of a row of marks. -/
noncomputable def tree (t : List M) : Tm := if h : ∃ a : Tm, a.good 4 ∧ t = a.post then Classical.choose h else .tell 0
theorem tree_post {a : Tm} (h : a.good 4) : (tree a.post).good 4 ∧ a.post = (tree a.post).post := by
 have h' : ∃ b : Tm, b.good 4 ∧ a.post = b.post := ⟨a, h, rfl⟩
 unfold tree
 rw [dif_pos h']
 exact Classical.choose_spec h'
/-- Whether a row of marks holds in a world. -/
noncomputable def hv (t : List M) (w : Nat) : Bool := (tree t).ev w
theorem hv_post {a : Tm} (h : a.good 4) (hl : a.post.length ≤ 500) {w : Nat} (hw : w < 16) : hv a.post w = a.ev w := by
 obtain ⟨h1, h2⟩ := tree_post h
 have e1 := impl_holds_ev (by decide) hw h hl
 have e2 := impl_holds_ev (by decide) hw h1 (by rw [← h2]; exact hl)
 rw [← h2] at e2
 exact Ev.uniq e2 e1
theorem tok_tree {p : Int} {t : List M} (h : tok p t = true) : ∃ a : Tm, a.good p ∧ t = a.post ∧ a.good 4 ∧ t.length ≤ 15 := by
 obtain ⟨a, h1, h2⟩ := parse h
 obtain ⟨_, h3, _, h4, _⟩ := tok_iff.1 h
 exact ⟨a, h1, h2, a.good_four h3 h1, h4⟩
theorem impl_holds_hv {p : Int} {t : List M} (h : tok p t = true) {w : Nat} (hw : w < 16) : Ev (fun k => impl_holds.f k t (w : Int)) (hv t w) := by
 obtain ⟨a, _, rfl, h4, hl⟩ := tok_tree h
 rw [hv_post h4 (by omega) hw]
 exact impl_holds_ev (by decide) hw h4 (by omega)
theorem spec_holds_hv {p : Int} {t : List M} (h : tok p t = true) {w : Nat} (hw : w < 16) : Ev (fun k => spec_l3Holds.f k t (w : Int)) (hv t w) := by
 obtain ⟨a, _, rfl, h4, hl⟩ := tok_tree h
 rw [hv_post h4 (by omega) hw]
 exact l3Holds_ev (by decide) hw a h4 (by omega)
/-- Whether a claim may be made in a world. -/
noncomputable def may (i : Int) (t : List M) (w : Nat) : Bool := hv t w == w.testBit i.toNat
/-- The trick: a person's mark ahead, and the mark of sameness behind. -/
def wrapT (i : Int) (t : List M) : List M := ⟨0, i⟩ :: (t ++ [⟨5, 0⟩])
theorem scan_app {p : Int} : ∀ (s t : List M) (n m : Nat), scan p s n = some m → scan p (s ++ t) n = scan p t m
 | [], t, n, m, h => by simp only [scan] at h; cases h; rfl
 | ⟨f0, f1⟩ :: s, t, n, m, h => by
  simp only [scan, List.cons_append] at h ⊢
  by_cases h0 : f0 = 0
  ·rw [if_pos h0] at h ⊢
   by_cases h1 : 0 ≤ f1 ∧ f1 < p
   ·rw [if_pos h1] at h ⊢; exact scan_app s t _ m h
   ·rw [if_neg h1] at h; cases h
  rw [if_neg h0] at h ⊢
  by_cases h1 : f0 = 1
  ·rw [if_pos h1] at h ⊢
   by_cases h2 : 0 ≤ f1 ∧ f1 ≤ p + 1
   ·rw [if_pos h2] at h ⊢; exact scan_app s t _ m h
   ·rw [if_neg h2] at h; cases h
  rw [if_neg h1] at h ⊢
  by_cases h2 : f0 = 2
  ·rw [if_pos h2] at h ⊢
   by_cases h3 : f1 = 0 ∧ 1 ≤ n
   ·rw [if_pos h3] at h ⊢; exact scan_app s t _ m h
   ·rw [if_neg h3] at h; cases h
  rw [if_neg h2] at h ⊢
  by_cases h3 : f0 = 3 ∨ f0 = 4 ∨ f0 = 5
  ·rw [if_pos h3] at h ⊢
   by_cases h4 : f1 = 0 ∧ 2 ≤ n
   ·rw [if_pos h4] at h ⊢; exact scan_app s t _ m h
   ·rw [if_neg h4] at h; cases h
  ·rw [if_neg h3] at h; cases h
theorem scan_up {p : Int} : ∀ (s : List M) (n m d : Nat), scan p s n = some m → scan p s (n + d) = some (m + d)
 | [], n, m, d, h => by simp only [scan] at h ⊢; cases h; rfl
 | ⟨f0, f1⟩ :: s, n, m, d, h => by
  simp only [scan] at h ⊢
  by_cases h0 : f0 = 0
  ·rw [if_pos h0] at h ⊢
   by_cases h1 : 0 ≤ f1 ∧ f1 < p
   ·rw [if_pos h1] at h ⊢; rw [show n + d + 1 = n + 1 + d by omega]; exact scan_up s _ m d h
   ·rw [if_neg h1] at h; cases h
  rw [if_neg h0] at h ⊢
  by_cases h1 : f0 = 1
  ·rw [if_pos h1] at h ⊢
   by_cases h2 : 0 ≤ f1 ∧ f1 ≤ p + 1
   ·rw [if_pos h2] at h ⊢; rw [show n + d + 1 = n + 1 + d by omega]; exact scan_up s _ m d h
   ·rw [if_neg h2] at h; cases h
  rw [if_neg h1] at h ⊢
  by_cases h2 : f0 = 2
  ·rw [if_pos h2] at h ⊢
   by_cases h3 : f1 = 0 ∧ 1 ≤ n
   ·rw [if_pos h3] at h; rw [if_pos ⟨h3.1, by omega⟩]; exact scan_up s _ m d h
   ·rw [if_neg h3] at h; cases h
  rw [if_neg h2] at h ⊢
  by_cases h3 : f0 = 3 ∨ f0 = 4 ∨ f0 = 5
  ·rw [if_pos h3] at h ⊢
   by_cases h4 : f1 = 0 ∧ 2 ≤ n
   ·rw [if_pos h4] at h; rw [if_pos ⟨h4.1, by omega⟩, show n + d - 1 = n - 1 + d by omega]; exact scan_up s _ m d h
   ·rw [if_neg h4] at h; cases h
  ·rw [if_neg h3] at h; cases h
end Go.Proofs.Ytpampekijfjlkab.L

/- Plain laws of tables: the worlds in which something holds, as the bits of a number. -/
namespace Go.Proofs.Ytpampekijfjlkab.L
open Go.RowKit Go.Proofs.Ytpampekijfjlkab.X Go.Proofs.YtpampekijfjlkabW.PrintWords Go.Proofs.YtpampekijfjlkabW.PrintLast Go.Proofs.YtpampekijfjlkabW.PrintMore

/-- The worlds below n in which P holds, as bits. -/
def tabL (P : Nat → Bool) : Nat → Nat
 | 0 => 0
 | n + 1 => tabL P n ||| (if P n = true then 2 ^ n else 0)
theorem tabL_bit (P : Nat → Bool) : ∀ n w, (tabL P n).testBit w = (decide (w < n) && P w)
 | 0, w => by simp [tabL]
 | n + 1, w => by
  rw [tabL, Nat.testBit_or, tabL_bit P n w]
  by_cases e : w = n
  ·subst e
   by_cases h : P w = true
   ·rw [if_pos h, Nat.testBit_two_pow_self, h]; simp
   ·rw [if_neg h, Nat.zero_testBit]; simp at h; simp [h]
  ·have h1 : (if P n = true then 2 ^ n else 0).testBit w = false := by
    by_cases h : P n = true
    ·rw [if_pos h, Nat.testBit_two_pow]; simp; omega
    ·rw [if_neg h, Nat.zero_testBit]
   rw [h1, Bool.or_false]
   congr 1
   exact decide_eq_decide.mpr (by omega)
theorem lt_of_bits {x n : Nat} (h : ∀ w, n ≤ w → x.testBit w = false) : x < 2 ^ n := Nat.lt_pow_two_of_testBit x (fun w hw => h w hw)
theorem tabL_lt (P : Nat → Bool) (n : Nat) : tabL P n < 2 ^ n := lt_of_bits (fun w hw => by rw [tabL_bit]; simp; omega)
theorem tabL_congr {P Q : Nat → Bool} {n : Nat} (h : ∀ w, w < n → P w = Q w) : tabL P n = tabL Q n := by
 apply Nat.eq_of_testBit_eq
 intro w
 rw [tabL_bit, tabL_bit]
 by_cases hw : w < n
 ·rw [h w hw]
 ·simp [hw]
theorem tabL_inj {P Q : Nat → Bool} {n : Nat} (h : tabL P n = tabL Q n) : ∀ w, w < n → P w = Q w := by
 intro w hw
 have := tabL_bit P n w
 rw [h, tabL_bit] at this
 simpa [hw] using this.symm
theorem tabL_mono {P : Nat → Bool} {n : Nat} (hn : n ≤ 16) : tabL P n < 65536 := by
 have := tabL_lt P n
 have h : (2 : Nat) ^ n ≤ 2 ^ 16 := Nat.pow_le_pow_right (by decide) hn
 omega
/-! ### The machine's words of bits -/
theorem wrap_i64_small (n : Int) (h0 : 0 ≤ n) (h1 : n < 2 ^ 32) : IntKind.i64.wrap n = n := by rw [IntKind.wrap_i64]; omega
theorem or_nat {a b : Nat} (ha : a < 2 ^ 32) (hb : b < 2 ^ 32) : Go.bits .or .i64 (a : Int) (b : Int) = ((a ||| b : Nat) : Int) := (bits_nat .i64 32 (by decide) wrap_i64_small a b ha hb).2
theorem and_nat {a b : Nat} (ha : a < 2 ^ 32) (hb : b < 2 ^ 32) : Go.bits .and .i64 (a : Int) (b : Int) = ((a &&& b : Nat) : Int) := (bits_nat .i64 32 (by decide) wrap_i64_small a b ha hb).1
theorem shl_fin : ∀ i : Fin 31, shl .i64 1 ((i.val : Nat) : Int) = ((2 ^ i.val : Nat) : Int) := by decide +kernel
theorem shl_nat {i : Nat} (hi : i < 31) : shl .i64 1 (i : Int) = ((2 ^ i : Nat) : Int) := shl_fin ⟨i, hi⟩
theorem shlu_fin : ∀ i : Fin 6, shl .u64 1 ((i.val : Nat) : Int) = ((2 ^ i.val : Nat) : Int) := by decide +kernel
theorem shlu_nat {i : Nat} (hi : i < 6) : shl .u64 1 (i : Int) = ((2 ^ i : Nat) : Int) := shlu_fin ⟨i, hi⟩
theorem or_step {P : Nat → Bool} {i : Nat} (hi : i < 16) (h : P i = true) : Go.bits .or .i64 ((tabL P i : Nat) : Int) (shl .i64 1 (i : Int)) = ((tabL P (i + 1) : Nat) : Int) := by
 have h1 := tabL_lt P i
 have h2 : (2 : Nat) ^ i < 2 ^ 16 := Nat.pow_lt_pow_right (by decide) hi
 rw [shl_nat (by omega), or_nat (by omega) (by omega), tabL, if_pos h]
theorem not_step {P : Nat → Bool} {i : Nat} (h : ¬ P i = true) : tabL P (i + 1) = tabL P i := by rw [tabL, if_neg h, Nat.or_zero]
theorem people_nat {p : Int} (h0 : 1 ≤ p) (h1 : p ≤ 4) : ∃ q : Nat, p = (q : Int) ∧ 1 ≤ q ∧ q ≤ 4 ∧ 2 ^ q ≤ 16 ∧ p.toNat = q := by
 obtain ⟨q, rfl⟩ := Int.eq_ofNat_of_zero_le (show 0 ≤ p by omega)
 refine ⟨q, rfl, by omega, by omega, ?_, by simp⟩
 have : (2 : Nat) ^ q ≤ 2 ^ 4 := Nat.pow_le_pow_right (by decide) (by omega)
 omega
end Go.Proofs.Ytpampekijfjlkab.L

/- Plain law of the program's maker of tables. -/
namespace Go.Proofs.Ytpampekijfjlkab.L
open Go.RowKit Go.Proofs.Ytpampekijfjlkab.X Go.Proofs.YtpampekijfjlkabW.PrintWords Go.Proofs.YtpampekijfjlkabW.PrintLast Go.Proofs.YtpampekijfjlkabW.PrintMore

theorem tableBy_l0 {F : Nat → Int → Option Bool} {P : Nat → Bool} {n : Nat} (hn : n ≤ 16) (hF : ∀ w : Nat, w < n → Ev (fun k => F k (w : Int)) (P w)) : ∀ d i, d + i = n →
  Ev (fun k => impl_tableBy.l0 F k ((tabL P i : Nat) : Int) (n : Int) (i : Int)) ((tabL P n : Nat) : Int) := by
 intro d
 induction d with
 | zero =>
  intro i hi
  rw [Nat.zero_add] at hi
  subst hi
  exact Ev.step (fun k => by simp only [impl_tableBy.l0]; rfl) (Ev.no (by omega) (Ev.some _))
 | succ d ih =>
  intro i hi
  refine Ev.step (fun k => by simp only [impl_tableBy.l0]; rfl) ?_
  refine Ev.yes (by omega) (Ev.bind (hF i (by omega)) ?_)
  rw [w64 (by omega) (by omega), show ((i : Int) + 1) = ((i + 1 : Nat) : Int) by omega]
  by_cases h : P i = true
  ·refine Ev.yes h (Ev.yes (by omega) ?_)
   rw [or_step (by omega) h]
   exact ih (i + 1) (by omega)
  ·refine Ev.no h ?_
   have := ih (i + 1) (by omega)
   rwa [not_step h] at this
theorem tableBy_ev {F : Nat → Int → Option Bool} {P : Nat → Bool} {q : Nat} (hq : q ≤ 4) (hF : ∀ w : Nat, w < 2 ^ q → Ev (fun k => F k (w : Int)) (P w)) : Ev (fun k => impl_tableBy.f F k (q : Int)) ((tabL P (2 ^ q) : Nat) : Int) := by
 unfold impl_tableBy.f
 refine Ev.yes (by omega) ?_
 rw [shl_nat (by omega)]
 have h16 : (2 : Nat) ^ q ≤ 2 ^ 4 := Nat.pow_le_pow_right (by decide) hq
 exact tableBy_l0 (by omega) hF (2 ^ q) 0 (by omega)
end Go.Proofs.Ytpampekijfjlkab.L

/- Plain laws of claims: which are ones. -/
namespace Go.Proofs.Ytpampekijfjlkab.L
open Go.RowKit Go.Proofs.Ytpampekijfjlkab.X Go.Proofs.YtpampekijfjlkabW.PrintWords Go.Proofs.YtpampekijfjlkabW.PrintLast Go.Proofs.YtpampekijfjlkabW.PrintMore

/-- A claim by one of so many people. -/
def clok (p i : Int) (t : List M) : Bool := decide (0 ≤ i ∧ i < p) && (tok p t && decide (t.length ≤ 13))
theorem clok_iff {p i : Int} {t : List M} : clok p i t = true ↔ 0 ≤ i ∧ i < p ∧ tok p t = true ∧ t.length ≤ 13 := by
 unfold clok
 simp only [Bool.and_eq_true, decide_eq_true_eq]
 exact ⟨fun h => ⟨h.1.1, h.1.2, h.2.1, h.2.2⟩, fun h => ⟨⟨h.1, h.2.1⟩, h.2.2.1, h.2.2.2⟩⟩
theorem clok_false {p i : Int} {t : List M} (h : ¬ (0 ≤ i ∧ i < p ∧ tok p t = true ∧ t.length ≤ 13)) : false = clok p i t := by
 cases e : clok p i t with
 | false => rfl
 | true => exact absurd (clok_iff.1 e) h
theorem impl_ClaimOk_ev (p i : Int) (t : List M) : Ev (fun k => impl_ClaimOk.f k p i t) (clok p i t) := by
 unfold impl_ClaimOk.f
 simp only [peopleOk_eq, Option.bind_some]
 by_cases h0 : 1 ≤ p ∧ p ≤ 4
 ·refine Ev.yes (decide_eq_true h0) ?_
  by_cases h1 : i ≥ 0
  ·refine Ev.yes h1 ?_
   by_cases h2 : i < p
   ·refine Ev.yes h2 (Ev.bind (impl_TermOk_ev p t) ?_)
    by_cases h3 : tok p t = true
    ·refine Ev.yes h3 (Ev.cast (Ev.some _) ?_)
     by_cases h4 : t.length ≤ 13
     ·rw [clok_iff.2 ⟨h1, h2, h3, h4⟩]; exact decide_eq_true (by omega)
     ·rw [← clok_false (fun h => h4 h.2.2.2)]; exact decide_eq_false (by omega)
    ·exact Ev.no h3 (Ev.cast (Ev.some _) (clok_false (fun h => h3 h.2.2.1)))
   ·exact Ev.no h2 (Ev.cast (Ev.some _) (clok_false (fun h => h2 h.2.1)))
  ·exact Ev.no h1 (Ev.cast (Ev.some _) (clok_false (fun h => h1 h.1)))
 ·refine Ev.no (by simpa using h0) (Ev.cast (Ev.some _) (clok_false (fun h => h0 ?_)))
  have := tok_iff.1 h.2.2.1
  omega
theorem spec_ClaimOk_ev (p i : Int) (t : List M) (hl : t.length ≤ 4611686018427387904) (hw : ∀ m ∈ t, m.f1 ≤ 9223372036854775807) : Ev (fun k => spec_ClaimOk.f k p i t) (clok p i t) := by
 unfold spec_ClaimOk.f
 by_cases h1 : i ≥ 0
 ·refine Ev.yes h1 ?_
  by_cases h2 : i < p
  ·refine Ev.yes h2 (Ev.bind (spec_TermOk_ev p t hl hw) ?_)
   by_cases h3 : tok p t = true
   ·refine Ev.yes h3 (Ev.cast (Ev.some _) ?_)
    by_cases h4 : t.length ≤ 13
    ·rw [clok_iff.2 ⟨h1, h2, h3, h4⟩]; exact decide_eq_true (by omega)
    ·rw [← clok_false (fun h => h4 h.2.2.2)]; exact decide_eq_false (by omega)
   ·exact Ev.no h3 (Ev.cast (Ev.some _) (clok_false (fun h => h3 h.2.2.1)))
  ·exact Ev.no h2 (Ev.cast (Ev.some _) (clok_false (fun h => h2 h.2.1)))
 ·exact Ev.no h1 (Ev.cast (Ev.some _) (clok_false (fun h => h1 h.1)))
/-- A claim, and whether it is one. -/
def claimR (p i : Int) (t : List M) : Int × List M × Bool := if clok p i t = true then (i, t, true) else (0, [], false)
theorem claimR_length {p i : Int} {t : List M} : (claimR p i t).2.1.length ≤ 13 := by
 unfold claimR
 split
 ·rename_i h; exact (clok_iff.1 h).2.2.2
 ·simp
end Go.Proofs.Ytpampekijfjlkab.L

/- Plain laws of the tables of claims. -/
namespace Go.Proofs.Ytpampekijfjlkab.L
open Go.RowKit Go.Proofs.Ytpampekijfjlkab.X Go.Proofs.YtpampekijfjlkabW.PrintWords Go.Proofs.YtpampekijfjlkabW.PrintLast Go.Proofs.YtpampekijfjlkabW.PrintMore

theorem impl_maySay_ev {p i : Int} {t : List M} (h : clok p i t = true) {w : Nat} (hw : w < 16) : Ev (fun k => impl_maySay.f k i t (w : Int)) (may i t w) := by
 obtain ⟨h0, h1, h2, _⟩ := clok_iff.1 h
 have h4 := (tok_iff.1 h2).2.1
 obtain ⟨j, rfl⟩ := Int.eq_ofNat_of_zero_le h0
 unfold impl_maySay.f
 refine Ev.bind (impl_holds_hv h2 hw) (Ev.yes h0 (Ev.cast (Ev.some _) ?_))
 rw [bit_and' hw (show j < 4 by omega)]
 rfl
/-- The table of a claim. -/
noncomputable def ctab (p i : Int) (t : List M) : Nat := tabL (may i t) (2 ^ p.toNat)
theorem impl_ClaimTable_ev (p i : Int) (t : List M) : Ev (fun k => impl_ClaimTable.f k p i t) (if clok p i t = true then ((ctab p i t : Nat) : Int) else -1) := by
 unfold impl_ClaimTable.f
 refine Ev.bind (impl_ClaimOk_ev p i t) ?_
 by_cases h : clok p i t = true
 ·rw [if_pos h]
  refine Ev.yes h ?_
  obtain ⟨hp0, hp1, _⟩ := tok_iff.1 (clok_iff.1 h).2.2.1
  obtain ⟨q, rfl, _, hq, hq2, _⟩ := people_nat hp0 hp1
  exact tableBy_ev hq (fun w hw => impl_maySay_ev h (by omega))
 ·rw [if_neg h]
  exact Ev.no h (Ev.some _)
end Go.Proofs.Ytpampekijfjlkab.L

/- Plain laws of stories: which are ones, and their tables; the program's. -/
namespace Go.Proofs.Ytpampekijfjlkab.L
open Go.RowKit Go.Proofs.Ytpampekijfjlkab.X Go.Proofs.YtpampekijfjlkabW.PrintWords Go.Proofs.YtpampekijfjlkabW.PrintLast Go.Proofs.YtpampekijfjlkabW.PrintMore

abbrev C := S36
theorem rdC_at (pre : List C) (c : C) (suf : List C) : rd_T36 (pre ++ c :: suf) ((pre.length : Nat) : Int) = c := by
 unfold rd_T36
 simp [List.getD]
/-- A story of so many people. -/
def sok (p : Int) (l : List C) : Bool := l.all (fun c => clok p c.f0 c.f1) && decide (1 ≤ p ∧ p ≤ 4 ∧ l.length ≤ 6)
theorem sok_iff {p : Int} {l : List C} : sok p l = true ↔ (∀ c ∈ l, clok p c.f0 c.f1 = true) ∧ 1 ≤ p ∧ p ≤ 4 ∧ l.length ≤ 6 := by
 unfold sok
 rw [Bool.and_eq_true, List.all_eq_true, decide_eq_true_eq]
theorem impl_StoryOk_l0 {p : Int} {l : List C} (hl : l.length ≤ 4611686018427387904) : ∀ (suf pre : List C), l = pre ++ suf →
  Ev (fun k => impl_StoryOk.l0 k p l l ((l.length : Nat) : Int) ((pre.length : Nat) : Int)) (suf.all (fun c => clok p c.f0 c.f1) && decide (1 ≤ p ∧ p ≤ 4 ∧ l.length ≤ 6)) := by
 intro suf
 induction suf with
 | nil =>
  intro pre he
  have hle : l.length = pre.length := by rw [he]; simp
  refine Ev.step (fun k => by simp only [impl_StoryOk.l0]; rfl) ?_
  refine Ev.no (by omega) ?_
  simp only [peopleOk_eq, Option.bind_some, List.all_nil, Bool.true_and]
  by_cases h : 1 ≤ p ∧ p ≤ 4
  ·refine Ev.yes (decide_eq_true h) (Ev.cast (Ev.some _) ?_)
   exact decide_eq_decide.mpr (by omega)
  ·refine Ev.no (by simpa using h) (Ev.cast (Ev.some _) ?_)
   exact (decide_eq_false (fun hh => h ⟨hh.1, hh.2.1⟩)).symm
 | cons c t ih =>
  intro pre he
  have hle : l.length = pre.length + (t.length + 1) := by rw [he]; simp
  have hc : rd_T36 l ((pre.length : Nat) : Int) = c := by rw [he]; exact rdC_at pre c t
  refine Ev.step (fun k => by simp only [impl_StoryOk.l0]; rfl) ?_
  rw [hc, w64 (by omega) (by omega), show (((pre.length : Nat) : Int) + 1) = (((pre ++ [c]).length : Nat) : Int) by simp]
  refine Ev.yes (by omega) (Ev.yes (by omega) (Ev.yes (by omega) (Ev.bind (impl_ClaimOk_ev p c.f0 c.f1) ?_)))
  by_cases h : clok p c.f0 c.f1 = true
  ·exact Ev.yes h (Ev.cast (ih (pre ++ [c]) (by rw [he]; simp)) (by rw [List.all_cons, h, Bool.true_and]))
  ·rw [Bool.not_eq_true] at h
   rw [h]
   exact Ev.no (by simp) (Ev.cast (Ev.some _) (by rw [List.all_cons, h]; simp))
theorem impl_StoryOk_ev (p : Int) (l : List C) (hl : l.length ≤ 4611686018427387904) : Ev (fun k => impl_StoryOk.f k p l) (sok p l) := by
 unfold impl_StoryOk.f
 exact impl_StoryOk_l0 hl l [] rfl
/-- All worlds, as bits. -/
def fullT (q : Nat) : Nat := 2 ^ (2 ^ q) - 1
theorem full_eq {q : Nat} (h1 : 1 ≤ q) (h4 : q ≤ 4) : wrap64 (shl .i64 1 (shl .u64 1 (q : Int)) - 1) = ((fullT q : Nat) : Int) := by
 have : ∀ q : Fin 5, 1 ≤ q.val → wrap64 (shl .i64 1 (shl .u64 1 ((q.val : Nat) : Int)) - 1) = ((fullT q.val : Nat) : Int) := by decide +kernel
 exact this ⟨q, by omega⟩ h1
theorem full_lt {q : Nat} (h4 : q ≤ 4) : fullT q < 65536 := by
 have : (2 : Nat) ^ q ≤ 2 ^ 4 := Nat.pow_le_pow_right (by decide) h4
 have h2 : (2 : Nat) ^ (2 ^ q) ≤ 2 ^ 16 := Nat.pow_le_pow_right (by decide) (by omega)
 unfold fullT
 omega
/-- The table of a story, from some worlds on. -/
noncomputable def stabFrom (p : Int) : Nat → List C → Nat
 | a, [] => a
 | a, c :: l => stabFrom p (a &&& ctab p c.f0 c.f1) l
noncomputable def stab (p : Int) (l : List C) : Nat := stabFrom p (fullT p.toNat) l
theorem and_lt {a b n : Nat} (h : a < n) : a &&& b < n := Nat.lt_of_le_of_lt Nat.and_le_left h
theorem ctab_lt' {p i : Int} {t : List M} (h : clok p i t = true) : ctab p i t < 65536 := by
 obtain ⟨hp0, hp1, _⟩ := tok_iff.1 (clok_iff.1 h).2.2.1
 obtain ⟨q, rfl, _, hq, hq2, e⟩ := people_nat hp0 hp1
 unfold ctab
 rw [e]
 exact tabL_mono hq2
theorem stabFrom_lt {p : Int} : ∀ (l : List C) (a : Nat), a < 65536 → stabFrom p a l < 65536
 | [], _, h => h
 | _ :: l, _, h => stabFrom_lt l _ (and_lt h)
theorem impl_storyTable_l0 {p : Int} {l : List C} (hl : l.length ≤ 4611686018427387904) : ∀ (suf pre : List C) (a : Nat), l = pre ++ suf → (∀ c ∈ suf, clok p c.f0 c.f1 = true) → a < 65536 →
  Ev (fun k => impl_storyTable.l0 k p (a : Int) l ((l.length : Nat) : Int) ((pre.length : Nat) : Int)) ((stabFrom p a suf : Nat) : Int) := by
 intro suf
 induction suf with
 | nil =>
  intro pre a he _ _
  have hle : l.length = pre.length := by rw [he]; simp
  exact Ev.step (fun k => by simp only [impl_storyTable.l0]; rfl) (Ev.no (by omega) (Ev.some _))
 | cons c t ih =>
  intro pre a he hc0 ha
  have hle : l.length = pre.length + (t.length + 1) := by rw [he]; simp
  have hc : rd_T36 l ((pre.length : Nat) : Int) = c := by rw [he]; exact rdC_at pre c t
  have hk := hc0 c (by simp)
  refine Ev.step (fun k => by simp only [impl_storyTable.l0]; rfl) ?_
  rw [hc, w64 (by omega) (by omega), show (((pre.length : Nat) : Int) + 1) = (((pre ++ [c]).length : Nat) : Int) by simp]
  refine Ev.yes (by omega) (Ev.yes (by omega) (Ev.yes (by omega) (Ev.bind (impl_ClaimTable_ev p c.f0 c.f1) ?_)))
  rw [if_pos hk]
  have hb := ctab_lt' hk
  rw [and_nat (by omega) (by omega)]
  exact ih (pre ++ [c]) _ (by rw [he]; simp) (fun x hx => hc0 x (List.mem_cons_of_mem _ hx)) (and_lt ha)
theorem impl_storyTable_ev {p : Int} {l : List C} (h : sok p l = true) : Ev (fun k => impl_storyTable.f k p l) ((stab p l : Nat) : Int) := by
 obtain ⟨h1, hp0, hp1, h6⟩ := sok_iff.1 h
 obtain ⟨q, rfl, hq1, hq, hq2, e⟩ := people_nat hp0 hp1
 unfold impl_storyTable.f stab
 rw [full_eq hq1 hq, e]
 exact Ev.yes (by omega) (impl_storyTable_l0 (by omega) l [] _ rfl h1 (full_lt hq))
theorem stab_lt {p : Int} {l : List C} (h : sok p l = true) : stab p l < 65536 := by
 obtain ⟨h1, hp0, hp1, h6⟩ := sok_iff.1 h
 obtain ⟨q, rfl, hq1, hq, hq2, e⟩ := people_nat hp0 hp1
 unfold stab
 rw [e]
 exact stabFrom_lt l _ (full_lt hq)
end Go.Proofs.Ytpampekijfjlkab.L

/- Plain law of the program's table of a story, whole. -/
namespace Go.Proofs.Ytpampekijfjlkab.L
open Go.RowKit Go.Proofs.Ytpampekijfjlkab.X Go.Proofs.YtpampekijfjlkabW.PrintWords Go.Proofs.YtpampekijfjlkabW.PrintLast Go.Proofs.YtpampekijfjlkabW.PrintMore

theorem impl_StoryTable_ev (p : Int) (l : List C) (hl : l.length ≤ 4611686018427387904) : Ev (fun k => impl_StoryTable.f k p l) (if sok p l = true then ((stab p l : Nat) : Int) else -1) := by
 unfold impl_StoryTable.f
 refine Ev.bind (impl_StoryOk_ev p l hl) ?_
 by_cases h : sok p l = true
 ·rw [if_pos h]
  exact Ev.yes h (Ev.bind (impl_storyTable_ev h) (Ev.some _))
 ·rw [if_neg h]
  exact Ev.no h (Ev.some _)
end Go.Proofs.Ytpampekijfjlkab.L

/- Plain law of the reference's test whether a claim may be made. -/
namespace Go.Proofs.Ytpampekijfjlkab.L
open Go.RowKit Go.Proofs.Ytpampekijfjlkab.X Go.Proofs.YtpampekijfjlkabW.PrintWords Go.Proofs.YtpampekijfjlkabW.PrintLast Go.Proofs.YtpampekijfjlkabW.PrintMore

theorem spec_may_ev {p i : Int} {t : List M} (h2 : tok p t = true) (h0 : 0 ≤ i) (h1 : i < p) {w : Nat} (hw : w < 16) : Ev (fun k => spec_l4May.f k i t (w : Int)) (may i t w) := by
 have h4 := (tok_iff.1 h2).2.1
 obtain ⟨j, rfl⟩ := Int.eq_ofNat_of_zero_le h0
 unfold spec_l4May.f
 refine Ev.yes h0 (Ev.bind (spec_holds_hv h2 hw) (Ev.cast (Ev.some _) ?_))
 rw [bit_mod' hw (show j < 4 by omega)]
 unfold may
 exact Bool.beq_comm
end Go.Proofs.Ytpampekijfjlkab.L

/- Plain laws of the reference's tables of claims. -/
namespace Go.Proofs.Ytpampekijfjlkab.L
open Go.RowKit Go.Proofs.Ytpampekijfjlkab.X Go.Proofs.YtpampekijfjlkabW.PrintWords Go.Proofs.YtpampekijfjlkabW.PrintLast Go.Proofs.YtpampekijfjlkabW.PrintMore

theorem spec_l4May_ev {p i : Int} {t : List M} (h : clok p i t = true) {w : Nat} (hw : w < 16) : Ev (fun k => spec_l4May.f k i t (w : Int)) (may i t w) := by
 obtain ⟨h0, h1, h2, _⟩ := clok_iff.1 h
 exact spec_may_ev h2 h0 h1 hw
theorem l4Table_l0 {q : Nat} {i : Int} {t : List M} (hq : q ≤ 4) (hq2 : 2 ^ q ≤ 16) (h : clok (q : Int) i t = true) : ∀ d j, d + j = 2 ^ q →
  Ev (fun k => spec_l4Table.l0 k (q : Int) ((tabL (may i t) j : Nat) : Int) (j : Int) i t) ((tabL (may i t) (2 ^ q) : Nat) : Int) := by
 intro d
 induction d with
 | zero =>
  intro j hj
  rw [Nat.zero_add] at hj
  refine Ev.step (fun k => by simp only [spec_l4Table.l0]; rfl) ?_
  rw [shl_nat (by omega)]
  refine Ev.yes (by omega) (Ev.no (by omega) (Ev.cast (Ev.some _) ?_))
  rw [hj]
 | succ d ih =>
  intro j hj
  refine Ev.step (fun k => by simp only [spec_l4Table.l0]; rfl) ?_
  rw [shl_nat (by omega)]
  refine Ev.yes (by omega) (Ev.yes (by omega) (Ev.bind (spec_l4May_ev h (by omega)) ?_))
  rw [w64 (by omega) (by omega), show ((j : Int) + 1) = ((j + 1 : Nat) : Int) by omega]
  by_cases hb : may i t j = true
  ·refine Ev.yes hb (Ev.yes (by omega) ?_)
   rw [or_step (by omega) hb]
   exact ih (j + 1) (by omega)
  ·refine Ev.no hb ?_
   have := ih (j + 1) (by omega)
   rwa [not_step hb] at this
theorem spec_l4Table_ev {p i : Int} {t : List M} (h : clok p i t = true) : Ev (fun k => spec_l4Table.f k p i t) ((ctab p i t : Nat) : Int) := by
 unfold spec_l4Table.f
 obtain ⟨hp0, hp1, _⟩ := tok_iff.1 (clok_iff.1 h).2.2.1
 obtain ⟨q, rfl, _, hq, hq2, _⟩ := people_nat hp0 hp1
 exact l4Table_l0 hq hq2 h (2 ^ q) 0 (by omega)
end Go.Proofs.Ytpampekijfjlkab.L

/- Plain laws of the reference's stories and their tables. -/
namespace Go.Proofs.Ytpampekijfjlkab.L
open Go.RowKit Go.Proofs.Ytpampekijfjlkab.X Go.Proofs.YtpampekijfjlkabW.PrintWords Go.Proofs.YtpampekijfjlkabW.PrintLast Go.Proofs.YtpampekijfjlkabW.PrintMore

/-- Small enough for the reference's tests. -/
def Fit (l : List C) : Prop := ∀ c ∈ l, c.f1.length ≤ 4611686018427387904 ∧ ∀ m ∈ c.f1, m.f1 ≤ 9223372036854775807
theorem spec_StoryOk_l0 {p : Int} {l : List C} (hl : l.length ≤ 4611686018427387904) : ∀ (suf pre : List C), l = pre ++ suf → Fit suf →
  Ev (fun k => spec_StoryOk.l0 k p l ((pre.length : Nat) : Int)) (suf.all (fun c => clok p c.f0 c.f1) && decide (1 ≤ p ∧ p ≤ 4 ∧ l.length ≤ 6)) := by
 intro suf
 induction suf with
 | nil =>
  intro pre he _
  have hle : l.length = pre.length := by rw [he]; simp
  refine Ev.step (fun k => by simp only [spec_StoryOk.l0]; rfl) ?_
  refine Ev.no (by omega) ?_
  simp only [l1In_eq, Option.bind_some, List.all_nil, Bool.true_and]
  by_cases h : 1 ≤ p ∧ p ≤ 4
  ·refine Ev.yes (decide_eq_true h) (Ev.cast (Ev.some _) ?_)
   exact decide_eq_decide.mpr (by omega)
  ·refine Ev.no (by simpa using h) (Ev.cast (Ev.some _) ?_)
   exact (decide_eq_false (fun hh => h ⟨hh.1, hh.2.1⟩)).symm
 | cons c t ih =>
  intro pre he hf
  have hle : l.length = pre.length + (t.length + 1) := by rw [he]; simp
  have hc : rd_T36 l ((pre.length : Nat) : Int) = c := by rw [he]; exact rdC_at pre c t
  have hfc := hf c (by simp)
  refine Ev.step (fun k => by simp only [spec_StoryOk.l0]; rfl) ?_
  rw [hc, w64 (by omega) (by omega), show (((pre.length : Nat) : Int) + 1) = (((pre ++ [c]).length : Nat) : Int) by simp]
  refine Ev.yes (by omega) (Ev.yes (by omega) (Ev.bind (spec_ClaimOk_ev p c.f0 c.f1 hfc.1 hfc.2) ?_))
  by_cases h : clok p c.f0 c.f1 = true
  ·exact Ev.yes h (Ev.cast (ih (pre ++ [c]) (by rw [he]; simp) (fun x hx => hf x (List.mem_cons_of_mem _ hx))) (by rw [List.all_cons, h, Bool.true_and]))
  ·rw [Bool.not_eq_true] at h
   rw [h]
   exact Ev.no (by simp) (Ev.cast (Ev.some _) (by rw [List.all_cons, h]; simp))
theorem spec_StoryOk_ev (p : Int) (l : List C) (hl : l.length ≤ 4611686018427387904) (hf : Fit l) : Ev (fun k => spec_StoryOk.f k p l) (sok p l) := by
 unfold spec_StoryOk.f
 exact spec_StoryOk_l0 hl l [] rfl hf
theorem spec_l4Story_l0 {p : Int} {l : List C} (hl : l.length ≤ 4611686018427387904) : ∀ (suf pre : List C) (a : Nat), l = pre ++ suf → (∀ c ∈ suf, clok p c.f0 c.f1 = true) → a < 65536 →
  Ev (fun k => spec_l4Story.l0 k p l (a : Int) ((pre.length : Nat) : Int)) ((stabFrom p a suf : Nat) : Int) := by
 intro suf
 induction suf with
 | nil =>
  intro pre a he _ _
  have hle : l.length = pre.length := by rw [he]; simp
  exact Ev.step (fun k => by simp only [spec_l4Story.l0]; rfl) (Ev.no (by omega) (Ev.some _))
 | cons c t ih =>
  intro pre a he hc0 ha
  have hle : l.length = pre.length + (t.length + 1) := by rw [he]; simp
  have hc : rd_T36 l ((pre.length : Nat) : Int) = c := by rw [he]; exact rdC_at pre c t
  have hk := hc0 c (by simp)
  refine Ev.step (fun k => by simp only [spec_l4Story.l0]; rfl) ?_
  rw [hc, w64 (by omega) (by omega), show (((pre.length : Nat) : Int) + 1) = (((pre ++ [c]).length : Nat) : Int) by simp]
  refine Ev.yes (by omega) (Ev.yes (by omega) (Ev.bind (spec_l4Table_ev hk) ?_))
  have hb := ctab_lt' hk
  rw [and_nat (by omega) (by omega)]
  exact ih (pre ++ [c]) _ (by rw [he]; simp) (fun x hx => hc0 x (List.mem_cons_of_mem _ hx)) (and_lt ha)
theorem spec_l4Story_ev {p : Int} {l : List C} (h : sok p l = true) : Ev (fun k => spec_l4Story.f k p l) ((stab p l : Nat) : Int) := by
 obtain ⟨h1, hp0, hp1, h6⟩ := sok_iff.1 h
 obtain ⟨q, rfl, hq1, hq, hq2, e⟩ := people_nat hp0 hp1
 unfold spec_l4Story.f stab
 rw [full_eq hq1 hq, e]
 exact Ev.yes (by omega) (spec_l4Story_l0 (by omega) l [] _ rfl h1 (full_lt hq))
end Go.Proofs.Ytpampekijfjlkab.L

/- Plain law of the reference's table of a story, whole. -/
namespace Go.Proofs.Ytpampekijfjlkab.L
open Go.RowKit Go.Proofs.Ytpampekijfjlkab.X Go.Proofs.YtpampekijfjlkabW.PrintWords Go.Proofs.YtpampekijfjlkabW.PrintLast Go.Proofs.YtpampekijfjlkabW.PrintMore

theorem spec_StoryTable_ev (p : Int) (l : List C) (hl : l.length ≤ 4611686018427387904) (hf : Fit l) : Ev (fun k => spec_StoryTable.f k p l) (if sok p l = true then ((stab p l : Nat) : Int) else -1) := by
 unfold spec_StoryTable.f
 refine Ev.bind (spec_StoryOk_ev p l hl hf) ?_
 by_cases h : sok p l = true
 ·rw [if_pos h]
  exact Ev.yes h (Ev.bind (spec_l4Story_ev h) (Ev.some _))
 ·rw [if_neg h]
  exact Ev.no h (Ev.some _)
end Go.Proofs.Ytpampekijfjlkab.L
