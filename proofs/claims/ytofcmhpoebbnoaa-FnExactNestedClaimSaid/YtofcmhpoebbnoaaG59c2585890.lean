/- Joined by a program of this session's: X92. -/
import Derived.Test.YtofcmhpoebbnoaaGae7c3afe2a
import Derived.Test.YtofcmhpoebbnoaaGcc10b886ef
import Derived.Test.YtofcmhpoebbnoaaG734b1a454c
import Derived.Test.YtofcmhpoebbnoaaGcc01708d74

-- printed by a program of this session's (xprint)
namespace Go.Proofs.Ytofcmhpoebbnoaa.X
open Go.RowKit Go.Proofs.YtofcmhpoebbnoaaW.PrintWords Go.Proofs.YtofcmhpoebbnoaaW.PrintLast Go.Proofs.YtofcmhpoebbnoaaW.PrintMore
attribute [local go_sem] max2_int min2_int max_two min_two max_three min_three max_four min_four   -- for this text's walks alone
set_option linter.unusedVariables false
set_option linter.unusedSimpArgs false

/-! ### laws_FnExactNestedClaim: function 12 -/
mutual
def laws_FnExactNestedClaim.j0 : Nat → Int → Int → Bool → Bool → Bool → Int → List (S85) → Int → List (S83) → Int → List (S83) → Int → List (S83) → Option (Bool)
  | 0, _, _, _, _, _, _, _, _, _, _, _, _, _ => none
  | k + 1, x0, x1, x9, x12, x48, x996000, x996001, x1007000, x1007001, x1012000, x1012001, x1018000, x1018001 => if x48 = true then (some false) else ((laws_toClaim.f k x996000 x996001).bind fun bt1019 => ((laws_eqClaim.f k x1012000 x1012001 bt1019.1 bt1019.2).bind fun t1023 => (if t1023 = true then ((laws_markClaim.f k x1012000 x1012001 1).bind fun bt1024 => (if bt1024.1 < 0 then (laws_FnExactNestedClaim.j1 k x0 x1 x9 true x996000 x996001 x1007000 x1007001 x1018000 x1018001) else ((laws_eqClaim.f k x1018000 x1018001 x1007000 x1007001).bind fun t1026 => (if t1026 = true then (laws_FnExactNestedClaim.j1 k x0 x1 x9 (x12 != x9) x996000 x996001 x1007000 x1007001 x1018000 x1018001) else (laws_FnExactNestedClaim.j1 k x0 x1 x9 true x996000 x996001 x1007000 x1007001 x1018000 x1018001))))) else (some false))))
def laws_FnExactNestedClaim.j1 : Nat → Int → Int → Bool → Bool → Int → List (S85) → Int → List (S83) → Int → List (S83) → Option (Bool)
  | 0, _, _, _, _, _, _, _, _, _, _ => none
  | k + 1, x0, x1, x9, x69, x996000, x996001, x1007000, x1007001, x1018000, x1018001 => if x69 = true then (some false) else ((laws_markClaim.f k x1018000 x1018001 1).bind fun bt1027 => ((laws_heldClaim.f k x1018000 bt1027.2 1).bind fun t1029 => (if t1029 < 0 then (some false) else (if t1029 = bt1027.1 then ((laws_toClaim.f k x996000 x996001).bind fun bt1030 => ((impl_NestedClaim.f k x0 x1 bt1030.1 bt1030.2).bind fun bt1034 => ((laws_eqClaim.f k bt1034.1 bt1034.2.1 x1007000 x1007001).bind fun t1040 => (if t1040 = true then (laws_FnExactNestedClaim.j2 k bt1027.1 (bt1034.2.2 != x9) x1018000 bt1027.2) else (laws_FnExactNestedClaim.j2 k bt1027.1 true x1018000 bt1027.2))))) else (some false)))))
def laws_FnExactNestedClaim.j2 : Nat → Int → Bool → Int → List (S83) → Option (Bool)
  | 0, _, _, _, _ => none
  | k + 1, x14, x97, x1018000, x1018001 => if x97 = true then (some false) else ((laws_heldClaim.f k x1018000 x1018001 1).bind fun t1041 => (if t1041 < 0 then (some false) else (if t1041 = x14 then (some true) else (some false))))
end
def laws_FnExactNestedClaim.f (k : Nat) (a0 : Int) (a1 : Int) (a2_0 : Int) (l2_1 : List (S85)) : Option (Bool) := (laws_szClaim.f a2_0 l2_1 1048576).bind fun t996 => (if t996 < 0 then (some true) else ((laws_toClaim.f k a2_0 l2_1).bind fun bt997 => ((spec_NestedClaim.f k a0 a1 bt997.1 bt997.2).bind fun bt1001 => ((laws_toClaim.f k a2_0 l2_1).bind fun bt1007 => ((impl_NestedClaim.f k a0 a1 bt1007.1 bt1007.2).bind fun bt1012 => ((laws_eqClaim.f k bt1012.1 bt1012.2.1 bt1001.1 bt1001.2.1).bind fun t1018 => (if t1018 = true then (laws_FnExactNestedClaim.j0 k a0 a1 bt1001.2.2 bt1012.2.2 (bt1012.2.2 != bt1001.2.2) a2_0 l2_1 bt1001.1 bt1001.2.1 bt1007.1 bt1007.2 bt1012.1 bt1012.2.1) else (laws_FnExactNestedClaim.j0 k a0 a1 bt1001.2.2 bt1012.2.2 true a2_0 l2_1 bt1001.1 bt1001.2.1 bt1007.1 bt1007.2 bt1012.1 bt1012.2.1))))))))
theorem laws_FnExactNestedClaim.mono_l : ∀ k, (∀ y0 y1 y2 y3 y4 y5 y6 y7 y8 y9 y10 y11 y12, LeO (laws_FnExactNestedClaim.j0 k y0 y1 y2 y3 y4 y5 y6 y7 y8 y9 y10 y11 y12) (laws_FnExactNestedClaim.j0 (k + 1) y0 y1 y2 y3 y4 y5 y6 y7 y8 y9 y10 y11 y12)) ∧ (∀ y0 y1 y2 y3 y4 y5 y6 y7 y8 y9, LeO (laws_FnExactNestedClaim.j1 k y0 y1 y2 y3 y4 y5 y6 y7 y8 y9) (laws_FnExactNestedClaim.j1 (k + 1) y0 y1 y2 y3 y4 y5 y6 y7 y8 y9)) ∧ (∀ y0 y1 y2 y3, LeO (laws_FnExactNestedClaim.j2 k y0 y1 y2 y3) (laws_FnExactNestedClaim.j2 (k + 1) y0 y1 y2 y3))
  | 0 => ⟨fun _ _ _ _ _ _ _ _ _ _ _ _ _ r h => by simp [laws_FnExactNestedClaim.j0] at h, fun _ _ _ _ _ _ _ _ _ _ r h => by simp [laws_FnExactNestedClaim.j1] at h, fun _ _ _ _ r h => by simp [laws_FnExactNestedClaim.j2] at h⟩
  | k + 1 => by
    obtain ⟨ih0, ih1, ih2⟩ := laws_FnExactNestedClaim.mono_l k
    refine ⟨?_, ?_, ?_⟩
    · intro y0 y1 y2 y3 y4 y5 y6 y7 y8 y9 y10 y11 y12
      unfold laws_FnExactNestedClaim.j0
      repeat' first
      | (with_reducible exact ih0 _ _ _ _ _ _ _ _ _ _ _ _ _)
      | (with_reducible exact ih1 _ _ _ _ _ _ _ _ _ _)
      | (with_reducible exact ih2 _ _ _ _)
      | (with_reducible exact impl_NestedClaim.mono _ _ _ _ _)
      | (with_reducible exact laws_eqClaim.mono _ _ _ _ _)
      | (with_reducible exact laws_heldClaim.mono _ _ _ _)
      | (with_reducible exact laws_markClaim.mono _ _ _ _)
      | (with_reducible exact laws_toClaim.mono _ _ _)
      | (with_reducible exact spec_NestedClaim.mono _ _ _ _ _)
      | (with_reducible exact LeO.refl _)
      | (with_reducible exact LeO.none _)
      | (with_reducible refine LeO.ite ?_ ?_)
      | (with_reducible refine LeO.bind ?_ (fun _ => ?_))
      | exact ih0 _ _ _ _ _ _ _ _ _ _ _ _ _
      | exact ih1 _ _ _ _ _ _ _ _ _ _
      | exact ih2 _ _ _ _
      | exact impl_NestedClaim.mono _ _ _ _ _
      | exact laws_eqClaim.mono _ _ _ _ _
      | exact laws_heldClaim.mono _ _ _ _
      | exact laws_markClaim.mono _ _ _ _
      | exact laws_toClaim.mono _ _ _
      | exact spec_NestedClaim.mono _ _ _ _ _
      | exact LeO.none _
      | refine LeO.ite ?_ ?_
      | refine LeO.bind ?_ (fun _ => ?_)
    · intro y0 y1 y2 y3 y4 y5 y6 y7 y8 y9
      unfold laws_FnExactNestedClaim.j1
      repeat' first
      | (with_reducible exact ih0 _ _ _ _ _ _ _ _ _ _ _ _ _)
      | (with_reducible exact ih1 _ _ _ _ _ _ _ _ _ _)
      | (with_reducible exact ih2 _ _ _ _)
      | (with_reducible exact impl_NestedClaim.mono _ _ _ _ _)
      | (with_reducible exact laws_eqClaim.mono _ _ _ _ _)
      | (with_reducible exact laws_heldClaim.mono _ _ _ _)
      | (with_reducible exact laws_markClaim.mono _ _ _ _)
      | (with_reducible exact laws_toClaim.mono _ _ _)
      | (with_reducible exact spec_NestedClaim.mono _ _ _ _ _)
      | (with_reducible exact LeO.refl _)
      | (with_reducible exact LeO.none _)
      | (with_reducible refine LeO.ite ?_ ?_)
      | (with_reducible refine LeO.bind ?_ (fun _ => ?_))
      | exact ih0 _ _ _ _ _ _ _ _ _ _ _ _ _
      | exact ih1 _ _ _ _ _ _ _ _ _ _
      | exact ih2 _ _ _ _
      | exact impl_NestedClaim.mono _ _ _ _ _
      | exact laws_eqClaim.mono _ _ _ _ _
      | exact laws_heldClaim.mono _ _ _ _
      | exact laws_markClaim.mono _ _ _ _
      | exact laws_toClaim.mono _ _ _
      | exact spec_NestedClaim.mono _ _ _ _ _
      | exact LeO.none _
      | refine LeO.ite ?_ ?_
      | refine LeO.bind ?_ (fun _ => ?_)
    · intro y0 y1 y2 y3
      unfold laws_FnExactNestedClaim.j2
      repeat' first
      | (with_reducible exact ih0 _ _ _ _ _ _ _ _ _ _ _ _ _)
      | (with_reducible exact ih1 _ _ _ _ _ _ _ _ _ _)
      | (with_reducible exact ih2 _ _ _ _)
      | (with_reducible exact impl_NestedClaim.mono _ _ _ _ _)
      | (with_reducible exact laws_eqClaim.mono _ _ _ _ _)
      | (with_reducible exact laws_heldClaim.mono _ _ _ _)
      | (with_reducible exact laws_markClaim.mono _ _ _ _)
      | (with_reducible exact laws_toClaim.mono _ _ _)
      | (with_reducible exact spec_NestedClaim.mono _ _ _ _ _)
      | (with_reducible exact LeO.refl _)
      | (with_reducible exact LeO.none _)
      | (with_reducible refine LeO.ite ?_ ?_)
      | (with_reducible refine LeO.bind ?_ (fun _ => ?_))
      | exact ih0 _ _ _ _ _ _ _ _ _ _ _ _ _
      | exact ih1 _ _ _ _ _ _ _ _ _ _
      | exact ih2 _ _ _ _
      | exact impl_NestedClaim.mono _ _ _ _ _
      | exact laws_eqClaim.mono _ _ _ _ _
      | exact laws_heldClaim.mono _ _ _ _
      | exact laws_markClaim.mono _ _ _ _
      | exact laws_toClaim.mono _ _ _
      | exact spec_NestedClaim.mono _ _ _ _ _
      | exact LeO.none _
      | refine LeO.ite ?_ ?_
      | refine LeO.bind ?_ (fun _ => ?_)
theorem laws_FnExactNestedClaim.mono : ∀ a0 a1 a2 a3 k, LeO (laws_FnExactNestedClaim.f k a0 a1 a2 a3) (laws_FnExactNestedClaim.f (k + 1) a0 a1 a2 a3) := by
  intro a0 a1 a2 a3 k
  obtain ⟨ih0, ih1, ih2⟩ := laws_FnExactNestedClaim.mono_l k
  unfold laws_FnExactNestedClaim.f
  repeat' first
      | (with_reducible exact ih0 _ _ _ _ _ _ _ _ _ _ _ _ _)
      | (with_reducible exact ih1 _ _ _ _ _ _ _ _ _ _)
      | (with_reducible exact ih2 _ _ _ _)
      | (with_reducible exact impl_NestedClaim.mono _ _ _ _ _)
      | (with_reducible exact laws_eqClaim.mono _ _ _ _ _)
      | (with_reducible exact laws_heldClaim.mono _ _ _ _)
      | (with_reducible exact laws_markClaim.mono _ _ _ _)
      | (with_reducible exact laws_toClaim.mono _ _ _)
      | (with_reducible exact spec_NestedClaim.mono _ _ _ _ _)
      | (with_reducible exact LeO.refl _)
      | (with_reducible exact LeO.none _)
      | (with_reducible refine LeO.ite ?_ ?_)
      | (with_reducible refine LeO.bind ?_ (fun _ => ?_))
      | exact ih0 _ _ _ _ _ _ _ _ _ _ _ _ _
      | exact ih1 _ _ _ _ _ _ _ _ _ _
      | exact ih2 _ _ _ _
      | exact impl_NestedClaim.mono _ _ _ _ _
      | exact laws_eqClaim.mono _ _ _ _ _
      | exact laws_heldClaim.mono _ _ _ _
      | exact laws_markClaim.mono _ _ _ _
      | exact laws_toClaim.mono _ _ _
      | exact spec_NestedClaim.mono _ _ _ _ _
      | exact LeO.none _
      | refine LeO.ite ?_ ?_
      | refine LeO.bind ?_ (fun _ => ?_)
set_option maxHeartbeats 8000000 in
set_option maxRecDepth 100000 in
theorem laws_FnExactNestedClaim.calls (k : Nat) (a0 : Int) (a1 : Int) (a2_0 : Int) (A2_1 : Option Addr) (c2_1 : Nat) (l2_1 : List (S85)) (r : Bool) (w : World) (hr2_1 : Kd.C k85 w A2_1 l2_1.length l2_1) (hc2_1 : l2_1.length ≤ c2_1) (h : laws_FnExactNestedClaim.f k a0 a1 a2_0 l2_1 = some r) :
    Calls Try.prog 12 #[.int .i64 a0, .int .i64 a1, .agg #[.int .i64 a2_0, .slice A2_1 l2_1.length c2_1]] w fun e w' => e = .returned (.bool r) ∧ Below w.heap.size w w' := by
  have hu62 := Try.underlying62
  have hu43 := Try.underlying43
  have HR2_1 := Aside0.mk hr2_1
  have HC2_1 := Aside0.mk hc2_1
  clear hr2_1 hc2_1
  have HB := Aside0.mk (Below.refl w.heap.size w)
  have H : ((laws_szClaim.f a2_0 l2_1 1048576).bind fun t996 => (if t996 < 0 then (some true) else ((laws_toClaim.f k a2_0 l2_1).bind fun bt997 => ((spec_NestedClaim.f k a0 a1 bt997.1 bt997.2).bind fun bt1001 => ((laws_toClaim.f k a2_0 l2_1).bind fun bt1007 => ((impl_NestedClaim.f k a0 a1 bt1007.1 bt1007.2).bind fun bt1012 => ((laws_eqClaim.f k bt1012.1 bt1012.2.1 bt1001.1 bt1001.2.1).bind fun t1018 => (if t1018 = true then (laws_FnExactNestedClaim.j0 k a0 a1 bt1001.2.2 bt1012.2.2 (bt1012.2.2 != bt1001.2.2) a2_0 l2_1 bt1001.1 bt1001.2.1 bt1007.1 bt1007.2 bt1012.1 bt1012.2.1) else (laws_FnExactNestedClaim.j0 k a0 a1 bt1001.2.2 bt1012.2.2 true a2_0 l2_1 bt1001.1 bt1001.2.1 bt1007.1 bt1007.2 bt1012.1 bt1012.2.1))))))))) = some r := h
  clear h
  replace H := Option.bind_eq_some_iff.mp H
  obtain ⟨t996, A40, H⟩ := H
  replace H : (if t996 < 0 then (some true) else ((laws_toClaim.f k a2_0 l2_1).bind fun bt997 => ((spec_NestedClaim.f k a0 a1 bt997.1 bt997.2).bind fun bt1001 => ((laws_toClaim.f k a2_0 l2_1).bind fun bt1007 => ((impl_NestedClaim.f k a0 a1 bt1007.1 bt1007.2).bind fun bt1012 => ((laws_eqClaim.f k bt1012.1 bt1012.2.1 bt1001.1 bt1001.2.1).bind fun t1018 => (if t1018 = true then (laws_FnExactNestedClaim.j0 k a0 a1 bt1001.2.2 bt1012.2.2 (bt1012.2.2 != bt1001.2.2) a2_0 l2_1 bt1001.1 bt1001.2.1 bt1007.1 bt1007.2 bt1012.1 bt1012.2.1) else (laws_FnExactNestedClaim.j0 k a0 a1 bt1001.2.2 bt1012.2.2 true a2_0 l2_1 bt1001.1 bt1001.2.1 bt1007.1 bt1007.2 bt1012.1 bt1012.2.1)))))))) = some r := H
  have A4 := Aside0.mk A40
  clear A40
  by_cases c5 : t996 < 0
  · rw [if_pos c5] at H
    have c5b0 : decide (t996 < 0) = true := decide_eq_true c5
    clear c5
    obtain rfl := Option.some.inj H
    go_enter Try.func12, Try.ntmps12
    go_wp2_with (first | ((with_reducible refine gate_dst (N := 5) rfl ?_); refine box_event ?hg (N := 5) ?hd (cs := #[.int .i64 a2_0, .slice A2_1 l2_1.length c2_1]) (t := 62) ?hr ?_; (case hd => rfl); (case hg => rfl); (case hr => first | (go_simp; done) | (go_simp; rfl)); intro gb995 hg w6 hbox hb; have n0_ := Aside0.mk (below_step (by repeat (first | (with_reducible first | exact HB.out | apply below_alloc | apply pw_below_drewN | apply below_drew1) | exact HB.out)) hb); have n1_ := Aside0.mk (hbox); have n2_ := Aside0.mk ((by rw [hg]; exact (below_size (by repeat (first | (with_reducible first | exact HB.out | apply below_alloc | apply pw_below_drewN | apply below_drew1) | exact HB.out))) : w.heap.size ≤ gb995)); have n3_ := Aside0.mk ((by rw [hg]; exact (below_size (by repeat (first | (with_reducible first | exact HB.out | apply below_alloc | apply pw_below_drewN | apply below_drew1) | exact HB.out))) : w.heap.size ≤ gb995)); clear HB; have HB := n0_; have BK995 := n1_; have GW995 := n2_; have GE995 := n3_; clear n0_ n1_ n2_ n3_; clear hb hbox hg; have hcz7_0 : w6.cell? ⟨gb995, 0, none⟩ = some (.int .i64 a2_0) := (blk_cell BK995.out 0).trans rfl; have hcz7_1 : w6.cell? ⟨gb995, 1, none⟩ = some (.slice A2_1 l2_1.length c2_1) := (blk_cell BK995.out 1).trans rfl; have hfz7_0 := blk_frozen BK995.out 0; have hfz7_1 := blk_frozen BK995.out 1) | ((with_reducible refine gate_callee (f := 50) rfl ?_); refine goesL_ (some 20) rfl rfl Try.func50 (by kernel_rfl) rfl #[.agg #[.int .i64 a2_0, .slice A2_1 l2_1.length c2_1], .int .i64 1048576] rfl (by (try simp only [List.map_toArray, List.map_cons, List.map_nil]); first | done | rfl | (simp only [List.length_drop, List.length_take]; rfl)) ?_; (with_reducible refine (laws_szClaim.calls a2_0 _ _ l2_1 1048576 t996 _ ?side1 ?side2 A4.out).mono ?_); (case side1 => repeat (first | exact (Kd.C_below HR2_1.out HB.out) | (with_reducible refine Kd.C_alloc ?_ _) | (with_reducible refine Kd.C_drewN ?_ _) | (with_reducible refine Kd.C_drew ?_))); (case side2 => exact HC2_1.out); rintro e w8 ⟨rfl, hb⟩; refine ⟨_, rfl, ?_⟩; have n0_ := Aside0.mk (blk_below (g := gb995) (o := .cells #[.int .i64 a2_0, .slice A2_1 l2_1.length c2_1] 62 (0, 0)) (by (with_reducible repeat (first | refine blk_drewN ?_ _ | refine blk_drew ?_ | refine blk_alloc ?_ _)); exact BK995.out) hb); have n1_ := Aside0.mk (below_step (by repeat (first | (with_reducible first | exact HB.out | apply below_alloc | apply pw_below_drewN | apply below_drew1 | refine below_set ?_ GE995.out) | exact HB.out)) hb); clear BK995; clear HB; have BK995 := n0_; have HB := n1_; clear n0_ n1_; (try clear hb); (try clear hb2); (try clear hk); (try clear hi)))
    go_ret
    exact ⟨by first | rfl | (simp [errW_none, errW_some] <;> rfl) | (simp [*, errW_none, errW_some] <;> rfl), by repeat (first | (with_reducible first | exact HB.out | apply below_alloc | apply pw_below_drewN | apply below_drew1 | refine below_set ?_ GE995.out) | exact HB.out)⟩
  · rw [if_neg c5] at H
    have c5b0 : decide (t996 < 0) = false := decide_eq_false c5
    clear c5
    replace H := Option.bind_eq_some_iff.mp H
    obtain ⟨⟨t997, t998⟩, A90, H⟩ := H
    replace H : ((spec_NestedClaim.f k a0 a1 t997 t998).bind fun bt1001 => ((laws_toClaim.f k a2_0 l2_1).bind fun bt1007 => ((impl_NestedClaim.f k a0 a1 bt1007.1 bt1007.2).bind fun bt1012 => ((laws_eqClaim.f k bt1012.1 bt1012.2.1 bt1001.1 bt1001.2.1).bind fun t1018 => (if t1018 = true then (laws_FnExactNestedClaim.j0 k a0 a1 bt1001.2.2 bt1012.2.2 (bt1012.2.2 != bt1001.2.2) a2_0 l2_1 bt1001.1 bt1001.2.1 bt1007.1 bt1007.2 bt1012.1 bt1012.2.1) else (laws_FnExactNestedClaim.j0 k a0 a1 bt1001.2.2 bt1012.2.2 true a2_0 l2_1 bt1001.1 bt1001.2.1 bt1007.1 bt1007.2 bt1012.1 bt1012.2.1)))))) = some r := H
    have A9 := Aside0.mk A90
    clear A90
    replace H := Option.bind_eq_some_iff.mp H
    obtain ⟨⟨t1001, t1002, t1005⟩, A100, H⟩ := H
    replace H : ((laws_toClaim.f k a2_0 l2_1).bind fun bt1007 => ((impl_NestedClaim.f k a0 a1 bt1007.1 bt1007.2).bind fun bt1012 => ((laws_eqClaim.f k bt1012.1 bt1012.2.1 t1001 t1002).bind fun t1018 => (if t1018 = true then (laws_FnExactNestedClaim.j0 k a0 a1 t1005 bt1012.2.2 (bt1012.2.2 != t1005) a2_0 l2_1 t1001 t1002 bt1007.1 bt1007.2 bt1012.1 bt1012.2.1) else (laws_FnExactNestedClaim.j0 k a0 a1 t1005 bt1012.2.2 true a2_0 l2_1 t1001 t1002 bt1007.1 bt1007.2 bt1012.1 bt1012.2.1))))) = some r := H
    have A10 := Aside0.mk A100
    clear A100
    replace H := Option.bind_eq_some_iff.mp H
    obtain ⟨⟨t1007, t1008⟩, A110, H⟩ := H
    replace H : ((impl_NestedClaim.f k a0 a1 t1007 t1008).bind fun bt1012 => ((laws_eqClaim.f k bt1012.1 bt1012.2.1 t1001 t1002).bind fun t1018 => (if t1018 = true then (laws_FnExactNestedClaim.j0 k a0 a1 t1005 bt1012.2.2 (bt1012.2.2 != t1005) a2_0 l2_1 t1001 t1002 t1007 t1008 bt1012.1 bt1012.2.1) else (laws_FnExactNestedClaim.j0 k a0 a1 t1005 bt1012.2.2 true a2_0 l2_1 t1001 t1002 t1007 t1008 bt1012.1 bt1012.2.1)))) = some r := H
    have A11 := Aside0.mk A110
    clear A110
    replace H := Option.bind_eq_some_iff.mp H
    obtain ⟨⟨t1012, t1013, t1016⟩, A120, H⟩ := H
    replace H : ((laws_eqClaim.f k t1012 t1013 t1001 t1002).bind fun t1018 => (if t1018 = true then (laws_FnExactNestedClaim.j0 k a0 a1 t1005 t1016 (t1016 != t1005) a2_0 l2_1 t1001 t1002 t1007 t1008 t1012 t1013) else (laws_FnExactNestedClaim.j0 k a0 a1 t1005 t1016 true a2_0 l2_1 t1001 t1002 t1007 t1008 t1012 t1013))) = some r := H
    have A12 := Aside0.mk A120
    clear A120
    have HC13 := Aside0.mk H
    clear H
    go_enter Try.func12, Try.ntmps12
    go_upto_region 8 with (first | ((with_reducible refine gate_dst (N := 5) rfl ?_); refine box_event ?hg (N := 5) ?hd (cs := #[.int .i64 a2_0, .slice A2_1 l2_1.length c2_1]) (t := 62) ?hr ?_; (case hd => rfl); (case hg => rfl); (case hr => first | (go_simp; done) | (go_simp; rfl)); intro gb995 hg w14 hbox hb; have n0_ := Aside0.mk (below_step (by repeat (first | (with_reducible first | exact HB.out | apply below_alloc | apply pw_below_drewN | apply below_drew1) | exact HB.out)) hb); have n1_ := Aside0.mk (hbox); have n2_ := Aside0.mk ((by rw [hg]; exact (below_size (by repeat (first | (with_reducible first | exact HB.out | apply below_alloc | apply pw_below_drewN | apply below_drew1) | exact HB.out))) : w.heap.size ≤ gb995)); have n3_ := Aside0.mk ((by rw [hg]; exact (below_size (by repeat (first | (with_reducible first | exact HB.out | apply below_alloc | apply pw_below_drewN | apply below_drew1) | exact HB.out))) : w.heap.size ≤ gb995)); clear HB; have HB := n0_; have BK995 := n1_; have GW995 := n2_; have GE995 := n3_; clear n0_ n1_ n2_ n3_; clear hb hbox hg; have hcz15_0 : w14.cell? ⟨gb995, 0, none⟩ = some (.int .i64 a2_0) := (blk_cell BK995.out 0).trans rfl; have hcz15_1 : w14.cell? ⟨gb995, 1, none⟩ = some (.slice A2_1 l2_1.length c2_1) := (blk_cell BK995.out 1).trans rfl; have hfz15_0 := blk_frozen BK995.out 0; have hfz15_1 := blk_frozen BK995.out 1) | ((with_reducible refine gate_callee (f := 50) rfl ?_); refine goesL_ (some 20) rfl rfl Try.func50 (by kernel_rfl) rfl #[.agg #[.int .i64 a2_0, .slice A2_1 l2_1.length c2_1], .int .i64 1048576] rfl (by (try simp only [List.map_toArray, List.map_cons, List.map_nil]); first | done | rfl | (simp only [List.length_drop, List.length_take]; rfl)) ?_; (with_reducible refine (laws_szClaim.calls a2_0 _ _ l2_1 1048576 t996 _ ?side1 ?side2 A4.out).mono ?_); (case side1 => repeat (first | exact (Kd.C_below HR2_1.out HB.out) | (with_reducible refine Kd.C_alloc ?_ _) | (with_reducible refine Kd.C_drewN ?_ _) | (with_reducible refine Kd.C_drew ?_))); (case side2 => exact HC2_1.out); rintro e w16 ⟨rfl, hb⟩; refine ⟨_, rfl, ?_⟩; have n0_ := Aside0.mk (blk_below (g := gb995) (o := .cells #[.int .i64 a2_0, .slice A2_1 l2_1.length c2_1] 62 (0, 0)) (by (with_reducible repeat (first | refine blk_drewN ?_ _ | refine blk_drew ?_ | refine blk_alloc ?_ _)); exact BK995.out) hb); have n1_ := Aside0.mk (below_step (by repeat (first | (with_reducible first | exact HB.out | apply below_alloc | apply pw_below_drewN | apply below_drew1 | refine below_set ?_ GE995.out) | exact HB.out)) hb); clear BK995; clear HB; have BK995 := n0_; have HB := n1_; clear n0_ n1_; (try clear hb); (try clear hb2); (try clear hk); (try clear hi); have hcz17_0 : w16.cell? ⟨gb995, 0, none⟩ = some (.int .i64 a2_0) := (blk_cell BK995.out 0).trans rfl; have hcz17_1 : w16.cell? ⟨gb995, 1, none⟩ = some (.slice A2_1 l2_1.length c2_1) := (blk_cell BK995.out 1).trans rfl; have hfz17_0 := blk_frozen BK995.out 0; have hfz17_1 := blk_frozen BK995.out 1) | ((with_reducible refine gate_callee (f := 52) rfl ?_); refine goesL_ (some 27) rfl rfl Try.func52 (by kernel_rfl) rfl #[.agg #[.int .i64 a2_0, .slice A2_1 l2_1.length c2_1]] rfl (by (try simp only [List.map_toArray, List.map_cons, List.map_nil]); first | done | rfl | (simp only [List.length_drop, List.length_take]; rfl)) ?_; (with_reducible refine (laws_toClaim.calls k a2_0 _ _ l2_1 t997 t998 _ ?side1 ?side2 A9.out).mono ?_); (case side1 => repeat (first | exact (Kd.C_below HR2_1.out HB.out) | (with_reducible refine Kd.C_alloc ?_ _) | (with_reducible refine Kd.C_drewN ?_ _) | (with_reducible refine Kd.C_drew ?_))); (case side2 => exact HC2_1.out); rintro e w18 ⟨v999, rfl, ho0, hb⟩; refine ⟨_, rfl, ?_⟩; have n0_ := Aside0.mk (Kd.R_lower ho0 (below_size (by repeat (first | (with_reducible first | exact HB.out | apply below_alloc | apply pw_below_drewN | apply below_drew1 | refine below_set ?_ GE995.out) | exact HB.out)))); have n1_ := Aside0.mk (blk_below (g := gb995) (o := .cells #[.int .i64 a2_0, .slice A2_1 l2_1.length c2_1] 62 (0, 0)) (by (with_reducible repeat (first | refine blk_drewN ?_ _ | refine blk_drew ?_ | refine blk_alloc ?_ _)); exact BK995.out) hb); have n2_ := Aside0.mk (below_step (by repeat (first | (with_reducible first | exact HB.out | apply below_alloc | apply pw_below_drewN | apply below_drew1 | refine below_set ?_ GE995.out) | exact HB.out)) hb); clear BK995; clear HB; have HO1000 := n0_; have BK995 := n1_; have HB := n2_; clear n0_ n1_ n2_; (try clear hb); (try clear hb2); (try clear hk); (try clear hi); (try clear ho0); obtain ⟨Ao19, co19, eo19⟩ := Kd.R_slice HO1000.out; subst eo19) | ((with_reducible refine gate_callee (f := 51) rfl ?_); refine goesL_ (some 28) rfl rfl Try.func51 (by kernel_rfl) rfl #[.int .i64 a0, .int .i64 a1, .agg #[.int .i64 t997, .slice Ao19 t998.length co19]] rfl (by (try simp only [List.map_toArray, List.map_cons, List.map_nil]); first | done | rfl | (simp only [List.length_drop, List.length_take]; rfl)) ?_; (with_reducible refine (spec_NestedClaim.calls k a0 a1 t997 _ _ t998 t1001 t1002 t1005 _ ?side1 ?side2 A10.out).mono ?_); (case side1 => repeat (first | exact (Kd.R_reads' HO1000.out).2.2 | (with_reducible refine Kd.C_alloc ?_ _) | (with_reducible refine Kd.C_drewN ?_ _) | (with_reducible refine Kd.C_drew ?_))); (case side2 => exact (Kd.R_reads' HO1000.out).2.1); rintro e w20 ⟨v1003, rfl, ho0, hb⟩; refine ⟨_, rfl, ?_⟩; have n0_ := Aside0.mk (Kd.R_elder' (by (with_reducible repeat (first | apply Kd.R_alloc | apply Kd.R_drewN | apply Kd.R_drew)); exact HO1000.out) (Kd.R_base ho0) hb); have n1_ := Aside0.mk (Kd.R_lower (Kd.R_new' ho0 (Kd.R_lt (by (with_reducible repeat (first | apply Kd.R_alloc | apply Kd.R_drewN | apply Kd.R_drew)); exact HO1000.out))) (below_size (by repeat (first | (with_reducible first | exact HB.out | apply below_alloc | apply pw_below_drewN | apply below_drew1 | refine below_set ?_ GE995.out) | exact HB.out)))); have n2_ := Aside0.mk (blk_below (g := gb995) (o := .cells #[.int .i64 a2_0, .slice A2_1 l2_1.length c2_1] 62 (0, 0)) (by (with_reducible repeat (first | refine blk_drewN ?_ _ | refine blk_drew ?_ | refine blk_alloc ?_ _)); exact BK995.out) hb); have n3_ := Aside0.mk (below_step (by repeat (first | (with_reducible first | exact HB.out | apply below_alloc | apply pw_below_drewN | apply below_drew1 | refine below_set ?_ GE995.out) | exact HB.out)) hb); clear HO1000; clear BK995; clear HB; have HO1000 := n0_; have HO1004 := n1_; have BK995 := n2_; have HB := n3_; clear n0_ n1_ n2_ n3_; (try clear hb); (try clear hb2); (try clear hk); (try clear hi); (try clear ho0)) | ((with_reducible refine gate_dst (N := 8) rfl ?_); refine box_event ?hg (N := 8) ?hd (cs := #[.int .i64 0, .slice none 0 0]) (t := 43) ?hr ?_; (case hd => rfl); (case hg => rfl); (case hr => first | (go_simp; done) | (go_simp; rfl)); intro gb1006 hg w21 hbox hb; have n0_ := Aside0.mk (Kd.R_below (by (with_reducible repeat (first | apply Kd.R_alloc | apply Kd.R_drewN | apply Kd.R_drew)); exact HO1000.out) hb); have n1_ := Aside0.mk (Kd.R_below (by (with_reducible repeat (first | apply Kd.R_alloc | apply Kd.R_drewN | apply Kd.R_drew)); exact HO1004.out) hb); have n2_ := Aside0.mk (blk_below (g := gb995) (o := .cells #[.int .i64 a2_0, .slice A2_1 l2_1.length c2_1] 62 (0, 0)) (by (with_reducible repeat (first | refine blk_drewN ?_ _ | refine blk_drew ?_ | refine blk_alloc ?_ _)); exact BK995.out) hb); have n3_ := Aside0.mk (below_step (by repeat (first | (with_reducible first | exact HB.out | apply below_alloc | apply pw_below_drewN | apply below_drew1 | refine below_set ?_ GE995.out) | exact HB.out)) hb); have n4_ := Aside0.mk (hbox); have n5_ := Aside0.mk ((by rw [hg]; exact (below_size (by repeat (first | (with_reducible first | exact HB.out | apply below_alloc | apply pw_below_drewN | apply below_drew1 | refine below_set ?_ GE995.out) | exact HB.out))) : w.heap.size ≤ gb1006)); have n6_ := Aside0.mk ((by rw [hg]; exact (below_size (by repeat (first | (with_reducible first | exact HB.out | apply below_alloc | apply pw_below_drewN | apply below_drew1 | refine below_set ?_ GE995.out) | exact HB.out))) : w.heap.size ≤ gb1006)); have n7_ := Aside0.mk ((by rw [hg]; exact Nat.ne_of_lt (blk_lt (g := gb995) (o := .cells #[.int .i64 a2_0, .slice A2_1 l2_1.length c2_1] 62 (0, 0)) (by (with_reducible repeat (first | refine blk_drewN ?_ _ | refine blk_drew ?_ | refine blk_alloc ?_ _)); exact BK995.out)) : gb995 ≠ gb1006)); have n8_ := Aside0.mk ((by rw [hg]; exact Nat.ne_of_gt (blk_lt (g := gb995) (o := .cells #[.int .i64 a2_0, .slice A2_1 l2_1.length c2_1] 62 (0, 0)) (by (with_reducible repeat (first | refine blk_drewN ?_ _ | refine blk_drew ?_ | refine blk_alloc ?_ _)); exact BK995.out)) : gb1006 ≠ gb995)); clear HO1000; clear HO1004; clear BK995; clear HB; have HO1000 := n0_; have HO1004 := n1_; have BK995 := n2_; have HB := n3_; have BK1006 := n4_; have GW1006 := n5_; have GE1006 := n6_; have NB995_1006 := n7_; have NB1006_995 := n8_; clear n0_ n1_ n2_ n3_ n4_ n5_ n6_ n7_ n8_; clear hb hbox hg; have hnb22 := NB1006_995.out; have hnc22 := NB995_1006.out; have hcz23_0 : w21.cell? ⟨gb1006, 0, none⟩ = some (.int .i64 0) := (blk_cell BK1006.out 0).trans rfl; have hcz23_1 : w21.cell? ⟨gb1006, 1, none⟩ = some (.slice none 0 0) := (blk_cell BK1006.out 1).trans rfl; have hfz23_0 := blk_frozen BK1006.out 0; have hfz23_1 := blk_frozen BK1006.out 1; obtain ⟨Ao24, co24, eo24⟩ := Kd.R_slice HO1004.out; subst eo24; have hcz25_0 : w21.cell? ⟨gb995, 0, none⟩ = some (.int .i64 a2_0) := (blk_cell BK995.out 0).trans rfl; have hcz25_1 : w21.cell? ⟨gb995, 1, none⟩ = some (.slice A2_1 l2_1.length c2_1) := (blk_cell BK995.out 1).trans rfl; have hfz25_0 := blk_frozen BK995.out 0; have hfz25_1 := blk_frozen BK995.out 1) | ((with_reducible refine gate_callee (f := 52) rfl ?_); refine goesL_ (some 32) rfl rfl Try.func52 (by kernel_rfl) rfl #[.agg #[.int .i64 a2_0, .slice A2_1 l2_1.length c2_1]] rfl (by (try simp only [List.map_toArray, List.map_cons, List.map_nil]); first | done | rfl | (simp only [List.length_drop, List.length_take]; rfl)) ?_; (with_reducible refine (laws_toClaim.calls k a2_0 _ _ l2_1 t1007 t1008 _ ?side1 ?side2 A11.out).mono ?_); (case side1 => exact Kd.C_below HR2_1.out (by repeat (first | (with_reducible first | exact HB.out | apply below_alloc | apply pw_below_drewN | apply below_drew1 | refine below_set ?_ GE995.out | refine below_set ?_ GE1006.out) | exact HB.out))); (case side2 => exact HC2_1.out); rintro e w26 ⟨v1009, rfl, ho0, hb⟩; refine ⟨_, rfl, ?_⟩; have n0_ := Aside0.mk (Kd.R_elder' (by (with_reducible repeat (first | apply Kd.R_alloc | apply Kd.R_drewN | apply Kd.R_drew)); exact (Kd.R_mono (Kd.R_far (p := ⟨gb1006, 1, none⟩) (Kd.R_far (p := ⟨gb1006, 0, none⟩) (Kd.R_types HO1000.out BK1006.out (by decide)) (fun _ hk => hk.2) (.int .i64 t1001)) (fun _ hk => hk.2) (.slice Ao24 t1002.length co24)) (fun _ h_ => h_.1))) (Kd.R_base ho0) hb); have n1_ := Aside0.mk (Kd.R_elder' (by (with_reducible repeat (first | apply Kd.R_alloc | apply Kd.R_drewN | apply Kd.R_drew)); exact (Kd.R_mono (Kd.R_far (p := ⟨gb1006, 1, none⟩) (Kd.R_far (p := ⟨gb1006, 0, none⟩) (Kd.R_types HO1004.out BK1006.out (by decide)) (fun _ hk => hk.2) (.int .i64 t1001)) (fun _ hk => hk.2) (.slice Ao24 t1002.length co24)) (fun _ h_ => h_.1))) (Kd.R_base ho0) hb); have n2_ := Aside0.mk (Kd.R_lower (Kd.R_new' (Kd.R_new' ho0 (Kd.R_lt (by (with_reducible repeat (first | apply Kd.R_alloc | apply Kd.R_drewN | apply Kd.R_drew)); exact (Kd.R_mono (Kd.R_far (p := ⟨gb1006, 1, none⟩) (Kd.R_far (p := ⟨gb1006, 0, none⟩) (Kd.R_types HO1000.out BK1006.out (by decide)) (fun _ hk => hk.2) (.int .i64 t1001)) (fun _ hk => hk.2) (.slice Ao24 t1002.length co24)) (fun _ h_ => h_.1))))) (Kd.R_lt (by (with_reducible repeat (first | apply Kd.R_alloc | apply Kd.R_drewN | apply Kd.R_drew)); exact (Kd.R_mono (Kd.R_far (p := ⟨gb1006, 1, none⟩) (Kd.R_far (p := ⟨gb1006, 0, none⟩) (Kd.R_types HO1004.out BK1006.out (by decide)) (fun _ hk => hk.2) (.int .i64 t1001)) (fun _ hk => hk.2) (.slice Ao24 t1002.length co24)) (fun _ h_ => h_.1))))) (below_size (by repeat (first | (with_reducible first | exact HB.out | apply below_alloc | apply pw_below_drewN | apply below_drew1 | refine below_set ?_ GE995.out | refine below_set ?_ GE1006.out) | exact HB.out)))); have n3_ := Aside0.mk (blk_below (g := gb995) (o := .cells #[.int .i64 a2_0, .slice A2_1 l2_1.length c2_1] 62 (0, 0)) (by (with_reducible repeat (first | refine blk_drewN ?_ _ | refine blk_drew ?_ | refine blk_alloc ?_ _)); refine blk_far ?_ NB995_1006.out _; (with_reducible repeat (first | refine blk_drewN ?_ _ | refine blk_drew ?_ | refine blk_alloc ?_ _)); refine blk_far ?_ NB995_1006.out _; (with_reducible repeat (first | refine blk_drewN ?_ _ | refine blk_drew ?_ | refine blk_alloc ?_ _)); exact BK995.out) hb); have n4_ := Aside0.mk (blk_below (g := gb1006) (o := .cells #[.int .i64 t1001, .slice Ao24 t1002.length co24] 43 (0, 0)) (by (with_reducible repeat (first | refine blk_drewN ?_ _ | refine blk_drew ?_ | refine blk_alloc ?_ _)); refine blk_put (cs := #[.int .i64 t1001, .slice none 0 0]) ?_ 1 _ rfl; (with_reducible repeat (first | refine blk_drewN ?_ _ | refine blk_drew ?_ | refine blk_alloc ?_ _)); refine blk_put (cs := #[.int .i64 0, .slice none 0 0]) ?_ 0 _ rfl; (with_reducible repeat (first | refine blk_drewN ?_ _ | refine blk_drew ?_ | refine blk_alloc ?_ _)); exact BK1006.out) hb); have n5_ := Aside0.mk (below_step (by repeat (first | (with_reducible first | exact HB.out | apply below_alloc | apply pw_below_drewN | apply below_drew1 | refine below_set ?_ GE995.out | refine below_set ?_ GE1006.out) | exact HB.out)) hb); clear HO1000; clear HO1004; clear BK995; clear BK1006; clear HB; have HO1000 := n0_; have HO1004 := n1_; have HO1010 := n2_; have BK995 := n3_; have BK1006 := n4_; have HB := n5_; clear n0_ n1_ n2_ n3_ n4_ n5_; (try clear hb); (try clear hb2); (try clear hk); (try clear hi); (try clear ho0)) | ((with_reducible refine gate_dst (N := 10) rfl ?_); refine box_event ?hg (N := 10) ?hd (cs := #[.int .i64 0, .slice none 0 0]) (t := 43) ?hr ?_; (case hd => rfl); (case hg => rfl); (case hr => first | (go_simp; done) | (go_simp; rfl)); intro gb1011 hg w27 hbox hb; have n0_ := Aside0.mk (Kd.R_below (by (with_reducible repeat (first | apply Kd.R_alloc | apply Kd.R_drewN | apply Kd.R_drew)); exact HO1000.out) hb); have n1_ := Aside0.mk (Kd.R_below (by (with_reducible repeat (first | apply Kd.R_alloc | apply Kd.R_drewN | apply Kd.R_drew)); exact HO1004.out) hb); have n2_ := Aside0.mk (Kd.R_below (by (with_reducible repeat (first | apply Kd.R_alloc | apply Kd.R_drewN | apply Kd.R_drew)); exact HO1010.out) hb); have n3_ := Aside0.mk (blk_below (g := gb995) (o := .cells #[.int .i64 a2_0, .slice A2_1 l2_1.length c2_1] 62 (0, 0)) (by (with_reducible repeat (first | refine blk_drewN ?_ _ | refine blk_drew ?_ | refine blk_alloc ?_ _)); exact BK995.out) hb); have n4_ := Aside0.mk (blk_below (g := gb1006) (o := .cells #[.int .i64 t1001, .slice Ao24 t1002.length co24] 43 (0, 0)) (by (with_reducible repeat (first | refine blk_drewN ?_ _ | refine blk_drew ?_ | refine blk_alloc ?_ _)); exact BK1006.out) hb); have n5_ := Aside0.mk (below_step (by repeat (first | (with_reducible first | exact HB.out | apply below_alloc | apply pw_below_drewN | apply below_drew1 | refine below_set ?_ GE995.out | refine below_set ?_ GE1006.out) | exact HB.out)) hb); have n6_ := Aside0.mk (hbox); have n7_ := Aside0.mk ((by rw [hg]; exact (below_size (by repeat (first | (with_reducible first | exact HB.out | apply below_alloc | apply pw_below_drewN | apply below_drew1 | refine below_set ?_ GE995.out | refine below_set ?_ GE1006.out) | exact HB.out))) : w.heap.size ≤ gb1011)); have n8_ := Aside0.mk ((by rw [hg]; exact (below_size (by repeat (first | (with_reducible first | exact HB.out | apply below_alloc | apply pw_below_drewN | apply below_drew1 | refine below_set ?_ GE995.out | refine below_set ?_ GE1006.out) | exact HB.out))) : w.heap.size ≤ gb1011)); have n9_ := Aside0.mk ((by rw [hg]; exact Nat.ne_of_lt (blk_lt (g := gb995) (o := .cells #[.int .i64 a2_0, .slice A2_1 l2_1.length c2_1] 62 (0, 0)) (by (with_reducible repeat (first | refine blk_drewN ?_ _ | refine blk_drew ?_ | refine blk_alloc ?_ _)); exact BK995.out)) : gb995 ≠ gb1011)); have n10_ := Aside0.mk ((by rw [hg]; exact Nat.ne_of_gt (blk_lt (g := gb995) (o := .cells #[.int .i64 a2_0, .slice A2_1 l2_1.length c2_1] 62 (0, 0)) (by (with_reducible repeat (first | refine blk_drewN ?_ _ | refine blk_drew ?_ | refine blk_alloc ?_ _)); exact BK995.out)) : gb1011 ≠ gb995)); have n11_ := Aside0.mk ((by rw [hg]; exact Nat.ne_of_lt (blk_lt (g := gb1006) (o := .cells #[.int .i64 t1001, .slice Ao24 t1002.length co24] 43 (0, 0)) (by (with_reducible repeat (first | refine blk_drewN ?_ _ | refine blk_drew ?_ | refine blk_alloc ?_ _)); exact BK1006.out)) : gb1006 ≠ gb1011)); have n12_ := Aside0.mk ((by rw [hg]; exact Nat.ne_of_gt (blk_lt (g := gb1006) (o := .cells #[.int .i64 t1001, .slice Ao24 t1002.length co24] 43 (0, 0)) (by (with_reducible repeat (first | refine blk_drewN ?_ _ | refine blk_drew ?_ | refine blk_alloc ?_ _)); exact BK1006.out)) : gb1011 ≠ gb1006)); clear HO1000; clear HO1004; clear HO1010; clear BK995; clear BK1006; clear HB; have HO1000 := n0_; have HO1004 := n1_; have HO1010 := n2_; have BK995 := n3_; have BK1006 := n4_; have HB := n5_; have BK1011 := n6_; have GW1011 := n7_; have GE1011 := n8_; have NB995_1011 := n9_; have NB1011_995 := n10_; have NB1006_1011 := n11_; have NB1011_1006 := n12_; clear n0_ n1_ n2_ n3_ n4_ n5_ n6_ n7_ n8_ n9_ n10_ n11_ n12_; clear hb hbox hg; have hnb28 := NB1011_995.out; have hnc28 := NB995_1011.out; have hnb29 := NB1011_1006.out; have hnc29 := NB1006_1011.out; have hcz30_0 : w27.cell? ⟨gb1011, 0, none⟩ = some (.int .i64 0) := (blk_cell BK1011.out 0).trans rfl; have hcz30_1 : w27.cell? ⟨gb1011, 1, none⟩ = some (.slice none 0 0) := (blk_cell BK1011.out 1).trans rfl; have hfz30_0 := blk_frozen BK1011.out 0; have hfz30_1 := blk_frozen BK1011.out 1; obtain ⟨Ao31, co31, eo31⟩ := Kd.R_slice HO1010.out; subst eo31) | ((with_reducible refine gate_callee (f := 53) rfl ?_); refine goesL_ (some 37) rfl rfl Try.func53 (by kernel_rfl) rfl #[.int .i64 a0, .int .i64 a1, .agg #[.int .i64 t1007, .slice Ao31 t1008.length co31]] rfl (by (try simp only [List.map_toArray, List.map_cons, List.map_nil]); first | done | rfl | (simp only [List.length_drop, List.length_take]; rfl)) ?_; (with_reducible refine (impl_NestedClaim.calls k a0 a1 t1007 _ _ t1008 t1012 t1013 t1016 _ ?side1 ?side2 A12.out).mono ?_); (case side1 => refine (Kd.R_reads' (e := 83) (base := w.heap.size) (ok := fun k_ => ((True ∧ some k_ ≠ (.slice Ao19 t998.length co19 : Value).ownBlock) ∧ some k_ ≠ (.slice Ao24 t1002.length co24 : Value).ownBlock)) (n := t1008.length) (c := co31) ?_).2.2; exact (by (with_reducible repeat (first | apply Kd.R_alloc | apply Kd.R_drewN | apply Kd.R_drew)); exact (Kd.R_mono (Kd.R_far (p := ⟨gb1011, 1, none⟩) (Kd.R_far (p := ⟨gb1011, 0, none⟩) (Kd.R_types HO1010.out BK1011.out (by decide)) (fun _ hk => hk.2) (.int .i64 t1007)) (fun _ hk => hk.2) (.slice Ao31 t1008.length co31)) (fun _ h_ => h_.1)))); (case side2 => exact (Kd.R_reads' HO1010.out).2.1); rintro e w32 ⟨v1014, rfl, ho0, hb⟩; refine ⟨_, rfl, ?_⟩; have n0_ := Aside0.mk (Kd.R_elder' (by (with_reducible repeat (first | apply Kd.R_alloc | apply Kd.R_drewN | apply Kd.R_drew)); exact (Kd.R_mono (Kd.R_far (p := ⟨gb1011, 1, none⟩) (Kd.R_far (p := ⟨gb1011, 0, none⟩) (Kd.R_types HO1000.out BK1011.out (by decide)) (fun _ hk => hk.2) (.int .i64 t1007)) (fun _ hk => hk.2) (.slice Ao31 t1008.length co31)) (fun _ h_ => h_.1))) (Kd.R_base ho0) hb); have n1_ := Aside0.mk (Kd.R_elder' (by (with_reducible repeat (first | apply Kd.R_alloc | apply Kd.R_drewN | apply Kd.R_drew)); exact (Kd.R_mono (Kd.R_far (p := ⟨gb1011, 1, none⟩) (Kd.R_far (p := ⟨gb1011, 0, none⟩) (Kd.R_types HO1004.out BK1011.out (by decide)) (fun _ hk => hk.2) (.int .i64 t1007)) (fun _ hk => hk.2) (.slice Ao31 t1008.length co31)) (fun _ h_ => h_.1))) (Kd.R_base ho0) hb); have n2_ := Aside0.mk (Kd.R_elder' (by (with_reducible repeat (first | apply Kd.R_alloc | apply Kd.R_drewN | apply Kd.R_drew)); exact (Kd.R_mono (Kd.R_far (p := ⟨gb1011, 1, none⟩) (Kd.R_far (p := ⟨gb1011, 0, none⟩) (Kd.R_types HO1010.out BK1011.out (by decide)) (fun _ hk => hk.2) (.int .i64 t1007)) (fun _ hk => hk.2) (.slice Ao31 t1008.length co31)) (fun _ h_ => h_.1))) (Kd.R_base ho0) hb); have n3_ := Aside0.mk (Kd.R_lower (Kd.R_new' (Kd.R_new' (Kd.R_new' ho0 (Kd.R_lt (by (with_reducible repeat (first | apply Kd.R_alloc | apply Kd.R_drewN | apply Kd.R_drew)); exact (Kd.R_mono (Kd.R_far (p := ⟨gb1011, 1, none⟩) (Kd.R_far (p := ⟨gb1011, 0, none⟩) (Kd.R_types HO1000.out BK1011.out (by decide)) (fun _ hk => hk.2) (.int .i64 t1007)) (fun _ hk => hk.2) (.slice Ao31 t1008.length co31)) (fun _ h_ => h_.1))))) (Kd.R_lt (by (with_reducible repeat (first | apply Kd.R_alloc | apply Kd.R_drewN | apply Kd.R_drew)); exact (Kd.R_mono (Kd.R_far (p := ⟨gb1011, 1, none⟩) (Kd.R_far (p := ⟨gb1011, 0, none⟩) (Kd.R_types HO1004.out BK1011.out (by decide)) (fun _ hk => hk.2) (.int .i64 t1007)) (fun _ hk => hk.2) (.slice Ao31 t1008.length co31)) (fun _ h_ => h_.1))))) (Kd.R_lt (by (with_reducible repeat (first | apply Kd.R_alloc | apply Kd.R_drewN | apply Kd.R_drew)); exact (Kd.R_mono (Kd.R_far (p := ⟨gb1011, 1, none⟩) (Kd.R_far (p := ⟨gb1011, 0, none⟩) (Kd.R_types HO1010.out BK1011.out (by decide)) (fun _ hk => hk.2) (.int .i64 t1007)) (fun _ hk => hk.2) (.slice Ao31 t1008.length co31)) (fun _ h_ => h_.1))))) (below_size (by repeat (first | (with_reducible first | exact HB.out | apply below_alloc | apply pw_below_drewN | apply below_drew1 | refine below_set ?_ GE995.out | refine below_set ?_ GE1006.out | refine below_set ?_ GE1011.out) | exact HB.out)))); have n4_ := Aside0.mk (blk_below (g := gb995) (o := .cells #[.int .i64 a2_0, .slice A2_1 l2_1.length c2_1] 62 (0, 0)) (by (with_reducible repeat (first | refine blk_drewN ?_ _ | refine blk_drew ?_ | refine blk_alloc ?_ _)); refine blk_far ?_ NB995_1011.out _; (with_reducible repeat (first | refine blk_drewN ?_ _ | refine blk_drew ?_ | refine blk_alloc ?_ _)); refine blk_far ?_ NB995_1011.out _; (with_reducible repeat (first | refine blk_drewN ?_ _ | refine blk_drew ?_ | refine blk_alloc ?_ _)); exact BK995.out) hb); have n5_ := Aside0.mk (blk_below (g := gb1006) (o := .cells #[.int .i64 t1001, .slice Ao24 t1002.length co24] 43 (0, 0)) (by (with_reducible repeat (first | refine blk_drewN ?_ _ | refine blk_drew ?_ | refine blk_alloc ?_ _)); refine blk_far ?_ NB1006_1011.out _; (with_reducible repeat (first | refine blk_drewN ?_ _ | refine blk_drew ?_ | refine blk_alloc ?_ _)); refine blk_far ?_ NB1006_1011.out _; (with_reducible repeat (first | refine blk_drewN ?_ _ | refine blk_drew ?_ | refine blk_alloc ?_ _)); exact BK1006.out) hb); have n6_ := Aside0.mk (blk_below (g := gb1011) (o := .cells #[.int .i64 t1007, .slice Ao31 t1008.length co31] 43 (0, 0)) (by (with_reducible repeat (first | refine blk_drewN ?_ _ | refine blk_drew ?_ | refine blk_alloc ?_ _)); refine blk_put (cs := #[.int .i64 t1007, .slice none 0 0]) ?_ 1 _ rfl; (with_reducible repeat (first | refine blk_drewN ?_ _ | refine blk_drew ?_ | refine blk_alloc ?_ _)); refine blk_put (cs := #[.int .i64 0, .slice none 0 0]) ?_ 0 _ rfl; (with_reducible repeat (first | refine blk_drewN ?_ _ | refine blk_drew ?_ | refine blk_alloc ?_ _)); exact BK1011.out) hb); have n7_ := Aside0.mk (below_step (by repeat (first | (with_reducible first | exact HB.out | apply below_alloc | apply pw_below_drewN | apply below_drew1 | refine below_set ?_ GE995.out | refine below_set ?_ GE1006.out | refine below_set ?_ GE1011.out) | exact HB.out)) hb); clear HO1000; clear HO1004; clear HO1010; clear BK995; clear BK1006; clear BK1011; clear HB; have HO1000 := n0_; have HO1004 := n1_; have HO1010 := n2_; have HO1015 := n3_; have BK995 := n4_; have BK1006 := n5_; have BK1011 := n6_; have HB := n7_; clear n0_ n1_ n2_ n3_ n4_ n5_ n6_ n7_; (try clear hb); (try clear hb2); (try clear hk); (try clear hi); (try clear ho0)) | ((with_reducible refine gate_dst (N := 11) rfl ?_); refine box_event ?hg (N := 11) ?hd (cs := #[.int .i64 0, .slice none 0 0]) (t := 43) ?hr ?_; (case hd => rfl); (case hg => rfl); (case hr => first | (go_simp; done) | (go_simp; rfl)); intro gb1017 hg w33 hbox hb; have n0_ := Aside0.mk (Kd.R_below (by (with_reducible repeat (first | apply Kd.R_alloc | apply Kd.R_drewN | apply Kd.R_drew)); exact HO1000.out) hb); have n1_ := Aside0.mk (Kd.R_below (by (with_reducible repeat (first | apply Kd.R_alloc | apply Kd.R_drewN | apply Kd.R_drew)); exact HO1004.out) hb); have n2_ := Aside0.mk (Kd.R_below (by (with_reducible repeat (first | apply Kd.R_alloc | apply Kd.R_drewN | apply Kd.R_drew)); exact HO1010.out) hb); have n3_ := Aside0.mk (Kd.R_below (by (with_reducible repeat (first | apply Kd.R_alloc | apply Kd.R_drewN | apply Kd.R_drew)); exact HO1015.out) hb); have n4_ := Aside0.mk (blk_below (g := gb995) (o := .cells #[.int .i64 a2_0, .slice A2_1 l2_1.length c2_1] 62 (0, 0)) (by (with_reducible repeat (first | refine blk_drewN ?_ _ | refine blk_drew ?_ | refine blk_alloc ?_ _)); exact BK995.out) hb); have n5_ := Aside0.mk (blk_below (g := gb1006) (o := .cells #[.int .i64 t1001, .slice Ao24 t1002.length co24] 43 (0, 0)) (by (with_reducible repeat (first | refine blk_drewN ?_ _ | refine blk_drew ?_ | refine blk_alloc ?_ _)); exact BK1006.out) hb); have n6_ := Aside0.mk (blk_below (g := gb1011) (o := .cells #[.int .i64 t1007, .slice Ao31 t1008.length co31] 43 (0, 0)) (by (with_reducible repeat (first | refine blk_drewN ?_ _ | refine blk_drew ?_ | refine blk_alloc ?_ _)); exact BK1011.out) hb); have n7_ := Aside0.mk (below_step (by repeat (first | (with_reducible first | exact HB.out | apply below_alloc | apply pw_below_drewN | apply below_drew1 | refine below_set ?_ GE995.out | refine below_set ?_ GE1006.out | refine below_set ?_ GE1011.out) | exact HB.out)) hb); have n8_ := Aside0.mk (hbox); have n9_ := Aside0.mk ((by rw [hg]; exact (below_size (by repeat (first | (with_reducible first | exact HB.out | apply below_alloc | apply pw_below_drewN | apply below_drew1 | refine below_set ?_ GE995.out | refine below_set ?_ GE1006.out | refine below_set ?_ GE1011.out) | exact HB.out))) : w.heap.size ≤ gb1017)); have n10_ := Aside0.mk ((by rw [hg]; exact (below_size (by repeat (first | (with_reducible first | exact HB.out | apply below_alloc | apply pw_below_drewN | apply below_drew1 | refine below_set ?_ GE995.out | refine below_set ?_ GE1006.out | refine below_set ?_ GE1011.out) | exact HB.out))) : w.heap.size ≤ gb1017)); have n11_ := Aside0.mk ((by rw [hg]; exact Nat.ne_of_lt (blk_lt (g := gb995) (o := .cells #[.int .i64 a2_0, .slice A2_1 l2_1.length c2_1] 62 (0, 0)) (by (with_reducible repeat (first | refine blk_drewN ?_ _ | refine blk_drew ?_ | refine blk_alloc ?_ _)); exact BK995.out)) : gb995 ≠ gb1017)); have n12_ := Aside0.mk ((by rw [hg]; exact Nat.ne_of_gt (blk_lt (g := gb995) (o := .cells #[.int .i64 a2_0, .slice A2_1 l2_1.length c2_1] 62 (0, 0)) (by (with_reducible repeat (first | refine blk_drewN ?_ _ | refine blk_drew ?_ | refine blk_alloc ?_ _)); exact BK995.out)) : gb1017 ≠ gb995)); have n13_ := Aside0.mk ((by rw [hg]; exact Nat.ne_of_lt (blk_lt (g := gb1006) (o := .cells #[.int .i64 t1001, .slice Ao24 t1002.length co24] 43 (0, 0)) (by (with_reducible repeat (first | refine blk_drewN ?_ _ | refine blk_drew ?_ | refine blk_alloc ?_ _)); exact BK1006.out)) : gb1006 ≠ gb1017)); have n14_ := Aside0.mk ((by rw [hg]; exact Nat.ne_of_gt (blk_lt (g := gb1006) (o := .cells #[.int .i64 t1001, .slice Ao24 t1002.length co24] 43 (0, 0)) (by (with_reducible repeat (first | refine blk_drewN ?_ _ | refine blk_drew ?_ | refine blk_alloc ?_ _)); exact BK1006.out)) : gb1017 ≠ gb1006)); have n15_ := Aside0.mk ((by rw [hg]; exact Nat.ne_of_lt (blk_lt (g := gb1011) (o := .cells #[.int .i64 t1007, .slice Ao31 t1008.length co31] 43 (0, 0)) (by (with_reducible repeat (first | refine blk_drewN ?_ _ | refine blk_drew ?_ | refine blk_alloc ?_ _)); exact BK1011.out)) : gb1011 ≠ gb1017)); have n16_ := Aside0.mk ((by rw [hg]; exact Nat.ne_of_gt (blk_lt (g := gb1011) (o := .cells #[.int .i64 t1007, .slice Ao31 t1008.length co31] 43 (0, 0)) (by (with_reducible repeat (first | refine blk_drewN ?_ _ | refine blk_drew ?_ | refine blk_alloc ?_ _)); exact BK1011.out)) : gb1017 ≠ gb1011)); clear HO1000; clear HO1004; clear HO1010; clear HO1015; clear BK995; clear BK1006; clear BK1011; clear HB; have HO1000 := n0_; have HO1004 := n1_; have HO1010 := n2_; have HO1015 := n3_; have BK995 := n4_; have BK1006 := n5_; have BK1011 := n6_; have HB := n7_; have BK1017 := n8_; have GW1017 := n9_; have GE1017 := n10_; have NB995_1017 := n11_; have NB1017_995 := n12_; have NB1006_1017 := n13_; have NB1017_1006 := n14_; have NB1011_1017 := n15_; have NB1017_1011 := n16_; clear n0_ n1_ n2_ n3_ n4_ n5_ n6_ n7_ n8_ n9_ n10_ n11_ n12_ n13_ n14_ n15_ n16_; clear hb hbox hg; have hnb34 := NB1017_995.out; have hnc34 := NB995_1017.out; have hnb35 := NB1017_1006.out; have hnc35 := NB1006_1017.out; have hnb36 := NB1017_1011.out; have hnc36 := NB1011_1017.out; have hcz37_0 : w33.cell? ⟨gb1017, 0, none⟩ = some (.int .i64 0) := (blk_cell BK1017.out 0).trans rfl; have hcz37_1 : w33.cell? ⟨gb1017, 1, none⟩ = some (.slice none 0 0) := (blk_cell BK1017.out 1).trans rfl; have hfz37_0 := blk_frozen BK1017.out 0; have hfz37_1 := blk_frozen BK1017.out 1; obtain ⟨Ao38, co38, eo38⟩ := Kd.R_slice HO1015.out; subst eo38))
    (try simp only [Act.put, List.setIfInBounds_toArray, List.set_cons_zero, List.set_cons_succ])
    go_cut [48] (fun v48 wc => ∃ (kq : Nat) (x48_12 : Bool), v48 = .bool x48_12 ∧ Aside0 (laws_FnExactNestedClaim.j0 kq a0 a1 t1005 t1016 x48_12 a2_0 l2_1 t1001 t1002 t1007 t1008 t1012 t1013 = some r) ∧ Aside0 (kq ≤ k) ∧ Aside0 (Kd.R k83 83 wc w.heap.size (fun k_ => some k_ ≠ ((.slice Ao31 t1008.length co31) : Value).ownBlock ∧ some k_ ≠ ((.slice Ao38 t1013.length co38) : Value).ownBlock) (.slice Ao24 t1002.length co24) t1002) ∧ Aside0 (Kd.R k83 83 wc w.heap.size (fun k_ => some k_ ≠ ((.slice Ao24 t1002.length co24) : Value).ownBlock ∧ some k_ ≠ ((.slice Ao38 t1013.length co38) : Value).ownBlock) (.slice Ao31 t1008.length co31) t1008) ∧ Aside0 (Kd.R k83 83 wc w.heap.size (fun k_ => some k_ ≠ ((.slice Ao24 t1002.length co24) : Value).ownBlock ∧ some k_ ≠ ((.slice Ao31 t1008.length co31) : Value).ownBlock) (.slice Ao38 t1013.length co38) t1013) ∧ Aside0 (wc.heap[gb995]? = some (.cells #[.int .i64 a2_0, (.slice A2_1 l2_1.length c2_1)] 62 (0, 0))) ∧ Aside0 (wc.heap[gb1006]? = some (.cells #[.int .i64 t1001, (.slice Ao24 t1002.length co24)] 43 (0, 0))) ∧ Aside0 (wc.heap[gb1011]? = some (.cells #[.int .i64 t1007, (.slice Ao31 t1008.length co31)] 43 (0, 0))) ∧ Aside0 (wc.heap[gb1017]? = some (.cells #[.int .i64 t1012, (.slice Ao38 t1013.length co38)] 43 (0, 0))) ∧ Aside0 (Below w.heap.size w wc))
    case first =>
      have H := HC13.out
      clear HC13
      replace H := Option.bind_eq_some_iff.mp H
      obtain ⟨t1018, A390, H⟩ := H
      replace H : (if t1018 = true then (laws_FnExactNestedClaim.j0 k a0 a1 t1005 t1016 (t1016 != t1005) a2_0 l2_1 t1001 t1002 t1007 t1008 t1012 t1013) else (laws_FnExactNestedClaim.j0 k a0 a1 t1005 t1016 true a2_0 l2_1 t1001 t1002 t1007 t1008 t1012 t1013)) = some r := H
      have A39 := Aside0.mk A390
      clear A390
      by_cases c40 : t1018 = true
      · subst c40
        have H1 : (laws_FnExactNestedClaim.j0 k a0 a1 t1005 t1016 (t1016 != t1005) a2_0 l2_1 t1001 t1002 t1007 t1008 t1012 t1013) = some r := by rw [if_pos rfl] at H; exact H
        clear H
        have H := H1
        clear H1
        have H' := Aside0.mk H
        clear H
        have hnb41 := NB1017_995.out
        have hnc41 := NB995_1017.out
        have hnb42 := NB1017_1006.out
        have hnc42 := NB1006_1017.out
        have hnb43 := NB1017_1011.out
        have hnc43 := NB1011_1017.out
        have hcz44_0 : w33.cell? ⟨gb1017, 0, none⟩ = some (.int .i64 0) := (blk_cell BK1017.out 0).trans rfl
        have hcz44_1 : w33.cell? ⟨gb1017, 1, none⟩ = some (.slice none 0 0) := (blk_cell BK1017.out 1).trans rfl
        have hfz44_0 := blk_frozen BK1017.out 0
        have hfz44_1 := blk_frozen BK1017.out 1
        have hnb45 := NB1006_995.out
        have hnc45 := NB995_1006.out
        have hnb46 := NB1006_1011.out
        have hnc46 := NB1011_1006.out
        have hcz47_0 : w33.cell? ⟨gb1006, 0, none⟩ = some (.int .i64 t1001) := (blk_cell BK1006.out 0).trans rfl
        have hcz47_1 : w33.cell? ⟨gb1006, 1, none⟩ = some (.slice Ao24 t1002.length co24) := (blk_cell BK1006.out 1).trans rfl
        have hfz47_0 := blk_frozen BK1006.out 0
        have hfz47_1 := blk_frozen BK1006.out 1
        go_wp2_with (first | ((with_reducible refine gate_callee (f := 35) rfl ?_); refine goesL_ (some 42) rfl rfl Try.func35 (by kernel_rfl) rfl #[.agg #[.int .i64 t1012, .slice Ao38 t1013.length co38], .agg #[.int .i64 t1001, .slice Ao24 t1002.length co24]] rfl (by (try simp only [List.map_toArray, List.map_cons, List.map_nil]); first | done | rfl | (simp only [List.length_drop, List.length_take]; rfl)) ?_; (with_reducible refine (laws_eqClaim.calls k t1012 _ _ t1013 t1001 _ _ t1002 true _ ?side1 ?side2 ?side3 ?side4 A39.out).mono ?_); (case side1 => refine (Kd.R_reads' (e := 83) (base := w.heap.size) (ok := fun k_ => (((True ∧ some k_ ≠ (.slice Ao19 t998.length co19 : Value).ownBlock) ∧ some k_ ≠ (.slice Ao24 t1002.length co24 : Value).ownBlock) ∧ some k_ ≠ (.slice Ao31 t1008.length co31 : Value).ownBlock)) (n := t1013.length) (c := co38) ?_).2.2; exact (by (with_reducible repeat (first | apply Kd.R_alloc | apply Kd.R_drewN | apply Kd.R_drew)); exact (Kd.R_mono (Kd.R_far (p := ⟨gb1017, 1, none⟩) (Kd.R_far (p := ⟨gb1017, 0, none⟩) (Kd.R_types HO1015.out BK1017.out (by decide)) (fun _ hk => hk.2) (.int .i64 t1012)) (fun _ hk => hk.2) (.slice Ao38 t1013.length co38)) (fun _ h_ => h_.1)))); (case side2 => exact (Kd.R_reads' HO1015.out).2.1); (case side3 => refine (Kd.R_reads' (e := 83) (base := w.heap.size) (ok := fun k_ => (((True ∧ some k_ ≠ (.slice Ao19 t998.length co19 : Value).ownBlock) ∧ some k_ ≠ (.slice Ao31 t1008.length co31 : Value).ownBlock) ∧ some k_ ≠ (.slice Ao38 t1013.length co38 : Value).ownBlock)) (n := t1002.length) (c := co24) ?_).2.2; exact (by (with_reducible repeat (first | apply Kd.R_alloc | apply Kd.R_drewN | apply Kd.R_drew)); exact (Kd.R_mono (Kd.R_far (p := ⟨gb1017, 1, none⟩) (Kd.R_far (p := ⟨gb1017, 0, none⟩) (Kd.R_types HO1004.out BK1017.out (by decide)) (fun _ hk => hk.2) (.int .i64 t1012)) (fun _ hk => hk.2) (.slice Ao38 t1013.length co38)) (fun _ h_ => h_.1)))); (case side4 => exact (Kd.R_reads' HO1004.out).2.1); rintro e w48 ⟨rfl, hb⟩; refine ⟨_, rfl, ?_⟩; have n0_ := Aside0.mk (Kd.R_below (by (with_reducible repeat (first | apply Kd.R_alloc | apply Kd.R_drewN | apply Kd.R_drew)); exact (Kd.R_mono (Kd.R_far (p := ⟨gb1017, 1, none⟩) (Kd.R_far (p := ⟨gb1017, 0, none⟩) (Kd.R_types HO1000.out BK1017.out (by decide)) (fun _ hk => hk.2) (.int .i64 t1012)) (fun _ hk => hk.2) (.slice Ao38 t1013.length co38)) (fun _ h_ => h_.1))) hb); have n1_ := Aside0.mk (Kd.R_below (by (with_reducible repeat (first | apply Kd.R_alloc | apply Kd.R_drewN | apply Kd.R_drew)); exact (Kd.R_mono (Kd.R_far (p := ⟨gb1017, 1, none⟩) (Kd.R_far (p := ⟨gb1017, 0, none⟩) (Kd.R_types HO1004.out BK1017.out (by decide)) (fun _ hk => hk.2) (.int .i64 t1012)) (fun _ hk => hk.2) (.slice Ao38 t1013.length co38)) (fun _ h_ => h_.1))) hb); have n2_ := Aside0.mk (Kd.R_below (by (with_reducible repeat (first | apply Kd.R_alloc | apply Kd.R_drewN | apply Kd.R_drew)); exact (Kd.R_mono (Kd.R_far (p := ⟨gb1017, 1, none⟩) (Kd.R_far (p := ⟨gb1017, 0, none⟩) (Kd.R_types HO1010.out BK1017.out (by decide)) (fun _ hk => hk.2) (.int .i64 t1012)) (fun _ hk => hk.2) (.slice Ao38 t1013.length co38)) (fun _ h_ => h_.1))) hb); have n3_ := Aside0.mk (Kd.R_below (by (with_reducible repeat (first | apply Kd.R_alloc | apply Kd.R_drewN | apply Kd.R_drew)); exact (Kd.R_mono (Kd.R_far (p := ⟨gb1017, 1, none⟩) (Kd.R_far (p := ⟨gb1017, 0, none⟩) (Kd.R_types HO1015.out BK1017.out (by decide)) (fun _ hk => hk.2) (.int .i64 t1012)) (fun _ hk => hk.2) (.slice Ao38 t1013.length co38)) (fun _ h_ => h_.1))) hb); have n4_ := Aside0.mk (blk_below (g := gb995) (o := .cells #[.int .i64 a2_0, .slice A2_1 l2_1.length c2_1] 62 (0, 0)) (by (with_reducible repeat (first | refine blk_drewN ?_ _ | refine blk_drew ?_ | refine blk_alloc ?_ _)); refine blk_far ?_ NB995_1017.out _; (with_reducible repeat (first | refine blk_drewN ?_ _ | refine blk_drew ?_ | refine blk_alloc ?_ _)); refine blk_far ?_ NB995_1017.out _; (with_reducible repeat (first | refine blk_drewN ?_ _ | refine blk_drew ?_ | refine blk_alloc ?_ _)); exact BK995.out) hb); have n5_ := Aside0.mk (blk_below (g := gb1006) (o := .cells #[.int .i64 t1001, .slice Ao24 t1002.length co24] 43 (0, 0)) (by (with_reducible repeat (first | refine blk_drewN ?_ _ | refine blk_drew ?_ | refine blk_alloc ?_ _)); refine blk_far ?_ NB1006_1017.out _; (with_reducible repeat (first | refine blk_drewN ?_ _ | refine blk_drew ?_ | refine blk_alloc ?_ _)); refine blk_far ?_ NB1006_1017.out _; (with_reducible repeat (first | refine blk_drewN ?_ _ | refine blk_drew ?_ | refine blk_alloc ?_ _)); exact BK1006.out) hb); have n6_ := Aside0.mk (blk_below (g := gb1011) (o := .cells #[.int .i64 t1007, .slice Ao31 t1008.length co31] 43 (0, 0)) (by (with_reducible repeat (first | refine blk_drewN ?_ _ | refine blk_drew ?_ | refine blk_alloc ?_ _)); refine blk_far ?_ NB1011_1017.out _; (with_reducible repeat (first | refine blk_drewN ?_ _ | refine blk_drew ?_ | refine blk_alloc ?_ _)); refine blk_far ?_ NB1011_1017.out _; (with_reducible repeat (first | refine blk_drewN ?_ _ | refine blk_drew ?_ | refine blk_alloc ?_ _)); exact BK1011.out) hb); have n7_ := Aside0.mk (blk_below (g := gb1017) (o := .cells #[.int .i64 t1012, .slice Ao38 t1013.length co38] 43 (0, 0)) (by (with_reducible repeat (first | refine blk_drewN ?_ _ | refine blk_drew ?_ | refine blk_alloc ?_ _)); refine blk_put (cs := #[.int .i64 t1012, .slice none 0 0]) ?_ 1 _ rfl; (with_reducible repeat (first | refine blk_drewN ?_ _ | refine blk_drew ?_ | refine blk_alloc ?_ _)); refine blk_put (cs := #[.int .i64 0, .slice none 0 0]) ?_ 0 _ rfl; (with_reducible repeat (first | refine blk_drewN ?_ _ | refine blk_drew ?_ | refine blk_alloc ?_ _)); exact BK1017.out) hb); have n8_ := Aside0.mk (below_step (by repeat (first | (with_reducible first | exact HB.out | apply below_alloc | apply pw_below_drewN | apply below_drew1 | refine below_set ?_ GE995.out | refine below_set ?_ GE1006.out | refine below_set ?_ GE1011.out | refine below_set ?_ GE1017.out) | exact HB.out)) hb); clear HO1000; clear HO1004; clear HO1010; clear HO1015; clear BK995; clear BK1006; clear BK1011; clear BK1017; clear HB; have HO1000 := n0_; have HO1004 := n1_; have HO1010 := n2_; have HO1015 := n3_; have BK995 := n4_; have BK1006 := n5_; have BK1011 := n6_; have BK1017 := n7_; have HB := n8_; clear n0_ n1_ n2_ n3_ n4_ n5_ n6_ n7_ n8_; (try clear hb); (try clear hb2); (try clear hk); (try clear hi)))
        go_meet
        case rel => exact ⟨_, ((t1016 != t1005)), (by first | rfl | (simp; done) | (simp [*]; done)), H', ⟨by first | omega | exact Nat.le_refl _⟩, ⟨by (with_reducible repeat (first | apply Kd.R_alloc | apply Kd.R_drewN | apply Kd.R_drew)); exact Kd.R_mono HO1004.out (fun _ hk => ⟨hk.1.2, hk.2⟩)⟩, ⟨by (with_reducible repeat (first | apply Kd.R_alloc | apply Kd.R_drewN | apply Kd.R_drew)); exact Kd.R_mono HO1010.out (fun _ hk => ⟨hk.1.2, hk.2⟩)⟩, ⟨by (with_reducible repeat (first | apply Kd.R_alloc | apply Kd.R_drewN | apply Kd.R_drew)); exact Kd.R_mono HO1015.out (fun _ hk => ⟨hk.1.2, hk.2⟩)⟩, ⟨by (with_reducible repeat (first | refine blk_drewN ?_ _ | refine blk_drew ?_ | refine blk_alloc ?_ _)); exact BK995.out⟩, ⟨by (with_reducible repeat (first | refine blk_drewN ?_ _ | refine blk_drew ?_ | refine blk_alloc ?_ _)); exact BK1006.out⟩, ⟨by (with_reducible repeat (first | refine blk_drewN ?_ _ | refine blk_drew ?_ | refine blk_alloc ?_ _)); exact BK1011.out⟩, ⟨by (with_reducible repeat (first | refine blk_drewN ?_ _ | refine blk_drew ?_ | refine blk_alloc ?_ _)); exact BK1017.out⟩, ⟨by repeat (first | (with_reducible first | exact HB.out | apply below_alloc | apply pw_below_drewN | apply below_drew1 | refine below_set ?_ GE995.out | refine below_set ?_ GE1006.out | refine below_set ?_ GE1011.out | refine below_set ?_ GE1017.out) | exact HB.out)⟩⟩
      · replace c40 := Bool.eq_false_iff.mpr c40
        subst c40
        have H1 : (laws_FnExactNestedClaim.j0 k a0 a1 t1005 t1016 true a2_0 l2_1 t1001 t1002 t1007 t1008 t1012 t1013) = some r := by rw [if_neg (show ¬ (false = true) by decide)] at H; exact H
        clear H
        have H := H1
        clear H1
        have H' := Aside0.mk H
        clear H
        have hnb49 := NB1017_995.out
        have hnc49 := NB995_1017.out
        have hnb50 := NB1017_1006.out
        have hnc50 := NB1006_1017.out
        have hnb51 := NB1017_1011.out
        have hnc51 := NB1011_1017.out
        have hcz52_0 : w33.cell? ⟨gb1017, 0, none⟩ = some (.int .i64 0) := (blk_cell BK1017.out 0).trans rfl
        have hcz52_1 : w33.cell? ⟨gb1017, 1, none⟩ = some (.slice none 0 0) := (blk_cell BK1017.out 1).trans rfl
        have hfz52_0 := blk_frozen BK1017.out 0
        have hfz52_1 := blk_frozen BK1017.out 1
        have hnb53 := NB1006_995.out
        have hnc53 := NB995_1006.out
        have hnb54 := NB1006_1011.out
        have hnc54 := NB1011_1006.out
        have hcz55_0 : w33.cell? ⟨gb1006, 0, none⟩ = some (.int .i64 t1001) := (blk_cell BK1006.out 0).trans rfl
        have hcz55_1 : w33.cell? ⟨gb1006, 1, none⟩ = some (.slice Ao24 t1002.length co24) := (blk_cell BK1006.out 1).trans rfl
        have hfz55_0 := blk_frozen BK1006.out 0
        have hfz55_1 := blk_frozen BK1006.out 1
        go_wp2_with (first | ((with_reducible refine gate_callee (f := 35) rfl ?_); refine goesL_ (some 42) rfl rfl Try.func35 (by kernel_rfl) rfl #[.agg #[.int .i64 t1012, .slice Ao38 t1013.length co38], .agg #[.int .i64 t1001, .slice Ao24 t1002.length co24]] rfl (by (try simp only [List.map_toArray, List.map_cons, List.map_nil]); first | done | rfl | (simp only [List.length_drop, List.length_take]; rfl)) ?_; (with_reducible refine (laws_eqClaim.calls k t1012 _ _ t1013 t1001 _ _ t1002 false _ ?side1 ?side2 ?side3 ?side4 A39.out).mono ?_); (case side1 => refine (Kd.R_reads' (e := 83) (base := w.heap.size) (ok := fun k_ => (((True ∧ some k_ ≠ (.slice Ao19 t998.length co19 : Value).ownBlock) ∧ some k_ ≠ (.slice Ao24 t1002.length co24 : Value).ownBlock) ∧ some k_ ≠ (.slice Ao31 t1008.length co31 : Value).ownBlock)) (n := t1013.length) (c := co38) ?_).2.2; exact (by (with_reducible repeat (first | apply Kd.R_alloc | apply Kd.R_drewN | apply Kd.R_drew)); exact (Kd.R_mono (Kd.R_far (p := ⟨gb1017, 1, none⟩) (Kd.R_far (p := ⟨gb1017, 0, none⟩) (Kd.R_types HO1015.out BK1017.out (by decide)) (fun _ hk => hk.2) (.int .i64 t1012)) (fun _ hk => hk.2) (.slice Ao38 t1013.length co38)) (fun _ h_ => h_.1)))); (case side2 => exact (Kd.R_reads' HO1015.out).2.1); (case side3 => refine (Kd.R_reads' (e := 83) (base := w.heap.size) (ok := fun k_ => (((True ∧ some k_ ≠ (.slice Ao19 t998.length co19 : Value).ownBlock) ∧ some k_ ≠ (.slice Ao31 t1008.length co31 : Value).ownBlock) ∧ some k_ ≠ (.slice Ao38 t1013.length co38 : Value).ownBlock)) (n := t1002.length) (c := co24) ?_).2.2; exact (by (with_reducible repeat (first | apply Kd.R_alloc | apply Kd.R_drewN | apply Kd.R_drew)); exact (Kd.R_mono (Kd.R_far (p := ⟨gb1017, 1, none⟩) (Kd.R_far (p := ⟨gb1017, 0, none⟩) (Kd.R_types HO1004.out BK1017.out (by decide)) (fun _ hk => hk.2) (.int .i64 t1012)) (fun _ hk => hk.2) (.slice Ao38 t1013.length co38)) (fun _ h_ => h_.1)))); (case side4 => exact (Kd.R_reads' HO1004.out).2.1); rintro e w56 ⟨rfl, hb⟩; refine ⟨_, rfl, ?_⟩; have n0_ := Aside0.mk (Kd.R_below (by (with_reducible repeat (first | apply Kd.R_alloc | apply Kd.R_drewN | apply Kd.R_drew)); exact (Kd.R_mono (Kd.R_far (p := ⟨gb1017, 1, none⟩) (Kd.R_far (p := ⟨gb1017, 0, none⟩) (Kd.R_types HO1000.out BK1017.out (by decide)) (fun _ hk => hk.2) (.int .i64 t1012)) (fun _ hk => hk.2) (.slice Ao38 t1013.length co38)) (fun _ h_ => h_.1))) hb); have n1_ := Aside0.mk (Kd.R_below (by (with_reducible repeat (first | apply Kd.R_alloc | apply Kd.R_drewN | apply Kd.R_drew)); exact (Kd.R_mono (Kd.R_far (p := ⟨gb1017, 1, none⟩) (Kd.R_far (p := ⟨gb1017, 0, none⟩) (Kd.R_types HO1004.out BK1017.out (by decide)) (fun _ hk => hk.2) (.int .i64 t1012)) (fun _ hk => hk.2) (.slice Ao38 t1013.length co38)) (fun _ h_ => h_.1))) hb); have n2_ := Aside0.mk (Kd.R_below (by (with_reducible repeat (first | apply Kd.R_alloc | apply Kd.R_drewN | apply Kd.R_drew)); exact (Kd.R_mono (Kd.R_far (p := ⟨gb1017, 1, none⟩) (Kd.R_far (p := ⟨gb1017, 0, none⟩) (Kd.R_types HO1010.out BK1017.out (by decide)) (fun _ hk => hk.2) (.int .i64 t1012)) (fun _ hk => hk.2) (.slice Ao38 t1013.length co38)) (fun _ h_ => h_.1))) hb); have n3_ := Aside0.mk (Kd.R_below (by (with_reducible repeat (first | apply Kd.R_alloc | apply Kd.R_drewN | apply Kd.R_drew)); exact (Kd.R_mono (Kd.R_far (p := ⟨gb1017, 1, none⟩) (Kd.R_far (p := ⟨gb1017, 0, none⟩) (Kd.R_types HO1015.out BK1017.out (by decide)) (fun _ hk => hk.2) (.int .i64 t1012)) (fun _ hk => hk.2) (.slice Ao38 t1013.length co38)) (fun _ h_ => h_.1))) hb); have n4_ := Aside0.mk (blk_below (g := gb995) (o := .cells #[.int .i64 a2_0, .slice A2_1 l2_1.length c2_1] 62 (0, 0)) (by (with_reducible repeat (first | refine blk_drewN ?_ _ | refine blk_drew ?_ | refine blk_alloc ?_ _)); refine blk_far ?_ NB995_1017.out _; (with_reducible repeat (first | refine blk_drewN ?_ _ | refine blk_drew ?_ | refine blk_alloc ?_ _)); refine blk_far ?_ NB995_1017.out _; (with_reducible repeat (first | refine blk_drewN ?_ _ | refine blk_drew ?_ | refine blk_alloc ?_ _)); exact BK995.out) hb); have n5_ := Aside0.mk (blk_below (g := gb1006) (o := .cells #[.int .i64 t1001, .slice Ao24 t1002.length co24] 43 (0, 0)) (by (with_reducible repeat (first | refine blk_drewN ?_ _ | refine blk_drew ?_ | refine blk_alloc ?_ _)); refine blk_far ?_ NB1006_1017.out _; (with_reducible repeat (first | refine blk_drewN ?_ _ | refine blk_drew ?_ | refine blk_alloc ?_ _)); refine blk_far ?_ NB1006_1017.out _; (with_reducible repeat (first | refine blk_drewN ?_ _ | refine blk_drew ?_ | refine blk_alloc ?_ _)); exact BK1006.out) hb); have n6_ := Aside0.mk (blk_below (g := gb1011) (o := .cells #[.int .i64 t1007, .slice Ao31 t1008.length co31] 43 (0, 0)) (by (with_reducible repeat (first | refine blk_drewN ?_ _ | refine blk_drew ?_ | refine blk_alloc ?_ _)); refine blk_far ?_ NB1011_1017.out _; (with_reducible repeat (first | refine blk_drewN ?_ _ | refine blk_drew ?_ | refine blk_alloc ?_ _)); refine blk_far ?_ NB1011_1017.out _; (with_reducible repeat (first | refine blk_drewN ?_ _ | refine blk_drew ?_ | refine blk_alloc ?_ _)); exact BK1011.out) hb); have n7_ := Aside0.mk (blk_below (g := gb1017) (o := .cells #[.int .i64 t1012, .slice Ao38 t1013.length co38] 43 (0, 0)) (by (with_reducible repeat (first | refine blk_drewN ?_ _ | refine blk_drew ?_ | refine blk_alloc ?_ _)); refine blk_put (cs := #[.int .i64 t1012, .slice none 0 0]) ?_ 1 _ rfl; (with_reducible repeat (first | refine blk_drewN ?_ _ | refine blk_drew ?_ | refine blk_alloc ?_ _)); refine blk_put (cs := #[.int .i64 0, .slice none 0 0]) ?_ 0 _ rfl; (with_reducible repeat (first | refine blk_drewN ?_ _ | refine blk_drew ?_ | refine blk_alloc ?_ _)); exact BK1017.out) hb); have n8_ := Aside0.mk (below_step (by repeat (first | (with_reducible first | exact HB.out | apply below_alloc | apply pw_below_drewN | apply below_drew1 | refine below_set ?_ GE995.out | refine below_set ?_ GE1006.out | refine below_set ?_ GE1011.out | refine below_set ?_ GE1017.out) | exact HB.out)) hb); clear HO1000; clear HO1004; clear HO1010; clear HO1015; clear BK995; clear BK1006; clear BK1011; clear BK1017; clear HB; have HO1000 := n0_; have HO1004 := n1_; have HO1010 := n2_; have HO1015 := n3_; have BK995 := n4_; have BK1006 := n5_; have BK1011 := n6_; have BK1017 := n7_; have HB := n8_; clear n0_ n1_ n2_ n3_ n4_ n5_ n6_ n7_ n8_; (try clear hb); (try clear hb2); (try clear hk); (try clear hi)))
        go_meet
        case rel => exact ⟨_, (true), (by first | rfl | (simp; done) | (simp [*]; done)), H', ⟨by first | omega | exact Nat.le_refl _⟩, ⟨by (with_reducible repeat (first | apply Kd.R_alloc | apply Kd.R_drewN | apply Kd.R_drew)); exact Kd.R_mono HO1004.out (fun _ hk => ⟨hk.1.2, hk.2⟩)⟩, ⟨by (with_reducible repeat (first | apply Kd.R_alloc | apply Kd.R_drewN | apply Kd.R_drew)); exact Kd.R_mono HO1010.out (fun _ hk => ⟨hk.1.2, hk.2⟩)⟩, ⟨by (with_reducible repeat (first | apply Kd.R_alloc | apply Kd.R_drewN | apply Kd.R_drew)); exact Kd.R_mono HO1015.out (fun _ hk => ⟨hk.1.2, hk.2⟩)⟩, ⟨by (with_reducible repeat (first | refine blk_drewN ?_ _ | refine blk_drew ?_ | refine blk_alloc ?_ _)); exact BK995.out⟩, ⟨by (with_reducible repeat (first | refine blk_drewN ?_ _ | refine blk_drew ?_ | refine blk_alloc ?_ _)); exact BK1006.out⟩, ⟨by (with_reducible repeat (first | refine blk_drewN ?_ _ | refine blk_drew ?_ | refine blk_alloc ?_ _)); exact BK1011.out⟩, ⟨by (with_reducible repeat (first | refine blk_drewN ?_ _ | refine blk_drew ?_ | refine blk_alloc ?_ _)); exact BK1017.out⟩, ⟨by repeat (first | (with_reducible first | exact HB.out | apply below_alloc | apply pw_below_drewN | apply below_drew1 | refine below_set ?_ GE995.out | refine below_set ?_ GE1006.out | refine below_set ?_ GE1011.out | refine below_set ?_ GE1017.out) | exact HB.out)⟩⟩
    case rest =>
      clear HC13
      try clear c1
      try clear c2
      try clear p2
      try clear c3
      try clear c4
      try clear c5
      try clear c5b0
      try clear c12
      try clear c22
      try clear c28
      try clear c29
      try clear c34
      try clear c35
      try clear c36
      try clear c40
      try clear c41
      try clear c42
      try clear c43
      try clear c45
      try clear c46
      try clear c49
      try clear c50
      try clear c51
      try clear c52
      try clear c53
      try clear c54
      try clear hcz15_0
      try clear hcz15_1
      try clear hcz17_0
      try clear hcz17_1
      try clear hcz23_0
      try clear hcz23_1
      try clear hcz25_0
      try clear hcz25_1
      try clear hcz30_0
      try clear hcz30_1
      try clear hcz37_0
      try clear hcz37_1
      try clear hcz44_0
      try clear hcz44_1
      try clear hcz47_0
      try clear hcz47_1
      try clear hcz52_0
      try clear hcz52_1
      try clear hcz55_0
      try clear hcz55_1
      try clear hcz7_0
      try clear hcz7_1
      try clear hfz15_0
      try clear hfz15_1
      try clear hfz17_0
      try clear hfz17_1
      try clear hfz23_0
      try clear hfz23_1
      try clear hfz25_0
      try clear hfz25_1
      try clear hfz30_0
      try clear hfz30_1
      try clear hfz37_0
      try clear hfz37_1
      try clear hfz44_0
      try clear hfz44_1
      try clear hfz47_0
      try clear hfz47_1
      try clear hfz52_0
      try clear hfz52_1
      try clear hfz55_0
      try clear hfz55_1
      try clear hfz7_0
      try clear hfz7_1
      obtain ⟨kq, x48_12, rfl, HA, HJ12, HO_1007001, HO_1012001, HO_1018001, BK995, BK1006, BK1011, BK1017, HB⟩ := hcut
      cases kq with
      | zero => exact absurd HA.out (by simp [laws_FnExactNestedClaim.j0])
      | succ kj12 =>
        have H := HA.out
        clear HA
        simp only [laws_FnExactNestedClaim.j0] at H
        by_cases c57 : x48_12 = true
        · subst c57
          have H1 : (some false) = some r := by rw [if_pos rfl] at H; exact H
          clear H
          have H := H1
          clear H1
          obtain rfl := Option.some.inj H
          go_wp2
          go_ret
          exact ⟨by first | rfl | (simp [errW_none, errW_some] <;> rfl) | (simp [*, errW_none, errW_some] <;> rfl), by repeat (first | (with_reducible first | exact HB.out | apply below_alloc | apply pw_below_drewN | apply below_drew1 | refine below_set ?_ GE995.out | refine below_set ?_ GE1006.out | refine below_set ?_ GE1011.out | refine below_set ?_ GE1017.out) | exact HB.out)⟩
        · replace c57 := Bool.eq_false_iff.mpr c57
          subst c57
          have H1 : ((laws_toClaim.f kj12 a2_0 l2_1).bind fun bt1019 => ((laws_eqClaim.f kj12 t1007 t1008 bt1019.1 bt1019.2).bind fun t1023 => (if t1023 = true then ((laws_markClaim.f kj12 t1007 t1008 1).bind fun bt1024 => (if bt1024.1 < 0 then (laws_FnExactNestedClaim.j1 kj12 a0 a1 t1005 true a2_0 l2_1 t1001 t1002 t1012 t1013) else ((laws_eqClaim.f kj12 t1012 t1013 t1001 t1002).bind fun t1026 => (if t1026 = true then (laws_FnExactNestedClaim.j1 kj12 a0 a1 t1005 (t1016 != t1005) a2_0 l2_1 t1001 t1002 t1012 t1013) else (laws_FnExactNestedClaim.j1 kj12 a0 a1 t1005 true a2_0 l2_1 t1001 t1002 t1012 t1013))))) else (some false)))) = some r := by rw [if_neg (show ¬ (false = true) by decide)] at H; exact H
          clear H
          have H := H1
          clear H1
          replace H := Option.bind_eq_some_iff.mp H
          obtain ⟨⟨t1019, t1020⟩, A580, H⟩ := H
          replace H : ((laws_eqClaim.f kj12 t1007 t1008 t1019 t1020).bind fun t1023 => (if t1023 = true then ((laws_markClaim.f kj12 t1007 t1008 1).bind fun bt1024 => (if bt1024.1 < 0 then (laws_FnExactNestedClaim.j1 kj12 a0 a1 t1005 true a2_0 l2_1 t1001 t1002 t1012 t1013) else ((laws_eqClaim.f kj12 t1012 t1013 t1001 t1002).bind fun t1026 => (if t1026 = true then (laws_FnExactNestedClaim.j1 kj12 a0 a1 t1005 (t1016 != t1005) a2_0 l2_1 t1001 t1002 t1012 t1013) else (laws_FnExactNestedClaim.j1 kj12 a0 a1 t1005 true a2_0 l2_1 t1001 t1002 t1012 t1013))))) else (some false))) = some r := H
          have A58 := Aside0.mk A580
          clear A580
          replace H := Option.bind_eq_some_iff.mp H
          obtain ⟨t1023, A590, H⟩ := H
          replace H : (if t1023 = true then ((laws_markClaim.f kj12 t1007 t1008 1).bind fun bt1024 => (if bt1024.1 < 0 then (laws_FnExactNestedClaim.j1 kj12 a0 a1 t1005 true a2_0 l2_1 t1001 t1002 t1012 t1013) else ((laws_eqClaim.f kj12 t1012 t1013 t1001 t1002).bind fun t1026 => (if t1026 = true then (laws_FnExactNestedClaim.j1 kj12 a0 a1 t1005 (t1016 != t1005) a2_0 l2_1 t1001 t1002 t1012 t1013) else (laws_FnExactNestedClaim.j1 kj12 a0 a1 t1005 true a2_0 l2_1 t1001 t1002 t1012 t1013))))) else (some false)) = some r := H
          have A59 := Aside0.mk A590
          clear A590
          by_cases c60 : t1023 = true
          · subst c60
            have H1 : ((laws_markClaim.f kj12 t1007 t1008 1).bind fun bt1024 => (if bt1024.1 < 0 then (laws_FnExactNestedClaim.j1 kj12 a0 a1 t1005 true a2_0 l2_1 t1001 t1002 t1012 t1013) else ((laws_eqClaim.f kj12 t1012 t1013 t1001 t1002).bind fun t1026 => (if t1026 = true then (laws_FnExactNestedClaim.j1 kj12 a0 a1 t1005 (t1016 != t1005) a2_0 l2_1 t1001 t1002 t1012 t1013) else (laws_FnExactNestedClaim.j1 kj12 a0 a1 t1005 true a2_0 l2_1 t1001 t1002 t1012 t1013))))) = some r := by rw [if_pos rfl] at H; exact H
            clear H
            have H := H1
            clear H1
            replace H := Option.bind_eq_some_iff.mp H
            obtain ⟨⟨t1024, t1025⟩, A610, H⟩ := H
            replace H : (if t1024 < 0 then (laws_FnExactNestedClaim.j1 kj12 a0 a1 t1005 true a2_0 l2_1 t1001 t1002 t1012 t1013) else ((laws_eqClaim.f kj12 t1012 t1013 t1001 t1002).bind fun t1026 => (if t1026 = true then (laws_FnExactNestedClaim.j1 kj12 a0 a1 t1005 (t1016 != t1005) a2_0 l2_1 t1001 t1002 t1012 t1013) else (laws_FnExactNestedClaim.j1 kj12 a0 a1 t1005 true a2_0 l2_1 t1001 t1002 t1012 t1013)))) = some r := H
            have A61 := Aside0.mk A610
            clear A610
            have HC62 := Aside0.mk H
            clear H
            try go_wp2
            have n0_ := Aside0.mk (Kd.R_drew HO_1007001.out)
            have n1_ := Aside0.mk (Kd.R_drew HO_1012001.out)
            have n2_ := Aside0.mk (Kd.R_drew HO_1018001.out)
            have n3_ := Aside0.mk (blk_drew BK995.out)
            have n4_ := Aside0.mk (blk_drew BK1006.out)
            have n5_ := Aside0.mk (blk_drew BK1011.out)
            have n6_ := Aside0.mk (blk_drew BK1017.out)
            have n7_ := Aside0.mk (below_drew1 HB.out)
            clear HO_1007001
            clear HO_1012001
            clear HO_1018001
            clear BK995
            clear BK1006
            clear BK1011
            clear BK1017
            clear HB
            have HO_1007001 := n0_
            have HO_1012001 := n1_
            have HO_1018001 := n2_
            have BK995 := n3_
            have BK1006 := n4_
            have BK1011 := n5_
            have BK1017 := n6_
            have HB := n7_
            clear n0_ n1_ n2_ n3_ n4_ n5_ n6_ n7_
            refine start_ (n := 5) (S := fun w' => w'.cell? ⟨gb1011, 0, none⟩ = some (.int .i64 t1007) ∧ w'.cell? ⟨gb1011, 1, none⟩ = some (.slice Ao31 t1008.length co31) ∧ w'.cell? ⟨gb995, 0, none⟩ = some (.int .i64 a2_0) ∧ w'.cell? ⟨gb995, 1, none⟩ = some (.slice A2_1 l2_1.length c2_1)) (ds := []) #[false, false, false, false, false] (by kernel_rfl) rfl rfl ⟨(blk_cell BK1011.out 0).trans rfl, (blk_cell BK1011.out 1).trans rfl, (blk_cell BK995.out 0).trans rfl, (blk_cell BK995.out 1).trans rfl⟩ (fun hHeld => ?_)
            generalize wc.drew = w63 at HO_1007001 HO_1012001 HO_1018001 BK995 BK1006 BK1011 BK1017 HB hHeld ⊢
            refine take_ (i := 0) (N := some 49) (v := ?_) (a' := ?_) #[true, false, false, false, false] rfl rfl (by kernel_rfl) (fun _ _ _ h => h) (Or.inl ⟨by rfl, ?_⟩) hHeld ?_ ?_
            rotate_left
            · rintro w' ⟨s0, s1, s2, s3⟩
              go_simp
              with_reducible rfl
            rotate_left
            · simp only [Act.put, List.setIfInBounds_toArray, List.set_cons_zero, List.set_cons_succ, i64_w, i32_w]
              rfl
            refine take_ (i := 1) (N := some 50) (v := ?_) (a' := ?_) #[true, true, false, false, false] rfl rfl (by kernel_rfl) (fun _ _ _ h => h) (Or.inl ⟨by rfl, ?_⟩) hHeld ?_ ?_
            rotate_left
            · rintro w' ⟨s0, s1, s2, s3⟩
              go_simp
              with_reducible rfl
            rotate_left
            · simp only [Act.put, List.setIfInBounds_toArray, List.set_cons_zero, List.set_cons_succ, i64_w, i32_w]
              rfl
            refine one_ (i := 2) (N := some 51) #[true, true, true, false, false] rfl rfl (by kernel_rfl) (by decide) (fun K hK => ?_)
            refine goes_ Try.func52 (by kernel_rfl) rfl #[.agg #[.int .i64 a2_0, .slice A2_1 l2_1.length c2_1]] (by rfl) rfl rfl (by (try simp only [List.map_toArray, List.map_cons, List.map_nil]); first | done | rfl | (simp only [List.length_drop, List.length_take]; rfl)) ?_
            with_reducible refine (laws_toClaim.calls kj12 a2_0 _ _ l2_1 t1019 t1020 _ ?side1 ?side2 A58.out).mono ?_
            (case side1 => repeat (first | exact (Kd.C_below HR2_1.out HB.out) | (with_reducible refine Kd.C_alloc ?_ _) | (with_reducible refine Kd.C_drewN ?_ _) | (with_reducible refine Kd.C_drew ?_)))
            (case side2 => exact HC2_1.out)
            rintro e w64 ⟨v1021, rfl, ho0, hb⟩
            refine ⟨_, rfl, ?_⟩
            have n0_ := Aside0.mk (Kd.R_elder' (by (with_reducible repeat (first | apply Kd.R_alloc | apply Kd.R_drewN | apply Kd.R_drew)); exact HO_1007001.out) (Kd.R_base ho0) hb)
            have n1_ := Aside0.mk (Kd.R_elder' (by (with_reducible repeat (first | apply Kd.R_alloc | apply Kd.R_drewN | apply Kd.R_drew)); exact HO_1012001.out) (Kd.R_base ho0) hb)
            have n2_ := Aside0.mk (Kd.R_elder' (by (with_reducible repeat (first | apply Kd.R_alloc | apply Kd.R_drewN | apply Kd.R_drew)); exact HO_1018001.out) (Kd.R_base ho0) hb)
            have n3_ := Aside0.mk (Kd.R_lower (Kd.R_new' (Kd.R_new' (Kd.R_new' ho0 (Kd.R_lt (by (with_reducible repeat (first | apply Kd.R_alloc | apply Kd.R_drewN | apply Kd.R_drew)); exact HO_1007001.out))) (Kd.R_lt (by (with_reducible repeat (first | apply Kd.R_alloc | apply Kd.R_drewN | apply Kd.R_drew)); exact HO_1012001.out))) (Kd.R_lt (by (with_reducible repeat (first | apply Kd.R_alloc | apply Kd.R_drewN | apply Kd.R_drew)); exact HO_1018001.out))) (below_size (by repeat (first | (with_reducible first | exact HB.out | apply below_alloc | apply pw_below_drewN | apply below_drew1 | refine below_set ?_ GE995.out | refine below_set ?_ GE1006.out | refine below_set ?_ GE1011.out | refine below_set ?_ GE1017.out) | exact HB.out))))
            have n4_ := Aside0.mk (blk_below (g := gb995) (o := .cells #[.int .i64 a2_0, .slice A2_1 l2_1.length c2_1] 62 (0, 0)) (by (with_reducible repeat (first | refine blk_drewN ?_ _ | refine blk_drew ?_ | refine blk_alloc ?_ _)); exact BK995.out) hb)
            have n5_ := Aside0.mk (blk_below (g := gb1006) (o := .cells #[.int .i64 t1001, .slice Ao24 t1002.length co24] 43 (0, 0)) (by (with_reducible repeat (first | refine blk_drewN ?_ _ | refine blk_drew ?_ | refine blk_alloc ?_ _)); exact BK1006.out) hb)
            have n6_ := Aside0.mk (blk_below (g := gb1011) (o := .cells #[.int .i64 t1007, .slice Ao31 t1008.length co31] 43 (0, 0)) (by (with_reducible repeat (first | refine blk_drewN ?_ _ | refine blk_drew ?_ | refine blk_alloc ?_ _)); exact BK1011.out) hb)
            have n7_ := Aside0.mk (blk_below (g := gb1017) (o := .cells #[.int .i64 t1012, .slice Ao38 t1013.length co38] 43 (0, 0)) (by (with_reducible repeat (first | refine blk_drewN ?_ _ | refine blk_drew ?_ | refine blk_alloc ?_ _)); exact BK1017.out) hb)
            have n8_ := Aside0.mk (below_step (by repeat (first | (with_reducible first | exact HB.out | apply below_alloc | apply pw_below_drewN | apply below_drew1 | refine below_set ?_ GE995.out | refine below_set ?_ GE1006.out | refine below_set ?_ GE1011.out | refine below_set ?_ GE1017.out) | exact HB.out)) hb)
            clear HO_1007001
            clear HO_1012001
            clear HO_1018001
            clear BK995
            clear BK1006
            clear BK1011
            clear BK1017
            clear HB
            have HO_1007001 := n0_
            have HO_1012001 := n1_
            have HO_1018001 := n2_
            have HO1022 := n3_
            have BK995 := n4_
            have BK1006 := n5_
            have BK1011 := n6_
            have BK1017 := n7_
            have HB := n8_
            clear n0_ n1_ n2_ n3_ n4_ n5_ n6_ n7_ n8_
            (try clear hb)
            (try clear hb2)
            (try clear hk)
            (try clear hi)
            (try clear ho0)
            obtain ⟨Ao65, co65, eo65⟩ := Kd.R_slice HO1022.out
            (first | subst eo65 | (injection eo65 with f1_ f2_ f3_; have f4_ := f1_.symm; have f5_ := f3_.symm; clear f1_ f2_ f3_; subst f4_; subst f5_))
            refine hK.out _ _ ⟨(blk_cell BK1011.out 0).trans rfl, (blk_cell BK1011.out 1).trans rfl, (blk_cell BK995.out 0).trans rfl, (blk_cell BK995.out 1).trans rfl⟩ (fun hHeld => ?_)
            clear hK K
            refine norm_ (a' := ?_) ?_ ?_
            rotate_left
            · show Act.put _ (some 51) _ = _
              simp only [Act.put, List.setIfInBounds_toArray, List.set_cons_zero, List.set_cons_succ, i64_w, i32_w]
              rfl
            refine one_ (i := 3) (N := some 52) #[true, true, true, true, false] rfl rfl (by kernel_rfl) (by decide) (fun K hK => ?_)
            refine goes_ Try.func35 (by kernel_rfl) rfl #[.agg #[.int .i64 t1007, .slice Ao31 t1008.length co31], .agg #[.int .i64 t1019, .slice Ao65 t1020.length co65]] (by rfl) rfl rfl (by (try simp only [List.map_toArray, List.map_cons, List.map_nil]); first | done | rfl | (simp only [List.length_drop, List.length_take]; rfl)) ?_
            with_reducible refine (laws_eqClaim.calls kj12 t1007 _ _ t1008 t1019 _ _ t1020 true _ ?side1 ?side2 ?side3 ?side4 A59.out).mono ?_
            (case side1 => repeat (first | exact (Kd.R_reads' HO_1012001.out).2.2 | (with_reducible refine Kd.C_alloc ?_ _) | (with_reducible refine Kd.C_drewN ?_ _) | (with_reducible refine Kd.C_drew ?_)))
            (case side2 => exact (Kd.R_reads' HO_1012001.out).2.1)
            (case side3 => repeat (first | exact (Kd.R_reads' HO1022.out).2.2 | (with_reducible refine Kd.C_alloc ?_ _) | (with_reducible refine Kd.C_drewN ?_ _) | (with_reducible refine Kd.C_drew ?_)))
            (case side4 => exact (Kd.R_reads' HO1022.out).2.1)
            rintro e w66 ⟨rfl, hb⟩
            refine ⟨_, rfl, ?_⟩
            have n0_ := Aside0.mk (Kd.R_below (by (with_reducible repeat (first | apply Kd.R_alloc | apply Kd.R_drewN | apply Kd.R_drew)); exact HO_1007001.out) hb)
            have n1_ := Aside0.mk (Kd.R_below (by (with_reducible repeat (first | apply Kd.R_alloc | apply Kd.R_drewN | apply Kd.R_drew)); exact HO_1012001.out) hb)
            have n2_ := Aside0.mk (Kd.R_below (by (with_reducible repeat (first | apply Kd.R_alloc | apply Kd.R_drewN | apply Kd.R_drew)); exact HO_1018001.out) hb)
            have n3_ := Aside0.mk (Kd.R_below (by (with_reducible repeat (first | apply Kd.R_alloc | apply Kd.R_drewN | apply Kd.R_drew)); exact HO1022.out) hb)
            have n4_ := Aside0.mk (blk_below (g := gb995) (o := .cells #[.int .i64 a2_0, .slice A2_1 l2_1.length c2_1] 62 (0, 0)) (by (with_reducible repeat (first | refine blk_drewN ?_ _ | refine blk_drew ?_ | refine blk_alloc ?_ _)); exact BK995.out) hb)
            have n5_ := Aside0.mk (blk_below (g := gb1006) (o := .cells #[.int .i64 t1001, .slice Ao24 t1002.length co24] 43 (0, 0)) (by (with_reducible repeat (first | refine blk_drewN ?_ _ | refine blk_drew ?_ | refine blk_alloc ?_ _)); exact BK1006.out) hb)
            have n6_ := Aside0.mk (blk_below (g := gb1011) (o := .cells #[.int .i64 t1007, .slice Ao31 t1008.length co31] 43 (0, 0)) (by (with_reducible repeat (first | refine blk_drewN ?_ _ | refine blk_drew ?_ | refine blk_alloc ?_ _)); exact BK1011.out) hb)
            have n7_ := Aside0.mk (blk_below (g := gb1017) (o := .cells #[.int .i64 t1012, .slice Ao38 t1013.length co38] 43 (0, 0)) (by (with_reducible repeat (first | refine blk_drewN ?_ _ | refine blk_drew ?_ | refine blk_alloc ?_ _)); exact BK1017.out) hb)
            have n8_ := Aside0.mk (below_step (by repeat (first | (with_reducible first | exact HB.out | apply below_alloc | apply pw_below_drewN | apply below_drew1 | refine below_set ?_ GE995.out | refine below_set ?_ GE1006.out | refine below_set ?_ GE1011.out | refine below_set ?_ GE1017.out) | exact HB.out)) hb)
            clear HO_1007001
            clear HO_1012001
            clear HO_1018001
            clear HO1022
            clear BK995
            clear BK1006
            clear BK1011
            clear BK1017
            clear HB
            have HO_1007001 := n0_
            have HO_1012001 := n1_
            have HO_1018001 := n2_
            have HO1022 := n3_
            have BK995 := n4_
            have BK1006 := n5_
            have BK1011 := n6_
            have BK1017 := n7_
            have HB := n8_
            clear n0_ n1_ n2_ n3_ n4_ n5_ n6_ n7_ n8_
            (try clear hb)
            (try clear hb2)
            (try clear hk)
            (try clear hi)
            refine hK.out _ _ ⟨(blk_cell BK1011.out 0).trans rfl, (blk_cell BK1011.out 1).trans rfl, (blk_cell BK995.out 0).trans rfl, (blk_cell BK995.out 1).trans rfl⟩ (fun hHeld => ?_)
            clear hK K
            refine norm_ (a' := ?_) ?_ ?_
            rotate_left
            · show Act.put _ (some 52) _ = _
              simp only [Act.put, List.setIfInBounds_toArray, List.set_cons_zero, List.set_cons_succ, i64_w, i32_w]
              rfl
            refine pure_ (i := 4) (N := some 53) (v := ?_) (a' := ?_) #[true, true, true, true, true] rfl rfl (by kernel_rfl) (fun _ _ _ h => h) (Or.inl ⟨by rfl, ?_⟩) ?_ ?_
            rotate_left
            · intro w'
              go_simp
              with_reducible rfl
            rotate_left
            · simp only [Act.put, List.setIfInBounds_toArray, List.set_cons_zero, List.set_cons_succ, i64_w, i32_w]
              rfl
            refine done_ (by kernel_rfl) ?_
            have hnb67 := NB1011_995.out
            have hnc67 := NB995_1011.out
            have hnb68 := NB1011_1006.out
            have hnc68 := NB1006_1011.out
            have hnb69 := NB1011_1017.out
            have hnc69 := NB1017_1011.out
            have hcz70_0 : w66.cell? ⟨gb1011, 0, none⟩ = some (.int .i64 t1007) := (blk_cell BK1011.out 0).trans rfl
            have hcz70_1 : w66.cell? ⟨gb1011, 1, none⟩ = some (.slice Ao31 t1008.length co31) := (blk_cell BK1011.out 1).trans rfl
            have hfz70_0 := blk_frozen BK1011.out 0
            have hfz70_1 := blk_frozen BK1011.out 1
            go_upto_region 14 with (first | ((with_reducible refine gate_callee (f := 36) rfl ?_); refine goesL_ (some 56) rfl rfl Try.func36 (by kernel_rfl) rfl #[.agg #[.int .i64 t1007, .slice Ao31 t1008.length co31], .int .i64 1] rfl (by (try simp only [List.map_toArray, List.map_cons, List.map_nil]); first | done | rfl | (simp only [List.length_drop, List.length_take]; rfl)) ?_; (with_reducible refine (laws_markClaim.calls kj12 t1007 (fun k_ => some k_ = (.slice Ao31 t1008.length co31 : Value).ownBlock) (.slice Ao31 t1008.length co31) t1008 1 t1024 t1025 w _ ?side1 ?side2 A61.out).mono ?_); (case side1 => repeat (first | (with_reducible first | exact HB.out | apply below_alloc | apply pw_below_drewN | apply below_drew1 | refine below_set ?_ GE995.out | refine below_set ?_ GE1006.out | refine below_set ?_ GE1011.out | refine below_set ?_ GE1017.out) | exact HB.out)); (case side2 => exact Kd.R_tight rfl HO_1012001.out); rintro e w71 ⟨rfl, hy0, hb, hkp⟩; refine ⟨_, rfl, ?_⟩; have n0_ := Aside0.mk (Kd.R_mono (ok' := fun k_ => some k_ ≠ (.slice Ao31 t1008.length co31 : Value).ownBlock ∧ some k_ ≠ (.slice Ao38 t1013.length co38 : Value).ownBlock ∧ some k_ ≠ (.slice Ao65 t1020.length co65 : Value).ownBlock) (Kd.R_keptB (HO_1007001.out) hkp (fun k_ hk_ hs_ => (hk_.1.1) hs_)) (fun k_ hk_ => ⟨hk_.1.1.1, hk_.1.1.2, hk_.1.2⟩)); have n1_ := Aside0.mk (Kd.R_reok rfl hy0 (fun k_ e_ => HO_1012001.out.1 k_ e_)); have n2_ := Aside0.mk (Kd.R_mono (ok' := fun k_ => some k_ ≠ (.slice Ao24 t1002.length co24 : Value).ownBlock ∧ some k_ ≠ (.slice Ao31 t1008.length co31 : Value).ownBlock ∧ some k_ ≠ (.slice Ao65 t1020.length co65 : Value).ownBlock) (Kd.R_keptB (HO_1018001.out) hkp (fun k_ hk_ hs_ => (hk_.1.2) hs_)) (fun k_ hk_ => ⟨hk_.1.1.1, hk_.1.1.2, hk_.1.2⟩)); have n3_ := Aside0.mk (blk_kept (by (with_reducible repeat (first | refine blk_drewN ?_ _ | refine blk_drew ?_ | refine blk_alloc ?_ _)); exact BK995.out) hkp (fun hs_ => (fun e_ => (Kd.R_ne HO_1012001.out BK995.out (by decide)) e_) hs_)); have n4_ := Aside0.mk (blk_kept (by (with_reducible repeat (first | refine blk_drewN ?_ _ | refine blk_drew ?_ | refine blk_alloc ?_ _)); exact BK1006.out) hkp (fun hs_ => (fun e_ => (Kd.R_ne HO_1012001.out BK1006.out (by decide)) e_) hs_)); have n5_ := Aside0.mk (blk_kept (by (with_reducible repeat (first | refine blk_drewN ?_ _ | refine blk_drew ?_ | refine blk_alloc ?_ _)); exact BK1011.out) hkp (fun hs_ => (fun e_ => (Kd.R_ne HO_1012001.out BK1011.out (by decide)) e_) hs_)); have n6_ := Aside0.mk (blk_kept (by (with_reducible repeat (first | refine blk_drewN ?_ _ | refine blk_drew ?_ | refine blk_alloc ?_ _)); exact BK1017.out) hkp (fun hs_ => (fun e_ => (Kd.R_ne HO_1012001.out BK1017.out (by decide)) e_) hs_)); have n7_ := Aside0.mk (Kd.R_mono (ok' := fun k_ => some k_ ≠ (.slice Ao24 t1002.length co24 : Value).ownBlock ∧ some k_ ≠ (.slice Ao31 t1008.length co31 : Value).ownBlock ∧ some k_ ≠ (.slice Ao38 t1013.length co38 : Value).ownBlock) (Kd.R_keptB (HO1022.out) hkp (fun k_ hk_ hs_ => (hk_.1.2) hs_)) (fun k_ hk_ => ⟨hk_.1.1.1.2, hk_.1.1.2, hk_.1.2⟩)); have n8_ := Aside0.mk (hb); clear HO_1007001; clear HO_1012001; clear HO_1018001; clear BK995; clear BK1006; clear BK1011; clear BK1017; clear HO1022; clear HB; have HO_1007001 := n0_; have HO_1012001 := n1_; have HO_1018001 := n2_; have BK995 := n3_; have BK1006 := n4_; have BK1011 := n5_; have BK1017 := n6_; have HO1022 := n7_; have HB := n8_; clear n0_ n1_ n2_ n3_ n4_ n5_ n6_ n7_ n8_; (try clear hb); (try clear hkp); (try clear hy0)))
            (try simp only [Act.put, List.setIfInBounds_toArray, List.set_cons_zero, List.set_cons_succ])
            go_cut [69] (fun v69 wc => ∃ (kq : Nat) (x69_61 : Bool), v69 = .bool x69_61 ∧ Aside0 (laws_FnExactNestedClaim.j1 kq a0 a1 t1005 x69_61 a2_0 l2_1 t1001 t1002 t1012 t1013 = some r) ∧ Aside0 (kq ≤ kj12) ∧ Aside0 (Kd.R k83 83 wc w.heap.size (fun k_ => some k_ ≠ ((.slice Ao31 t1008.length co31) : Value).ownBlock ∧ some k_ ≠ ((.slice Ao38 t1013.length co38) : Value).ownBlock) (.slice Ao24 t1002.length co24) t1002) ∧ Aside0 (Kd.R k83 83 wc w.heap.size (fun k_ => some k_ ≠ ((.slice Ao24 t1002.length co24) : Value).ownBlock ∧ some k_ ≠ ((.slice Ao38 t1013.length co38) : Value).ownBlock) (.slice Ao31 t1008.length co31) t1025) ∧ Aside0 (Kd.R k83 83 wc w.heap.size (fun k_ => some k_ ≠ ((.slice Ao24 t1002.length co24) : Value).ownBlock ∧ some k_ ≠ ((.slice Ao31 t1008.length co31) : Value).ownBlock) (.slice Ao38 t1013.length co38) t1013) ∧ Aside0 (wc.heap[gb995]? = some (.cells #[.int .i64 a2_0, (.slice A2_1 l2_1.length c2_1)] 62 (0, 0))) ∧ Aside0 (wc.heap[gb1006]? = some (.cells #[.int .i64 t1001, (.slice Ao24 t1002.length co24)] 43 (0, 0))) ∧ Aside0 (wc.heap[gb1011]? = some (.cells #[.int .i64 t1007, (.slice Ao31 t1008.length co31)] 43 (0, 0))) ∧ Aside0 (wc.heap[gb1017]? = some (.cells #[.int .i64 t1012, (.slice Ao38 t1013.length co38)] 43 (0, 0))) ∧ Aside0 (Below w.heap.size w wc))
            case first =>
              have H := HC62.out
              clear HC62
              by_cases c72 : t1024 < 0
              · rw [if_pos c72] at H
                have c72b0 : decide (t1024 < 0) = true := decide_eq_true c72
                clear c72
                (first | rw [c72b0] | (simp only [i64_w, i32_w]; rw [c72b0]) | skip)
                have H' := Aside0.mk H
                clear H
                go_wp2
                go_meet
                case rel => exact ⟨_, (true), (by first | rfl | (simp; done) | (simp [*]; done)), H', ⟨by have := HJ12.out; first | omega | exact Nat.le_refl _⟩, ⟨by (with_reducible repeat (first | apply Kd.R_alloc | apply Kd.R_drewN | apply Kd.R_drew)); exact Kd.R_mono HO_1007001.out (fun _ hk => ⟨hk.1, hk.2.1⟩)⟩, ⟨by (with_reducible repeat (first | apply Kd.R_alloc | apply Kd.R_drewN | apply Kd.R_drew)); exact Kd.R_mono HO_1012001.out (fun _ hk => ⟨hk.1.1, hk.1.2⟩)⟩, ⟨by (with_reducible repeat (first | apply Kd.R_alloc | apply Kd.R_drewN | apply Kd.R_drew)); exact Kd.R_mono HO_1018001.out (fun _ hk => ⟨hk.1, hk.2.1⟩)⟩, ⟨by (with_reducible repeat (first | refine blk_drewN ?_ _ | refine blk_drew ?_ | refine blk_alloc ?_ _)); exact BK995.out⟩, ⟨by (with_reducible repeat (first | refine blk_drewN ?_ _ | refine blk_drew ?_ | refine blk_alloc ?_ _)); exact BK1006.out⟩, ⟨by (with_reducible repeat (first | refine blk_drewN ?_ _ | refine blk_drew ?_ | refine blk_alloc ?_ _)); exact BK1011.out⟩, ⟨by (with_reducible repeat (first | refine blk_drewN ?_ _ | refine blk_drew ?_ | refine blk_alloc ?_ _)); exact BK1017.out⟩, ⟨by repeat (first | (with_reducible first | exact HB.out | apply below_alloc | apply pw_below_drewN | apply below_drew1 | refine below_set ?_ GE995.out | refine below_set ?_ GE1006.out | refine below_set ?_ GE1011.out | refine below_set ?_ GE1017.out) | exact HB.out)⟩⟩
              · rw [if_neg c72] at H
                have c72b0 : decide (t1024 < 0) = false := decide_eq_false c72
                clear c72
                (first | rw [c72b0] | (simp only [i64_w, i32_w]; rw [c72b0]) | skip)
                replace H := Option.bind_eq_some_iff.mp H
                obtain ⟨t1026, A730, H⟩ := H
                replace H : (if t1026 = true then (laws_FnExactNestedClaim.j1 kj12 a0 a1 t1005 (t1016 != t1005) a2_0 l2_1 t1001 t1002 t1012 t1013) else (laws_FnExactNestedClaim.j1 kj12 a0 a1 t1005 true a2_0 l2_1 t1001 t1002 t1012 t1013)) = some r := H
                have A73 := Aside0.mk A730
                clear A730
                by_cases c74 : t1026 = true
                · subst c74
                  have H1 : (laws_FnExactNestedClaim.j1 kj12 a0 a1 t1005 (t1016 != t1005) a2_0 l2_1 t1001 t1002 t1012 t1013) = some r := by rw [if_pos rfl] at H; exact H
                  clear H
                  have H := H1
                  clear H1
                  have H' := Aside0.mk H
                  clear H
                  have hnb75 := NB1017_995.out
                  have hnc75 := NB995_1017.out
                  have hnb76 := NB1017_1006.out
                  have hnc76 := NB1006_1017.out
                  have hnb77 := NB1017_1011.out
                  have hnc77 := NB1011_1017.out
                  have hcz78_0 : w71.cell? ⟨gb1017, 0, none⟩ = some (.int .i64 t1012) := (blk_cell BK1017.out 0).trans rfl
                  have hcz78_1 : w71.cell? ⟨gb1017, 1, none⟩ = some (.slice Ao38 t1013.length co38) := (blk_cell BK1017.out 1).trans rfl
                  have hfz78_0 := blk_frozen BK1017.out 0
                  have hfz78_1 := blk_frozen BK1017.out 1
                  have hnb79 := NB1006_995.out
                  have hnc79 := NB995_1006.out
                  have hnb80 := NB1006_1011.out
                  have hnc80 := NB1011_1006.out
                  have hcz81_0 : w71.cell? ⟨gb1006, 0, none⟩ = some (.int .i64 t1001) := (blk_cell BK1006.out 0).trans rfl
                  have hcz81_1 : w71.cell? ⟨gb1006, 1, none⟩ = some (.slice Ao24 t1002.length co24) := (blk_cell BK1006.out 1).trans rfl
                  have hfz81_0 := blk_frozen BK1006.out 0
                  have hfz81_1 := blk_frozen BK1006.out 1
                  go_wp2_with (first | (go_at_call 35; (with_reducible refine (laws_eqClaim.calls kj12 t1012 _ _ t1013 t1001 _ _ t1002 true _ ?side1 ?side2 ?side3 ?side4 A73.out).mono ?_); (case side1 => repeat (first | exact (Kd.R_reads' HO_1018001.out).2.2 | (with_reducible refine Kd.C_alloc ?_ _) | (with_reducible refine Kd.C_drewN ?_ _) | (with_reducible refine Kd.C_drew ?_))); (case side2 => exact (Kd.R_reads' HO_1018001.out).2.1); (case side3 => repeat (first | exact (Kd.R_reads' HO_1007001.out).2.2 | (with_reducible refine Kd.C_alloc ?_ _) | (with_reducible refine Kd.C_drewN ?_ _) | (with_reducible refine Kd.C_drew ?_))); (case side4 => exact (Kd.R_reads' HO_1007001.out).2.1); rintro e w82 ⟨rfl, hb⟩; have n0_ := Aside0.mk (Kd.R_below (by (with_reducible repeat (first | apply Kd.R_alloc | apply Kd.R_drewN | apply Kd.R_drew)); exact HO_1007001.out) hb); have n1_ := Aside0.mk (Kd.R_below (by (with_reducible repeat (first | apply Kd.R_alloc | apply Kd.R_drewN | apply Kd.R_drew)); exact HO_1012001.out) hb); have n2_ := Aside0.mk (Kd.R_below (by (with_reducible repeat (first | apply Kd.R_alloc | apply Kd.R_drewN | apply Kd.R_drew)); exact HO_1018001.out) hb); have n3_ := Aside0.mk (Kd.R_below (by (with_reducible repeat (first | apply Kd.R_alloc | apply Kd.R_drewN | apply Kd.R_drew)); exact HO1022.out) hb); have n4_ := Aside0.mk (blk_below (g := gb995) (o := .cells #[.int .i64 a2_0, .slice A2_1 l2_1.length c2_1] 62 (0, 0)) (by (with_reducible repeat (first | refine blk_drewN ?_ _ | refine blk_drew ?_ | refine blk_alloc ?_ _)); exact BK995.out) hb); have n5_ := Aside0.mk (blk_below (g := gb1006) (o := .cells #[.int .i64 t1001, .slice Ao24 t1002.length co24] 43 (0, 0)) (by (with_reducible repeat (first | refine blk_drewN ?_ _ | refine blk_drew ?_ | refine blk_alloc ?_ _)); exact BK1006.out) hb); have n6_ := Aside0.mk (blk_below (g := gb1011) (o := .cells #[.int .i64 t1007, .slice Ao31 t1008.length co31] 43 (0, 0)) (by (with_reducible repeat (first | refine blk_drewN ?_ _ | refine blk_drew ?_ | refine blk_alloc ?_ _)); exact BK1011.out) hb); have n7_ := Aside0.mk (blk_below (g := gb1017) (o := .cells #[.int .i64 t1012, .slice Ao38 t1013.length co38] 43 (0, 0)) (by (with_reducible repeat (first | refine blk_drewN ?_ _ | refine blk_drew ?_ | refine blk_alloc ?_ _)); exact BK1017.out) hb); have n8_ := Aside0.mk (below_step (by repeat (first | (with_reducible first | exact HB.out | apply below_alloc | apply pw_below_drewN | apply below_drew1 | refine below_set ?_ GE995.out | refine below_set ?_ GE1006.out | refine below_set ?_ GE1011.out | refine below_set ?_ GE1017.out) | exact HB.out)) hb); clear HO_1007001; clear HO_1012001; clear HO_1018001; clear HO1022; clear BK995; clear BK1006; clear BK1011; clear BK1017; clear HB; have HO_1007001 := n0_; have HO_1012001 := n1_; have HO_1018001 := n2_; have HO1022 := n3_; have BK995 := n4_; have BK1006 := n5_; have BK1011 := n6_; have BK1017 := n7_; have HB := n8_; clear n0_ n1_ n2_ n3_ n4_ n5_ n6_ n7_ n8_; (try clear hb); (try clear hb2); (try clear hk); (try clear hi)))
                  go_meet
                  case rel => exact ⟨_, ((t1016 != t1005)), (by first | rfl | (simp; done) | (simp [*]; done)), H', ⟨by have := HJ12.out; first | omega | exact Nat.le_refl _⟩, ⟨by (with_reducible repeat (first | apply Kd.R_alloc | apply Kd.R_drewN | apply Kd.R_drew)); exact Kd.R_mono HO_1007001.out (fun _ hk => ⟨hk.1, hk.2.1⟩)⟩, ⟨by (with_reducible repeat (first | apply Kd.R_alloc | apply Kd.R_drewN | apply Kd.R_drew)); exact Kd.R_mono HO_1012001.out (fun _ hk => ⟨hk.1.1, hk.1.2⟩)⟩, ⟨by (with_reducible repeat (first | apply Kd.R_alloc | apply Kd.R_drewN | apply Kd.R_drew)); exact Kd.R_mono HO_1018001.out (fun _ hk => ⟨hk.1, hk.2.1⟩)⟩, ⟨by (with_reducible repeat (first | refine blk_drewN ?_ _ | refine blk_drew ?_ | refine blk_alloc ?_ _)); exact BK995.out⟩, ⟨by (with_reducible repeat (first | refine blk_drewN ?_ _ | refine blk_drew ?_ | refine blk_alloc ?_ _)); exact BK1006.out⟩, ⟨by (with_reducible repeat (first | refine blk_drewN ?_ _ | refine blk_drew ?_ | refine blk_alloc ?_ _)); exact BK1011.out⟩, ⟨by (with_reducible repeat (first | refine blk_drewN ?_ _ | refine blk_drew ?_ | refine blk_alloc ?_ _)); exact BK1017.out⟩, ⟨by repeat (first | (with_reducible first | exact HB.out | apply below_alloc | apply pw_below_drewN | apply below_drew1 | refine below_set ?_ GE995.out | refine below_set ?_ GE1006.out | refine below_set ?_ GE1011.out | refine below_set ?_ GE1017.out) | exact HB.out)⟩⟩
                · replace c74 := Bool.eq_false_iff.mpr c74
                  subst c74
                  have H1 : (laws_FnExactNestedClaim.j1 kj12 a0 a1 t1005 true a2_0 l2_1 t1001 t1002 t1012 t1013) = some r := by rw [if_neg (show ¬ (false = true) by decide)] at H; exact H
                  clear H
                  have H := H1
                  clear H1
                  have H' := Aside0.mk H
                  clear H
                  have hnb83 := NB1017_995.out
                  have hnc83 := NB995_1017.out
                  have hnb84 := NB1017_1006.out
                  have hnc84 := NB1006_1017.out
                  have hnb85 := NB1017_1011.out
                  have hnc85 := NB1011_1017.out
                  have hcz86_0 : w71.cell? ⟨gb1017, 0, none⟩ = some (.int .i64 t1012) := (blk_cell BK1017.out 0).trans rfl
                  have hcz86_1 : w71.cell? ⟨gb1017, 1, none⟩ = some (.slice Ao38 t1013.length co38) := (blk_cell BK1017.out 1).trans rfl
                  have hfz86_0 := blk_frozen BK1017.out 0
                  have hfz86_1 := blk_frozen BK1017.out 1
                  have hnb87 := NB1006_995.out
                  have hnc87 := NB995_1006.out
                  have hnb88 := NB1006_1011.out
                  have hnc88 := NB1011_1006.out
                  have hcz89_0 : w71.cell? ⟨gb1006, 0, none⟩ = some (.int .i64 t1001) := (blk_cell BK1006.out 0).trans rfl
                  have hcz89_1 : w71.cell? ⟨gb1006, 1, none⟩ = some (.slice Ao24 t1002.length co24) := (blk_cell BK1006.out 1).trans rfl
                  have hfz89_0 := blk_frozen BK1006.out 0
                  have hfz89_1 := blk_frozen BK1006.out 1
                  go_wp2_with (first | (go_at_call 35; (with_reducible refine (laws_eqClaim.calls kj12 t1012 _ _ t1013 t1001 _ _ t1002 false _ ?side1 ?side2 ?side3 ?side4 A73.out).mono ?_); (case side1 => repeat (first | exact (Kd.R_reads' HO_1018001.out).2.2 | (with_reducible refine Kd.C_alloc ?_ _) | (with_reducible refine Kd.C_drewN ?_ _) | (with_reducible refine Kd.C_drew ?_))); (case side2 => exact (Kd.R_reads' HO_1018001.out).2.1); (case side3 => repeat (first | exact (Kd.R_reads' HO_1007001.out).2.2 | (with_reducible refine Kd.C_alloc ?_ _) | (with_reducible refine Kd.C_drewN ?_ _) | (with_reducible refine Kd.C_drew ?_))); (case side4 => exact (Kd.R_reads' HO_1007001.out).2.1); rintro e w90 ⟨rfl, hb⟩; have n0_ := Aside0.mk (Kd.R_below (by (with_reducible repeat (first | apply Kd.R_alloc | apply Kd.R_drewN | apply Kd.R_drew)); exact HO_1007001.out) hb); have n1_ := Aside0.mk (Kd.R_below (by (with_reducible repeat (first | apply Kd.R_alloc | apply Kd.R_drewN | apply Kd.R_drew)); exact HO_1012001.out) hb); have n2_ := Aside0.mk (Kd.R_below (by (with_reducible repeat (first | apply Kd.R_alloc | apply Kd.R_drewN | apply Kd.R_drew)); exact HO_1018001.out) hb); have n3_ := Aside0.mk (Kd.R_below (by (with_reducible repeat (first | apply Kd.R_alloc | apply Kd.R_drewN | apply Kd.R_drew)); exact HO1022.out) hb); have n4_ := Aside0.mk (blk_below (g := gb995) (o := .cells #[.int .i64 a2_0, .slice A2_1 l2_1.length c2_1] 62 (0, 0)) (by (with_reducible repeat (first | refine blk_drewN ?_ _ | refine blk_drew ?_ | refine blk_alloc ?_ _)); exact BK995.out) hb); have n5_ := Aside0.mk (blk_below (g := gb1006) (o := .cells #[.int .i64 t1001, .slice Ao24 t1002.length co24] 43 (0, 0)) (by (with_reducible repeat (first | refine blk_drewN ?_ _ | refine blk_drew ?_ | refine blk_alloc ?_ _)); exact BK1006.out) hb); have n6_ := Aside0.mk (blk_below (g := gb1011) (o := .cells #[.int .i64 t1007, .slice Ao31 t1008.length co31] 43 (0, 0)) (by (with_reducible repeat (first | refine blk_drewN ?_ _ | refine blk_drew ?_ | refine blk_alloc ?_ _)); exact BK1011.out) hb); have n7_ := Aside0.mk (blk_below (g := gb1017) (o := .cells #[.int .i64 t1012, .slice Ao38 t1013.length co38] 43 (0, 0)) (by (with_reducible repeat (first | refine blk_drewN ?_ _ | refine blk_drew ?_ | refine blk_alloc ?_ _)); exact BK1017.out) hb); have n8_ := Aside0.mk (below_step (by repeat (first | (with_reducible first | exact HB.out | apply below_alloc | apply pw_below_drewN | apply below_drew1 | refine below_set ?_ GE995.out | refine below_set ?_ GE1006.out | refine below_set ?_ GE1011.out | refine below_set ?_ GE1017.out) | exact HB.out)) hb); clear HO_1007001; clear HO_1012001; clear HO_1018001; clear HO1022; clear BK995; clear BK1006; clear BK1011; clear BK1017; clear HB; have HO_1007001 := n0_; have HO_1012001 := n1_; have HO_1018001 := n2_; have HO1022 := n3_; have BK995 := n4_; have BK1006 := n5_; have BK1011 := n6_; have BK1017 := n7_; have HB := n8_; clear n0_ n1_ n2_ n3_ n4_ n5_ n6_ n7_ n8_; (try clear hb); (try clear hb2); (try clear hk); (try clear hi)))
                  go_meet
                  case rel => exact ⟨_, (true), (by first | rfl | (simp; done) | (simp [*]; done)), H', ⟨by have := HJ12.out; first | omega | exact Nat.le_refl _⟩, ⟨by (with_reducible repeat (first | apply Kd.R_alloc | apply Kd.R_drewN | apply Kd.R_drew)); exact Kd.R_mono HO_1007001.out (fun _ hk => ⟨hk.1, hk.2.1⟩)⟩, ⟨by (with_reducible repeat (first | apply Kd.R_alloc | apply Kd.R_drewN | apply Kd.R_drew)); exact Kd.R_mono HO_1012001.out (fun _ hk => ⟨hk.1.1, hk.1.2⟩)⟩, ⟨by (with_reducible repeat (first | apply Kd.R_alloc | apply Kd.R_drewN | apply Kd.R_drew)); exact Kd.R_mono HO_1018001.out (fun _ hk => ⟨hk.1, hk.2.1⟩)⟩, ⟨by (with_reducible repeat (first | refine blk_drewN ?_ _ | refine blk_drew ?_ | refine blk_alloc ?_ _)); exact BK995.out⟩, ⟨by (with_reducible repeat (first | refine blk_drewN ?_ _ | refine blk_drew ?_ | refine blk_alloc ?_ _)); exact BK1006.out⟩, ⟨by (with_reducible repeat (first | refine blk_drewN ?_ _ | refine blk_drew ?_ | refine blk_alloc ?_ _)); exact BK1011.out⟩, ⟨by (with_reducible repeat (first | refine blk_drewN ?_ _ | refine blk_drew ?_ | refine blk_alloc ?_ _)); exact BK1017.out⟩, ⟨by repeat (first | (with_reducible first | exact HB.out | apply below_alloc | apply pw_below_drewN | apply below_drew1 | refine below_set ?_ GE995.out | refine below_set ?_ GE1006.out | refine below_set ?_ GE1011.out | refine below_set ?_ GE1017.out) | exact HB.out)⟩⟩
            case rest =>
              clear HC62
              try clear c1
              try clear c2
              try clear p2
              try clear c3
              try clear c4
              try clear c5
              try clear c5b0
              try clear c6
              try clear c7
              try clear c8
              try clear c12
              try clear c22
              try clear c28
              try clear c29
              try clear c34
              try clear c35
              try clear c36
              try clear c40
              try clear c41
              try clear c42
              try clear c43
              try clear c45
              try clear c46
              try clear c49
              try clear c50
              try clear c51
              try clear c52
              try clear c53
              try clear c54
              try clear c57
              try clear c60
              try clear c67
              try clear c68
              try clear c69
              try clear c72
              try clear c72b0
              try clear c74
              try clear c75
              try clear c76
              try clear c77
              try clear c79
              try clear c80
              try clear c83
              try clear c84
              try clear c85
              try clear c87
              try clear c88
              try clear hcz15_0
              try clear hcz15_1
              try clear hcz17_0
              try clear hcz17_1
              try clear hcz23_0
              try clear hcz23_1
              try clear hcz25_0
              try clear hcz25_1
              try clear hcz30_0
              try clear hcz30_1
              try clear hcz37_0
              try clear hcz37_1
              try clear hcz44_0
              try clear hcz44_1
              try clear hcz47_0
              try clear hcz47_1
              try clear hcz52_0
              try clear hcz52_1
              try clear hcz55_0
              try clear hcz55_1
              try clear hcz70_0
              try clear hcz70_1
              try clear hcz78_0
              try clear hcz78_1
              try clear hcz7_0
              try clear hcz7_1
              try clear hcz81_0
              try clear hcz81_1
              try clear hcz86_0
              try clear hcz86_1
              try clear hcz89_0
              try clear hcz89_1
              try clear hfz15_0
              try clear hfz15_1
              try clear hfz17_0
              try clear hfz17_1
              try clear hfz23_0
              try clear hfz23_1
              try clear hfz25_0
              try clear hfz25_1
              try clear hfz30_0
              try clear hfz30_1
              try clear hfz37_0
              try clear hfz37_1
              try clear hfz44_0
              try clear hfz44_1
              try clear hfz47_0
              try clear hfz47_1
              try clear hfz52_0
              try clear hfz52_1
              try clear hfz55_0
              try clear hfz55_1
              try clear hfz70_0
              try clear hfz70_1
              try clear hfz78_0
              try clear hfz78_1
              try clear hfz7_0
              try clear hfz7_1
              try clear hfz81_0
              try clear hfz81_1
              try clear hfz86_0
              try clear hfz86_1
              try clear hfz89_0
              try clear hfz89_1
              try clear p2
              obtain ⟨kq, x69_61, rfl, HA, HJ61, HO_1007001, HO_1012001, HO_1018001, BK995, BK1006, BK1011, BK1017, HB⟩ := hcut
              have hl1012001_61 := (Kd.R_reads' HO_1012001.out).1
              rw [hl1012001_61] at HO_1012001
              (try simp only [hl1012001_61])
              (try simp only [hl1012001_61] at BK995)
              (try simp only [hl1012001_61] at BK1006)
              (try simp only [hl1012001_61] at BK1011)
              (try simp only [hl1012001_61] at BK1017)
              (try simp only [hl1012001_61] at HO_1007001)
              (try simp only [hl1012001_61] at HO_1018001)
              cases kq with
              | zero => exact absurd HA.out (by simp [laws_FnExactNestedClaim.j1])
              | succ kj61 =>
                have H := HA.out
                clear HA
                simp only [laws_FnExactNestedClaim.j1] at H
                by_cases c91 : x69_61 = true
                · subst c91
                  have H1 : (some false) = some r := by rw [if_pos rfl] at H; exact H
                  clear H
                  have H := H1
                  clear H1
                  obtain rfl := Option.some.inj H
                  go_wp2
                  go_ret
                  exact ⟨by first | rfl | (simp [errW_none, errW_some] <;> rfl) | (simp [*, errW_none, errW_some] <;> rfl), by repeat (first | (with_reducible first | exact HB.out | apply below_alloc | apply pw_below_drewN | apply below_drew1 | refine below_set ?_ GE995.out | refine below_set ?_ GE1006.out | refine below_set ?_ GE1011.out | refine below_set ?_ GE1017.out) | exact HB.out)⟩
                · replace c91 := Bool.eq_false_iff.mpr c91
                  subst c91
                  have H1 : ((laws_markClaim.f kj61 t1012 t1013 1).bind fun bt1027 => ((laws_heldClaim.f kj61 t1012 bt1027.2 1).bind fun t1029 => (if t1029 < 0 then (some false) else (if t1029 = bt1027.1 then ((laws_toClaim.f kj61 a2_0 l2_1).bind fun bt1030 => ((impl_NestedClaim.f kj61 a0 a1 bt1030.1 bt1030.2).bind fun bt1034 => ((laws_eqClaim.f kj61 bt1034.1 bt1034.2.1 t1001 t1002).bind fun t1040 => (if t1040 = true then (laws_FnExactNestedClaim.j2 kj61 bt1027.1 (bt1034.2.2 != t1005) t1012 bt1027.2) else (laws_FnExactNestedClaim.j2 kj61 bt1027.1 true t1012 bt1027.2))))) else (some false))))) = some r := by rw [if_neg (show ¬ (false = true) by decide)] at H; exact H
                  clear H
                  have H := H1
                  clear H1
                  replace H := Option.bind_eq_some_iff.mp H
                  obtain ⟨⟨t1027, t1028⟩, A920, H⟩ := H
                  replace H : ((laws_heldClaim.f kj61 t1012 t1028 1).bind fun t1029 => (if t1029 < 0 then (some false) else (if t1029 = t1027 then ((laws_toClaim.f kj61 a2_0 l2_1).bind fun bt1030 => ((impl_NestedClaim.f kj61 a0 a1 bt1030.1 bt1030.2).bind fun bt1034 => ((laws_eqClaim.f kj61 bt1034.1 bt1034.2.1 t1001 t1002).bind fun t1040 => (if t1040 = true then (laws_FnExactNestedClaim.j2 kj61 t1027 (bt1034.2.2 != t1005) t1012 t1028) else (laws_FnExactNestedClaim.j2 kj61 t1027 true t1012 t1028))))) else (some false)))) = some r := H
                  have A92 := Aside0.mk A920
                  clear A920
                  replace H := Option.bind_eq_some_iff.mp H
                  obtain ⟨t1029, A930, H⟩ := H
                  replace H : (if t1029 < 0 then (some false) else (if t1029 = t1027 then ((laws_toClaim.f kj61 a2_0 l2_1).bind fun bt1030 => ((impl_NestedClaim.f kj61 a0 a1 bt1030.1 bt1030.2).bind fun bt1034 => ((laws_eqClaim.f kj61 bt1034.1 bt1034.2.1 t1001 t1002).bind fun t1040 => (if t1040 = true then (laws_FnExactNestedClaim.j2 kj61 t1027 (bt1034.2.2 != t1005) t1012 t1028) else (laws_FnExactNestedClaim.j2 kj61 t1027 true t1012 t1028))))) else (some false))) = some r := H
                  have A93 := Aside0.mk A930
                  clear A930
                  by_cases c94 : t1029 < 0
                  · rw [if_pos c94] at H
                    have c94b0 : decide (t1029 < 0) = true := decide_eq_true c94
                    clear c94
                    obtain rfl := Option.some.inj H
                    have hnb95 := NB1017_995.out
                    have hnc95 := NB995_1017.out
                    have hnb96 := NB1017_1006.out
                    have hnc96 := NB1006_1017.out
                    have hnb97 := NB1017_1011.out
                    have hnc97 := NB1011_1017.out
                    have hcz98_0 : wc.cell? ⟨gb1017, 0, none⟩ = some (.int .i64 t1012) := (blk_cell BK1017.out 0).trans rfl
                    have hcz98_1 : wc.cell? ⟨gb1017, 1, none⟩ = some (.slice Ao38 t1013.length co38) := (blk_cell BK1017.out 1).trans rfl
                    have hfz98_0 := blk_frozen BK1017.out 0
                    have hfz98_1 := blk_frozen BK1017.out 1
                    go_wp2_with (first | ((with_reducible refine gate_callee (f := 36) rfl ?_); refine goesL_ (some 72) rfl rfl Try.func36 (by kernel_rfl) rfl #[.agg #[.int .i64 t1012, .slice Ao38 t1013.length co38], .int .i64 1] rfl (by (try simp only [List.map_toArray, List.map_cons, List.map_nil]); first | done | rfl | (simp only [List.length_drop, List.length_take]; rfl)) ?_; (with_reducible refine (laws_markClaim.calls kj61 t1012 (fun k_ => some k_ = (.slice Ao38 t1013.length co38 : Value).ownBlock) (.slice Ao38 t1013.length co38) t1013 1 t1027 t1028 w _ ?side1 ?side2 A92.out).mono ?_); (case side1 => repeat (first | (with_reducible first | exact HB.out | apply below_alloc | apply pw_below_drewN | apply below_drew1 | refine below_set ?_ GE995.out | refine below_set ?_ GE1006.out | refine below_set ?_ GE1011.out | refine below_set ?_ GE1017.out) | exact HB.out)); (case side2 => exact Kd.R_tight rfl HO_1018001.out); rintro e w99 ⟨rfl, hy0, hb, hkp⟩; refine ⟨_, rfl, ?_⟩; have n0_ := Aside0.mk (Kd.R_mono (ok' := fun k_ => some k_ ≠ (.slice Ao31 t1025.length co31 : Value).ownBlock ∧ some k_ ≠ (.slice Ao38 t1013.length co38 : Value).ownBlock) (Kd.R_keptB (HO_1007001.out) hkp (fun k_ hk_ hs_ => (hk_.2) hs_)) (fun k_ hk_ => ⟨hk_.1.1, hk_.1.2⟩)); have n1_ := Aside0.mk (Kd.R_mono (ok' := fun k_ => some k_ ≠ (.slice Ao24 t1002.length co24 : Value).ownBlock ∧ some k_ ≠ (.slice Ao38 t1013.length co38 : Value).ownBlock) (Kd.R_keptB (HO_1012001.out) hkp (fun k_ hk_ hs_ => (hk_.2) hs_)) (fun k_ hk_ => ⟨hk_.1.1, hk_.1.2⟩)); have n2_ := Aside0.mk (Kd.R_reok rfl hy0 (fun k_ e_ => HO_1018001.out.1 k_ e_)); have n3_ := Aside0.mk (blk_kept (by (with_reducible repeat (first | refine blk_drewN ?_ _ | refine blk_drew ?_ | refine blk_alloc ?_ _)); exact BK995.out) hkp (fun hs_ => (fun e_ => (Kd.R_ne HO_1018001.out BK995.out (by decide)) e_) hs_)); have n4_ := Aside0.mk (blk_kept (by (with_reducible repeat (first | refine blk_drewN ?_ _ | refine blk_drew ?_ | refine blk_alloc ?_ _)); exact BK1006.out) hkp (fun hs_ => (fun e_ => (Kd.R_ne HO_1018001.out BK1006.out (by decide)) e_) hs_)); have n5_ := Aside0.mk (blk_kept (by (with_reducible repeat (first | refine blk_drewN ?_ _ | refine blk_drew ?_ | refine blk_alloc ?_ _)); exact BK1011.out) hkp (fun hs_ => (fun e_ => (Kd.R_ne HO_1018001.out BK1011.out (by decide)) e_) hs_)); have n6_ := Aside0.mk (blk_kept (by (with_reducible repeat (first | refine blk_drewN ?_ _ | refine blk_drew ?_ | refine blk_alloc ?_ _)); exact BK1017.out) hkp (fun hs_ => (fun e_ => (Kd.R_ne HO_1018001.out BK1017.out (by decide)) e_) hs_)); have n7_ := Aside0.mk (hb); clear HO_1007001; clear HO_1012001; clear HO_1018001; clear BK995; clear BK1006; clear BK1011; clear BK1017; clear HB; have HO_1007001 := n0_; have HO_1012001 := n1_; have HO_1018001 := n2_; have BK995 := n3_; have BK1006 := n4_; have BK1011 := n5_; have BK1017 := n6_; have HB := n7_; clear n0_ n1_ n2_ n3_ n4_ n5_ n6_ n7_; (try clear hb); (try clear hkp); (try clear hy0); have hcz100_0 : w99.cell? ⟨gb1017, 0, none⟩ = some (.int .i64 t1012) := (blk_cell BK1017.out 0).trans rfl; have hcz100_1 : w99.cell? ⟨gb1017, 1, none⟩ = some (.slice Ao38 t1013.length co38) := (blk_cell BK1017.out 1).trans rfl; have hfz100_0 := blk_frozen BK1017.out 0; have hfz100_1 := blk_frozen BK1017.out 1) | ((with_reducible refine gate_callee (f := 37) rfl ?_); refine goesL_ (some 75) rfl rfl Try.func37 (by kernel_rfl) rfl #[.agg #[.int .i64 t1012, .slice Ao38 t1028.length co38], .int .i64 1] rfl (by (try simp only [List.map_toArray, List.map_cons, List.map_nil]); first | done | (rw [show t1028.length = t1013.length from (Kd.R_reads' HO_1018001.out).1.symm] <;> rfl) | rfl | (simp only [List.length_drop, List.length_take]; rfl)) ?_; (with_reducible refine (laws_heldClaim.calls kj61 t1012 _ _ t1028 1 t1029 _ ?side1 ?side2 A93.out).mono ?_); (case side1 => repeat (first | exact (Kd.R_reads' HO_1018001.out).2.2 | (with_reducible refine Kd.C_alloc ?_ _) | (with_reducible refine Kd.C_drewN ?_ _) | (with_reducible refine Kd.C_drew ?_))); (case side2 => rw [show t1028.length = t1013.length from (Kd.R_reads' HO_1018001.out).1.symm]; exact (Kd.R_reads' HO_1018001.out).2.1); rintro e w101 ⟨rfl, hb⟩; refine ⟨_, rfl, ?_⟩; have n0_ := Aside0.mk (Kd.R_below (by (with_reducible repeat (first | apply Kd.R_alloc | apply Kd.R_drewN | apply Kd.R_drew)); exact HO_1007001.out) hb); have n1_ := Aside0.mk (Kd.R_below (by (with_reducible repeat (first | apply Kd.R_alloc | apply Kd.R_drewN | apply Kd.R_drew)); exact HO_1012001.out) hb); have n2_ := Aside0.mk (Kd.R_below (by (with_reducible repeat (first | apply Kd.R_alloc | apply Kd.R_drewN | apply Kd.R_drew)); exact HO_1018001.out) hb); have n3_ := Aside0.mk (blk_below (g := gb995) (o := .cells #[.int .i64 a2_0, .slice A2_1 l2_1.length c2_1] 62 (0, 0)) (by (with_reducible repeat (first | refine blk_drewN ?_ _ | refine blk_drew ?_ | refine blk_alloc ?_ _)); exact BK995.out) hb); have n4_ := Aside0.mk (blk_below (g := gb1006) (o := .cells #[.int .i64 t1001, .slice Ao24 t1002.length co24] 43 (0, 0)) (by (with_reducible repeat (first | refine blk_drewN ?_ _ | refine blk_drew ?_ | refine blk_alloc ?_ _)); exact BK1006.out) hb); have n5_ := Aside0.mk (blk_below (g := gb1011) (o := .cells #[.int .i64 t1007, .slice Ao31 t1025.length co31] 43 (0, 0)) (by (with_reducible repeat (first | refine blk_drewN ?_ _ | refine blk_drew ?_ | refine blk_alloc ?_ _)); exact BK1011.out) hb); have n6_ := Aside0.mk (blk_below (g := gb1017) (o := .cells #[.int .i64 t1012, .slice Ao38 t1013.length co38] 43 (0, 0)) (by (with_reducible repeat (first | refine blk_drewN ?_ _ | refine blk_drew ?_ | refine blk_alloc ?_ _)); exact BK1017.out) hb); have n7_ := Aside0.mk (below_step (by repeat (first | (with_reducible first | exact HB.out | apply below_alloc | apply pw_below_drewN | apply below_drew1 | refine below_set ?_ GE995.out | refine below_set ?_ GE1006.out | refine below_set ?_ GE1011.out | refine below_set ?_ GE1017.out) | exact HB.out)) hb); clear HO_1007001; clear HO_1012001; clear HO_1018001; clear BK995; clear BK1006; clear BK1011; clear BK1017; clear HB; have HO_1007001 := n0_; have HO_1012001 := n1_; have HO_1018001 := n2_; have BK995 := n3_; have BK1006 := n4_; have BK1011 := n5_; have BK1017 := n6_; have HB := n7_; clear n0_ n1_ n2_ n3_ n4_ n5_ n6_ n7_; (try clear hb); (try clear hb2); (try clear hk); (try clear hi)))
                    go_ret
                    exact ⟨by first | rfl | (simp [errW_none, errW_some] <;> rfl) | (simp [*, errW_none, errW_some] <;> rfl), by repeat (first | (with_reducible first | exact HB.out | apply below_alloc | apply pw_below_drewN | apply below_drew1 | refine below_set ?_ GE995.out | refine below_set ?_ GE1006.out | refine below_set ?_ GE1011.out | refine below_set ?_ GE1017.out) | exact HB.out)⟩
                  · rw [if_neg c94] at H
                    have c94b0 : decide (t1029 < 0) = false := decide_eq_false c94
                    clear c94
                    by_cases c102 : t1029 = t1027
                    · rw [if_pos c102] at H
                      have c102b0 : (t1029 == t1027) = true := beq_iff_eq.mpr c102
                      have c102b1 : (t1029 != t1027) = false := bne_eq_false_iff_eq.mpr c102
                      clear c102
                      replace H := Option.bind_eq_some_iff.mp H
                      obtain ⟨⟨t1030, t1031⟩, A1030, H⟩ := H
                      replace H : ((impl_NestedClaim.f kj61 a0 a1 t1030 t1031).bind fun bt1034 => ((laws_eqClaim.f kj61 bt1034.1 bt1034.2.1 t1001 t1002).bind fun t1040 => (if t1040 = true then (laws_FnExactNestedClaim.j2 kj61 t1027 (bt1034.2.2 != t1005) t1012 t1028) else (laws_FnExactNestedClaim.j2 kj61 t1027 true t1012 t1028)))) = some r := H
                      have A103 := Aside0.mk A1030
                      clear A1030
                      replace H := Option.bind_eq_some_iff.mp H
                      obtain ⟨⟨t1034, t1035, t1038⟩, A1040, H⟩ := H
                      replace H : ((laws_eqClaim.f kj61 t1034 t1035 t1001 t1002).bind fun t1040 => (if t1040 = true then (laws_FnExactNestedClaim.j2 kj61 t1027 (t1038 != t1005) t1012 t1028) else (laws_FnExactNestedClaim.j2 kj61 t1027 true t1012 t1028))) = some r := H
                      have A104 := Aside0.mk A1040
                      clear A1040
                      have HC105 := Aside0.mk H
                      clear H
                      have hnb106 := NB1017_995.out
                      have hnc106 := NB995_1017.out
                      have hnb107 := NB1017_1006.out
                      have hnc107 := NB1006_1017.out
                      have hnb108 := NB1017_1011.out
                      have hnc108 := NB1011_1017.out
                      have hcz109_0 : wc.cell? ⟨gb1017, 0, none⟩ = some (.int .i64 t1012) := (blk_cell BK1017.out 0).trans rfl
                      have hcz109_1 : wc.cell? ⟨gb1017, 1, none⟩ = some (.slice Ao38 t1013.length co38) := (blk_cell BK1017.out 1).trans rfl
                      have hfz109_0 := blk_frozen BK1017.out 0
                      have hfz109_1 := blk_frozen BK1017.out 1
                      go_upto_region 25 with (first | ((with_reducible refine gate_callee (f := 36) rfl ?_); refine goesL_ (some 72) rfl rfl Try.func36 (by kernel_rfl) rfl #[.agg #[.int .i64 t1012, .slice Ao38 t1013.length co38], .int .i64 1] rfl (by (try simp only [List.map_toArray, List.map_cons, List.map_nil]); first | done | rfl | (simp only [List.length_drop, List.length_take]; rfl)) ?_; (with_reducible refine (laws_markClaim.calls kj61 t1012 (fun k_ => some k_ = (.slice Ao38 t1013.length co38 : Value).ownBlock) (.slice Ao38 t1013.length co38) t1013 1 t1027 t1028 w _ ?side1 ?side2 A92.out).mono ?_); (case side1 => repeat (first | (with_reducible first | exact HB.out | apply below_alloc | apply pw_below_drewN | apply below_drew1 | refine below_set ?_ GE995.out | refine below_set ?_ GE1006.out | refine below_set ?_ GE1011.out | refine below_set ?_ GE1017.out) | exact HB.out)); (case side2 => exact Kd.R_tight rfl HO_1018001.out); rintro e w110 ⟨rfl, hy0, hb, hkp⟩; refine ⟨_, rfl, ?_⟩; have n0_ := Aside0.mk (Kd.R_mono (ok' := fun k_ => some k_ ≠ (.slice Ao31 t1025.length co31 : Value).ownBlock ∧ some k_ ≠ (.slice Ao38 t1013.length co38 : Value).ownBlock) (Kd.R_keptB (HO_1007001.out) hkp (fun k_ hk_ hs_ => (hk_.2) hs_)) (fun k_ hk_ => ⟨hk_.1.1, hk_.1.2⟩)); have n1_ := Aside0.mk (Kd.R_mono (ok' := fun k_ => some k_ ≠ (.slice Ao24 t1002.length co24 : Value).ownBlock ∧ some k_ ≠ (.slice Ao38 t1013.length co38 : Value).ownBlock) (Kd.R_keptB (HO_1012001.out) hkp (fun k_ hk_ hs_ => (hk_.2) hs_)) (fun k_ hk_ => ⟨hk_.1.1, hk_.1.2⟩)); have n2_ := Aside0.mk (Kd.R_reok rfl hy0 (fun k_ e_ => HO_1018001.out.1 k_ e_)); have n3_ := Aside0.mk (blk_kept (by (with_reducible repeat (first | refine blk_drewN ?_ _ | refine blk_drew ?_ | refine blk_alloc ?_ _)); exact BK995.out) hkp (fun hs_ => (fun e_ => (Kd.R_ne HO_1018001.out BK995.out (by decide)) e_) hs_)); have n4_ := Aside0.mk (blk_kept (by (with_reducible repeat (first | refine blk_drewN ?_ _ | refine blk_drew ?_ | refine blk_alloc ?_ _)); exact BK1006.out) hkp (fun hs_ => (fun e_ => (Kd.R_ne HO_1018001.out BK1006.out (by decide)) e_) hs_)); have n5_ := Aside0.mk (blk_kept (by (with_reducible repeat (first | refine blk_drewN ?_ _ | refine blk_drew ?_ | refine blk_alloc ?_ _)); exact BK1011.out) hkp (fun hs_ => (fun e_ => (Kd.R_ne HO_1018001.out BK1011.out (by decide)) e_) hs_)); have n6_ := Aside0.mk (blk_kept (by (with_reducible repeat (first | refine blk_drewN ?_ _ | refine blk_drew ?_ | refine blk_alloc ?_ _)); exact BK1017.out) hkp (fun hs_ => (fun e_ => (Kd.R_ne HO_1018001.out BK1017.out (by decide)) e_) hs_)); have n7_ := Aside0.mk (hb); clear HO_1007001; clear HO_1012001; clear HO_1018001; clear BK995; clear BK1006; clear BK1011; clear BK1017; clear HB; have HO_1007001 := n0_; have HO_1012001 := n1_; have HO_1018001 := n2_; have BK995 := n3_; have BK1006 := n4_; have BK1011 := n5_; have BK1017 := n6_; have HB := n7_; clear n0_ n1_ n2_ n3_ n4_ n5_ n6_ n7_; (try clear hb); (try clear hkp); (try clear hy0); have hcz111_0 : w110.cell? ⟨gb1017, 0, none⟩ = some (.int .i64 t1012) := (blk_cell BK1017.out 0).trans rfl; have hcz111_1 : w110.cell? ⟨gb1017, 1, none⟩ = some (.slice Ao38 t1013.length co38) := (blk_cell BK1017.out 1).trans rfl; have hfz111_0 := blk_frozen BK1017.out 0; have hfz111_1 := blk_frozen BK1017.out 1) | ((with_reducible refine gate_callee (f := 37) rfl ?_); refine goesL_ (some 75) rfl rfl Try.func37 (by kernel_rfl) rfl #[.agg #[.int .i64 t1012, .slice Ao38 t1028.length co38], .int .i64 1] rfl (by (try simp only [List.map_toArray, List.map_cons, List.map_nil]); first | done | (rw [show t1028.length = t1013.length from (Kd.R_reads' HO_1018001.out).1.symm] <;> rfl) | rfl | (simp only [List.length_drop, List.length_take]; rfl)) ?_; (with_reducible refine (laws_heldClaim.calls kj61 t1012 _ _ t1028 1 t1029 _ ?side1 ?side2 A93.out).mono ?_); (case side1 => repeat (first | exact (Kd.R_reads' HO_1018001.out).2.2 | (with_reducible refine Kd.C_alloc ?_ _) | (with_reducible refine Kd.C_drewN ?_ _) | (with_reducible refine Kd.C_drew ?_))); (case side2 => rw [show t1028.length = t1013.length from (Kd.R_reads' HO_1018001.out).1.symm]; exact (Kd.R_reads' HO_1018001.out).2.1); rintro e w112 ⟨rfl, hb⟩; refine ⟨_, rfl, ?_⟩; have n0_ := Aside0.mk (Kd.R_below (by (with_reducible repeat (first | apply Kd.R_alloc | apply Kd.R_drewN | apply Kd.R_drew)); exact HO_1007001.out) hb); have n1_ := Aside0.mk (Kd.R_below (by (with_reducible repeat (first | apply Kd.R_alloc | apply Kd.R_drewN | apply Kd.R_drew)); exact HO_1012001.out) hb); have n2_ := Aside0.mk (Kd.R_below (by (with_reducible repeat (first | apply Kd.R_alloc | apply Kd.R_drewN | apply Kd.R_drew)); exact HO_1018001.out) hb); have n3_ := Aside0.mk (blk_below (g := gb995) (o := .cells #[.int .i64 a2_0, .slice A2_1 l2_1.length c2_1] 62 (0, 0)) (by (with_reducible repeat (first | refine blk_drewN ?_ _ | refine blk_drew ?_ | refine blk_alloc ?_ _)); exact BK995.out) hb); have n4_ := Aside0.mk (blk_below (g := gb1006) (o := .cells #[.int .i64 t1001, .slice Ao24 t1002.length co24] 43 (0, 0)) (by (with_reducible repeat (first | refine blk_drewN ?_ _ | refine blk_drew ?_ | refine blk_alloc ?_ _)); exact BK1006.out) hb); have n5_ := Aside0.mk (blk_below (g := gb1011) (o := .cells #[.int .i64 t1007, .slice Ao31 t1025.length co31] 43 (0, 0)) (by (with_reducible repeat (first | refine blk_drewN ?_ _ | refine blk_drew ?_ | refine blk_alloc ?_ _)); exact BK1011.out) hb); have n6_ := Aside0.mk (blk_below (g := gb1017) (o := .cells #[.int .i64 t1012, .slice Ao38 t1013.length co38] 43 (0, 0)) (by (with_reducible repeat (first | refine blk_drewN ?_ _ | refine blk_drew ?_ | refine blk_alloc ?_ _)); exact BK1017.out) hb); have n7_ := Aside0.mk (below_step (by repeat (first | (with_reducible first | exact HB.out | apply below_alloc | apply pw_below_drewN | apply below_drew1 | refine below_set ?_ GE995.out | refine below_set ?_ GE1006.out | refine below_set ?_ GE1011.out | refine below_set ?_ GE1017.out) | exact HB.out)) hb); clear HO_1007001; clear HO_1012001; clear HO_1018001; clear BK995; clear BK1006; clear BK1011; clear BK1017; clear HB; have HO_1007001 := n0_; have HO_1012001 := n1_; have HO_1018001 := n2_; have BK995 := n3_; have BK1006 := n4_; have BK1011 := n5_; have BK1017 := n6_; have HB := n7_; clear n0_ n1_ n2_ n3_ n4_ n5_ n6_ n7_; (try clear hb); (try clear hb2); (try clear hk); (try clear hi); have hnb113 := NB995_1006.out; have hnc113 := NB1006_995.out; have hnb114 := NB995_1011.out; have hnc114 := NB1011_995.out; have hcz115_0 : w112.cell? ⟨gb995, 0, none⟩ = some (.int .i64 a2_0) := (blk_cell BK995.out 0).trans rfl; have hcz115_1 : w112.cell? ⟨gb995, 1, none⟩ = some (.slice A2_1 l2_1.length c2_1) := (blk_cell BK995.out 1).trans rfl; have hfz115_0 := blk_frozen BK995.out 0; have hfz115_1 := blk_frozen BK995.out 1) | ((with_reducible refine gate_callee (f := 52) rfl ?_); refine goesL_ (some 85) rfl rfl Try.func52 (by kernel_rfl) rfl #[.agg #[.int .i64 a2_0, .slice A2_1 l2_1.length c2_1]] rfl (by (try simp only [List.map_toArray, List.map_cons, List.map_nil]); first | done | rfl | (simp only [List.length_drop, List.length_take]; rfl)) ?_; (with_reducible refine (laws_toClaim.calls kj61 a2_0 _ _ l2_1 t1030 t1031 _ ?side1 ?side2 A103.out).mono ?_); (case side1 => repeat (first | exact (Kd.C_below HR2_1.out HB.out) | (with_reducible refine Kd.C_alloc ?_ _) | (with_reducible refine Kd.C_drewN ?_ _) | (with_reducible refine Kd.C_drew ?_))); (case side2 => exact HC2_1.out); rintro e w116 ⟨v1032, rfl, ho0, hb⟩; refine ⟨_, rfl, ?_⟩; have n0_ := Aside0.mk (Kd.R_elder' (by (with_reducible repeat (first | apply Kd.R_alloc | apply Kd.R_drewN | apply Kd.R_drew)); exact HO_1007001.out) (Kd.R_base ho0) hb); have n1_ := Aside0.mk (Kd.R_elder' (by (with_reducible repeat (first | apply Kd.R_alloc | apply Kd.R_drewN | apply Kd.R_drew)); exact HO_1012001.out) (Kd.R_base ho0) hb); have n2_ := Aside0.mk (Kd.R_elder' (by (with_reducible repeat (first | apply Kd.R_alloc | apply Kd.R_drewN | apply Kd.R_drew)); exact HO_1018001.out) (Kd.R_base ho0) hb); have n3_ := Aside0.mk (Kd.R_lower (Kd.R_new' (Kd.R_new' (Kd.R_new' ho0 (Kd.R_lt (by (with_reducible repeat (first | apply Kd.R_alloc | apply Kd.R_drewN | apply Kd.R_drew)); exact HO_1007001.out))) (Kd.R_lt (by (with_reducible repeat (first | apply Kd.R_alloc | apply Kd.R_drewN | apply Kd.R_drew)); exact HO_1012001.out))) (Kd.R_lt (by (with_reducible repeat (first | apply Kd.R_alloc | apply Kd.R_drewN | apply Kd.R_drew)); exact HO_1018001.out))) (below_size (by repeat (first | (with_reducible first | exact HB.out | apply below_alloc | apply pw_below_drewN | apply below_drew1 | refine below_set ?_ GE995.out | refine below_set ?_ GE1006.out | refine below_set ?_ GE1011.out | refine below_set ?_ GE1017.out) | exact HB.out)))); have n4_ := Aside0.mk (blk_below (g := gb995) (o := .cells #[.int .i64 a2_0, .slice A2_1 l2_1.length c2_1] 62 (0, 0)) (by (with_reducible repeat (first | refine blk_drewN ?_ _ | refine blk_drew ?_ | refine blk_alloc ?_ _)); exact BK995.out) hb); have n5_ := Aside0.mk (blk_below (g := gb1006) (o := .cells #[.int .i64 t1001, .slice Ao24 t1002.length co24] 43 (0, 0)) (by (with_reducible repeat (first | refine blk_drewN ?_ _ | refine blk_drew ?_ | refine blk_alloc ?_ _)); exact BK1006.out) hb); have n6_ := Aside0.mk (blk_below (g := gb1011) (o := .cells #[.int .i64 t1007, .slice Ao31 t1025.length co31] 43 (0, 0)) (by (with_reducible repeat (first | refine blk_drewN ?_ _ | refine blk_drew ?_ | refine blk_alloc ?_ _)); exact BK1011.out) hb); have n7_ := Aside0.mk (blk_below (g := gb1017) (o := .cells #[.int .i64 t1012, .slice Ao38 t1013.length co38] 43 (0, 0)) (by (with_reducible repeat (first | refine blk_drewN ?_ _ | refine blk_drew ?_ | refine blk_alloc ?_ _)); exact BK1017.out) hb); have n8_ := Aside0.mk (below_step (by repeat (first | (with_reducible first | exact HB.out | apply below_alloc | apply pw_below_drewN | apply below_drew1 | refine below_set ?_ GE995.out | refine below_set ?_ GE1006.out | refine below_set ?_ GE1011.out | refine below_set ?_ GE1017.out) | exact HB.out)) hb); clear HO_1007001; clear HO_1012001; clear HO_1018001; clear BK995; clear BK1006; clear BK1011; clear BK1017; clear HB; have HO_1007001 := n0_; have HO_1012001 := n1_; have HO_1018001 := n2_; have HO1033 := n3_; have BK995 := n4_; have BK1006 := n5_; have BK1011 := n6_; have BK1017 := n7_; have HB := n8_; clear n0_ n1_ n2_ n3_ n4_ n5_ n6_ n7_ n8_; (try clear hb); (try clear hb2); (try clear hk); (try clear hi); (try clear ho0); obtain ⟨Ao117, co117, eo117⟩ := Kd.R_slice HO1033.out; subst eo117) | ((with_reducible refine gate_callee (f := 53) rfl ?_); refine goesL_ (some 86) rfl rfl Try.func53 (by kernel_rfl) rfl #[.int .i64 a0, .int .i64 a1, .agg #[.int .i64 t1030, .slice Ao117 t1031.length co117]] rfl (by (try simp only [List.map_toArray, List.map_cons, List.map_nil]); first | done | rfl | (simp only [List.length_drop, List.length_take]; rfl)) ?_; (with_reducible refine (impl_NestedClaim.calls kj61 a0 a1 t1030 _ _ t1031 t1034 t1035 t1038 _ ?side1 ?side2 A104.out).mono ?_); (case side1 => repeat (first | exact (Kd.R_reads' HO1033.out).2.2 | (with_reducible refine Kd.C_alloc ?_ _) | (with_reducible refine Kd.C_drewN ?_ _) | (with_reducible refine Kd.C_drew ?_))); (case side2 => exact (Kd.R_reads' HO1033.out).2.1); rintro e w118 ⟨v1036, rfl, ho0, hb⟩; refine ⟨_, rfl, ?_⟩; have n0_ := Aside0.mk (Kd.R_elder' (by (with_reducible repeat (first | apply Kd.R_alloc | apply Kd.R_drewN | apply Kd.R_drew)); exact HO_1007001.out) (Kd.R_base ho0) hb); have n1_ := Aside0.mk (Kd.R_elder' (by (with_reducible repeat (first | apply Kd.R_alloc | apply Kd.R_drewN | apply Kd.R_drew)); exact HO_1012001.out) (Kd.R_base ho0) hb); have n2_ := Aside0.mk (Kd.R_elder' (by (with_reducible repeat (first | apply Kd.R_alloc | apply Kd.R_drewN | apply Kd.R_drew)); exact HO_1018001.out) (Kd.R_base ho0) hb); have n3_ := Aside0.mk (Kd.R_elder' (by (with_reducible repeat (first | apply Kd.R_alloc | apply Kd.R_drewN | apply Kd.R_drew)); exact HO1033.out) (Kd.R_base ho0) hb); have n4_ := Aside0.mk (Kd.R_lower (Kd.R_new' (Kd.R_new' (Kd.R_new' (Kd.R_new' ho0 (Kd.R_lt (by (with_reducible repeat (first | apply Kd.R_alloc | apply Kd.R_drewN | apply Kd.R_drew)); exact HO_1007001.out))) (Kd.R_lt (by (with_reducible repeat (first | apply Kd.R_alloc | apply Kd.R_drewN | apply Kd.R_drew)); exact HO_1012001.out))) (Kd.R_lt (by (with_reducible repeat (first | apply Kd.R_alloc | apply Kd.R_drewN | apply Kd.R_drew)); exact HO_1018001.out))) (Kd.R_lt (by (with_reducible repeat (first | apply Kd.R_alloc | apply Kd.R_drewN | apply Kd.R_drew)); exact HO1033.out))) (below_size (by repeat (first | (with_reducible first | exact HB.out | apply below_alloc | apply pw_below_drewN | apply below_drew1 | refine below_set ?_ GE995.out | refine below_set ?_ GE1006.out | refine below_set ?_ GE1011.out | refine below_set ?_ GE1017.out) | exact HB.out)))); have n5_ := Aside0.mk (blk_below (g := gb995) (o := .cells #[.int .i64 a2_0, .slice A2_1 l2_1.length c2_1] 62 (0, 0)) (by (with_reducible repeat (first | refine blk_drewN ?_ _ | refine blk_drew ?_ | refine blk_alloc ?_ _)); exact BK995.out) hb); have n6_ := Aside0.mk (blk_below (g := gb1006) (o := .cells #[.int .i64 t1001, .slice Ao24 t1002.length co24] 43 (0, 0)) (by (with_reducible repeat (first | refine blk_drewN ?_ _ | refine blk_drew ?_ | refine blk_alloc ?_ _)); exact BK1006.out) hb); have n7_ := Aside0.mk (blk_below (g := gb1011) (o := .cells #[.int .i64 t1007, .slice Ao31 t1025.length co31] 43 (0, 0)) (by (with_reducible repeat (first | refine blk_drewN ?_ _ | refine blk_drew ?_ | refine blk_alloc ?_ _)); exact BK1011.out) hb); have n8_ := Aside0.mk (blk_below (g := gb1017) (o := .cells #[.int .i64 t1012, .slice Ao38 t1013.length co38] 43 (0, 0)) (by (with_reducible repeat (first | refine blk_drewN ?_ _ | refine blk_drew ?_ | refine blk_alloc ?_ _)); exact BK1017.out) hb); have n9_ := Aside0.mk (below_step (by repeat (first | (with_reducible first | exact HB.out | apply below_alloc | apply pw_below_drewN | apply below_drew1 | refine below_set ?_ GE995.out | refine below_set ?_ GE1006.out | refine below_set ?_ GE1011.out | refine below_set ?_ GE1017.out) | exact HB.out)) hb); clear HO_1007001; clear HO_1012001; clear HO_1018001; clear HO1033; clear BK995; clear BK1006; clear BK1011; clear BK1017; clear HB; have HO_1007001 := n0_; have HO_1012001 := n1_; have HO_1018001 := n2_; have HO1033 := n3_; have HO1037 := n4_; have BK995 := n5_; have BK1006 := n6_; have BK1011 := n7_; have BK1017 := n8_; have HB := n9_; clear n0_ n1_ n2_ n3_ n4_ n5_ n6_ n7_ n8_ n9_; (try clear hb); (try clear hb2); (try clear hk); (try clear hi); (try clear ho0)) | ((with_reducible refine gate_dst (N := 16) rfl ?_); refine box_event ?hg (N := 16) ?hd (cs := #[.int .i64 0, .slice none 0 0]) (t := 43) ?hr ?_; (case hd => rfl); (case hg => rfl); (case hr => first | (go_simp; done) | (go_simp; rfl)); intro gb1039 hg w119 hbox hb; have n0_ := Aside0.mk (Kd.R_below (by (with_reducible repeat (first | apply Kd.R_alloc | apply Kd.R_drewN | apply Kd.R_drew)); exact HO_1007001.out) hb); have n1_ := Aside0.mk (Kd.R_below (by (with_reducible repeat (first | apply Kd.R_alloc | apply Kd.R_drewN | apply Kd.R_drew)); exact HO_1012001.out) hb); have n2_ := Aside0.mk (Kd.R_below (by (with_reducible repeat (first | apply Kd.R_alloc | apply Kd.R_drewN | apply Kd.R_drew)); exact HO_1018001.out) hb); have n3_ := Aside0.mk (Kd.R_below (by (with_reducible repeat (first | apply Kd.R_alloc | apply Kd.R_drewN | apply Kd.R_drew)); exact HO1033.out) hb); have n4_ := Aside0.mk (Kd.R_below (by (with_reducible repeat (first | apply Kd.R_alloc | apply Kd.R_drewN | apply Kd.R_drew)); exact HO1037.out) hb); have n5_ := Aside0.mk (blk_below (g := gb995) (o := .cells #[.int .i64 a2_0, .slice A2_1 l2_1.length c2_1] 62 (0, 0)) (by (with_reducible repeat (first | refine blk_drewN ?_ _ | refine blk_drew ?_ | refine blk_alloc ?_ _)); exact BK995.out) hb); have n6_ := Aside0.mk (blk_below (g := gb1006) (o := .cells #[.int .i64 t1001, .slice Ao24 t1002.length co24] 43 (0, 0)) (by (with_reducible repeat (first | refine blk_drewN ?_ _ | refine blk_drew ?_ | refine blk_alloc ?_ _)); exact BK1006.out) hb); have n7_ := Aside0.mk (blk_below (g := gb1011) (o := .cells #[.int .i64 t1007, .slice Ao31 t1025.length co31] 43 (0, 0)) (by (with_reducible repeat (first | refine blk_drewN ?_ _ | refine blk_drew ?_ | refine blk_alloc ?_ _)); exact BK1011.out) hb); have n8_ := Aside0.mk (blk_below (g := gb1017) (o := .cells #[.int .i64 t1012, .slice Ao38 t1013.length co38] 43 (0, 0)) (by (with_reducible repeat (first | refine blk_drewN ?_ _ | refine blk_drew ?_ | refine blk_alloc ?_ _)); exact BK1017.out) hb); have n9_ := Aside0.mk (below_step (by repeat (first | (with_reducible first | exact HB.out | apply below_alloc | apply pw_below_drewN | apply below_drew1 | refine below_set ?_ GE995.out | refine below_set ?_ GE1006.out | refine below_set ?_ GE1011.out | refine below_set ?_ GE1017.out) | exact HB.out)) hb); have n10_ := Aside0.mk (hbox); have n11_ := Aside0.mk ((by rw [hg]; exact (below_size (by repeat (first | (with_reducible first | exact HB.out | apply below_alloc | apply pw_below_drewN | apply below_drew1 | refine below_set ?_ GE995.out | refine below_set ?_ GE1006.out | refine below_set ?_ GE1011.out | refine below_set ?_ GE1017.out) | exact HB.out))) : w.heap.size ≤ gb1039)); have n12_ := Aside0.mk ((by rw [hg]; exact (below_size (by repeat (first | (with_reducible first | exact HB.out | apply below_alloc | apply pw_below_drewN | apply below_drew1 | refine below_set ?_ GE995.out | refine below_set ?_ GE1006.out | refine below_set ?_ GE1011.out | refine below_set ?_ GE1017.out) | exact HB.out))) : w.heap.size ≤ gb1039)); have n13_ := Aside0.mk ((by rw [hg]; exact Nat.ne_of_lt (blk_lt (g := gb995) (o := .cells #[.int .i64 a2_0, .slice A2_1 l2_1.length c2_1] 62 (0, 0)) (by (with_reducible repeat (first | refine blk_drewN ?_ _ | refine blk_drew ?_ | refine blk_alloc ?_ _)); exact BK995.out)) : gb995 ≠ gb1039)); have n14_ := Aside0.mk ((by rw [hg]; exact Nat.ne_of_gt (blk_lt (g := gb995) (o := .cells #[.int .i64 a2_0, .slice A2_1 l2_1.length c2_1] 62 (0, 0)) (by (with_reducible repeat (first | refine blk_drewN ?_ _ | refine blk_drew ?_ | refine blk_alloc ?_ _)); exact BK995.out)) : gb1039 ≠ gb995)); have n15_ := Aside0.mk ((by rw [hg]; exact Nat.ne_of_lt (blk_lt (g := gb1006) (o := .cells #[.int .i64 t1001, .slice Ao24 t1002.length co24] 43 (0, 0)) (by (with_reducible repeat (first | refine blk_drewN ?_ _ | refine blk_drew ?_ | refine blk_alloc ?_ _)); exact BK1006.out)) : gb1006 ≠ gb1039)); have n16_ := Aside0.mk ((by rw [hg]; exact Nat.ne_of_gt (blk_lt (g := gb1006) (o := .cells #[.int .i64 t1001, .slice Ao24 t1002.length co24] 43 (0, 0)) (by (with_reducible repeat (first | refine blk_drewN ?_ _ | refine blk_drew ?_ | refine blk_alloc ?_ _)); exact BK1006.out)) : gb1039 ≠ gb1006)); have n17_ := Aside0.mk ((by rw [hg]; exact Nat.ne_of_lt (blk_lt (g := gb1011) (o := .cells #[.int .i64 t1007, .slice Ao31 t1025.length co31] 43 (0, 0)) (by (with_reducible repeat (first | refine blk_drewN ?_ _ | refine blk_drew ?_ | refine blk_alloc ?_ _)); exact BK1011.out)) : gb1011 ≠ gb1039)); have n18_ := Aside0.mk ((by rw [hg]; exact Nat.ne_of_gt (blk_lt (g := gb1011) (o := .cells #[.int .i64 t1007, .slice Ao31 t1025.length co31] 43 (0, 0)) (by (with_reducible repeat (first | refine blk_drewN ?_ _ | refine blk_drew ?_ | refine blk_alloc ?_ _)); exact BK1011.out)) : gb1039 ≠ gb1011)); have n19_ := Aside0.mk ((by rw [hg]; exact Nat.ne_of_lt (blk_lt (g := gb1017) (o := .cells #[.int .i64 t1012, .slice Ao38 t1013.length co38] 43 (0, 0)) (by (with_reducible repeat (first | refine blk_drewN ?_ _ | refine blk_drew ?_ | refine blk_alloc ?_ _)); exact BK1017.out)) : gb1017 ≠ gb1039)); have n20_ := Aside0.mk ((by rw [hg]; exact Nat.ne_of_gt (blk_lt (g := gb1017) (o := .cells #[.int .i64 t1012, .slice Ao38 t1013.length co38] 43 (0, 0)) (by (with_reducible repeat (first | refine blk_drewN ?_ _ | refine blk_drew ?_ | refine blk_alloc ?_ _)); exact BK1017.out)) : gb1039 ≠ gb1017)); clear HO_1007001; clear HO_1012001; clear HO_1018001; clear HO1033; clear HO1037; clear BK995; clear BK1006; clear BK1011; clear BK1017; clear HB; have HO_1007001 := n0_; have HO_1012001 := n1_; have HO_1018001 := n2_; have HO1033 := n3_; have HO1037 := n4_; have BK995 := n5_; have BK1006 := n6_; have BK1011 := n7_; have BK1017 := n8_; have HB := n9_; have BK1039 := n10_; have GW1039 := n11_; have GE1039 := n12_; have NB995_1039 := n13_; have NB1039_995 := n14_; have NB1006_1039 := n15_; have NB1039_1006 := n16_; have NB1011_1039 := n17_; have NB1039_1011 := n18_; have NB1017_1039 := n19_; have NB1039_1017 := n20_; clear n0_ n1_ n2_ n3_ n4_ n5_ n6_ n7_ n8_ n9_ n10_ n11_ n12_ n13_ n14_ n15_ n16_ n17_ n18_ n19_ n20_; clear hb hbox hg; have hnb120 := NB1039_995.out; have hnc120 := NB995_1039.out; have hnb121 := NB1039_1006.out; have hnc121 := NB1006_1039.out; have hnb122 := NB1039_1011.out; have hnc122 := NB1011_1039.out; have hnb123 := NB1039_1017.out; have hnc123 := NB1017_1039.out; have hcz124_0 : w119.cell? ⟨gb1039, 0, none⟩ = some (.int .i64 0) := (blk_cell BK1039.out 0).trans rfl; have hcz124_1 : w119.cell? ⟨gb1039, 1, none⟩ = some (.slice none 0 0) := (blk_cell BK1039.out 1).trans rfl; have hfz124_0 := blk_frozen BK1039.out 0; have hfz124_1 := blk_frozen BK1039.out 1; obtain ⟨Ao125, co125, eo125⟩ := Kd.R_slice HO1037.out; subst eo125))
                      (try simp only [Act.put, List.setIfInBounds_toArray, List.set_cons_zero, List.set_cons_succ])
                      go_cut [97] (fun v97 wc => ∃ (kq : Nat) (x97_104 : Bool), v97 = .bool x97_104 ∧ Aside0 (laws_FnExactNestedClaim.j2 kq t1027 x97_104 t1012 t1028 = some r) ∧ Aside0 (kq ≤ kj61) ∧ Aside0 (Kd.R k83 83 wc w.heap.size (fun k_ => some k_ ≠ ((.slice Ao31 t1025.length co31) : Value).ownBlock ∧ some k_ ≠ ((.slice Ao38 t1013.length co38) : Value).ownBlock ∧ some k_ ≠ ((.slice Ao125 t1035.length co125) : Value).ownBlock) (.slice Ao24 t1002.length co24) t1002) ∧ Aside0 (Kd.R k83 83 wc w.heap.size (fun k_ => some k_ ≠ ((.slice Ao24 t1002.length co24) : Value).ownBlock ∧ some k_ ≠ ((.slice Ao38 t1013.length co38) : Value).ownBlock ∧ some k_ ≠ ((.slice Ao125 t1035.length co125) : Value).ownBlock) (.slice Ao31 t1025.length co31) t1025) ∧ Aside0 (Kd.R k83 83 wc w.heap.size (fun k_ => some k_ ≠ ((.slice Ao24 t1002.length co24) : Value).ownBlock ∧ some k_ ≠ ((.slice Ao31 t1025.length co31) : Value).ownBlock ∧ some k_ ≠ ((.slice Ao125 t1035.length co125) : Value).ownBlock) (.slice Ao38 t1013.length co38) t1028) ∧ Aside0 (Kd.R k83 83 wc w.heap.size (fun k_ => some k_ ≠ ((.slice Ao24 t1002.length co24) : Value).ownBlock ∧ some k_ ≠ ((.slice Ao31 t1025.length co31) : Value).ownBlock ∧ some k_ ≠ ((.slice Ao38 t1013.length co38) : Value).ownBlock) (.slice Ao125 t1035.length co125) t1035) ∧ Aside0 (wc.heap[gb995]? = some (.cells #[.int .i64 a2_0, (.slice A2_1 l2_1.length c2_1)] 62 (0, 0))) ∧ Aside0 (wc.heap[gb1006]? = some (.cells #[.int .i64 t1001, (.slice Ao24 t1002.length co24)] 43 (0, 0))) ∧ Aside0 (wc.heap[gb1011]? = some (.cells #[.int .i64 t1007, (.slice Ao31 t1025.length co31)] 43 (0, 0))) ∧ Aside0 (wc.heap[gb1017]? = some (.cells #[.int .i64 t1012, (.slice Ao38 t1013.length co38)] 43 (0, 0))) ∧ Aside0 (wc.heap[gb1039]? = some (.cells #[.int .i64 t1034, (.slice Ao125 t1035.length co125)] 43 (0, 0))) ∧ Aside0 (Below w.heap.size w wc))
                      case first =>
                        have H := HC105.out
                        clear HC105
                        replace H := Option.bind_eq_some_iff.mp H
                        obtain ⟨t1040, A1260, H⟩ := H
                        replace H : (if t1040 = true then (laws_FnExactNestedClaim.j2 kj61 t1027 (t1038 != t1005) t1012 t1028) else (laws_FnExactNestedClaim.j2 kj61 t1027 true t1012 t1028)) = some r := H
                        have A126 := Aside0.mk A1260
                        clear A1260
                        by_cases c127 : t1040 = true
                        · subst c127
                          have H1 : (laws_FnExactNestedClaim.j2 kj61 t1027 (t1038 != t1005) t1012 t1028) = some r := by rw [if_pos rfl] at H; exact H
                          clear H
                          have H := H1
                          clear H1
                          have H' := Aside0.mk H
                          clear H
                          have hnb128 := NB1039_995.out
                          have hnc128 := NB995_1039.out
                          have hnb129 := NB1039_1006.out
                          have hnc129 := NB1006_1039.out
                          have hnb130 := NB1039_1011.out
                          have hnc130 := NB1011_1039.out
                          have hnb131 := NB1039_1017.out
                          have hnc131 := NB1017_1039.out
                          have hcz132_0 : w119.cell? ⟨gb1039, 0, none⟩ = some (.int .i64 0) := (blk_cell BK1039.out 0).trans rfl
                          have hcz132_1 : w119.cell? ⟨gb1039, 1, none⟩ = some (.slice none 0 0) := (blk_cell BK1039.out 1).trans rfl
                          have hfz132_0 := blk_frozen BK1039.out 0
                          have hfz132_1 := blk_frozen BK1039.out 1
                          have hnb133 := NB1006_995.out
                          have hnc133 := NB995_1006.out
                          have hnb134 := NB1006_1011.out
                          have hnc134 := NB1011_1006.out
                          have hnb135 := NB1006_1017.out
                          have hnc135 := NB1017_1006.out
                          have hcz136_0 : w119.cell? ⟨gb1006, 0, none⟩ = some (.int .i64 t1001) := (blk_cell BK1006.out 0).trans rfl
                          have hcz136_1 : w119.cell? ⟨gb1006, 1, none⟩ = some (.slice Ao24 t1002.length co24) := (blk_cell BK1006.out 1).trans rfl
                          have hfz136_0 := blk_frozen BK1006.out 0
                          have hfz136_1 := blk_frozen BK1006.out 1
                          go_wp2_with (first | ((with_reducible refine gate_callee (f := 35) rfl ?_); refine goesL_ (some 91) rfl rfl Try.func35 (by kernel_rfl) rfl #[.agg #[.int .i64 t1034, .slice Ao125 t1035.length co125], .agg #[.int .i64 t1001, .slice Ao24 t1002.length co24]] rfl (by (try simp only [List.map_toArray, List.map_cons, List.map_nil]); first | done | rfl | (simp only [List.length_drop, List.length_take]; rfl)) ?_; (with_reducible refine (laws_eqClaim.calls kj61 t1034 _ _ t1035 t1001 _ _ t1002 true _ ?side1 ?side2 ?side3 ?side4 A126.out).mono ?_); (case side1 => refine (Kd.R_reads' (e := 83) (base := w.heap.size) (ok := fun k_ => ((((True ∧ some k_ ≠ (.slice Ao24 t1002.length co24 : Value).ownBlock) ∧ some k_ ≠ (.slice Ao31 t1025.length co31 : Value).ownBlock) ∧ some k_ ≠ (.slice Ao38 t1013.length co38 : Value).ownBlock) ∧ some k_ ≠ (.slice Ao117 t1031.length co117 : Value).ownBlock)) (n := t1035.length) (c := co125) ?_).2.2; exact (by (with_reducible repeat (first | apply Kd.R_alloc | apply Kd.R_drewN | apply Kd.R_drew)); exact (Kd.R_mono (Kd.R_far (p := ⟨gb1039, 1, none⟩) (Kd.R_far (p := ⟨gb1039, 0, none⟩) (Kd.R_types HO1037.out BK1039.out (by decide)) (fun _ hk => hk.2) (.int .i64 t1034)) (fun _ hk => hk.2) (.slice Ao125 t1035.length co125)) (fun _ h_ => h_.1)))); (case side2 => exact (Kd.R_reads' HO1037.out).2.1); (case side3 => refine (Kd.R_reads' (e := 83) (base := w.heap.size) (ok := fun k_ => (((some k_ ≠ (.slice Ao31 t1025.length co31 : Value).ownBlock ∧ some k_ ≠ (.slice Ao38 t1013.length co38 : Value).ownBlock) ∧ some k_ ≠ (.slice Ao117 t1031.length co117 : Value).ownBlock) ∧ some k_ ≠ (.slice Ao125 t1035.length co125 : Value).ownBlock)) (n := t1002.length) (c := co24) ?_).2.2; exact (by (with_reducible repeat (first | apply Kd.R_alloc | apply Kd.R_drewN | apply Kd.R_drew)); exact (Kd.R_mono (Kd.R_far (p := ⟨gb1039, 1, none⟩) (Kd.R_far (p := ⟨gb1039, 0, none⟩) (Kd.R_types HO_1007001.out BK1039.out (by decide)) (fun _ hk => hk.2) (.int .i64 t1034)) (fun _ hk => hk.2) (.slice Ao125 t1035.length co125)) (fun _ h_ => h_.1)))); (case side4 => exact (Kd.R_reads' HO_1007001.out).2.1); rintro e w137 ⟨rfl, hb⟩; refine ⟨_, rfl, ?_⟩; have n0_ := Aside0.mk (Kd.R_below (by (with_reducible repeat (first | apply Kd.R_alloc | apply Kd.R_drewN | apply Kd.R_drew)); exact (Kd.R_mono (Kd.R_far (p := ⟨gb1039, 1, none⟩) (Kd.R_far (p := ⟨gb1039, 0, none⟩) (Kd.R_types HO_1007001.out BK1039.out (by decide)) (fun _ hk => hk.2) (.int .i64 t1034)) (fun _ hk => hk.2) (.slice Ao125 t1035.length co125)) (fun _ h_ => h_.1))) hb); have n1_ := Aside0.mk (Kd.R_below (by (with_reducible repeat (first | apply Kd.R_alloc | apply Kd.R_drewN | apply Kd.R_drew)); exact (Kd.R_mono (Kd.R_far (p := ⟨gb1039, 1, none⟩) (Kd.R_far (p := ⟨gb1039, 0, none⟩) (Kd.R_types HO_1012001.out BK1039.out (by decide)) (fun _ hk => hk.2) (.int .i64 t1034)) (fun _ hk => hk.2) (.slice Ao125 t1035.length co125)) (fun _ h_ => h_.1))) hb); have n2_ := Aside0.mk (Kd.R_below (by (with_reducible repeat (first | apply Kd.R_alloc | apply Kd.R_drewN | apply Kd.R_drew)); exact (Kd.R_mono (Kd.R_far (p := ⟨gb1039, 1, none⟩) (Kd.R_far (p := ⟨gb1039, 0, none⟩) (Kd.R_types HO_1018001.out BK1039.out (by decide)) (fun _ hk => hk.2) (.int .i64 t1034)) (fun _ hk => hk.2) (.slice Ao125 t1035.length co125)) (fun _ h_ => h_.1))) hb); have n3_ := Aside0.mk (Kd.R_below (by (with_reducible repeat (first | apply Kd.R_alloc | apply Kd.R_drewN | apply Kd.R_drew)); exact (Kd.R_mono (Kd.R_far (p := ⟨gb1039, 1, none⟩) (Kd.R_far (p := ⟨gb1039, 0, none⟩) (Kd.R_types HO1033.out BK1039.out (by decide)) (fun _ hk => hk.2) (.int .i64 t1034)) (fun _ hk => hk.2) (.slice Ao125 t1035.length co125)) (fun _ h_ => h_.1))) hb); have n4_ := Aside0.mk (Kd.R_below (by (with_reducible repeat (first | apply Kd.R_alloc | apply Kd.R_drewN | apply Kd.R_drew)); exact (Kd.R_mono (Kd.R_far (p := ⟨gb1039, 1, none⟩) (Kd.R_far (p := ⟨gb1039, 0, none⟩) (Kd.R_types HO1037.out BK1039.out (by decide)) (fun _ hk => hk.2) (.int .i64 t1034)) (fun _ hk => hk.2) (.slice Ao125 t1035.length co125)) (fun _ h_ => h_.1))) hb); have n5_ := Aside0.mk (blk_below (g := gb995) (o := .cells #[.int .i64 a2_0, .slice A2_1 l2_1.length c2_1] 62 (0, 0)) (by (with_reducible repeat (first | refine blk_drewN ?_ _ | refine blk_drew ?_ | refine blk_alloc ?_ _)); refine blk_far ?_ NB995_1039.out _; (with_reducible repeat (first | refine blk_drewN ?_ _ | refine blk_drew ?_ | refine blk_alloc ?_ _)); refine blk_far ?_ NB995_1039.out _; (with_reducible repeat (first | refine blk_drewN ?_ _ | refine blk_drew ?_ | refine blk_alloc ?_ _)); exact BK995.out) hb); have n6_ := Aside0.mk (blk_below (g := gb1006) (o := .cells #[.int .i64 t1001, .slice Ao24 t1002.length co24] 43 (0, 0)) (by (with_reducible repeat (first | refine blk_drewN ?_ _ | refine blk_drew ?_ | refine blk_alloc ?_ _)); refine blk_far ?_ NB1006_1039.out _; (with_reducible repeat (first | refine blk_drewN ?_ _ | refine blk_drew ?_ | refine blk_alloc ?_ _)); refine blk_far ?_ NB1006_1039.out _; (with_reducible repeat (first | refine blk_drewN ?_ _ | refine blk_drew ?_ | refine blk_alloc ?_ _)); exact BK1006.out) hb); have n7_ := Aside0.mk (blk_below (g := gb1011) (o := .cells #[.int .i64 t1007, .slice Ao31 t1025.length co31] 43 (0, 0)) (by (with_reducible repeat (first | refine blk_drewN ?_ _ | refine blk_drew ?_ | refine blk_alloc ?_ _)); refine blk_far ?_ NB1011_1039.out _; (with_reducible repeat (first | refine blk_drewN ?_ _ | refine blk_drew ?_ | refine blk_alloc ?_ _)); refine blk_far ?_ NB1011_1039.out _; (with_reducible repeat (first | refine blk_drewN ?_ _ | refine blk_drew ?_ | refine blk_alloc ?_ _)); exact BK1011.out) hb); have n8_ := Aside0.mk (blk_below (g := gb1017) (o := .cells #[.int .i64 t1012, .slice Ao38 t1013.length co38] 43 (0, 0)) (by (with_reducible repeat (first | refine blk_drewN ?_ _ | refine blk_drew ?_ | refine blk_alloc ?_ _)); refine blk_far ?_ NB1017_1039.out _; (with_reducible repeat (first | refine blk_drewN ?_ _ | refine blk_drew ?_ | refine blk_alloc ?_ _)); refine blk_far ?_ NB1017_1039.out _; (with_reducible repeat (first | refine blk_drewN ?_ _ | refine blk_drew ?_ | refine blk_alloc ?_ _)); exact BK1017.out) hb); have n9_ := Aside0.mk (blk_below (g := gb1039) (o := .cells #[.int .i64 t1034, .slice Ao125 t1035.length co125] 43 (0, 0)) (by (with_reducible repeat (first | refine blk_drewN ?_ _ | refine blk_drew ?_ | refine blk_alloc ?_ _)); refine blk_put (cs := #[.int .i64 t1034, .slice none 0 0]) ?_ 1 _ rfl; (with_reducible repeat (first | refine blk_drewN ?_ _ | refine blk_drew ?_ | refine blk_alloc ?_ _)); refine blk_put (cs := #[.int .i64 0, .slice none 0 0]) ?_ 0 _ rfl; (with_reducible repeat (first | refine blk_drewN ?_ _ | refine blk_drew ?_ | refine blk_alloc ?_ _)); exact BK1039.out) hb); have n10_ := Aside0.mk (below_step (by repeat (first | (with_reducible first | exact HB.out | apply below_alloc | apply pw_below_drewN | apply below_drew1 | refine below_set ?_ GE995.out | refine below_set ?_ GE1006.out | refine below_set ?_ GE1011.out | refine below_set ?_ GE1017.out | refine below_set ?_ GE1039.out) | exact HB.out)) hb); clear HO_1007001; clear HO_1012001; clear HO_1018001; clear HO1033; clear HO1037; clear BK995; clear BK1006; clear BK1011; clear BK1017; clear BK1039; clear HB; have HO_1007001 := n0_; have HO_1012001 := n1_; have HO_1018001 := n2_; have HO1033 := n3_; have HO1037 := n4_; have BK995 := n5_; have BK1006 := n6_; have BK1011 := n7_; have BK1017 := n8_; have BK1039 := n9_; have HB := n10_; clear n0_ n1_ n2_ n3_ n4_ n5_ n6_ n7_ n8_ n9_ n10_; (try clear hb); (try clear hb2); (try clear hk); (try clear hi)))
                          go_meet
                          case rel => exact ⟨_, ((t1038 != t1005)), (by first | rfl | (simp; done) | (simp [*]; done)), H', ⟨by have := HJ12.out; have := HJ61.out; first | omega | exact Nat.le_refl _⟩, ⟨by (try simp only [hl1012001_61]); (with_reducible repeat (first | apply Kd.R_alloc | apply Kd.R_drewN | apply Kd.R_drew)); exact Kd.R_mono HO_1007001.out (fun _ hk => ⟨hk.1.1.1, ⟨hk.1.1.2, hk.2⟩⟩)⟩, ⟨by (try simp only [hl1012001_61]); (with_reducible repeat (first | apply Kd.R_alloc | apply Kd.R_drewN | apply Kd.R_drew)); exact Kd.R_mono HO_1012001.out (fun _ hk => ⟨hk.1.1.1, ⟨hk.1.1.2, hk.2⟩⟩)⟩, ⟨by (try simp only [hl1012001_61]); (with_reducible repeat (first | apply Kd.R_alloc | apply Kd.R_drewN | apply Kd.R_drew)); exact Kd.R_mono HO_1018001.out (fun _ hk => ⟨hk.1.1.1, ⟨hk.1.1.2, hk.2⟩⟩)⟩, ⟨by (try simp only [hl1012001_61]); (with_reducible repeat (first | apply Kd.R_alloc | apply Kd.R_drewN | apply Kd.R_drew)); exact Kd.R_mono HO1037.out (fun _ hk => ⟨hk.1.1.1.2, ⟨hk.1.1.2, hk.1.2⟩⟩)⟩, ⟨by (try simp only [hl1012001_61]); (with_reducible repeat (first | refine blk_drewN ?_ _ | refine blk_drew ?_ | refine blk_alloc ?_ _)); exact BK995.out⟩, ⟨by (try simp only [hl1012001_61]); (with_reducible repeat (first | refine blk_drewN ?_ _ | refine blk_drew ?_ | refine blk_alloc ?_ _)); exact BK1006.out⟩, ⟨by (try simp only [hl1012001_61]); (with_reducible repeat (first | refine blk_drewN ?_ _ | refine blk_drew ?_ | refine blk_alloc ?_ _)); exact BK1011.out⟩, ⟨by (try simp only [hl1012001_61]); (with_reducible repeat (first | refine blk_drewN ?_ _ | refine blk_drew ?_ | refine blk_alloc ?_ _)); exact BK1017.out⟩, ⟨by (try simp only [hl1012001_61]); (with_reducible repeat (first | refine blk_drewN ?_ _ | refine blk_drew ?_ | refine blk_alloc ?_ _)); exact BK1039.out⟩, ⟨by repeat (first | (with_reducible first | exact HB.out | apply below_alloc | apply pw_below_drewN | apply below_drew1 | refine below_set ?_ GE995.out | refine below_set ?_ GE1006.out | refine below_set ?_ GE1011.out | refine below_set ?_ GE1017.out | refine below_set ?_ GE1039.out) | exact HB.out)⟩⟩
                        · replace c127 := Bool.eq_false_iff.mpr c127
                          subst c127
                          have H1 : (laws_FnExactNestedClaim.j2 kj61 t1027 true t1012 t1028) = some r := by rw [if_neg (show ¬ (false = true) by decide)] at H; exact H
                          clear H
                          have H := H1
                          clear H1
                          have H' := Aside0.mk H
                          clear H
                          have hnb138 := NB1039_995.out
                          have hnc138 := NB995_1039.out
                          have hnb139 := NB1039_1006.out
                          have hnc139 := NB1006_1039.out
                          have hnb140 := NB1039_1011.out
                          have hnc140 := NB1011_1039.out
                          have hnb141 := NB1039_1017.out
                          have hnc141 := NB1017_1039.out
                          have hcz142_0 : w119.cell? ⟨gb1039, 0, none⟩ = some (.int .i64 0) := (blk_cell BK1039.out 0).trans rfl
                          have hcz142_1 : w119.cell? ⟨gb1039, 1, none⟩ = some (.slice none 0 0) := (blk_cell BK1039.out 1).trans rfl
                          have hfz142_0 := blk_frozen BK1039.out 0
                          have hfz142_1 := blk_frozen BK1039.out 1
                          have hnb143 := NB1006_995.out
                          have hnc143 := NB995_1006.out
                          have hnb144 := NB1006_1011.out
                          have hnc144 := NB1011_1006.out
                          have hnb145 := NB1006_1017.out
                          have hnc145 := NB1017_1006.out
                          have hcz146_0 : w119.cell? ⟨gb1006, 0, none⟩ = some (.int .i64 t1001) := (blk_cell BK1006.out 0).trans rfl
                          have hcz146_1 : w119.cell? ⟨gb1006, 1, none⟩ = some (.slice Ao24 t1002.length co24) := (blk_cell BK1006.out 1).trans rfl
                          have hfz146_0 := blk_frozen BK1006.out 0
                          have hfz146_1 := blk_frozen BK1006.out 1
                          go_wp2_with (first | ((with_reducible refine gate_callee (f := 35) rfl ?_); refine goesL_ (some 91) rfl rfl Try.func35 (by kernel_rfl) rfl #[.agg #[.int .i64 t1034, .slice Ao125 t1035.length co125], .agg #[.int .i64 t1001, .slice Ao24 t1002.length co24]] rfl (by (try simp only [List.map_toArray, List.map_cons, List.map_nil]); first | done | rfl | (simp only [List.length_drop, List.length_take]; rfl)) ?_; (with_reducible refine (laws_eqClaim.calls kj61 t1034 _ _ t1035 t1001 _ _ t1002 false _ ?side1 ?side2 ?side3 ?side4 A126.out).mono ?_); (case side1 => refine (Kd.R_reads' (e := 83) (base := w.heap.size) (ok := fun k_ => ((((True ∧ some k_ ≠ (.slice Ao24 t1002.length co24 : Value).ownBlock) ∧ some k_ ≠ (.slice Ao31 t1025.length co31 : Value).ownBlock) ∧ some k_ ≠ (.slice Ao38 t1013.length co38 : Value).ownBlock) ∧ some k_ ≠ (.slice Ao117 t1031.length co117 : Value).ownBlock)) (n := t1035.length) (c := co125) ?_).2.2; exact (by (with_reducible repeat (first | apply Kd.R_alloc | apply Kd.R_drewN | apply Kd.R_drew)); exact (Kd.R_mono (Kd.R_far (p := ⟨gb1039, 1, none⟩) (Kd.R_far (p := ⟨gb1039, 0, none⟩) (Kd.R_types HO1037.out BK1039.out (by decide)) (fun _ hk => hk.2) (.int .i64 t1034)) (fun _ hk => hk.2) (.slice Ao125 t1035.length co125)) (fun _ h_ => h_.1)))); (case side2 => exact (Kd.R_reads' HO1037.out).2.1); (case side3 => refine (Kd.R_reads' (e := 83) (base := w.heap.size) (ok := fun k_ => (((some k_ ≠ (.slice Ao31 t1025.length co31 : Value).ownBlock ∧ some k_ ≠ (.slice Ao38 t1013.length co38 : Value).ownBlock) ∧ some k_ ≠ (.slice Ao117 t1031.length co117 : Value).ownBlock) ∧ some k_ ≠ (.slice Ao125 t1035.length co125 : Value).ownBlock)) (n := t1002.length) (c := co24) ?_).2.2; exact (by (with_reducible repeat (first | apply Kd.R_alloc | apply Kd.R_drewN | apply Kd.R_drew)); exact (Kd.R_mono (Kd.R_far (p := ⟨gb1039, 1, none⟩) (Kd.R_far (p := ⟨gb1039, 0, none⟩) (Kd.R_types HO_1007001.out BK1039.out (by decide)) (fun _ hk => hk.2) (.int .i64 t1034)) (fun _ hk => hk.2) (.slice Ao125 t1035.length co125)) (fun _ h_ => h_.1)))); (case side4 => exact (Kd.R_reads' HO_1007001.out).2.1); rintro e w147 ⟨rfl, hb⟩; refine ⟨_, rfl, ?_⟩; have n0_ := Aside0.mk (Kd.R_below (by (with_reducible repeat (first | apply Kd.R_alloc | apply Kd.R_drewN | apply Kd.R_drew)); exact (Kd.R_mono (Kd.R_far (p := ⟨gb1039, 1, none⟩) (Kd.R_far (p := ⟨gb1039, 0, none⟩) (Kd.R_types HO_1007001.out BK1039.out (by decide)) (fun _ hk => hk.2) (.int .i64 t1034)) (fun _ hk => hk.2) (.slice Ao125 t1035.length co125)) (fun _ h_ => h_.1))) hb); have n1_ := Aside0.mk (Kd.R_below (by (with_reducible repeat (first | apply Kd.R_alloc | apply Kd.R_drewN | apply Kd.R_drew)); exact (Kd.R_mono (Kd.R_far (p := ⟨gb1039, 1, none⟩) (Kd.R_far (p := ⟨gb1039, 0, none⟩) (Kd.R_types HO_1012001.out BK1039.out (by decide)) (fun _ hk => hk.2) (.int .i64 t1034)) (fun _ hk => hk.2) (.slice Ao125 t1035.length co125)) (fun _ h_ => h_.1))) hb); have n2_ := Aside0.mk (Kd.R_below (by (with_reducible repeat (first | apply Kd.R_alloc | apply Kd.R_drewN | apply Kd.R_drew)); exact (Kd.R_mono (Kd.R_far (p := ⟨gb1039, 1, none⟩) (Kd.R_far (p := ⟨gb1039, 0, none⟩) (Kd.R_types HO_1018001.out BK1039.out (by decide)) (fun _ hk => hk.2) (.int .i64 t1034)) (fun _ hk => hk.2) (.slice Ao125 t1035.length co125)) (fun _ h_ => h_.1))) hb); have n3_ := Aside0.mk (Kd.R_below (by (with_reducible repeat (first | apply Kd.R_alloc | apply Kd.R_drewN | apply Kd.R_drew)); exact (Kd.R_mono (Kd.R_far (p := ⟨gb1039, 1, none⟩) (Kd.R_far (p := ⟨gb1039, 0, none⟩) (Kd.R_types HO1033.out BK1039.out (by decide)) (fun _ hk => hk.2) (.int .i64 t1034)) (fun _ hk => hk.2) (.slice Ao125 t1035.length co125)) (fun _ h_ => h_.1))) hb); have n4_ := Aside0.mk (Kd.R_below (by (with_reducible repeat (first | apply Kd.R_alloc | apply Kd.R_drewN | apply Kd.R_drew)); exact (Kd.R_mono (Kd.R_far (p := ⟨gb1039, 1, none⟩) (Kd.R_far (p := ⟨gb1039, 0, none⟩) (Kd.R_types HO1037.out BK1039.out (by decide)) (fun _ hk => hk.2) (.int .i64 t1034)) (fun _ hk => hk.2) (.slice Ao125 t1035.length co125)) (fun _ h_ => h_.1))) hb); have n5_ := Aside0.mk (blk_below (g := gb995) (o := .cells #[.int .i64 a2_0, .slice A2_1 l2_1.length c2_1] 62 (0, 0)) (by (with_reducible repeat (first | refine blk_drewN ?_ _ | refine blk_drew ?_ | refine blk_alloc ?_ _)); refine blk_far ?_ NB995_1039.out _; (with_reducible repeat (first | refine blk_drewN ?_ _ | refine blk_drew ?_ | refine blk_alloc ?_ _)); refine blk_far ?_ NB995_1039.out _; (with_reducible repeat (first | refine blk_drewN ?_ _ | refine blk_drew ?_ | refine blk_alloc ?_ _)); exact BK995.out) hb); have n6_ := Aside0.mk (blk_below (g := gb1006) (o := .cells #[.int .i64 t1001, .slice Ao24 t1002.length co24] 43 (0, 0)) (by (with_reducible repeat (first | refine blk_drewN ?_ _ | refine blk_drew ?_ | refine blk_alloc ?_ _)); refine blk_far ?_ NB1006_1039.out _; (with_reducible repeat (first | refine blk_drewN ?_ _ | refine blk_drew ?_ | refine blk_alloc ?_ _)); refine blk_far ?_ NB1006_1039.out _; (with_reducible repeat (first | refine blk_drewN ?_ _ | refine blk_drew ?_ | refine blk_alloc ?_ _)); exact BK1006.out) hb); have n7_ := Aside0.mk (blk_below (g := gb1011) (o := .cells #[.int .i64 t1007, .slice Ao31 t1025.length co31] 43 (0, 0)) (by (with_reducible repeat (first | refine blk_drewN ?_ _ | refine blk_drew ?_ | refine blk_alloc ?_ _)); refine blk_far ?_ NB1011_1039.out _; (with_reducible repeat (first | refine blk_drewN ?_ _ | refine blk_drew ?_ | refine blk_alloc ?_ _)); refine blk_far ?_ NB1011_1039.out _; (with_reducible repeat (first | refine blk_drewN ?_ _ | refine blk_drew ?_ | refine blk_alloc ?_ _)); exact BK1011.out) hb); have n8_ := Aside0.mk (blk_below (g := gb1017) (o := .cells #[.int .i64 t1012, .slice Ao38 t1013.length co38] 43 (0, 0)) (by (with_reducible repeat (first | refine blk_drewN ?_ _ | refine blk_drew ?_ | refine blk_alloc ?_ _)); refine blk_far ?_ NB1017_1039.out _; (with_reducible repeat (first | refine blk_drewN ?_ _ | refine blk_drew ?_ | refine blk_alloc ?_ _)); refine blk_far ?_ NB1017_1039.out _; (with_reducible repeat (first | refine blk_drewN ?_ _ | refine blk_drew ?_ | refine blk_alloc ?_ _)); exact BK1017.out) hb); have n9_ := Aside0.mk (blk_below (g := gb1039) (o := .cells #[.int .i64 t1034, .slice Ao125 t1035.length co125] 43 (0, 0)) (by (with_reducible repeat (first | refine blk_drewN ?_ _ | refine blk_drew ?_ | refine blk_alloc ?_ _)); refine blk_put (cs := #[.int .i64 t1034, .slice none 0 0]) ?_ 1 _ rfl; (with_reducible repeat (first | refine blk_drewN ?_ _ | refine blk_drew ?_ | refine blk_alloc ?_ _)); refine blk_put (cs := #[.int .i64 0, .slice none 0 0]) ?_ 0 _ rfl; (with_reducible repeat (first | refine blk_drewN ?_ _ | refine blk_drew ?_ | refine blk_alloc ?_ _)); exact BK1039.out) hb); have n10_ := Aside0.mk (below_step (by repeat (first | (with_reducible first | exact HB.out | apply below_alloc | apply pw_below_drewN | apply below_drew1 | refine below_set ?_ GE995.out | refine below_set ?_ GE1006.out | refine below_set ?_ GE1011.out | refine below_set ?_ GE1017.out | refine below_set ?_ GE1039.out) | exact HB.out)) hb); clear HO_1007001; clear HO_1012001; clear HO_1018001; clear HO1033; clear HO1037; clear BK995; clear BK1006; clear BK1011; clear BK1017; clear BK1039; clear HB; have HO_1007001 := n0_; have HO_1012001 := n1_; have HO_1018001 := n2_; have HO1033 := n3_; have HO1037 := n4_; have BK995 := n5_; have BK1006 := n6_; have BK1011 := n7_; have BK1017 := n8_; have BK1039 := n9_; have HB := n10_; clear n0_ n1_ n2_ n3_ n4_ n5_ n6_ n7_ n8_ n9_ n10_; (try clear hb); (try clear hb2); (try clear hk); (try clear hi)))
                          go_meet
                          case rel => exact ⟨_, (true), (by first | rfl | (simp; done) | (simp [*]; done)), H', ⟨by have := HJ12.out; have := HJ61.out; first | omega | exact Nat.le_refl _⟩, ⟨by (try simp only [hl1012001_61]); (with_reducible repeat (first | apply Kd.R_alloc | apply Kd.R_drewN | apply Kd.R_drew)); exact Kd.R_mono HO_1007001.out (fun _ hk => ⟨hk.1.1.1, ⟨hk.1.1.2, hk.2⟩⟩)⟩, ⟨by (try simp only [hl1012001_61]); (with_reducible repeat (first | apply Kd.R_alloc | apply Kd.R_drewN | apply Kd.R_drew)); exact Kd.R_mono HO_1012001.out (fun _ hk => ⟨hk.1.1.1, ⟨hk.1.1.2, hk.2⟩⟩)⟩, ⟨by (try simp only [hl1012001_61]); (with_reducible repeat (first | apply Kd.R_alloc | apply Kd.R_drewN | apply Kd.R_drew)); exact Kd.R_mono HO_1018001.out (fun _ hk => ⟨hk.1.1.1, ⟨hk.1.1.2, hk.2⟩⟩)⟩, ⟨by (try simp only [hl1012001_61]); (with_reducible repeat (first | apply Kd.R_alloc | apply Kd.R_drewN | apply Kd.R_drew)); exact Kd.R_mono HO1037.out (fun _ hk => ⟨hk.1.1.1.2, ⟨hk.1.1.2, hk.1.2⟩⟩)⟩, ⟨by (try simp only [hl1012001_61]); (with_reducible repeat (first | refine blk_drewN ?_ _ | refine blk_drew ?_ | refine blk_alloc ?_ _)); exact BK995.out⟩, ⟨by (try simp only [hl1012001_61]); (with_reducible repeat (first | refine blk_drewN ?_ _ | refine blk_drew ?_ | refine blk_alloc ?_ _)); exact BK1006.out⟩, ⟨by (try simp only [hl1012001_61]); (with_reducible repeat (first | refine blk_drewN ?_ _ | refine blk_drew ?_ | refine blk_alloc ?_ _)); exact BK1011.out⟩, ⟨by (try simp only [hl1012001_61]); (with_reducible repeat (first | refine blk_drewN ?_ _ | refine blk_drew ?_ | refine blk_alloc ?_ _)); exact BK1017.out⟩, ⟨by (try simp only [hl1012001_61]); (with_reducible repeat (first | refine blk_drewN ?_ _ | refine blk_drew ?_ | refine blk_alloc ?_ _)); exact BK1039.out⟩, ⟨by repeat (first | (with_reducible first | exact HB.out | apply below_alloc | apply pw_below_drewN | apply below_drew1 | refine below_set ?_ GE995.out | refine below_set ?_ GE1006.out | refine below_set ?_ GE1011.out | refine below_set ?_ GE1017.out | refine below_set ?_ GE1039.out) | exact HB.out)⟩⟩
                      case rest =>
                        clear HC105
                        try clear c1
                        try clear c2
                        try clear p2
                        try clear c3
                        try clear c4
                        try clear c5
                        try clear c5b0
                        try clear c6
                        try clear c7
                        try clear c8
                        try clear c9
                        try clear c10
                        try clear c11
                        try clear c12
                        try clear c13
                        try clear c14
                        try clear c22
                        try clear c28
                        try clear c29
                        try clear c34
                        try clear c35
                        try clear c36
                        try clear c37
                        try clear c40
                        try clear c41
                        try clear c42
                        try clear c43
                        try clear c45
                        try clear c46
                        try clear c49
                        try clear c50
                        try clear c51
                        try clear c52
                        try clear c53
                        try clear c54
                        try clear c57
                        try clear c60
                        try clear c67
                        try clear c68
                        try clear c69
                        try clear c72
                        try clear c72b0
                        try clear c74
                        try clear c75
                        try clear c76
                        try clear c77
                        try clear c79
                        try clear c80
                        try clear c83
                        try clear c84
                        try clear c85
                        try clear c87
                        try clear c88
                        try clear c91
                        try clear c94
                        try clear c94b0
                        try clear c95
                        try clear c96
                        try clear c97
                        try clear c102
                        try clear c102b0
                        try clear c102b1
                        try clear c106
                        try clear c107
                        try clear c108
                        try clear c113
                        try clear c114
                        try clear c120
                        try clear c121
                        try clear c122
                        try clear c123
                        try clear c127
                        try clear c128
                        try clear c129
                        try clear c130
                        try clear c131
                        try clear c133
                        try clear c134
                        try clear c135
                        try clear c138
                        try clear c139
                        try clear c140
                        try clear c141
                        try clear c143
                        try clear c144
                        try clear c145
                        try clear hcz100_0
                        try clear hcz100_1
                        try clear hcz109_0
                        try clear hcz109_1
                        try clear hcz111_0
                        try clear hcz111_1
                        try clear hcz115_0
                        try clear hcz115_1
                        try clear hcz124_0
                        try clear hcz124_1
                        try clear hcz132_0
                        try clear hcz132_1
                        try clear hcz136_0
                        try clear hcz136_1
                        try clear hcz142_0
                        try clear hcz142_1
                        try clear hcz146_0
                        try clear hcz146_1
                        try clear hcz15_0
                        try clear hcz15_1
                        try clear hcz17_0
                        try clear hcz17_1
                        try clear hcz23_0
                        try clear hcz23_1
                        try clear hcz25_0
                        try clear hcz25_1
                        try clear hcz30_0
                        try clear hcz30_1
                        try clear hcz37_0
                        try clear hcz37_1
                        try clear hcz44_0
                        try clear hcz44_1
                        try clear hcz47_0
                        try clear hcz47_1
                        try clear hcz52_0
                        try clear hcz52_1
                        try clear hcz55_0
                        try clear hcz55_1
                        try clear hcz70_0
                        try clear hcz70_1
                        try clear hcz78_0
                        try clear hcz78_1
                        try clear hcz7_0
                        try clear hcz7_1
                        try clear hcz81_0
                        try clear hcz81_1
                        try clear hcz86_0
                        try clear hcz86_1
                        try clear hcz89_0
                        try clear hcz89_1
                        try clear hcz98_0
                        try clear hcz98_1
                        try clear hfz100_0
                        try clear hfz100_1
                        try clear hfz109_0
                        try clear hfz109_1
                        try clear hfz111_0
                        try clear hfz111_1
                        try clear hfz115_0
                        try clear hfz115_1
                        try clear hfz124_0
                        try clear hfz124_1
                        try clear hfz132_0
                        try clear hfz132_1
                        try clear hfz136_0
                        try clear hfz136_1
                        try clear hfz142_0
                        try clear hfz142_1
                        try clear hfz146_0
                        try clear hfz146_1
                        try clear hfz15_0
                        try clear hfz15_1
                        try clear hfz17_0
                        try clear hfz17_1
                        try clear hfz23_0
                        try clear hfz23_1
                        try clear hfz25_0
                        try clear hfz25_1
                        try clear hfz30_0
                        try clear hfz30_1
                        try clear hfz37_0
                        try clear hfz37_1
                        try clear hfz44_0
                        try clear hfz44_1
                        try clear hfz47_0
                        try clear hfz47_1
                        try clear hfz52_0
                        try clear hfz52_1
                        try clear hfz55_0
                        try clear hfz55_1
                        try clear hfz70_0
                        try clear hfz70_1
                        try clear hfz78_0
                        try clear hfz78_1
                        try clear hfz7_0
                        try clear hfz7_1
                        try clear hfz81_0
                        try clear hfz81_1
                        try clear hfz86_0
                        try clear hfz86_1
                        try clear hfz89_0
                        try clear hfz89_1
                        try clear hfz98_0
                        try clear hfz98_1
                        try clear p2
                        obtain ⟨kq, x97_104, rfl, HA, HJ104, HO_1007001, HO_1012001, HO_1018001, HO_1040001, BK995, BK1006, BK1011, BK1017, BK1039, HB⟩ := hcut
                        have hl1018001_104 := (Kd.R_reads' HO_1018001.out).1
                        rw [hl1018001_104] at HO_1018001
                        (try simp only [hl1018001_104])
                        (try simp only [hl1018001_104] at BK995)
                        (try simp only [hl1018001_104] at BK1006)
                        (try simp only [hl1018001_104] at BK1011)
                        (try simp only [hl1018001_104] at BK1017)
                        (try simp only [hl1018001_104] at BK1039)
                        (try simp only [hl1018001_104] at HO_1007001)
                        (try simp only [hl1018001_104] at HO_1012001)
                        (try simp only [hl1018001_104] at HO_1040001)
                        cases kq with
                        | zero => exact absurd HA.out (by simp [laws_FnExactNestedClaim.j2])
                        | succ kj104 =>
                          have H := HA.out
                          clear HA
                          simp only [laws_FnExactNestedClaim.j2] at H
                          by_cases c148 : x97_104 = true
                          · subst c148
                            have H1 : (some false) = some r := by rw [if_pos rfl] at H; exact H
                            clear H
                            have H := H1
                            clear H1
                            obtain rfl := Option.some.inj H
                            go_wp2
                            go_ret
                            exact ⟨by first | rfl | (simp [errW_none, errW_some] <;> rfl) | (simp [*, errW_none, errW_some] <;> rfl), by repeat (first | (with_reducible first | exact HB.out | apply below_alloc | apply pw_below_drewN | apply below_drew1 | refine below_set ?_ GE995.out | refine below_set ?_ GE1006.out | refine below_set ?_ GE1011.out | refine below_set ?_ GE1017.out | refine below_set ?_ GE1039.out) | exact HB.out)⟩
                          · replace c148 := Bool.eq_false_iff.mpr c148
                            subst c148
                            have H1 : ((laws_heldClaim.f kj104 t1012 t1028 1).bind fun t1041 => (if t1041 < 0 then (some false) else (if t1041 = t1027 then (some true) else (some false)))) = some r := by rw [if_neg (show ¬ (false = true) by decide)] at H; exact H
                            clear H
                            have H := H1
                            clear H1
                            replace H := Option.bind_eq_some_iff.mp H
                            obtain ⟨t1041, A1490, H⟩ := H
                            replace H : (if t1041 < 0 then (some false) else (if t1041 = t1027 then (some true) else (some false))) = some r := H
                            have A149 := Aside0.mk A1490
                            clear A1490
                            by_cases c150 : t1041 < 0
                            · rw [if_pos c150] at H
                              have c150b0 : decide (t1041 < 0) = true := decide_eq_true c150
                              clear c150
                              obtain rfl := Option.some.inj H
                              have hnb151 := NB1017_995.out
                              have hnc151 := NB995_1017.out
                              have hnb152 := NB1017_1006.out
                              have hnc152 := NB1006_1017.out
                              have hnb153 := NB1017_1011.out
                              have hnc153 := NB1011_1017.out
                              have hnb154 := NB1017_1039.out
                              have hnc154 := NB1039_1017.out
                              have hcz155_0 : wc.cell? ⟨gb1017, 0, none⟩ = some (.int .i64 t1012) := (blk_cell BK1017.out 0).trans rfl
                              have hcz155_1 : wc.cell? ⟨gb1017, 1, none⟩ = some (.slice Ao38 t1028.length co38) := (blk_cell BK1017.out 1).trans rfl
                              have hfz155_0 := blk_frozen BK1017.out 0
                              have hfz155_1 := blk_frozen BK1017.out 1
                              go_wp2_with (first | ((with_reducible refine gate_callee (f := 37) rfl ?_); refine goesL_ (some 100) rfl rfl Try.func37 (by kernel_rfl) rfl #[.agg #[.int .i64 t1012, .slice Ao38 t1028.length co38], .int .i64 1] rfl (by (try simp only [List.map_toArray, List.map_cons, List.map_nil]); first | done | rfl | (simp only [List.length_drop, List.length_take]; rfl)) ?_; (with_reducible refine (laws_heldClaim.calls kj104 t1012 _ _ t1028 1 t1041 _ ?side1 ?side2 A149.out).mono ?_); (case side1 => repeat (first | exact (Kd.R_reads' HO_1018001.out).2.2 | (with_reducible refine Kd.C_alloc ?_ _) | (with_reducible refine Kd.C_drewN ?_ _) | (with_reducible refine Kd.C_drew ?_))); (case side2 => exact (Kd.R_reads' HO_1018001.out).2.1); rintro e w156 ⟨rfl, hb⟩; refine ⟨_, rfl, ?_⟩; have n0_ := Aside0.mk (Kd.R_below (by (with_reducible repeat (first | apply Kd.R_alloc | apply Kd.R_drewN | apply Kd.R_drew)); exact HO_1007001.out) hb); have n1_ := Aside0.mk (Kd.R_below (by (with_reducible repeat (first | apply Kd.R_alloc | apply Kd.R_drewN | apply Kd.R_drew)); exact HO_1012001.out) hb); have n2_ := Aside0.mk (Kd.R_below (by (with_reducible repeat (first | apply Kd.R_alloc | apply Kd.R_drewN | apply Kd.R_drew)); exact HO_1018001.out) hb); have n3_ := Aside0.mk (Kd.R_below (by (with_reducible repeat (first | apply Kd.R_alloc | apply Kd.R_drewN | apply Kd.R_drew)); exact HO_1040001.out) hb); have n4_ := Aside0.mk (blk_below (g := gb995) (o := .cells #[.int .i64 a2_0, .slice A2_1 l2_1.length c2_1] 62 (0, 0)) (by (with_reducible repeat (first | refine blk_drewN ?_ _ | refine blk_drew ?_ | refine blk_alloc ?_ _)); exact BK995.out) hb); have n5_ := Aside0.mk (blk_below (g := gb1006) (o := .cells #[.int .i64 t1001, .slice Ao24 t1002.length co24] 43 (0, 0)) (by (with_reducible repeat (first | refine blk_drewN ?_ _ | refine blk_drew ?_ | refine blk_alloc ?_ _)); exact BK1006.out) hb); have n6_ := Aside0.mk (blk_below (g := gb1011) (o := .cells #[.int .i64 t1007, .slice Ao31 t1025.length co31] 43 (0, 0)) (by (with_reducible repeat (first | refine blk_drewN ?_ _ | refine blk_drew ?_ | refine blk_alloc ?_ _)); exact BK1011.out) hb); have n7_ := Aside0.mk (blk_below (g := gb1017) (o := .cells #[.int .i64 t1012, .slice Ao38 t1028.length co38] 43 (0, 0)) (by (with_reducible repeat (first | refine blk_drewN ?_ _ | refine blk_drew ?_ | refine blk_alloc ?_ _)); exact BK1017.out) hb); have n8_ := Aside0.mk (blk_below (g := gb1039) (o := .cells #[.int .i64 t1034, .slice Ao125 t1035.length co125] 43 (0, 0)) (by (with_reducible repeat (first | refine blk_drewN ?_ _ | refine blk_drew ?_ | refine blk_alloc ?_ _)); exact BK1039.out) hb); have n9_ := Aside0.mk (below_step (by repeat (first | (with_reducible first | exact HB.out | apply below_alloc | apply pw_below_drewN | apply below_drew1 | refine below_set ?_ GE995.out | refine below_set ?_ GE1006.out | refine below_set ?_ GE1011.out | refine below_set ?_ GE1017.out | refine below_set ?_ GE1039.out) | exact HB.out)) hb); clear HO_1007001; clear HO_1012001; clear HO_1018001; clear HO_1040001; clear BK995; clear BK1006; clear BK1011; clear BK1017; clear BK1039; clear HB; have HO_1007001 := n0_; have HO_1012001 := n1_; have HO_1018001 := n2_; have HO_1040001 := n3_; have BK995 := n4_; have BK1006 := n5_; have BK1011 := n6_; have BK1017 := n7_; have BK1039 := n8_; have HB := n9_; clear n0_ n1_ n2_ n3_ n4_ n5_ n6_ n7_ n8_ n9_; (try clear hb); (try clear hb2); (try clear hk); (try clear hi)))
                              go_ret
                              exact ⟨by first | rfl | (simp [errW_none, errW_some] <;> rfl) | (simp [*, errW_none, errW_some] <;> rfl), by repeat (first | (with_reducible first | exact HB.out | apply below_alloc | apply pw_below_drewN | apply below_drew1 | refine below_set ?_ GE995.out | refine below_set ?_ GE1006.out | refine below_set ?_ GE1011.out | refine below_set ?_ GE1017.out | refine below_set ?_ GE1039.out) | exact HB.out)⟩
                            · rw [if_neg c150] at H
                              have c150b0 : decide (t1041 < 0) = false := decide_eq_false c150
                              clear c150
                              by_cases c157 : t1041 = t1027
                              · rw [if_pos c157] at H
                                have c157b0 : (t1041 == t1027) = true := beq_iff_eq.mpr c157
                                have c157b1 : (t1041 != t1027) = false := bne_eq_false_iff_eq.mpr c157
                                clear c157
                                obtain rfl := Option.some.inj H
                                have hnb158 := NB1017_995.out
                                have hnc158 := NB995_1017.out
                                have hnb159 := NB1017_1006.out
                                have hnc159 := NB1006_1017.out
                                have hnb160 := NB1017_1011.out
                                have hnc160 := NB1011_1017.out
                                have hnb161 := NB1017_1039.out
                                have hnc161 := NB1039_1017.out
                                have hcz162_0 : wc.cell? ⟨gb1017, 0, none⟩ = some (.int .i64 t1012) := (blk_cell BK1017.out 0).trans rfl
                                have hcz162_1 : wc.cell? ⟨gb1017, 1, none⟩ = some (.slice Ao38 t1028.length co38) := (blk_cell BK1017.out 1).trans rfl
                                have hfz162_0 := blk_frozen BK1017.out 0
                                have hfz162_1 := blk_frozen BK1017.out 1
                                go_wp2_with (first | ((with_reducible refine gate_callee (f := 37) rfl ?_); refine goesL_ (some 100) rfl rfl Try.func37 (by kernel_rfl) rfl #[.agg #[.int .i64 t1012, .slice Ao38 t1028.length co38], .int .i64 1] rfl (by (try simp only [List.map_toArray, List.map_cons, List.map_nil]); first | done | rfl | (simp only [List.length_drop, List.length_take]; rfl)) ?_; (with_reducible refine (laws_heldClaim.calls kj104 t1012 _ _ t1028 1 t1041 _ ?side1 ?side2 A149.out).mono ?_); (case side1 => repeat (first | exact (Kd.R_reads' HO_1018001.out).2.2 | (with_reducible refine Kd.C_alloc ?_ _) | (with_reducible refine Kd.C_drewN ?_ _) | (with_reducible refine Kd.C_drew ?_))); (case side2 => exact (Kd.R_reads' HO_1018001.out).2.1); rintro e w163 ⟨rfl, hb⟩; refine ⟨_, rfl, ?_⟩; have n0_ := Aside0.mk (Kd.R_below (by (with_reducible repeat (first | apply Kd.R_alloc | apply Kd.R_drewN | apply Kd.R_drew)); exact HO_1007001.out) hb); have n1_ := Aside0.mk (Kd.R_below (by (with_reducible repeat (first | apply Kd.R_alloc | apply Kd.R_drewN | apply Kd.R_drew)); exact HO_1012001.out) hb); have n2_ := Aside0.mk (Kd.R_below (by (with_reducible repeat (first | apply Kd.R_alloc | apply Kd.R_drewN | apply Kd.R_drew)); exact HO_1018001.out) hb); have n3_ := Aside0.mk (Kd.R_below (by (with_reducible repeat (first | apply Kd.R_alloc | apply Kd.R_drewN | apply Kd.R_drew)); exact HO_1040001.out) hb); have n4_ := Aside0.mk (blk_below (g := gb995) (o := .cells #[.int .i64 a2_0, .slice A2_1 l2_1.length c2_1] 62 (0, 0)) (by (with_reducible repeat (first | refine blk_drewN ?_ _ | refine blk_drew ?_ | refine blk_alloc ?_ _)); exact BK995.out) hb); have n5_ := Aside0.mk (blk_below (g := gb1006) (o := .cells #[.int .i64 t1001, .slice Ao24 t1002.length co24] 43 (0, 0)) (by (with_reducible repeat (first | refine blk_drewN ?_ _ | refine blk_drew ?_ | refine blk_alloc ?_ _)); exact BK1006.out) hb); have n6_ := Aside0.mk (blk_below (g := gb1011) (o := .cells #[.int .i64 t1007, .slice Ao31 t1025.length co31] 43 (0, 0)) (by (with_reducible repeat (first | refine blk_drewN ?_ _ | refine blk_drew ?_ | refine blk_alloc ?_ _)); exact BK1011.out) hb); have n7_ := Aside0.mk (blk_below (g := gb1017) (o := .cells #[.int .i64 t1012, .slice Ao38 t1028.length co38] 43 (0, 0)) (by (with_reducible repeat (first | refine blk_drewN ?_ _ | refine blk_drew ?_ | refine blk_alloc ?_ _)); exact BK1017.out) hb); have n8_ := Aside0.mk (blk_below (g := gb1039) (o := .cells #[.int .i64 t1034, .slice Ao125 t1035.length co125] 43 (0, 0)) (by (with_reducible repeat (first | refine blk_drewN ?_ _ | refine blk_drew ?_ | refine blk_alloc ?_ _)); exact BK1039.out) hb); have n9_ := Aside0.mk (below_step (by repeat (first | (with_reducible first | exact HB.out | apply below_alloc | apply pw_below_drewN | apply below_drew1 | refine below_set ?_ GE995.out | refine below_set ?_ GE1006.out | refine below_set ?_ GE1011.out | refine below_set ?_ GE1017.out | refine below_set ?_ GE1039.out) | exact HB.out)) hb); clear HO_1007001; clear HO_1012001; clear HO_1018001; clear HO_1040001; clear BK995; clear BK1006; clear BK1011; clear BK1017; clear BK1039; clear HB; have HO_1007001 := n0_; have HO_1012001 := n1_; have HO_1018001 := n2_; have HO_1040001 := n3_; have BK995 := n4_; have BK1006 := n5_; have BK1011 := n6_; have BK1017 := n7_; have BK1039 := n8_; have HB := n9_; clear n0_ n1_ n2_ n3_ n4_ n5_ n6_ n7_ n8_ n9_; (try clear hb); (try clear hb2); (try clear hk); (try clear hi)))
                                go_ret
                                exact ⟨by first | rfl | (simp [errW_none, errW_some] <;> rfl) | (simp [*, errW_none, errW_some] <;> rfl), by repeat (first | (with_reducible first | exact HB.out | apply below_alloc | apply pw_below_drewN | apply below_drew1 | refine below_set ?_ GE995.out | refine below_set ?_ GE1006.out | refine below_set ?_ GE1011.out | refine below_set ?_ GE1017.out | refine below_set ?_ GE1039.out) | exact HB.out)⟩
                              · rw [if_neg c157] at H
                                have c157b0 : (t1041 == t1027) = false := beq_eq_false_iff_ne.mpr c157
                                have c157b1 : (t1041 != t1027) = true := bne_iff_ne.mpr c157
                                obtain rfl := Option.some.inj H
                                have hnb164 := NB1017_995.out
                                have hnc164 := NB995_1017.out
                                have hnb165 := NB1017_1006.out
                                have hnc165 := NB1006_1017.out
                                have hnb166 := NB1017_1011.out
                                have hnc166 := NB1011_1017.out
                                have hnb167 := NB1017_1039.out
                                have hnc167 := NB1039_1017.out
                                have hcz168_0 : wc.cell? ⟨gb1017, 0, none⟩ = some (.int .i64 t1012) := (blk_cell BK1017.out 0).trans rfl
                                have hcz168_1 : wc.cell? ⟨gb1017, 1, none⟩ = some (.slice Ao38 t1028.length co38) := (blk_cell BK1017.out 1).trans rfl
                                have hfz168_0 := blk_frozen BK1017.out 0
                                have hfz168_1 := blk_frozen BK1017.out 1
                                go_wp2_with (first | ((with_reducible refine gate_callee (f := 37) rfl ?_); refine goesL_ (some 100) rfl rfl Try.func37 (by kernel_rfl) rfl #[.agg #[.int .i64 t1012, .slice Ao38 t1028.length co38], .int .i64 1] rfl (by (try simp only [List.map_toArray, List.map_cons, List.map_nil]); first | done | rfl | (simp only [List.length_drop, List.length_take]; rfl)) ?_; (with_reducible refine (laws_heldClaim.calls kj104 t1012 _ _ t1028 1 t1041 _ ?side1 ?side2 A149.out).mono ?_); (case side1 => repeat (first | exact (Kd.R_reads' HO_1018001.out).2.2 | (with_reducible refine Kd.C_alloc ?_ _) | (with_reducible refine Kd.C_drewN ?_ _) | (with_reducible refine Kd.C_drew ?_))); (case side2 => exact (Kd.R_reads' HO_1018001.out).2.1); rintro e w169 ⟨rfl, hb⟩; refine ⟨_, rfl, ?_⟩; have n0_ := Aside0.mk (Kd.R_below (by (with_reducible repeat (first | apply Kd.R_alloc | apply Kd.R_drewN | apply Kd.R_drew)); exact HO_1007001.out) hb); have n1_ := Aside0.mk (Kd.R_below (by (with_reducible repeat (first | apply Kd.R_alloc | apply Kd.R_drewN | apply Kd.R_drew)); exact HO_1012001.out) hb); have n2_ := Aside0.mk (Kd.R_below (by (with_reducible repeat (first | apply Kd.R_alloc | apply Kd.R_drewN | apply Kd.R_drew)); exact HO_1018001.out) hb); have n3_ := Aside0.mk (Kd.R_below (by (with_reducible repeat (first | apply Kd.R_alloc | apply Kd.R_drewN | apply Kd.R_drew)); exact HO_1040001.out) hb); have n4_ := Aside0.mk (blk_below (g := gb995) (o := .cells #[.int .i64 a2_0, .slice A2_1 l2_1.length c2_1] 62 (0, 0)) (by (with_reducible repeat (first | refine blk_drewN ?_ _ | refine blk_drew ?_ | refine blk_alloc ?_ _)); exact BK995.out) hb); have n5_ := Aside0.mk (blk_below (g := gb1006) (o := .cells #[.int .i64 t1001, .slice Ao24 t1002.length co24] 43 (0, 0)) (by (with_reducible repeat (first | refine blk_drewN ?_ _ | refine blk_drew ?_ | refine blk_alloc ?_ _)); exact BK1006.out) hb); have n6_ := Aside0.mk (blk_below (g := gb1011) (o := .cells #[.int .i64 t1007, .slice Ao31 t1025.length co31] 43 (0, 0)) (by (with_reducible repeat (first | refine blk_drewN ?_ _ | refine blk_drew ?_ | refine blk_alloc ?_ _)); exact BK1011.out) hb); have n7_ := Aside0.mk (blk_below (g := gb1017) (o := .cells #[.int .i64 t1012, .slice Ao38 t1028.length co38] 43 (0, 0)) (by (with_reducible repeat (first | refine blk_drewN ?_ _ | refine blk_drew ?_ | refine blk_alloc ?_ _)); exact BK1017.out) hb); have n8_ := Aside0.mk (blk_below (g := gb1039) (o := .cells #[.int .i64 t1034, .slice Ao125 t1035.length co125] 43 (0, 0)) (by (with_reducible repeat (first | refine blk_drewN ?_ _ | refine blk_drew ?_ | refine blk_alloc ?_ _)); exact BK1039.out) hb); have n9_ := Aside0.mk (below_step (by repeat (first | (with_reducible first | exact HB.out | apply below_alloc | apply pw_below_drewN | apply below_drew1 | refine below_set ?_ GE995.out | refine below_set ?_ GE1006.out | refine below_set ?_ GE1011.out | refine below_set ?_ GE1017.out | refine below_set ?_ GE1039.out) | exact HB.out)) hb); clear HO_1007001; clear HO_1012001; clear HO_1018001; clear HO_1040001; clear BK995; clear BK1006; clear BK1011; clear BK1017; clear BK1039; clear HB; have HO_1007001 := n0_; have HO_1012001 := n1_; have HO_1018001 := n2_; have HO_1040001 := n3_; have BK995 := n4_; have BK1006 := n5_; have BK1011 := n6_; have BK1017 := n7_; have BK1039 := n8_; have HB := n9_; clear n0_ n1_ n2_ n3_ n4_ n5_ n6_ n7_ n8_ n9_; (try clear hb); (try clear hb2); (try clear hk); (try clear hi)))
                                go_ret
                                exact ⟨by first | rfl | (simp [errW_none, errW_some] <;> rfl) | (simp [*, errW_none, errW_some] <;> rfl), by repeat (first | (with_reducible first | exact HB.out | apply below_alloc | apply pw_below_drewN | apply below_drew1 | refine below_set ?_ GE995.out | refine below_set ?_ GE1006.out | refine below_set ?_ GE1011.out | refine below_set ?_ GE1017.out | refine below_set ?_ GE1039.out) | exact HB.out)⟩
                    · rw [if_neg c102] at H
                      have c102b0 : (t1029 == t1027) = false := beq_eq_false_iff_ne.mpr c102
                      have c102b1 : (t1029 != t1027) = true := bne_iff_ne.mpr c102
                      obtain rfl := Option.some.inj H
                      have hnb170 := NB1017_995.out
                      have hnc170 := NB995_1017.out
                      have hnb171 := NB1017_1006.out
                      have hnc171 := NB1006_1017.out
                      have hnb172 := NB1017_1011.out
                      have hnc172 := NB1011_1017.out
                      have hcz173_0 : wc.cell? ⟨gb1017, 0, none⟩ = some (.int .i64 t1012) := (blk_cell BK1017.out 0).trans rfl
                      have hcz173_1 : wc.cell? ⟨gb1017, 1, none⟩ = some (.slice Ao38 t1013.length co38) := (blk_cell BK1017.out 1).trans rfl
                      have hfz173_0 := blk_frozen BK1017.out 0
                      have hfz173_1 := blk_frozen BK1017.out 1
                      go_wp2_with (first | ((with_reducible refine gate_callee (f := 36) rfl ?_); refine goesL_ (some 72) rfl rfl Try.func36 (by kernel_rfl) rfl #[.agg #[.int .i64 t1012, .slice Ao38 t1013.length co38], .int .i64 1] rfl (by (try simp only [List.map_toArray, List.map_cons, List.map_nil]); first | done | rfl | (simp only [List.length_drop, List.length_take]; rfl)) ?_; (with_reducible refine (laws_markClaim.calls kj61 t1012 (fun k_ => some k_ = (.slice Ao38 t1013.length co38 : Value).ownBlock) (.slice Ao38 t1013.length co38) t1013 1 t1027 t1028 w _ ?side1 ?side2 A92.out).mono ?_); (case side1 => repeat (first | (with_reducible first | exact HB.out | apply below_alloc | apply pw_below_drewN | apply below_drew1 | refine below_set ?_ GE995.out | refine below_set ?_ GE1006.out | refine below_set ?_ GE1011.out | refine below_set ?_ GE1017.out) | exact HB.out)); (case side2 => exact Kd.R_tight rfl HO_1018001.out); rintro e w174 ⟨rfl, hy0, hb, hkp⟩; refine ⟨_, rfl, ?_⟩; have n0_ := Aside0.mk (Kd.R_mono (ok' := fun k_ => some k_ ≠ (.slice Ao31 t1025.length co31 : Value).ownBlock ∧ some k_ ≠ (.slice Ao38 t1013.length co38 : Value).ownBlock) (Kd.R_keptB (HO_1007001.out) hkp (fun k_ hk_ hs_ => (hk_.2) hs_)) (fun k_ hk_ => ⟨hk_.1.1, hk_.1.2⟩)); have n1_ := Aside0.mk (Kd.R_mono (ok' := fun k_ => some k_ ≠ (.slice Ao24 t1002.length co24 : Value).ownBlock ∧ some k_ ≠ (.slice Ao38 t1013.length co38 : Value).ownBlock) (Kd.R_keptB (HO_1012001.out) hkp (fun k_ hk_ hs_ => (hk_.2) hs_)) (fun k_ hk_ => ⟨hk_.1.1, hk_.1.2⟩)); have n2_ := Aside0.mk (Kd.R_reok rfl hy0 (fun k_ e_ => HO_1018001.out.1 k_ e_)); have n3_ := Aside0.mk (blk_kept (by (with_reducible repeat (first | refine blk_drewN ?_ _ | refine blk_drew ?_ | refine blk_alloc ?_ _)); exact BK995.out) hkp (fun hs_ => (fun e_ => (Kd.R_ne HO_1018001.out BK995.out (by decide)) e_) hs_)); have n4_ := Aside0.mk (blk_kept (by (with_reducible repeat (first | refine blk_drewN ?_ _ | refine blk_drew ?_ | refine blk_alloc ?_ _)); exact BK1006.out) hkp (fun hs_ => (fun e_ => (Kd.R_ne HO_1018001.out BK1006.out (by decide)) e_) hs_)); have n5_ := Aside0.mk (blk_kept (by (with_reducible repeat (first | refine blk_drewN ?_ _ | refine blk_drew ?_ | refine blk_alloc ?_ _)); exact BK1011.out) hkp (fun hs_ => (fun e_ => (Kd.R_ne HO_1018001.out BK1011.out (by decide)) e_) hs_)); have n6_ := Aside0.mk (blk_kept (by (with_reducible repeat (first | refine blk_drewN ?_ _ | refine blk_drew ?_ | refine blk_alloc ?_ _)); exact BK1017.out) hkp (fun hs_ => (fun e_ => (Kd.R_ne HO_1018001.out BK1017.out (by decide)) e_) hs_)); have n7_ := Aside0.mk (hb); clear HO_1007001; clear HO_1012001; clear HO_1018001; clear BK995; clear BK1006; clear BK1011; clear BK1017; clear HB; have HO_1007001 := n0_; have HO_1012001 := n1_; have HO_1018001 := n2_; have BK995 := n3_; have BK1006 := n4_; have BK1011 := n5_; have BK1017 := n6_; have HB := n7_; clear n0_ n1_ n2_ n3_ n4_ n5_ n6_ n7_; (try clear hb); (try clear hkp); (try clear hy0); have hcz175_0 : w174.cell? ⟨gb1017, 0, none⟩ = some (.int .i64 t1012) := (blk_cell BK1017.out 0).trans rfl; have hcz175_1 : w174.cell? ⟨gb1017, 1, none⟩ = some (.slice Ao38 t1013.length co38) := (blk_cell BK1017.out 1).trans rfl; have hfz175_0 := blk_frozen BK1017.out 0; have hfz175_1 := blk_frozen BK1017.out 1) | ((with_reducible refine gate_callee (f := 37) rfl ?_); refine goesL_ (some 75) rfl rfl Try.func37 (by kernel_rfl) rfl #[.agg #[.int .i64 t1012, .slice Ao38 t1028.length co38], .int .i64 1] rfl (by (try simp only [List.map_toArray, List.map_cons, List.map_nil]); first | done | (rw [show t1028.length = t1013.length from (Kd.R_reads' HO_1018001.out).1.symm] <;> rfl) | rfl | (simp only [List.length_drop, List.length_take]; rfl)) ?_; (with_reducible refine (laws_heldClaim.calls kj61 t1012 _ _ t1028 1 t1029 _ ?side1 ?side2 A93.out).mono ?_); (case side1 => repeat (first | exact (Kd.R_reads' HO_1018001.out).2.2 | (with_reducible refine Kd.C_alloc ?_ _) | (with_reducible refine Kd.C_drewN ?_ _) | (with_reducible refine Kd.C_drew ?_))); (case side2 => rw [show t1028.length = t1013.length from (Kd.R_reads' HO_1018001.out).1.symm]; exact (Kd.R_reads' HO_1018001.out).2.1); rintro e w176 ⟨rfl, hb⟩; refine ⟨_, rfl, ?_⟩; have n0_ := Aside0.mk (Kd.R_below (by (with_reducible repeat (first | apply Kd.R_alloc | apply Kd.R_drewN | apply Kd.R_drew)); exact HO_1007001.out) hb); have n1_ := Aside0.mk (Kd.R_below (by (with_reducible repeat (first | apply Kd.R_alloc | apply Kd.R_drewN | apply Kd.R_drew)); exact HO_1012001.out) hb); have n2_ := Aside0.mk (Kd.R_below (by (with_reducible repeat (first | apply Kd.R_alloc | apply Kd.R_drewN | apply Kd.R_drew)); exact HO_1018001.out) hb); have n3_ := Aside0.mk (blk_below (g := gb995) (o := .cells #[.int .i64 a2_0, .slice A2_1 l2_1.length c2_1] 62 (0, 0)) (by (with_reducible repeat (first | refine blk_drewN ?_ _ | refine blk_drew ?_ | refine blk_alloc ?_ _)); exact BK995.out) hb); have n4_ := Aside0.mk (blk_below (g := gb1006) (o := .cells #[.int .i64 t1001, .slice Ao24 t1002.length co24] 43 (0, 0)) (by (with_reducible repeat (first | refine blk_drewN ?_ _ | refine blk_drew ?_ | refine blk_alloc ?_ _)); exact BK1006.out) hb); have n5_ := Aside0.mk (blk_below (g := gb1011) (o := .cells #[.int .i64 t1007, .slice Ao31 t1025.length co31] 43 (0, 0)) (by (with_reducible repeat (first | refine blk_drewN ?_ _ | refine blk_drew ?_ | refine blk_alloc ?_ _)); exact BK1011.out) hb); have n6_ := Aside0.mk (blk_below (g := gb1017) (o := .cells #[.int .i64 t1012, .slice Ao38 t1013.length co38] 43 (0, 0)) (by (with_reducible repeat (first | refine blk_drewN ?_ _ | refine blk_drew ?_ | refine blk_alloc ?_ _)); exact BK1017.out) hb); have n7_ := Aside0.mk (below_step (by repeat (first | (with_reducible first | exact HB.out | apply below_alloc | apply pw_below_drewN | apply below_drew1 | refine below_set ?_ GE995.out | refine below_set ?_ GE1006.out | refine below_set ?_ GE1011.out | refine below_set ?_ GE1017.out) | exact HB.out)) hb); clear HO_1007001; clear HO_1012001; clear HO_1018001; clear BK995; clear BK1006; clear BK1011; clear BK1017; clear HB; have HO_1007001 := n0_; have HO_1012001 := n1_; have HO_1018001 := n2_; have BK995 := n3_; have BK1006 := n4_; have BK1011 := n5_; have BK1017 := n6_; have HB := n7_; clear n0_ n1_ n2_ n3_ n4_ n5_ n6_ n7_; (try clear hb); (try clear hb2); (try clear hk); (try clear hi)))
                      go_ret
                      exact ⟨by first | rfl | (simp [errW_none, errW_some] <;> rfl) | (simp [*, errW_none, errW_some] <;> rfl), by repeat (first | (with_reducible first | exact HB.out | apply below_alloc | apply pw_below_drewN | apply below_drew1 | refine below_set ?_ GE995.out | refine below_set ?_ GE1006.out | refine below_set ?_ GE1011.out | refine below_set ?_ GE1017.out) | exact HB.out)⟩
          · replace c60 := Bool.eq_false_iff.mpr c60
            subst c60
            have H1 : (some false) = some r := by rw [if_neg (show ¬ (false = true) by decide)] at H; exact H
            clear H
            have H := H1
            clear H1
            obtain rfl := Option.some.inj H
            try go_wp2
            have n0_ := Aside0.mk (Kd.R_drew HO_1007001.out)
            have n1_ := Aside0.mk (Kd.R_drew HO_1012001.out)
            have n2_ := Aside0.mk (Kd.R_drew HO_1018001.out)
            have n3_ := Aside0.mk (blk_drew BK995.out)
            have n4_ := Aside0.mk (blk_drew BK1006.out)
            have n5_ := Aside0.mk (blk_drew BK1011.out)
            have n6_ := Aside0.mk (blk_drew BK1017.out)
            have n7_ := Aside0.mk (below_drew1 HB.out)
            clear HO_1007001
            clear HO_1012001
            clear HO_1018001
            clear BK995
            clear BK1006
            clear BK1011
            clear BK1017
            clear HB
            have HO_1007001 := n0_
            have HO_1012001 := n1_
            have HO_1018001 := n2_
            have BK995 := n3_
            have BK1006 := n4_
            have BK1011 := n5_
            have BK1017 := n6_
            have HB := n7_
            clear n0_ n1_ n2_ n3_ n4_ n5_ n6_ n7_
            refine start_ (n := 5) (S := fun w' => w'.cell? ⟨gb1011, 0, none⟩ = some (.int .i64 t1007) ∧ w'.cell? ⟨gb1011, 1, none⟩ = some (.slice Ao31 t1008.length co31) ∧ w'.cell? ⟨gb995, 0, none⟩ = some (.int .i64 a2_0) ∧ w'.cell? ⟨gb995, 1, none⟩ = some (.slice A2_1 l2_1.length c2_1)) (ds := []) #[false, false, false, false, false] (by kernel_rfl) rfl rfl ⟨(blk_cell BK1011.out 0).trans rfl, (blk_cell BK1011.out 1).trans rfl, (blk_cell BK995.out 0).trans rfl, (blk_cell BK995.out 1).trans rfl⟩ (fun hHeld => ?_)
            generalize wc.drew = w177 at HO_1007001 HO_1012001 HO_1018001 BK995 BK1006 BK1011 BK1017 HB hHeld ⊢
            refine take_ (i := 0) (N := some 49) (v := ?_) (a' := ?_) #[true, false, false, false, false] rfl rfl (by kernel_rfl) (fun _ _ _ h => h) (Or.inl ⟨by rfl, ?_⟩) hHeld ?_ ?_
            rotate_left
            · rintro w' ⟨s0, s1, s2, s3⟩
              go_simp
              with_reducible rfl
            rotate_left
            · simp only [Act.put, List.setIfInBounds_toArray, List.set_cons_zero, List.set_cons_succ, i64_w, i32_w]
              rfl
            refine take_ (i := 1) (N := some 50) (v := ?_) (a' := ?_) #[true, true, false, false, false] rfl rfl (by kernel_rfl) (fun _ _ _ h => h) (Or.inl ⟨by rfl, ?_⟩) hHeld ?_ ?_
            rotate_left
            · rintro w' ⟨s0, s1, s2, s3⟩
              go_simp
              with_reducible rfl
            rotate_left
            · simp only [Act.put, List.setIfInBounds_toArray, List.set_cons_zero, List.set_cons_succ, i64_w, i32_w]
              rfl
            refine one_ (i := 2) (N := some 51) #[true, true, true, false, false] rfl rfl (by kernel_rfl) (by decide) (fun K hK => ?_)
            refine goes_ Try.func52 (by kernel_rfl) rfl #[.agg #[.int .i64 a2_0, .slice A2_1 l2_1.length c2_1]] (by rfl) rfl rfl (by (try simp only [List.map_toArray, List.map_cons, List.map_nil]); first | done | rfl | (simp only [List.length_drop, List.length_take]; rfl)) ?_
            with_reducible refine (laws_toClaim.calls kj12 a2_0 _ _ l2_1 t1019 t1020 _ ?side1 ?side2 A58.out).mono ?_
            (case side1 => repeat (first | exact (Kd.C_below HR2_1.out HB.out) | (with_reducible refine Kd.C_alloc ?_ _) | (with_reducible refine Kd.C_drewN ?_ _) | (with_reducible refine Kd.C_drew ?_)))
            (case side2 => exact HC2_1.out)
            rintro e w178 ⟨v1021, rfl, ho0, hb⟩
            refine ⟨_, rfl, ?_⟩
            have n0_ := Aside0.mk (Kd.R_elder' (by (with_reducible repeat (first | apply Kd.R_alloc | apply Kd.R_drewN | apply Kd.R_drew)); exact HO_1007001.out) (Kd.R_base ho0) hb)
            have n1_ := Aside0.mk (Kd.R_elder' (by (with_reducible repeat (first | apply Kd.R_alloc | apply Kd.R_drewN | apply Kd.R_drew)); exact HO_1012001.out) (Kd.R_base ho0) hb)
            have n2_ := Aside0.mk (Kd.R_elder' (by (with_reducible repeat (first | apply Kd.R_alloc | apply Kd.R_drewN | apply Kd.R_drew)); exact HO_1018001.out) (Kd.R_base ho0) hb)
            have n3_ := Aside0.mk (Kd.R_lower (Kd.R_new' (Kd.R_new' (Kd.R_new' ho0 (Kd.R_lt (by (with_reducible repeat (first | apply Kd.R_alloc | apply Kd.R_drewN | apply Kd.R_drew)); exact HO_1007001.out))) (Kd.R_lt (by (with_reducible repeat (first | apply Kd.R_alloc | apply Kd.R_drewN | apply Kd.R_drew)); exact HO_1012001.out))) (Kd.R_lt (by (with_reducible repeat (first | apply Kd.R_alloc | apply Kd.R_drewN | apply Kd.R_drew)); exact HO_1018001.out))) (below_size (by repeat (first | (with_reducible first | exact HB.out | apply below_alloc | apply pw_below_drewN | apply below_drew1 | refine below_set ?_ GE995.out | refine below_set ?_ GE1006.out | refine below_set ?_ GE1011.out | refine below_set ?_ GE1017.out) | exact HB.out))))
            have n4_ := Aside0.mk (blk_below (g := gb995) (o := .cells #[.int .i64 a2_0, .slice A2_1 l2_1.length c2_1] 62 (0, 0)) (by (with_reducible repeat (first | refine blk_drewN ?_ _ | refine blk_drew ?_ | refine blk_alloc ?_ _)); exact BK995.out) hb)
            have n5_ := Aside0.mk (blk_below (g := gb1006) (o := .cells #[.int .i64 t1001, .slice Ao24 t1002.length co24] 43 (0, 0)) (by (with_reducible repeat (first | refine blk_drewN ?_ _ | refine blk_drew ?_ | refine blk_alloc ?_ _)); exact BK1006.out) hb)
            have n6_ := Aside0.mk (blk_below (g := gb1011) (o := .cells #[.int .i64 t1007, .slice Ao31 t1008.length co31] 43 (0, 0)) (by (with_reducible repeat (first | refine blk_drewN ?_ _ | refine blk_drew ?_ | refine blk_alloc ?_ _)); exact BK1011.out) hb)
            have n7_ := Aside0.mk (blk_below (g := gb1017) (o := .cells #[.int .i64 t1012, .slice Ao38 t1013.length co38] 43 (0, 0)) (by (with_reducible repeat (first | refine blk_drewN ?_ _ | refine blk_drew ?_ | refine blk_alloc ?_ _)); exact BK1017.out) hb)
            have n8_ := Aside0.mk (below_step (by repeat (first | (with_reducible first | exact HB.out | apply below_alloc | apply pw_below_drewN | apply below_drew1 | refine below_set ?_ GE995.out | refine below_set ?_ GE1006.out | refine below_set ?_ GE1011.out | refine below_set ?_ GE1017.out) | exact HB.out)) hb)
            clear HO_1007001
            clear HO_1012001
            clear HO_1018001
            clear BK995
            clear BK1006
            clear BK1011
            clear BK1017
            clear HB
            have HO_1007001 := n0_
            have HO_1012001 := n1_
            have HO_1018001 := n2_
            have HO1022 := n3_
            have BK995 := n4_
            have BK1006 := n5_
            have BK1011 := n6_
            have BK1017 := n7_
            have HB := n8_
            clear n0_ n1_ n2_ n3_ n4_ n5_ n6_ n7_ n8_
            (try clear hb)
            (try clear hb2)
            (try clear hk)
            (try clear hi)
            (try clear ho0)
            obtain ⟨Ao179, co179, eo179⟩ := Kd.R_slice HO1022.out
            (first | subst eo179 | (injection eo179 with f1_ f2_ f3_; have f4_ := f1_.symm; have f5_ := f3_.symm; clear f1_ f2_ f3_; subst f4_; subst f5_))
            refine hK.out _ _ ⟨(blk_cell BK1011.out 0).trans rfl, (blk_cell BK1011.out 1).trans rfl, (blk_cell BK995.out 0).trans rfl, (blk_cell BK995.out 1).trans rfl⟩ (fun hHeld => ?_)
            clear hK K
            refine norm_ (a' := ?_) ?_ ?_
            rotate_left
            · show Act.put _ (some 51) _ = _
              simp only [Act.put, List.setIfInBounds_toArray, List.set_cons_zero, List.set_cons_succ, i64_w, i32_w]
              rfl
            refine one_ (i := 3) (N := some 52) #[true, true, true, true, false] rfl rfl (by kernel_rfl) (by decide) (fun K hK => ?_)
            refine goes_ Try.func35 (by kernel_rfl) rfl #[.agg #[.int .i64 t1007, .slice Ao31 t1008.length co31], .agg #[.int .i64 t1019, .slice Ao179 t1020.length co179]] (by rfl) rfl rfl (by (try simp only [List.map_toArray, List.map_cons, List.map_nil]); first | done | rfl | (simp only [List.length_drop, List.length_take]; rfl)) ?_
            with_reducible refine (laws_eqClaim.calls kj12 t1007 _ _ t1008 t1019 _ _ t1020 false _ ?side1 ?side2 ?side3 ?side4 A59.out).mono ?_
            (case side1 => repeat (first | exact (Kd.R_reads' HO_1012001.out).2.2 | (with_reducible refine Kd.C_alloc ?_ _) | (with_reducible refine Kd.C_drewN ?_ _) | (with_reducible refine Kd.C_drew ?_)))
            (case side2 => exact (Kd.R_reads' HO_1012001.out).2.1)
            (case side3 => repeat (first | exact (Kd.R_reads' HO1022.out).2.2 | (with_reducible refine Kd.C_alloc ?_ _) | (with_reducible refine Kd.C_drewN ?_ _) | (with_reducible refine Kd.C_drew ?_)))
            (case side4 => exact (Kd.R_reads' HO1022.out).2.1)
            rintro e w180 ⟨rfl, hb⟩
            refine ⟨_, rfl, ?_⟩
            have n0_ := Aside0.mk (Kd.R_below (by (with_reducible repeat (first | apply Kd.R_alloc | apply Kd.R_drewN | apply Kd.R_drew)); exact HO_1007001.out) hb)
            have n1_ := Aside0.mk (Kd.R_below (by (with_reducible repeat (first | apply Kd.R_alloc | apply Kd.R_drewN | apply Kd.R_drew)); exact HO_1012001.out) hb)
            have n2_ := Aside0.mk (Kd.R_below (by (with_reducible repeat (first | apply Kd.R_alloc | apply Kd.R_drewN | apply Kd.R_drew)); exact HO_1018001.out) hb)
            have n3_ := Aside0.mk (Kd.R_below (by (with_reducible repeat (first | apply Kd.R_alloc | apply Kd.R_drewN | apply Kd.R_drew)); exact HO1022.out) hb)
            have n4_ := Aside0.mk (blk_below (g := gb995) (o := .cells #[.int .i64 a2_0, .slice A2_1 l2_1.length c2_1] 62 (0, 0)) (by (with_reducible repeat (first | refine blk_drewN ?_ _ | refine blk_drew ?_ | refine blk_alloc ?_ _)); exact BK995.out) hb)
            have n5_ := Aside0.mk (blk_below (g := gb1006) (o := .cells #[.int .i64 t1001, .slice Ao24 t1002.length co24] 43 (0, 0)) (by (with_reducible repeat (first | refine blk_drewN ?_ _ | refine blk_drew ?_ | refine blk_alloc ?_ _)); exact BK1006.out) hb)
            have n6_ := Aside0.mk (blk_below (g := gb1011) (o := .cells #[.int .i64 t1007, .slice Ao31 t1008.length co31] 43 (0, 0)) (by (with_reducible repeat (first | refine blk_drewN ?_ _ | refine blk_drew ?_ | refine blk_alloc ?_ _)); exact BK1011.out) hb)
            have n7_ := Aside0.mk (blk_below (g := gb1017) (o := .cells #[.int .i64 t1012, .slice Ao38 t1013.length co38] 43 (0, 0)) (by (with_reducible repeat (first | refine blk_drewN ?_ _ | refine blk_drew ?_ | refine blk_alloc ?_ _)); exact BK1017.out) hb)
            have n8_ := Aside0.mk (below_step (by repeat (first | (with_reducible first | exact HB.out | apply below_alloc | apply pw_below_drewN | apply below_drew1 | refine below_set ?_ GE995.out | refine below_set ?_ GE1006.out | refine below_set ?_ GE1011.out | refine below_set ?_ GE1017.out) | exact HB.out)) hb)
            clear HO_1007001
            clear HO_1012001
            clear HO_1018001
            clear HO1022
            clear BK995
            clear BK1006
            clear BK1011
            clear BK1017
            clear HB
            have HO_1007001 := n0_
            have HO_1012001 := n1_
            have HO_1018001 := n2_
            have HO1022 := n3_
            have BK995 := n4_
            have BK1006 := n5_
            have BK1011 := n6_
            have BK1017 := n7_
            have HB := n8_
            clear n0_ n1_ n2_ n3_ n4_ n5_ n6_ n7_ n8_
            (try clear hb)
            (try clear hb2)
            (try clear hk)
            (try clear hi)
            refine hK.out _ _ ⟨(blk_cell BK1011.out 0).trans rfl, (blk_cell BK1011.out 1).trans rfl, (blk_cell BK995.out 0).trans rfl, (blk_cell BK995.out 1).trans rfl⟩ (fun hHeld => ?_)
            clear hK K
            refine norm_ (a' := ?_) ?_ ?_
            rotate_left
            · show Act.put _ (some 52) _ = _
              simp only [Act.put, List.setIfInBounds_toArray, List.set_cons_zero, List.set_cons_succ, i64_w, i32_w]
              rfl
            refine pure_ (i := 4) (N := some 53) (v := ?_) (a' := ?_) #[true, true, true, true, true] rfl rfl (by kernel_rfl) (fun _ _ _ h => h) (Or.inl ⟨by rfl, ?_⟩) ?_ ?_
            rotate_left
            · intro w'
              go_simp
              with_reducible rfl
            rotate_left
            · simp only [Act.put, List.setIfInBounds_toArray, List.set_cons_zero, List.set_cons_succ, i64_w, i32_w]
              rfl
            refine done_ (by kernel_rfl) ?_
            try go_wp2
            go_ret
            exact ⟨by first | rfl | (simp [errW_none, errW_some] <;> rfl) | (simp [*, errW_none, errW_some] <;> rfl), by repeat (first | (with_reducible first | exact HB.out | apply below_alloc | apply pw_below_drewN | apply below_drew1 | refine below_set ?_ GE995.out | refine below_set ?_ GE1006.out | refine below_set ?_ GE1011.out | refine below_set ?_ GE1017.out) | exact HB.out)⟩

/-- THE ONE PURE STATEMENT of laws_FnExactNestedClaim: this session's. -/
def laws_FnExactNestedClaim.Pure : Prop := ∀ (a0 : Int) (a1 : Int) (a2_0 : Int) (l2_1 : List (S85)), (Lit.int .i64 a0).wf = true → (Lit.int .i64 a1).wf = true → (Lit.int .i64 a2_0).wf = true → l2_1.length ≤ 9223372036854775807 → (∀ y ∈ l2_1, wf85 y) → ∃ k, laws_FnExactNestedClaim.f k a0 a1 a2_0 l2_1 = some true
theorem laws_FnExactNestedClaim.walk (P : laws_FnExactNestedClaim.Pure) (a0 : Int) (a1 : Int) (a2_0 : Int) (A2_1 : Option Addr) (c2_1 : Nat) (l2_1 : List (S85)) (w : World) (hw0 : (Lit.int .i64 a0).wf = true) (hw1 : (Lit.int .i64 a1).wf = true) (hw2_0 : (Lit.int .i64 a2_0).wf = true) (hr2_1 : Kd.C k85 w A2_1 l2_1.length l2_1) (hc2_1 : l2_1.length ≤ c2_1) (hw2_1 : (∀ y ∈ l2_1, wf85 y)) :
    Calls Try.prog 12 #[.int .i64 a0, .int .i64 a1, .agg #[.int .i64 a2_0, .slice A2_1 l2_1.length c2_1]] w fun e w' => e = .returned (.bool true) ∧ Below w.heap.size w w' := by
  obtain ⟨k, h⟩ := P a0 a1 a2_0 l2_1 hw0 hw1 hw2_0 hr2_1.2.1 hw2_1
  refine (laws_FnExactNestedClaim.calls k a0 a1 a2_0 A2_1 c2_1 l2_1 true w hr2_1 hc2_1 h).mono ?_
  rintro e w' ⟨rfl, hd⟩
  exact ⟨rfl, hd⟩

end Go.Proofs.Ytofcmhpoebbnoaa.X
