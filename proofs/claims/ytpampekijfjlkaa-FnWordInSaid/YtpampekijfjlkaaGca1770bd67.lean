/- Joined by a program of this session's: X54. -/
import Derived.Test.YtpampekijfjlkaaG68f3bf9e92
import Derived.Test.YtpampekijfjlkaaGdf36ccccb3

-- printed by a program of this session's (xprint)
namespace Go.Proofs.Ytpampekijfjlkaa.X
open Go.RowKit Go.Proofs.YtpampekijfjlkaaW.PrintWords Go.Proofs.YtpampekijfjlkaaW.PrintLast Go.Proofs.YtpampekijfjlkaaW.PrintMore
attribute [local go_sem] max2_int min2_int max_two min_two max_three min_three max_four min_four   -- for this text's walks alone
set_option linter.unusedVariables false
set_option linter.unusedSimpArgs false

/-! ### spec_l20Term: function 117 -/
mutual
def spec_l20Term.l0 : Nat → Int → Int → List (List (S52)) → Int → List Int → Int → Option ((List (S52)) × Int)
 | 0, _, _, _, _, _, _ => none
 | k + 1, x1, x2, x7, x8, x1000, x1001 => if x8 > 0 then ((spec_l20Rd_pick.f k x1000 x1001 4).bind fun bt381 => (if bt381.1 = 0 then ((spec_l20Rd_pick.f k x1000 bt381.2 (wrap64 (x1 + 2))).bind fun bt383 => (if x7.length < 5864062014805 then (spec_l20Term.l0 k x1 x2 (x7 ++ [(([(⟨1, bt383.1⟩ : S52)] : List (S52)))]) (wrap64 (x8 - 1)) x1000 bt383.2) else (none))) else ((spec_l20Rd_pick.f k x1000 bt381.2 x1).bind fun bt391 => (if x7.length < 5864062014805 then (spec_l20Term.l0 k x1 x2 (x7 ++ [(([(⟨0, bt391.1⟩ : S52)] : List (S52)))]) (wrap64 (x8 - 1)) x1000 bt391.2) else (none))))) else (spec_l20Term.l1 k x2 x7 3 x1000 x1001)
def spec_l20Term.l1 : Nat → Int → List (List (S52)) → Int → List Int → Int → Option ((List (S52)) × Int)
 | 0, _, _, _, _, _ => none
 | k + 1, x2, x7, x9, x1000, x1001 => if (x7.length : Int) > 1 then ((spec_l20Rd_pick.f k x1000 x1001 (wrap64 ((x7.length : Int) - 1))).bind fun bt399 => (if x9 > 0 then ((spec_l20Rd_pick.f k x1000 bt399.2 4).bind fun bt401 => (if bt401.1 = 0 then ((some (([] : List (S52)) : List (S52))).bind fun y403 => (if 0 ≤ bt399.1 then (if bt399.1 < (x7.length : Int) then (if y403.length + (rd_L5 x7 bt399.1).length < 8796093022208 then ((some (y403 ++ (rd_L5 x7 bt399.1) : List (S52))).bind fun y407 => (if y407.length < 8796093022208 then (spec_l20Term.l1 k x2 (x7.set (bt399.1 : Int).toNat (y407 ++ [(⟨2, 0⟩ : S52)])) (wrap64 (x9 - 1)) x1000 bt401.2) else (none))) else (none)) else (none)) else (none))) else ((some (([] : List (S52)) : List (S52))).bind fun y414 => (if 0 ≤ bt399.1 then (if bt399.1 < (x7.length : Int) then (if y414.length + (rd_L5 x7 bt399.1).length < 8796093022208 then ((some (y414 ++ (rd_L5 x7 bt399.1) : List (S52))).bind fun y418 => (if 0 ≤ (wrap64 (bt399.1 + 1)) then (if (wrap64 (bt399.1 + 1)) < (x7.length : Int) then (if y418.length + (rd_L5 x7 (wrap64 (bt399.1 + 1))).length < 8796093022208 then ((some (y418 ++ (rd_L5 x7 (wrap64 (bt399.1 + 1))) : List (S52))).bind fun y422 => ((spec_l20Rd_pick.f k x1000 bt401.2 3).bind fun bt425 => (if y422.length < 8796093022208 then ((some (([] : List (List (S52))) : List (List (S52)))).bind fun y430 => (if bt399.1 ≤ (x7.length : Int) then ((some (x7.take (bt399.1 : Int).toNat : List (List (S52)))).bind fun y433 => (if y430.length + y433.length < 5864062014805 then ((some (y430 ++ y433 : List (List (S52)))).bind fun y437 => (if y437.length < 5864062014805 then ((some (y437 ++ [(y422 ++ [(⟨wrap64 (3 + bt425.1), 0⟩ : S52)])] : List (List (S52)))).bind fun y440 => (if 0 ≤ (wrap64 (bt399.1 + 2)) then (if (wrap64 (bt399.1 + 2)) ≤ (x7.length : Int) then ((some (x7.drop ((wrap64 (bt399.1 + 2)) : Int).toNat : List (List (S52)))).bind fun y443 => (if y440.length + y443.length < 5864062014805 then (spec_l20Term.l1 k x2 (y440 ++ y443) x9 x1000 bt425.2) else (none))) else (none)) else (none))) else (none))) else (none))) else (none))) else (none)))) else (none)) else (none)) else (none))) else (none)) else (none)) else (none))))) else ((some (([] : List (S52)) : List (S52))).bind fun y450 => (if 0 ≤ bt399.1 then (if bt399.1 < (x7.length : Int) then (if y450.length + (rd_L5 x7 bt399.1).length < 8796093022208 then ((some (y450 ++ (rd_L5 x7 bt399.1) : List (S52))).bind fun y454 => (if 0 ≤ (wrap64 (bt399.1 + 1)) then (if (wrap64 (bt399.1 + 1)) < (x7.length : Int) then (if y454.length + (rd_L5 x7 (wrap64 (bt399.1 + 1))).length < 8796093022208 then ((some (y454 ++ (rd_L5 x7 (wrap64 (bt399.1 + 1))) : List (S52))).bind fun y458 => ((spec_l20Rd_pick.f k x1000 bt399.2 3).bind fun bt461 => (if y458.length < 8796093022208 then ((some (([] : List (List (S52))) : List (List (S52)))).bind fun y466 => (if bt399.1 ≤ (x7.length : Int) then ((some (x7.take (bt399.1 : Int).toNat : List (List (S52)))).bind fun y469 => (if y466.length + y469.length < 5864062014805 then ((some (y466 ++ y469 : List (List (S52)))).bind fun y473 => (if y473.length < 5864062014805 then ((some (y473 ++ [(y458 ++ [(⟨wrap64 (3 + bt461.1), 0⟩ : S52)])] : List (List (S52)))).bind fun y476 => (if 0 ≤ (wrap64 (bt399.1 + 2)) then (if (wrap64 (bt399.1 + 2)) ≤ (x7.length : Int) then ((some (x7.drop ((wrap64 (bt399.1 + 2)) : Int).toNat : List (List (S52)))).bind fun y479 => (if y476.length + y479.length < 5864062014805 then (spec_l20Term.l1 k x2 (y476 ++ y479) x9 x1000 bt461.2) else (none))) else (none)) else (none))) else (none))) else (none))) else (none))) else (none)))) else (none)) else (none)) else (none))) else (none)) else (none)) else (none))))) else (if 0 < (x7.length : Int) then ((spec_l20Rd_pick.f k x1000 x1001 5).bind fun bt488 => (if bt488.1 = 0 then (if (rd_L5 x7 0).length < 8796093022208 then (spec_l20Term.j2 k x2 ((rd_L5 x7 0) ++ [(⟨2, 0⟩ : S52)]) x1000 bt488.2) else (none)) else (spec_l20Term.j2 k x2 (rd_L5 x7 0) x1000 bt488.2))) else (none))
def spec_l20Term.j2 : Nat → Int → List (S52) → List Int → Int → Option ((List (S52)) × Int)
 | 0, _, _, _, _ => none
 | k + 1, x2, x13, x1000, x1001 => (spec_l20Rd_odd.f k x1000 x1001 x2).bind fun bt493 => (if bt493.1 = true then ((spec_l20Rd_pick.f k x1000 bt493.2 3).bind fun bt495 => (if bt495.1 = 0 then (some ((([] : List (S52))), bt495.2)) else (if bt495.1 = 1 then (if x13.length < 8796093022208 then (some ((x13 ++ [(⟨5, 0⟩ : S52)]), bt495.2)) else (none)) else ((spec_l20Rd_pick.f k x1000 bt495.2 2).bind fun bt503 => (if 0 < (x13.length : Int) then (some ((x13.set (0 : Int).toNat (⟨bt503.1, 6⟩ : S52)), bt503.2)) else (none)))))) else (some (x13, bt493.2)))
end
def spec_l20Term.f (k : Nat) (s0_0 : List Int) (s0_1 : Int) (a1 : Int) (a2 : Int) : Option ((List (S52)) × Int) := (spec_l20Rd_pick.f k s0_0 s0_1 4).bind fun bt379 => (spec_l20Term.l0 k (mn (mx a1 1) 4) a2 (([] : List (List (S52)))) (wrap64 (1 + bt379.1)) s0_0 bt379.2)
theorem spec_l20Term.mono_l : ∀ k, (∀ y0 y1 y2 y3 y4 y5, LeO (spec_l20Term.l0 k y0 y1 y2 y3 y4 y5) (spec_l20Term.l0 (k + 1) y0 y1 y2 y3 y4 y5)) ∧ (∀ y0 y1 y2 y3 y4, LeO (spec_l20Term.l1 k y0 y1 y2 y3 y4) (spec_l20Term.l1 (k + 1) y0 y1 y2 y3 y4)) ∧ (∀ y0 y1 y2 y3, LeO (spec_l20Term.j2 k y0 y1 y2 y3) (spec_l20Term.j2 (k + 1) y0 y1 y2 y3))
 | 0 => ⟨fun _ _ _ _ _ _ r h => by simp [spec_l20Term.l0] at h, fun _ _ _ _ _ r h => by simp [spec_l20Term.l1] at h, fun _ _ _ _ r h => by simp [spec_l20Term.j2] at h⟩
 | k + 1 => by
  obtain ⟨ih0, ih1, ih2⟩ := spec_l20Term.mono_l k
  refine ⟨?_, ?_, ?_⟩
  ·intro y0 y1 y2 y3 y4 y5
   unfold spec_l20Term.l0
   repeat' first
   | (with_reducible exact ih0 _ _ _ _ _ _)
   | (with_reducible exact ih1 _ _ _ _ _)
   | (with_reducible exact ih2 _ _ _ _)
   | (with_reducible exact spec_l20Rd_odd.mono _ _ _ _)
   | (with_reducible exact spec_l20Rd_pick.mono _ _ _ _)
   | (with_reducible exact LeO.refl _)
   | (with_reducible exact LeO.none _)
   | (with_reducible refine LeO.ite ?_ ?_)
   | (with_reducible refine LeO.bind ?_ (fun _ => ?_))
   | exact ih0 _ _ _ _ _ _
   | exact ih1 _ _ _ _ _
   | exact ih2 _ _ _ _
   | exact spec_l20Rd_odd.mono _ _ _ _
   | exact spec_l20Rd_pick.mono _ _ _ _
   | exact LeO.none _
   | refine LeO.ite ?_ ?_
   | refine LeO.bind ?_ (fun _ => ?_)
  ·intro y0 y1 y2 y3 y4
   unfold spec_l20Term.l1
   repeat' first
   | (with_reducible exact ih0 _ _ _ _ _ _)
   | (with_reducible exact ih1 _ _ _ _ _)
   | (with_reducible exact ih2 _ _ _ _)
   | (with_reducible exact spec_l20Rd_odd.mono _ _ _ _)
   | (with_reducible exact spec_l20Rd_pick.mono _ _ _ _)
   | (with_reducible exact LeO.refl _)
   | (with_reducible exact LeO.none _)
   | (with_reducible refine LeO.ite ?_ ?_)
   | (with_reducible refine LeO.bind ?_ (fun _ => ?_))
   | exact ih0 _ _ _ _ _ _
   | exact ih1 _ _ _ _ _
   | exact ih2 _ _ _ _
   | exact spec_l20Rd_odd.mono _ _ _ _
   | exact spec_l20Rd_pick.mono _ _ _ _
   | exact LeO.none _
   | refine LeO.ite ?_ ?_
   | refine LeO.bind ?_ (fun _ => ?_)
  ·intro y0 y1 y2 y3
   unfold spec_l20Term.j2
   repeat' first
   | (with_reducible exact ih0 _ _ _ _ _ _)
   | (with_reducible exact ih1 _ _ _ _ _)
   | (with_reducible exact ih2 _ _ _ _)
   | (with_reducible exact spec_l20Rd_odd.mono _ _ _ _)
   | (with_reducible exact spec_l20Rd_pick.mono _ _ _ _)
   | (with_reducible exact LeO.refl _)
   | (with_reducible exact LeO.none _)
   | (with_reducible refine LeO.ite ?_ ?_)
   | (with_reducible refine LeO.bind ?_ (fun _ => ?_))
   | exact ih0 _ _ _ _ _ _
   | exact ih1 _ _ _ _ _
   | exact ih2 _ _ _ _
   | exact spec_l20Rd_odd.mono _ _ _ _
   | exact spec_l20Rd_pick.mono _ _ _ _
   | exact LeO.none _
   | refine LeO.ite ?_ ?_
   | refine LeO.bind ?_ (fun _ => ?_)
theorem spec_l20Term.mono : ∀ a0 a1 a2 a3 k, LeO (spec_l20Term.f k a0 a1 a2 a3) (spec_l20Term.f (k + 1) a0 a1 a2 a3) := by
 intro a0 a1 a2 a3 k
 obtain ⟨ih0, ih1, ih2⟩ := spec_l20Term.mono_l k
 unfold spec_l20Term.f
 repeat' first
   | (with_reducible exact ih0 _ _ _ _ _ _)
   | (with_reducible exact ih1 _ _ _ _ _)
   | (with_reducible exact ih2 _ _ _ _)
   | (with_reducible exact spec_l20Rd_odd.mono _ _ _ _)
   | (with_reducible exact spec_l20Rd_pick.mono _ _ _ _)
   | (with_reducible exact LeO.refl _)
   | (with_reducible exact LeO.none _)
   | (with_reducible refine LeO.ite ?_ ?_)
   | (with_reducible refine LeO.bind ?_ (fun _ => ?_))
   | exact ih0 _ _ _ _ _ _
   | exact ih1 _ _ _ _ _
   | exact ih2 _ _ _ _
   | exact spec_l20Rd_odd.mono _ _ _ _
   | exact spec_l20Rd_pick.mono _ _ _ _
   | exact LeO.none _
   | refine LeO.ite ?_ ?_
   | refine LeO.bind ?_ (fun _ => ?_)
def spec_l20Term.T15 : Bool × List (List Nat × List Nat) := (true, [([], []), ([], []), ([], []), ([1, 2], [1, 2]), ([3], [3]), ([0, 4], [0, 4]), ([], []), ([], []), ([7], [7]), ([6, 8], [6, 8]), ([9], [9]), ([5, 10, 5], [5, 10]), ([], []), ([12, 11], [12]), ([13], [13]), ([14], [14]), ([15], [15]), ([11, 16, 13], [11, 16]), ([17, 17, 0, 1, 2, 3, 4, 5, 6, 7, 8, 9, 10, 11, 12, 13, 14, 15, 16, 17], [17])])
def spec_l20Term.B15 : List Nat := [0, 0, 0, 6, 14, 31, 0, 0, 128, 448, 960, 2047, 0, 8191, 16383, 32767, 65535, 131071, 262143]
theorem spec_l20Term.tab15 : rtab .any (opsOf Try.f117 15) = spec_l20Term.T15 := by kernel_rfl
theorem spec_l20Term.bits15 : waitsOk spec_l20Term.T15.2 spec_l20Term.B15 = true := by kernel_rfl
set_option maxHeartbeats 8000000 in
set_option maxRecDepth 100000 in
theorem spec_l20Term.calls (k : Nat) (g : Nat) (s0_0 : List Int) (s0_1 : Int) (a1 : Int) (a2 : Int) (r1 : List (S52)) (r2 : Int) (w0 w : World) (hI : IsS115 w0 w g s0_0 s0_1) (hB : Below w0.heap.size w0 w) (h : spec_l20Term.f k s0_0 s0_1 a1 a2 = some (r1, r2)) :
  Calls Try.prog 117 #[.pointer (some ⟨g, 0, none⟩), .int .i64 a1, .int .i64 a2] w fun e w' => ∃ v0_ : Value, e = .returned (v0_) ∧ Kd.R k52 52 w' w.heap.size (fun _ => True) v0_ r1 ∧ IsS115 w0 w' g s0_0 r2 ∧ Below w0.heap.size w0 w' ∧ KeepBut w w' g none := by
 have hu52 := Try.underlying52
 have HI0 := Aside0.mk hI
 have HK := Aside0.mk (KeepBut.refl w g none)
 have HL := Aside0.mk hB.size
 clear hI
 have HW0 := Aside0.mk hB.size
 have HB := Aside0.mk hB
 clear hB
 have H : ((spec_l20Rd_pick.f k s0_0 s0_1 4).bind fun bt379 => (spec_l20Term.l0 k (mn (mx a1 1) 4) a2 (([] : List (List (S52)))) (wrap64 (1 + bt379.1)) s0_0 bt379.2)) = some (r1, r2) := h
 clear h
 obtain ⟨ji4, hji4⟩ : ∃ j_ : Int, (mx a1 1) = j_ := ⟨_, rfl⟩
 replace H : ((spec_l20Rd_pick.f k s0_0 s0_1 4).bind fun bt379 => (spec_l20Term.l0 k (mn (ji4) 4) a2 (([] : List (List (S52)))) (wrap64 (1 + bt379.1)) s0_0 bt379.2)) = some (r1, r2) := by first | (rw [hji4] at H; exact H) | (simp only [hji4] at H ⊢; exact H)
 (try (have hji4l : 1 ≤ ji4 := by (rw [← hji4]; unfold mx; (repeat' split) <;> omega)))
 (try (have hji4m : 0 ≤ ji4 := by omega))
 have hji4_ : (if a1 < 1 then 1 else a1) = ji4 := hji4
 obtain ⟨ji5, hji5⟩ : ∃ j_ : Int, (mn (ji4) 4) = j_ := ⟨_, rfl⟩
 replace H : ((spec_l20Rd_pick.f k s0_0 s0_1 4).bind fun bt379 => (spec_l20Term.l0 k ji5 a2 (([] : List (List (S52)))) (wrap64 (1 + bt379.1)) s0_0 bt379.2)) = some (r1, r2) := by first | (rw [hji5] at H; exact H) | (simp only [hji5] at H ⊢; exact H)
 have hji5_ : (if 4 < (ji4) then 4 else (ji4)) = ji5 := hji5
 obtain ⟨y376, hy376⟩ : ∃ y_ : List (List (S52)), y_ = (([] : List (List (S52)))) := ⟨_, rfl⟩
 replace H : ((spec_l20Rd_pick.f k s0_0 s0_1 4).bind fun bt379 => (spec_l20Term.l0 k ji5 a2 y376 (wrap64 (1 + bt379.1)) s0_0 bt379.2)) = some (r1, r2) := by first | (rw [hy376]; with_reducible exact H) | (have H2_ := (Option.bind_some _ _).symm.trans H; rw [hy376]; with_reducible exact H2_) | (have H2_ := (Option.bind_some _ _).symm.trans H; with_reducible exact H2_) | with_reducible exact H | (rw [hy376]; exact H) | exact H
 have Ny376 := Aside0.mk hy376
 clear hy376
 replace H := Option.bind_eq_some_iff.mp H
 obtain ⟨⟨t379, t380⟩, A60, H⟩ := H
 replace H : (spec_l20Term.l0 k ji5 a2 y376 (wrap64 (1 + t379)) s0_0 t380) = some (r1, r2) := H
 have A6 := Aside0.mk A60
 clear A60
 have H' := Aside0.mk H
 clear H
 go_enter Try.func117, Try.ntmps117
 go_wp2_with (first | ((with_reducible refine gate_dst (N := 17) rfl ?_); refine Kd.R_lit (Kd.slice 52 k52) _ 34 ?hg (N := 17) ?hd (xs := ([] : List (List (S52)))) (inner := []) (ok := fun _ => True) (okp := fun _ => True) ?hr ?hp (fun _ hk => hk) trivial (Below.refl _ _) (Nat.le_refl _) (by simp) ?_; (case hd => rfl); (case hg => rfl); (case hr => first | (go_simp; done) | (go_simp; rfl)); (case hp => exact (Reps.none _ _)); intro v377 w7 ho8 hb hg_ hnew_; clear hg_ hnew_; (first | rw [← Ny376.out] at ho8 | (simp only [Int.reduceToNat] at ho8; rw [← Ny376.out] at ho8)); have n0_ := Aside0.mk (Kd.R_lower ho8 (keep_size (w := w) (g := g) (row := none) (by repeat (first | (with_reducible first | exact HK.out | apply KeepBut.set_ | apply keep_drewN | apply keep_drew | apply keep_alloc) | exact HK.out)))); have n1_ := Aside0.mk (IsS115.below (by repeat (first | (with_reducible first | exact HI0.out | apply IsS115.alloc | apply IsS115.drewN | apply IsS115.drew | apply IsS115.set_1) | exact HI0.out)) hb); have n2_ := Aside0.mk (KeepBut.trans (by repeat (first | (with_reducible first | exact HK.out | apply KeepBut.set_ | apply keep_drewN | apply keep_drew | apply keep_alloc) | exact HK.out)) (KeepBut.of_below hb g none) (.inl rfl)); have n3_ := Aside0.mk (below_step (by repeat (first | (with_reducible first | exact HB.out | apply below_alloc | apply pw_below_drewN | apply below_drew1 | refine below_set ?_ (IsS115.ge HI0.out)) | exact HB.out)) hb); clear HI0; clear HK; clear HB; have HO378 := n0_; have HI0 := n1_; have HK := n2_; have HB := n3_; clear n0_ n1_ n2_ n3_; clear hb ho8) | ((with_reducible refine gate_callee (f := 116) rfl ?_); refine goesL_ (some 19) rfl rfl Try.func116 (by kernel_rfl) rfl #[.pointer (some ⟨g, 0, none⟩), .int .i64 4] rfl (by (try simp only [List.map_toArray, List.map_cons, List.map_nil]); first | done | rfl | (simp only [List.length_drop, List.length_take]; rfl)) ?_; (with_reducible refine (spec_l20Rd_pick.calls k g s0_0 s0_1 4 t379 t380 w0 _ ?side1 ?side2 A6.out).mono ?_); (case side1 => repeat (first | (with_reducible first | exact HI0.out | apply IsS115.alloc | apply IsS115.drewN | apply IsS115.drew | apply IsS115.set_1) | exact HI0.out)); (case side2 => repeat (first | (with_reducible first | exact HB.out | apply below_alloc | apply pw_below_drewN | apply below_drew1 | refine below_set ?_ (IsS115.ge HI0.out)) | exact HB.out)); rintro e w9 ⟨rfl, hi, hb, hk⟩; refine ⟨_, rfl, ?_⟩; have n0_ := Aside0.mk (Kd.R_mono (Kd.R_keep (IsS115.apart (show IsS115 w0 _ g s0_0 s0_1 from by repeat (first | (with_reducible first | exact HI0.out | apply IsS115.alloc | apply IsS115.drewN | apply IsS115.drew | apply IsS115.set_1) | exact HI0.out)) (by (with_reducible repeat (first | apply Kd.R_alloc | apply Kd.R_drewN | apply Kd.R_drew)); exact HO378.out) (by decide)) hk (fun _ h => h.2)) (fun _ h => h.1)); have n1_ := Aside0.mk (KeepBut.trans (by repeat (first | (with_reducible first | exact HK.out | apply KeepBut.set_ | apply keep_drewN | apply keep_drew | apply keep_alloc) | exact HK.out)) hk (.inl rfl)); have n2_ := Aside0.mk (hb); have n3_ := Aside0.mk (hi); clear HO378; clear HK; clear HB; clear HI0; have HO378 := n0_; have HK := n1_; have HB := n2_; have HI0 := n3_; clear n0_ n1_ n2_ n3_; (try clear hb); (try clear hb2); (try clear hk); (try clear hi)))
 go_loopg [7, 8] k (fun kq v7 v8 w' => ∃ (x7_1 : List (List (S52))) (x8_1 : Int) (x1001_1 : Int), v8 = .int .i64 x8_1 ∧ Aside0 (spec_l20Term.l0 kq ji5 a2 x7_1 x8_1 s0_0 x1001_1 = some (r1, r2)) ∧ Aside0 (kq ≤ k) ∧ Aside0 (Kd.R (Kd.slice 52 k52) 34 w' w.heap.size (fun _ => True) v7 x7_1) ∧ Aside0 (IsS115 w0 w' g s0_0 x1001_1) ∧ Aside0 (KeepBut w w' g none) ∧ Aside0 (Below w0.heap.size w0 w'))
 case atStart => exact ⟨(y376), (wrap64 (1 + t379)), (t380), (by first | rfl | (simp; done) | (simp [*]; done)), H', ⟨Nat.le_refl _⟩, ⟨by (with_reducible repeat (first | apply Kd.R_alloc | apply Kd.R_drewN | apply Kd.R_drew)); exact HO378.out⟩, ⟨by repeat (first | (with_reducible first | exact HI0.out | apply IsS115.alloc | apply IsS115.drewN | apply IsS115.drew | apply IsS115.set_1) | exact HI0.out)⟩, ⟨by repeat (first | (with_reducible first | exact HK.out | apply KeepBut.set_ | apply keep_drewN | apply keep_drew | apply keep_alloc) | exact HK.out)⟩, ⟨by repeat (first | (with_reducible first | exact HB.out | apply below_alloc | apply pw_below_drewN | apply below_drew1 | refine below_set ?_ (IsS115.ge HI0.out)) | exact HB.out)⟩⟩
 case round =>
  try clear hji4_ hji5_
  clear H'
  try clear c1
  try clear p2
  try clear p6
  obtain ⟨x7_1, x8_1, x1001_1, rfl, HA, HK1, HO_7, HI0, HK, HB⟩ := hrel
  cases gk with
  | zero => exact absurd HA.out (by simp [spec_l20Term.l0])
  | succ k1 =>
   have H := HA.out
   clear HA
   simp only [spec_l20Term.l0] at H
   by_cases c10 : x8_1 > 0
   ·rw [if_pos c10] at H
    have c10b0 : decide (0 < x8_1) = true := decide_eq_true c10
    clear c10
    replace H := Option.bind_eq_some_iff.mp H
    obtain ⟨⟨t381, t382⟩, A110, H⟩ := H
    replace H : (if t381 = 0 then ((spec_l20Rd_pick.f k1 s0_0 t382 (wrap64 (ji5 + 2))).bind fun bt383 => (if x7_1.length < 5864062014805 then (spec_l20Term.l0 k1 ji5 a2 (x7_1 ++ [(([(⟨1, bt383.1⟩ : S52)] : List (S52)))]) (wrap64 (x8_1 - 1)) s0_0 bt383.2) else (none))) else ((spec_l20Rd_pick.f k1 s0_0 t382 ji5).bind fun bt391 => (if x7_1.length < 5864062014805 then (spec_l20Term.l0 k1 ji5 a2 (x7_1 ++ [(([(⟨0, bt391.1⟩ : S52)] : List (S52)))]) (wrap64 (x8_1 - 1)) s0_0 bt391.2) else (none)))) = some (r1, r2) := H
    have A11 := Aside0.mk A110
    clear A110
    by_cases c12 : t381 = 0
    ·rw [if_pos c12] at H
     have c12b0 : (t381 == 0) = true := beq_iff_eq.mpr c12
     have c12b1 : (t381 != 0) = false := bne_eq_false_iff_eq.mpr c12
     clear c12
     replace H := Option.bind_eq_some_iff.mp H
     obtain ⟨⟨t383, t384⟩, A130, H⟩ := H
     replace H : (if x7_1.length < 5864062014805 then (spec_l20Term.l0 k1 ji5 a2 (x7_1 ++ [(([(⟨1, t383⟩ : S52)] : List (S52)))]) (wrap64 (x8_1 - 1)) s0_0 t384) else (none)) = some (r1, r2) := H
     have A13 := Aside0.mk A130
     clear A130
     obtain ⟨y385, hy385⟩ : ∃ y_ : List (S52), y_ = (([(⟨1, t383⟩ : S52)] : List (S52))) := ⟨_, rfl⟩
     replace H : (if x7_1.length < 5864062014805 then (spec_l20Term.l0 k1 ji5 a2 (x7_1 ++ [y385]) (wrap64 (x8_1 - 1)) s0_0 t384) else (none)) = some (r1, r2) := by first | (rw [hy385]; with_reducible exact H) | (have H2_ := (Option.bind_some _ _).symm.trans H; rw [hy385]; with_reducible exact H2_) | (have H2_ := (Option.bind_some _ _).symm.trans H; with_reducible exact H2_) | with_reducible exact H | (rw [hy385]; exact H) | exact H
     have Ny385 := Aside0.mk hy385
     clear hy385
     by_cases c14 : x7_1.length < 5864062014805
     ·rw [if_pos c14] at H
      have LMc14 := Aside0.mk c14
      clear c14
      obtain ⟨y388, hy388⟩ : ∃ y_ : List (List (S52)), y_ = (x7_1 ++ [y385]) := ⟨_, rfl⟩
      replace H : (spec_l20Term.l0 k1 ji5 a2 y388 (wrap64 (x8_1 - 1)) s0_0 t384) = some (r1, r2) := by first | (rw [hy388]; with_reducible exact H) | (have H2_ := (Option.bind_some _ _).symm.trans H; rw [hy388]; with_reducible exact H2_) | (have H2_ := (Option.bind_some _ _).symm.trans H; with_reducible exact H2_) | with_reducible exact H | (rw [hy388]; exact H) | exact H
      have Ny388 := Aside0.mk hy388
      clear hy388
      have H' := Aside0.mk H
      clear H
      go_wp2_with (first | ((with_reducible refine gate_callee (f := 116) rfl ?_); refine goesL_ (some 26) rfl rfl Try.func116 (by kernel_rfl) rfl #[.pointer (some ⟨g, 0, none⟩), .int .i64 4] rfl (by (try simp only [List.map_toArray, List.map_cons, List.map_nil]); first | done | rfl | (simp only [List.length_drop, List.length_take]; rfl)) ?_; (with_reducible refine (spec_l20Rd_pick.calls k1 g s0_0 x1001_1 4 t381 t382 w0 _ ?side1 ?side2 A11.out).mono ?_); (case side1 => repeat (first | (with_reducible first | exact HI0.out | apply IsS115.alloc | apply IsS115.drewN | apply IsS115.drew | apply IsS115.set_1) | exact HI0.out)); (case side2 => repeat (first | (with_reducible first | exact HB.out | apply below_alloc | apply pw_below_drewN | apply below_drew1 | refine below_set ?_ (IsS115.ge HI0.out)) | exact HB.out)); rintro e w15 ⟨rfl, hi, hb, hk⟩; refine ⟨_, rfl, ?_⟩; have n0_ := Aside0.mk (Kd.R_mono (Kd.R_keep (IsS115.apart (show IsS115 w0 _ g s0_0 x1001_1 from by repeat (first | (with_reducible first | exact HI0.out | apply IsS115.alloc | apply IsS115.drewN | apply IsS115.drew | apply IsS115.set_1) | exact HI0.out)) (by (with_reducible repeat (first | apply Kd.R_alloc | apply Kd.R_drewN | apply Kd.R_drew)); exact HO_7.out) (by decide)) hk (fun _ h => h.2)) (fun _ h => h.1)); have n1_ := Aside0.mk (KeepBut.trans (by repeat (first | (with_reducible first | exact HK.out | apply KeepBut.set_ | apply keep_drewN | apply keep_drew | apply keep_alloc) | exact HK.out)) hk (.inl rfl)); have n2_ := Aside0.mk (hb); have n3_ := Aside0.mk (hi); clear HO_7; clear HK; clear HB; clear HI0; have HO_7 := n0_; have HK := n1_; have HB := n2_; have HI0 := n3_; clear n0_ n1_ n2_ n3_; (try clear hb); (try clear hb2); (try clear hk); (try clear hi)) | ((with_reducible refine gate_callee (f := 116) rfl ?_); refine goesL_ (some 32) rfl rfl Try.func116 (by kernel_rfl) rfl #[.pointer (some ⟨g, 0, none⟩), .int .i64 (wrap64 (ji5 + 2))] rfl (by (try simp only [List.map_toArray, List.map_cons, List.map_nil]); first | done | (simp only [hji5]; rfl) | rfl | (simp only [List.length_drop, List.length_take]; rfl)) ?_; (with_reducible refine (spec_l20Rd_pick.calls k1 g s0_0 t382 (wrap64 (ji5 + 2)) t383 t384 w0 _ ?side1 ?side2 A13.out).mono ?_); (case side1 => repeat (first | (with_reducible first | exact HI0.out | apply IsS115.alloc | apply IsS115.drewN | apply IsS115.drew | apply IsS115.set_1) | exact HI0.out)); (case side2 => repeat (first | (with_reducible first | exact HB.out | apply below_alloc | apply pw_below_drewN | apply below_drew1 | refine below_set ?_ (IsS115.ge HI0.out)) | exact HB.out)); rintro e w16 ⟨rfl, hi, hb, hk⟩; refine ⟨_, rfl, ?_⟩; have n0_ := Aside0.mk (Kd.R_mono (Kd.R_keep (IsS115.apart (show IsS115 w0 _ g s0_0 t382 from by repeat (first | (with_reducible first | exact HI0.out | apply IsS115.alloc | apply IsS115.drewN | apply IsS115.drew | apply IsS115.set_1) | exact HI0.out)) (by (with_reducible repeat (first | apply Kd.R_alloc | apply Kd.R_drewN | apply Kd.R_drew)); exact HO_7.out) (by decide)) hk (fun _ h => h.2)) (fun _ h => h.1)); have n1_ := Aside0.mk (KeepBut.trans (by repeat (first | (with_reducible first | exact HK.out | apply KeepBut.set_ | apply keep_drewN | apply keep_drew | apply keep_alloc) | exact HK.out)) hk (.inl rfl)); have n2_ := Aside0.mk (hb); have n3_ := Aside0.mk (hi); clear HO_7; clear HK; clear HB; clear HI0; have HO_7 := n0_; have HK := n1_; have HB := n2_; have HI0 := n3_; clear n0_ n1_ n2_ n3_; (try clear hb); (try clear hb2); (try clear hk); (try clear hi)) | ((with_reducible refine gate_dst (N := 34) rfl ?_); refine Kd.R_lit k52 _ 52 ?hg (N := 34) ?hd (xs := ([(⟨1, t383⟩ : S52)] : List (S52))) (inner := [.int .i64 1, .int .i64 t383]) (ok := fun _ => True) (okp := fun _ => True) ?hr ?hp (fun _ hk => hk) trivial (Below.refl _ _) (Nat.le_refl _) (by simp) ?_; (case hd => rfl); (case hg => rfl); (case hr => first | (go_simp; done) | (go_simp; rfl)); (case hp => exact (Reps.c2 (show Kd.M k52 _ _ _ (⟨1, t383⟩ : S52) [.int .i64 1, .int .i64 t383] from (k52_mkM _ _ _ (⟨1, t383⟩ : S52) )) (Reps.none _ _))); intro v386 w17 ho18 hb hg_ hnew_; clear hg_ hnew_; (first | rw [← Ny385.out] at ho18 | (simp only [Int.reduceToNat] at ho18; rw [← Ny385.out] at ho18)); have n0_ := Aside0.mk (Kd.R_elder' (by (with_reducible repeat (first | apply Kd.R_alloc | apply Kd.R_drewN | apply Kd.R_drew)); exact HO_7.out) (Kd.R_base ho18) hb); have n1_ := Aside0.mk (Kd.R_lower ho18 (keep_size (w := w) (g := g) (row := none) (by repeat (first | (with_reducible first | exact HK.out | apply KeepBut.set_ | apply keep_drewN | apply keep_drew | apply keep_alloc) | exact HK.out)))); have n2_ := Aside0.mk (IsS115.below (by repeat (first | (with_reducible first | exact HI0.out | apply IsS115.alloc | apply IsS115.drewN | apply IsS115.drew | apply IsS115.set_1) | exact HI0.out)) hb); have n3_ := Aside0.mk (KeepBut.trans (by repeat (first | (with_reducible first | exact HK.out | apply KeepBut.set_ | apply keep_drewN | apply keep_drew | apply keep_alloc) | exact HK.out)) (KeepBut.of_below hb g none) (.inl rfl)); have n4_ := Aside0.mk (below_step (by repeat (first | (with_reducible first | exact HB.out | apply below_alloc | apply pw_below_drewN | apply below_drew1 | refine below_set ?_ (IsS115.ge HI0.out)) | exact HB.out)) hb); clear HO_7; clear HI0; clear HK; clear HB; have HO_7 := n0_; have HO387 := n1_; have HI0 := n2_; have HK := n3_; have HB := n4_; clear n0_ n1_ n2_ n3_ n4_; clear hb ho18; obtain ⟨Ao20, co20, eo20⟩ := Kd.R_slice HO387.out; subst eo20) | ((with_reducible refine gate_builtin (b := .append) (xs := #[.tmp 28, .tmp 35]) rfl ?_); at_builtin; refine Kd.R_append (Kd.slice 52 k52) w.heap.size rfl (.tmp 28) (.tmp 35) 116 34 (.slice none 0 0) 24 rfl Try.underlying116 info34 rfl (by decide) (by omega) u7 x7_1 y385 [.slice Ao20 y385.length co20] (fun _ => True) (fun k_ => ((fun _ => True)) k_ ∧ some k_ ≠ (u7 : Value).ownBlock) rfl rfl ?aP (fun _ hk => hk) ?aF ?aO (Below.refl _ _) ?aS ?aL ?_; (case aP => exact Kd.M_row (Kd.R_mono (Kd.R_apart' (HO387.out) (Kd.R_typed HO_7.out) (by decide)) (fun k_ hk => ⟨trivial, hk.2⟩))); (case aF => exact (fun _ _ => trivial)); (case aO => exact (by (with_reducible repeat (first | apply Kd.R_alloc | apply Kd.R_drewN | apply Kd.R_drew)); exact Kd.R_mono HO_7.out (fun _ hk => trivial))); (case aS => exact (keep_size (w := w) (g := g) (row := none) (by repeat (first | (with_reducible first | exact HK.out | apply KeepBut.set_ | apply keep_drewN | apply keep_drew | apply keep_alloc) | exact HK.out)))); (case aL => have := LMc14.out; omega); intro v389 w19 ho hb hg hat; rw [← Ny388.out] at ho; have n0_ := Aside0.mk (IsS115.grown (by repeat (first | (with_reducible first | exact HI0.out | apply IsS115.alloc | apply IsS115.drewN | apply IsS115.drew | apply IsS115.set_1) | exact HI0.out)) hg (IsS115.own_ne HI0.out HO_7.out (by decide))); have n1_ := Aside0.mk (below_weaken (by repeat (first | (with_reducible first | exact HB.out | apply below_alloc | apply pw_below_drewN | apply below_drew1 | refine below_set ?_ (IsS115.ge HI0.out)) | exact HB.out)) HL.out hb); have n2_ := Aside0.mk (KeepBut.trans (by repeat (first | (with_reducible first | exact HK.out | apply KeepBut.set_ | apply keep_drewN | apply keep_drew | apply keep_alloc) | exact HK.out)) (KeepBut.of_grown hg g) (Kd.R_base2 HO_7.out)); have n3_ := Aside0.mk (ho); clear HI0; clear HB; clear HK; clear HO_7; clear HO387; have HI0 := n0_; have HB := n1_; have HK := n2_; have HO390 := n3_; clear n0_ n1_ n2_ n3_; clear ho hb hg hat))
      go_roundg k1
      case measure => have := HK1.out; omega
      case rel => exact ⟨(y388), (wrap64 (x8_1 - 1)), (t384), (by first | rfl | (simp; done) | (simp [*]; done)), H', ⟨by have := HK1.out; omega⟩, ⟨by (with_reducible repeat (first | apply Kd.R_alloc | apply Kd.R_drewN | apply Kd.R_drew)); exact HO390.out⟩, ⟨by repeat (first | (with_reducible first | exact HI0.out | apply IsS115.alloc | apply IsS115.drewN | apply IsS115.drew | apply IsS115.set_1) | exact HI0.out)⟩, ⟨by repeat (first | (with_reducible first | exact HK.out | apply KeepBut.set_ | apply keep_drewN | apply keep_drew | apply keep_alloc) | exact HK.out)⟩, ⟨by repeat (first | (with_reducible first | exact HB.out | apply below_alloc | apply pw_below_drewN | apply below_drew1 | refine below_set ?_ (IsS115.ge HI0.out)) | exact HB.out)⟩⟩
     ·rw [if_neg c14] at H
      exact absurd H (by simp)
    ·rw [if_neg c12] at H
     have c12b0 : (t381 == 0) = false := beq_eq_false_iff_ne.mpr c12
     have c12b1 : (t381 != 0) = true := bne_iff_ne.mpr c12
     replace H := Option.bind_eq_some_iff.mp H
     obtain ⟨⟨t391, t392⟩, A210, H⟩ := H
     replace H : (if x7_1.length < 5864062014805 then (spec_l20Term.l0 k1 ji5 a2 (x7_1 ++ [(([(⟨0, t391⟩ : S52)] : List (S52)))]) (wrap64 (x8_1 - 1)) s0_0 t392) else (none)) = some (r1, r2) := H
     have A21 := Aside0.mk A210
     clear A210
     obtain ⟨y393, hy393⟩ : ∃ y_ : List (S52), y_ = (([(⟨0, t391⟩ : S52)] : List (S52))) := ⟨_, rfl⟩
     replace H : (if x7_1.length < 5864062014805 then (spec_l20Term.l0 k1 ji5 a2 (x7_1 ++ [y393]) (wrap64 (x8_1 - 1)) s0_0 t392) else (none)) = some (r1, r2) := by first | (rw [hy393]; with_reducible exact H) | (have H2_ := (Option.bind_some _ _).symm.trans H; rw [hy393]; with_reducible exact H2_) | (have H2_ := (Option.bind_some _ _).symm.trans H; with_reducible exact H2_) | with_reducible exact H | (rw [hy393]; exact H) | exact H
     have Ny393 := Aside0.mk hy393
     clear hy393
     by_cases c22 : x7_1.length < 5864062014805
     ·rw [if_pos c22] at H
      have LMc22 := Aside0.mk c22
      clear c22
      obtain ⟨y396, hy396⟩ : ∃ y_ : List (List (S52)), y_ = (x7_1 ++ [y393]) := ⟨_, rfl⟩
      replace H : (spec_l20Term.l0 k1 ji5 a2 y396 (wrap64 (x8_1 - 1)) s0_0 t392) = some (r1, r2) := by first | (rw [hy396]; with_reducible exact H) | (have H2_ := (Option.bind_some _ _).symm.trans H; rw [hy396]; with_reducible exact H2_) | (have H2_ := (Option.bind_some _ _).symm.trans H; with_reducible exact H2_) | with_reducible exact H | (rw [hy396]; exact H) | exact H
      have Ny396 := Aside0.mk hy396
      clear hy396
      have H' := Aside0.mk H
      clear H
      go_wp2_with (first | ((with_reducible refine gate_callee (f := 116) rfl ?_); refine goesL_ (some 26) rfl rfl Try.func116 (by kernel_rfl) rfl #[.pointer (some ⟨g, 0, none⟩), .int .i64 4] rfl (by (try simp only [List.map_toArray, List.map_cons, List.map_nil]); first | done | rfl | (simp only [List.length_drop, List.length_take]; rfl)) ?_; (with_reducible refine (spec_l20Rd_pick.calls k1 g s0_0 x1001_1 4 t381 t382 w0 _ ?side1 ?side2 A11.out).mono ?_); (case side1 => repeat (first | (with_reducible first | exact HI0.out | apply IsS115.alloc | apply IsS115.drewN | apply IsS115.drew | apply IsS115.set_1) | exact HI0.out)); (case side2 => repeat (first | (with_reducible first | exact HB.out | apply below_alloc | apply pw_below_drewN | apply below_drew1 | refine below_set ?_ (IsS115.ge HI0.out)) | exact HB.out)); rintro e w23 ⟨rfl, hi, hb, hk⟩; refine ⟨_, rfl, ?_⟩; have n0_ := Aside0.mk (Kd.R_mono (Kd.R_keep (IsS115.apart (show IsS115 w0 _ g s0_0 x1001_1 from by repeat (first | (with_reducible first | exact HI0.out | apply IsS115.alloc | apply IsS115.drewN | apply IsS115.drew | apply IsS115.set_1) | exact HI0.out)) (by (with_reducible repeat (first | apply Kd.R_alloc | apply Kd.R_drewN | apply Kd.R_drew)); exact HO_7.out) (by decide)) hk (fun _ h => h.2)) (fun _ h => h.1)); have n1_ := Aside0.mk (KeepBut.trans (by repeat (first | (with_reducible first | exact HK.out | apply KeepBut.set_ | apply keep_drewN | apply keep_drew | apply keep_alloc) | exact HK.out)) hk (.inl rfl)); have n2_ := Aside0.mk (hb); have n3_ := Aside0.mk (hi); clear HO_7; clear HK; clear HB; clear HI0; have HO_7 := n0_; have HK := n1_; have HB := n2_; have HI0 := n3_; clear n0_ n1_ n2_ n3_; (try clear hb); (try clear hb2); (try clear hk); (try clear hi)) | ((with_reducible refine gate_callee (f := 116) rfl ?_); refine goesL_ (some 40) rfl rfl Try.func116 (by kernel_rfl) rfl #[.pointer (some ⟨g, 0, none⟩), .int .i64 ji5] rfl (by (try simp only [List.map_toArray, List.map_cons, List.map_nil]); first | done | (simp only [hji5]; rfl) | rfl | (simp only [List.length_drop, List.length_take]; rfl)) ?_; (with_reducible refine (spec_l20Rd_pick.calls k1 g s0_0 t382 ji5 t391 t392 w0 _ ?side1 ?side2 A21.out).mono ?_); (case side1 => repeat (first | (with_reducible first | exact HI0.out | apply IsS115.alloc | apply IsS115.drewN | apply IsS115.drew | apply IsS115.set_1) | exact HI0.out)); (case side2 => repeat (first | (with_reducible first | exact HB.out | apply below_alloc | apply pw_below_drewN | apply below_drew1 | refine below_set ?_ (IsS115.ge HI0.out)) | exact HB.out)); rintro e w24 ⟨rfl, hi, hb, hk⟩; refine ⟨_, rfl, ?_⟩; have n0_ := Aside0.mk (Kd.R_mono (Kd.R_keep (IsS115.apart (show IsS115 w0 _ g s0_0 t382 from by repeat (first | (with_reducible first | exact HI0.out | apply IsS115.alloc | apply IsS115.drewN | apply IsS115.drew | apply IsS115.set_1) | exact HI0.out)) (by (with_reducible repeat (first | apply Kd.R_alloc | apply Kd.R_drewN | apply Kd.R_drew)); exact HO_7.out) (by decide)) hk (fun _ h => h.2)) (fun _ h => h.1)); have n1_ := Aside0.mk (KeepBut.trans (by repeat (first | (with_reducible first | exact HK.out | apply KeepBut.set_ | apply keep_drewN | apply keep_drew | apply keep_alloc) | exact HK.out)) hk (.inl rfl)); have n2_ := Aside0.mk (hb); have n3_ := Aside0.mk (hi); clear HO_7; clear HK; clear HB; clear HI0; have HO_7 := n0_; have HK := n1_; have HB := n2_; have HI0 := n3_; clear n0_ n1_ n2_ n3_; (try clear hb); (try clear hb2); (try clear hk); (try clear hi)) | ((with_reducible refine gate_dst (N := 42) rfl ?_); refine Kd.R_lit k52 _ 52 ?hg (N := 42) ?hd (xs := ([(⟨0, t391⟩ : S52)] : List (S52))) (inner := [.int .i64 0, .int .i64 t391]) (ok := fun _ => True) (okp := fun _ => True) ?hr ?hp (fun _ hk => hk) trivial (Below.refl _ _) (Nat.le_refl _) (by simp) ?_; (case hd => rfl); (case hg => rfl); (case hr => first | (go_simp; done) | (go_simp; rfl)); (case hp => exact (Reps.c2 (show Kd.M k52 _ _ _ (⟨0, t391⟩ : S52) [.int .i64 0, .int .i64 t391] from (k52_mkM _ _ _ (⟨0, t391⟩ : S52) )) (Reps.none _ _))); intro v394 w25 ho26 hb hg_ hnew_; clear hg_ hnew_; (first | rw [← Ny393.out] at ho26 | (simp only [Int.reduceToNat] at ho26; rw [← Ny393.out] at ho26)); have n0_ := Aside0.mk (Kd.R_elder' (by (with_reducible repeat (first | apply Kd.R_alloc | apply Kd.R_drewN | apply Kd.R_drew)); exact HO_7.out) (Kd.R_base ho26) hb); have n1_ := Aside0.mk (Kd.R_lower ho26 (keep_size (w := w) (g := g) (row := none) (by repeat (first | (with_reducible first | exact HK.out | apply KeepBut.set_ | apply keep_drewN | apply keep_drew | apply keep_alloc) | exact HK.out)))); have n2_ := Aside0.mk (IsS115.below (by repeat (first | (with_reducible first | exact HI0.out | apply IsS115.alloc | apply IsS115.drewN | apply IsS115.drew | apply IsS115.set_1) | exact HI0.out)) hb); have n3_ := Aside0.mk (KeepBut.trans (by repeat (first | (with_reducible first | exact HK.out | apply KeepBut.set_ | apply keep_drewN | apply keep_drew | apply keep_alloc) | exact HK.out)) (KeepBut.of_below hb g none) (.inl rfl)); have n4_ := Aside0.mk (below_step (by repeat (first | (with_reducible first | exact HB.out | apply below_alloc | apply pw_below_drewN | apply below_drew1 | refine below_set ?_ (IsS115.ge HI0.out)) | exact HB.out)) hb); clear HO_7; clear HI0; clear HK; clear HB; have HO_7 := n0_; have HO395 := n1_; have HI0 := n2_; have HK := n3_; have HB := n4_; clear n0_ n1_ n2_ n3_ n4_; clear hb ho26; obtain ⟨Ao28, co28, eo28⟩ := Kd.R_slice HO395.out; subst eo28) | ((with_reducible refine gate_builtin (b := .append) (xs := #[.tmp 37, .tmp 43]) rfl ?_); at_builtin; refine Kd.R_append (Kd.slice 52 k52) w.heap.size rfl (.tmp 37) (.tmp 43) 116 34 (.slice none 0 0) 24 rfl Try.underlying116 info34 rfl (by decide) (by omega) u7 x7_1 y393 [.slice Ao28 y393.length co28] (fun _ => True) (fun k_ => ((fun _ => True)) k_ ∧ some k_ ≠ (u7 : Value).ownBlock) rfl rfl ?aP (fun _ hk => hk) ?aF ?aO (Below.refl _ _) ?aS ?aL ?_; (case aP => exact Kd.M_row (Kd.R_mono (Kd.R_apart' (HO395.out) (Kd.R_typed HO_7.out) (by decide)) (fun k_ hk => ⟨trivial, hk.2⟩))); (case aF => exact (fun _ _ => trivial)); (case aO => exact (by (with_reducible repeat (first | apply Kd.R_alloc | apply Kd.R_drewN | apply Kd.R_drew)); exact Kd.R_mono HO_7.out (fun _ hk => trivial))); (case aS => exact (keep_size (w := w) (g := g) (row := none) (by repeat (first | (with_reducible first | exact HK.out | apply KeepBut.set_ | apply keep_drewN | apply keep_drew | apply keep_alloc) | exact HK.out)))); (case aL => have := LMc22.out; omega); intro v397 w27 ho hb hg hat; rw [← Ny396.out] at ho; have n0_ := Aside0.mk (IsS115.grown (by repeat (first | (with_reducible first | exact HI0.out | apply IsS115.alloc | apply IsS115.drewN | apply IsS115.drew | apply IsS115.set_1) | exact HI0.out)) hg (IsS115.own_ne HI0.out HO_7.out (by decide))); have n1_ := Aside0.mk (below_weaken (by repeat (first | (with_reducible first | exact HB.out | apply below_alloc | apply pw_below_drewN | apply below_drew1 | refine below_set ?_ (IsS115.ge HI0.out)) | exact HB.out)) HL.out hb); have n2_ := Aside0.mk (KeepBut.trans (by repeat (first | (with_reducible first | exact HK.out | apply KeepBut.set_ | apply keep_drewN | apply keep_drew | apply keep_alloc) | exact HK.out)) (KeepBut.of_grown hg g) (Kd.R_base2 HO_7.out)); have n3_ := Aside0.mk (ho); clear HI0; clear HB; clear HK; clear HO_7; clear HO395; have HI0 := n0_; have HB := n1_; have HK := n2_; have HO398 := n3_; clear n0_ n1_ n2_ n3_; clear ho hb hg hat))
      go_roundg k1
      case measure => have := HK1.out; omega
      case rel => exact ⟨(y396), (wrap64 (x8_1 - 1)), (t392), (by first | rfl | (simp; done) | (simp [*]; done)), H', ⟨by have := HK1.out; omega⟩, ⟨by (with_reducible repeat (first | apply Kd.R_alloc | apply Kd.R_drewN | apply Kd.R_drew)); exact HO398.out⟩, ⟨by repeat (first | (with_reducible first | exact HI0.out | apply IsS115.alloc | apply IsS115.drewN | apply IsS115.drew | apply IsS115.set_1) | exact HI0.out)⟩, ⟨by repeat (first | (with_reducible first | exact HK.out | apply KeepBut.set_ | apply keep_drewN | apply keep_drew | apply keep_alloc) | exact HK.out)⟩, ⟨by repeat (first | (with_reducible first | exact HB.out | apply below_alloc | apply pw_below_drewN | apply below_drew1 | refine below_set ?_ (IsS115.ge HI0.out)) | exact HB.out)⟩⟩
     ·rw [if_neg c22] at H
      exact absurd H (by simp)
   ·rw [if_neg c10] at H
    have c10b0 : decide (0 < x8_1) = false := decide_eq_false c10
    clear c10
    have H' := Aside0.mk H
    clear H
    go_wp2
    go_loopg [7, 9] k1 (fun kq v7 v9 w' => ∃ (x7_2 : List (List (S52))) (x9_2 : Int) (x1001_2 : Int), v9 = .int .i64 x9_2 ∧ Aside0 (spec_l20Term.l1 kq a2 x7_2 x9_2 s0_0 x1001_2 = some (r1, r2)) ∧ Aside0 (kq ≤ k1) ∧ Aside0 (Kd.R (Kd.slice 52 k52) 34 w' w.heap.size (fun _ => True) v7 x7_2) ∧ Aside0 (IsS115 w0 w' g s0_0 x1001_2) ∧ Aside0 (KeepBut w w' g none) ∧ Aside0 (Below w0.heap.size w0 w'))
    case atStart => exact ⟨(x7_1), (3), (x1001_1), (by first | rfl | (simp; done) | (simp [*]; done)), H', ⟨Nat.le_refl _⟩, ⟨by (with_reducible repeat (first | apply Kd.R_alloc | apply Kd.R_drewN | apply Kd.R_drew)); exact HO_7.out⟩, ⟨by repeat (first | (with_reducible first | exact HI0.out | apply IsS115.alloc | apply IsS115.drewN | apply IsS115.drew | apply IsS115.set_1) | exact HI0.out)⟩, ⟨by repeat (first | (with_reducible first | exact HK.out | apply KeepBut.set_ | apply keep_drewN | apply keep_drew | apply keep_alloc) | exact HK.out)⟩, ⟨by repeat (first | (with_reducible first | exact HB.out | apply below_alloc | apply pw_below_drewN | apply below_drew1 | refine below_set ?_ (IsS115.ge HI0.out)) | exact HB.out)⟩⟩
    case round =>
     try clear hji4_ hji5_
     clear H'
     try clear c1
     try clear c2
     try clear p2
     try clear p6
     try clear c10
     try clear c10b0
     try clear c11
     try clear c12
     try clear c12b0
     try clear c12b1
     try clear c14
     try clear c22
     try clear p2
     try clear p6
     obtain ⟨x7_2, x9_2, x1001_2, rfl, HA, HK2, HO_7, HI0, HK, HB⟩ := hrel
     cases gk with
     | zero => exact absurd HA.out (by simp [spec_l20Term.l1])
     | succ k2 =>
      have H := HA.out
      clear HA
      simp only [spec_l20Term.l1] at H
      by_cases c29 : (x7_2.length : Int) > 1
      ·rw [if_pos c29] at H
       have c29b0 : decide (1 < (x7_2.length : Int)) = true := decide_eq_true c29
       have c29b1 : decide (1 < x7_2.length) = true := decide_eq_true (by omega)
       clear c29
       replace H := Option.bind_eq_some_iff.mp H
       obtain ⟨⟨t399, t400⟩, A300, H⟩ := H
       replace H : (if x9_2 > 0 then ((spec_l20Rd_pick.f k2 s0_0 t400 4).bind fun bt401 => (if bt401.1 = 0 then ((some (([] : List (S52)) : List (S52))).bind fun y403 => (if 0 ≤ t399 then (if t399 < (x7_2.length : Int) then (if y403.length + (rd_L5 x7_2 t399).length < 8796093022208 then ((some (y403 ++ (rd_L5 x7_2 t399) : List (S52))).bind fun y407 => (if y407.length < 8796093022208 then (spec_l20Term.l1 k2 a2 (x7_2.set (t399 : Int).toNat (y407 ++ [(⟨2, 0⟩ : S52)])) (wrap64 (x9_2 - 1)) s0_0 bt401.2) else (none))) else (none)) else (none)) else (none))) else ((some (([] : List (S52)) : List (S52))).bind fun y414 => (if 0 ≤ t399 then (if t399 < (x7_2.length : Int) then (if y414.length + (rd_L5 x7_2 t399).length < 8796093022208 then ((some (y414 ++ (rd_L5 x7_2 t399) : List (S52))).bind fun y418 => (if 0 ≤ (wrap64 (t399 + 1)) then (if (wrap64 (t399 + 1)) < (x7_2.length : Int) then (if y418.length + (rd_L5 x7_2 (wrap64 (t399 + 1))).length < 8796093022208 then ((some (y418 ++ (rd_L5 x7_2 (wrap64 (t399 + 1))) : List (S52))).bind fun y422 => ((spec_l20Rd_pick.f k2 s0_0 bt401.2 3).bind fun bt425 => (if y422.length < 8796093022208 then ((some (([] : List (List (S52))) : List (List (S52)))).bind fun y430 => (if t399 ≤ (x7_2.length : Int) then ((some (x7_2.take (t399 : Int).toNat : List (List (S52)))).bind fun y433 => (if y430.length + y433.length < 5864062014805 then ((some (y430 ++ y433 : List (List (S52)))).bind fun y437 => (if y437.length < 5864062014805 then ((some (y437 ++ [(y422 ++ [(⟨wrap64 (3 + bt425.1), 0⟩ : S52)])] : List (List (S52)))).bind fun y440 => (if 0 ≤ (wrap64 (t399 + 2)) then (if (wrap64 (t399 + 2)) ≤ (x7_2.length : Int) then ((some (x7_2.drop ((wrap64 (t399 + 2)) : Int).toNat : List (List (S52)))).bind fun y443 => (if y440.length + y443.length < 5864062014805 then (spec_l20Term.l1 k2 a2 (y440 ++ y443) x9_2 s0_0 bt425.2) else (none))) else (none)) else (none))) else (none))) else (none))) else (none))) else (none)))) else (none)) else (none)) else (none))) else (none)) else (none)) else (none))))) else ((some (([] : List (S52)) : List (S52))).bind fun y450 => (if 0 ≤ t399 then (if t399 < (x7_2.length : Int) then (if y450.length + (rd_L5 x7_2 t399).length < 8796093022208 then ((some (y450 ++ (rd_L5 x7_2 t399) : List (S52))).bind fun y454 => (if 0 ≤ (wrap64 (t399 + 1)) then (if (wrap64 (t399 + 1)) < (x7_2.length : Int) then (if y454.length + (rd_L5 x7_2 (wrap64 (t399 + 1))).length < 8796093022208 then ((some (y454 ++ (rd_L5 x7_2 (wrap64 (t399 + 1))) : List (S52))).bind fun y458 => ((spec_l20Rd_pick.f k2 s0_0 t400 3).bind fun bt461 => (if y458.length < 8796093022208 then ((some (([] : List (List (S52))) : List (List (S52)))).bind fun y466 => (if t399 ≤ (x7_2.length : Int) then ((some (x7_2.take (t399 : Int).toNat : List (List (S52)))).bind fun y469 => (if y466.length + y469.length < 5864062014805 then ((some (y466 ++ y469 : List (List (S52)))).bind fun y473 => (if y473.length < 5864062014805 then ((some (y473 ++ [(y458 ++ [(⟨wrap64 (3 + bt461.1), 0⟩ : S52)])] : List (List (S52)))).bind fun y476 => (if 0 ≤ (wrap64 (t399 + 2)) then (if (wrap64 (t399 + 2)) ≤ (x7_2.length : Int) then ((some (x7_2.drop ((wrap64 (t399 + 2)) : Int).toNat : List (List (S52)))).bind fun y479 => (if y476.length + y479.length < 5864062014805 then (spec_l20Term.l1 k2 a2 (y476 ++ y479) x9_2 s0_0 bt461.2) else (none))) else (none)) else (none))) else (none))) else (none))) else (none))) else (none)))) else (none)) else (none)) else (none))) else (none)) else (none)) else (none)))) = some (r1, r2) := H
       have A30 := Aside0.mk A300
       clear A300
       by_cases c31 : x9_2 > 0
       ·rw [if_pos c31] at H
        have c31b0 : decide (0 < x9_2) = true := decide_eq_true c31
        clear c31
        replace H := Option.bind_eq_some_iff.mp H
        obtain ⟨⟨t401, t402⟩, A320, H⟩ := H
        replace H : (if t401 = 0 then ((some (([] : List (S52)) : List (S52))).bind fun y403 => (if 0 ≤ t399 then (if t399 < (x7_2.length : Int) then (if y403.length + (rd_L5 x7_2 t399).length < 8796093022208 then ((some (y403 ++ (rd_L5 x7_2 t399) : List (S52))).bind fun y407 => (if y407.length < 8796093022208 then (spec_l20Term.l1 k2 a2 (x7_2.set (t399 : Int).toNat (y407 ++ [(⟨2, 0⟩ : S52)])) (wrap64 (x9_2 - 1)) s0_0 t402) else (none))) else (none)) else (none)) else (none))) else ((some (([] : List (S52)) : List (S52))).bind fun y414 => (if 0 ≤ t399 then (if t399 < (x7_2.length : Int) then (if y414.length + (rd_L5 x7_2 t399).length < 8796093022208 then ((some (y414 ++ (rd_L5 x7_2 t399) : List (S52))).bind fun y418 => (if 0 ≤ (wrap64 (t399 + 1)) then (if (wrap64 (t399 + 1)) < (x7_2.length : Int) then (if y418.length + (rd_L5 x7_2 (wrap64 (t399 + 1))).length < 8796093022208 then ((some (y418 ++ (rd_L5 x7_2 (wrap64 (t399 + 1))) : List (S52))).bind fun y422 => ((spec_l20Rd_pick.f k2 s0_0 t402 3).bind fun bt425 => (if y422.length < 8796093022208 then ((some (([] : List (List (S52))) : List (List (S52)))).bind fun y430 => (if t399 ≤ (x7_2.length : Int) then ((some (x7_2.take (t399 : Int).toNat : List (List (S52)))).bind fun y433 => (if y430.length + y433.length < 5864062014805 then ((some (y430 ++ y433 : List (List (S52)))).bind fun y437 => (if y437.length < 5864062014805 then ((some (y437 ++ [(y422 ++ [(⟨wrap64 (3 + bt425.1), 0⟩ : S52)])] : List (List (S52)))).bind fun y440 => (if 0 ≤ (wrap64 (t399 + 2)) then (if (wrap64 (t399 + 2)) ≤ (x7_2.length : Int) then ((some (x7_2.drop ((wrap64 (t399 + 2)) : Int).toNat : List (List (S52)))).bind fun y443 => (if y440.length + y443.length < 5864062014805 then (spec_l20Term.l1 k2 a2 (y440 ++ y443) x9_2 s0_0 bt425.2) else (none))) else (none)) else (none))) else (none))) else (none))) else (none))) else (none)))) else (none)) else (none)) else (none))) else (none)) else (none)) else (none)))) = some (r1, r2) := H
        have A32 := Aside0.mk A320
        clear A320
        by_cases c33 : t401 = 0
        ·rw [if_pos c33] at H
         have c33b0 : (t401 == 0) = true := beq_iff_eq.mpr c33
         have c33b1 : (t401 != 0) = false := bne_eq_false_iff_eq.mpr c33
         clear c33
         obtain ⟨y403, hy403⟩ : ∃ y_ : List (S52), y_ = (([] : List (S52))) := ⟨_, rfl⟩
         replace H : (if 0 ≤ t399 then (if t399 < (x7_2.length : Int) then (if y403.length + (rd_L5 x7_2 t399).length < 8796093022208 then ((some (y403 ++ (rd_L5 x7_2 t399) : List (S52))).bind fun y407 => (if y407.length < 8796093022208 then (spec_l20Term.l1 k2 a2 (x7_2.set (t399 : Int).toNat (y407 ++ [(⟨2, 0⟩ : S52)])) (wrap64 (x9_2 - 1)) s0_0 t402) else (none))) else (none)) else (none)) else (none)) = some (r1, r2) := by first | (rw [hy403]; with_reducible exact H) | (have H2_ := (Option.bind_some _ _).symm.trans H; rw [hy403]; with_reducible exact H2_) | (have H2_ := (Option.bind_some _ _).symm.trans H; with_reducible exact H2_) | with_reducible exact H | (rw [hy403]; exact H) | exact H
         have Ny403 := Aside0.mk hy403
         clear hy403
         by_cases c34 : 0 ≤ t399
         ·rw [if_pos c34] at H
          have c34b0 : decide (0 ≤ t399) = true := decide_eq_true c34
          clear c34
          by_cases c35 : t399 < (x7_2.length : Int)
          ·rw [if_pos c35] at H
           have c35b0 : decide (t399 < (x7_2.length : Int)) = true := decide_eq_true c35
           clear c35
           by_cases c36 : y403.length + (rd_L5 x7_2 t399).length < 8796093022208
           ·rw [if_pos c36] at H
            have LMc36 := Aside0.mk c36
            clear c36
            obtain ⟨y407, hy407⟩ : ∃ y_ : List (S52), y_ = (y403 ++ (rd_L5 x7_2 t399)) := ⟨_, rfl⟩
            replace H : (if y407.length < 8796093022208 then (spec_l20Term.l1 k2 a2 (x7_2.set (t399 : Int).toNat (y407 ++ [(⟨2, 0⟩ : S52)])) (wrap64 (x9_2 - 1)) s0_0 t402) else (none)) = some (r1, r2) := by first | (rw [hy407]; with_reducible exact H) | (have H2_ := (Option.bind_some _ _).symm.trans H; rw [hy407]; with_reducible exact H2_) | (have H2_ := (Option.bind_some _ _).symm.trans H; with_reducible exact H2_) | with_reducible exact H | (rw [hy407]; exact H) | exact H
            have Ny407 := Aside0.mk hy407
            clear hy407
            by_cases c37 : y407.length < 8796093022208
            ·rw [if_pos c37] at H
             have LMc37 := Aside0.mk c37
             clear c37
             obtain ⟨y410, hy410⟩ : ∃ y_ : List (S52), y_ = (y407 ++ [(⟨2, 0⟩ : S52)]) := ⟨_, rfl⟩
             replace H : (spec_l20Term.l1 k2 a2 (x7_2.set (t399 : Int).toNat y410) (wrap64 (x9_2 - 1)) s0_0 t402) = some (r1, r2) := by first | (rw [hy410]; with_reducible exact H) | (have H2_ := (Option.bind_some _ _).symm.trans H; rw [hy410]; with_reducible exact H2_) | (have H2_ := (Option.bind_some _ _).symm.trans H; with_reducible exact H2_) | with_reducible exact H | (rw [hy410]; exact H) | exact H
             have Ny410 := Aside0.mk hy410
             clear hy410
             obtain ⟨y413, hy413⟩ : ∃ y_ : List (List (S52)), y_ = (x7_2.set (t399 : Int).toNat y410) := ⟨_, rfl⟩
             replace H : (spec_l20Term.l1 k2 a2 y413 (wrap64 (x9_2 - 1)) s0_0 t402) = some (r1, r2) := by first | (rw [hy413]; with_reducible exact H) | (have H2_ := (Option.bind_some _ _).symm.trans H; rw [hy413]; with_reducible exact H2_) | (have H2_ := (Option.bind_some _ _).symm.trans H; with_reducible exact H2_) | with_reducible exact H | (rw [hy413]; exact H) | exact H
             have Ny413 := Aside0.mk hy413
             clear hy413
             have H' := Aside0.mk H
             clear H
             obtain ⟨Ao39, co39, eo39⟩ := Kd.R_slice HO_7.out
             subst eo39
             go_wp2_with (first | ((with_reducible refine gate_callee (f := 116) rfl ?_); refine goesL_ (some 52) rfl rfl Try.func116 (by kernel_rfl) rfl #[.pointer (some ⟨g, 0, none⟩), .int .i64 (wrap64 ((x7_2.length : Int) - 1))] rfl (by (try simp only [List.map_toArray, List.map_cons, List.map_nil]); first | done | rfl | (simp only [List.length_drop, List.length_take]; rfl)) ?_; (with_reducible refine (spec_l20Rd_pick.calls k2 g s0_0 x1001_2 (wrap64 ((x7_2.length : Int) - 1)) t399 t400 w0 _ ?side1 ?side2 A30.out).mono ?_); (case side1 => repeat (first | (with_reducible first | exact HI0.out | apply IsS115.alloc | apply IsS115.drewN | apply IsS115.drew | apply IsS115.set_1) | exact HI0.out)); (case side2 => repeat (first | (with_reducible first | exact HB.out | apply below_alloc | apply pw_below_drewN | apply below_drew1 | refine below_set ?_ (IsS115.ge HI0.out)) | exact HB.out)); rintro e w40 ⟨rfl, hi, hb, hk⟩; refine ⟨_, rfl, ?_⟩; have n0_ := Aside0.mk (Kd.R_mono (Kd.R_keep (IsS115.apart (show IsS115 w0 _ g s0_0 x1001_2 from by repeat (first | (with_reducible first | exact HI0.out | apply IsS115.alloc | apply IsS115.drewN | apply IsS115.drew | apply IsS115.set_1) | exact HI0.out)) (by (with_reducible repeat (first | apply Kd.R_alloc | apply Kd.R_drewN | apply Kd.R_drew)); exact HO_7.out) (by decide)) hk (fun _ h => h.2)) (fun _ h => h.1)); have n1_ := Aside0.mk (KeepBut.trans (by repeat (first | (with_reducible first | exact HK.out | apply KeepBut.set_ | apply keep_drewN | apply keep_drew | apply keep_alloc) | exact HK.out)) hk (.inl rfl)); have n2_ := Aside0.mk (hb); have n3_ := Aside0.mk (hi); clear HO_7; clear HK; clear HB; clear HI0; have HO_7 := n0_; have HK := n1_; have HB := n2_; have HI0 := n3_; clear n0_ n1_ n2_ n3_; (try clear hb); (try clear hb2); (try clear hk); (try clear hi)) | (go_at_call 116; (with_reducible refine (spec_l20Rd_pick.calls k2 g s0_0 t400 4 t401 t402 w0 _ ?side1 ?side2 A32.out).mono ?_); (case side1 => repeat (first | (with_reducible first | exact HI0.out | apply IsS115.alloc | apply IsS115.drewN | apply IsS115.drew | apply IsS115.set_1) | exact HI0.out)); (case side2 => repeat (first | (with_reducible first | exact HB.out | apply below_alloc | apply pw_below_drewN | apply below_drew1 | refine below_set ?_ (IsS115.ge HI0.out)) | exact HB.out)); rintro e w41 ⟨rfl, hi, hb, hk⟩; have n0_ := Aside0.mk (Kd.R_mono (Kd.R_keep (IsS115.apart (show IsS115 w0 _ g s0_0 t400 from by repeat (first | (with_reducible first | exact HI0.out | apply IsS115.alloc | apply IsS115.drewN | apply IsS115.drew | apply IsS115.set_1) | exact HI0.out)) (by (with_reducible repeat (first | apply Kd.R_alloc | apply Kd.R_drewN | apply Kd.R_drew)); exact HO_7.out) (by decide)) hk (fun _ h => h.2)) (fun _ h => h.1)); have n1_ := Aside0.mk (KeepBut.trans (by repeat (first | (with_reducible first | exact HK.out | apply KeepBut.set_ | apply keep_drewN | apply keep_drew | apply keep_alloc) | exact HK.out)) hk (.inl rfl)); have n2_ := Aside0.mk (hb); have n3_ := Aside0.mk (hi); clear HO_7; clear HK; clear HB; clear HI0; have HO_7 := n0_; have HK := n1_; have HB := n2_; have HI0 := n3_; clear n0_ n1_ n2_ n3_; (try clear hb); (try clear hb2); (try clear hk); (try clear hi)) | ((with_reducible refine gate_dst (N := 64) rfl ?_); refine Kd.R_lit k52 _ 52 ?hg (N := 64) ?hd (xs := ([] : List (S52))) (inner := []) (ok := fun _ => True) (okp := fun _ => True) ?hr ?hp (fun _ hk => hk) trivial (Below.refl _ _) (Nat.le_refl _) (by simp) ?_; (case hd => rfl); (case hg => rfl); (case hr => first | (go_simp; done) | (go_simp; rfl)); (case hp => exact (Reps.none _ _)); intro v404 w42 ho43 hb hg_ hnew_; clear hg_ hnew_; (first | rw [← Ny403.out] at ho43 | (simp only [Int.reduceToNat] at ho43; rw [← Ny403.out] at ho43)); have n0_ := Aside0.mk (Kd.R_elder' (by (with_reducible repeat (first | apply Kd.R_alloc | apply Kd.R_drewN | apply Kd.R_drew)); exact HO_7.out) (Kd.R_base ho43) hb); have n1_ := Aside0.mk (Kd.R_lower ho43 (keep_size (w := w) (g := g) (row := none) (by repeat (first | (with_reducible first | exact HK.out | apply KeepBut.set_ | apply keep_drewN | apply keep_drew | apply keep_alloc) | exact HK.out)))); have n2_ := Aside0.mk (IsS115.below (by repeat (first | (with_reducible first | exact HI0.out | apply IsS115.alloc | apply IsS115.drewN | apply IsS115.drew | apply IsS115.set_1) | exact HI0.out)) hb); have n3_ := Aside0.mk (KeepBut.trans (by repeat (first | (with_reducible first | exact HK.out | apply KeepBut.set_ | apply keep_drewN | apply keep_drew | apply keep_alloc) | exact HK.out)) (KeepBut.of_below hb g none) (.inl rfl)); have n4_ := Aside0.mk (below_step (by repeat (first | (with_reducible first | exact HB.out | apply below_alloc | apply pw_below_drewN | apply below_drew1 | refine below_set ?_ (IsS115.ge HI0.out)) | exact HB.out)) hb); clear HO_7; clear HI0; clear HK; clear HB; have HO_7 := n0_; have HO405 := n1_; have HI0 := n2_; have HK := n3_; have HB := n4_; clear n0_ n1_ n2_ n3_ n4_; clear hb ho43; have p406 : 0 ≤ (t399 : Int) := of_decide_eq_true (by first | (with_reducible assumption) | assumption); have q406 : t399 < (x7_2.length : Int) := of_decide_eq_true (by first | (with_reducible assumption) | assumption); obtain ⟨ad406, A406_0, c406_0, e406, hx406_0, hl406_0, hi406_0⟩ := at_L5 (Kd.R_reads' HO_7.out).2.2 t399 p406 q406; cases e406; obtain ⟨ce406, hce406, hMe406, hcc406⟩ := Kd.R_get HO_7.out [] t399 p406 (by first | exact q406 | exact of_decide_eq_true (by first | (with_reducible assumption) | assumption) | (have e_ := (Kd.R_reads' HO_7.out).1; omega)); obtain ⟨ve406_0, rfl, ge406_0⟩ := hMe406; have hv406_0 := hcc406 0 _ rfl; rw [Nat.add_zero, show ((Kd.slice 52 k52)).sz = 1 from rfl, Nat.mul_one] at hv406_0; replace hv406_0 := Option.some.inj (hv406_0.symm.trans hx406_0); rw [hv406_0] at ge406_0; have HL406_0 := Aside0.mk (show Kd.R k52 52 _ _ _ _ (rd_L5 x7_2 t399) from ge406_0); clear hv406_0 ge406_0; clear hcc406 hce406; have HR406_0 := Aside0.mk hi406_0; have HC406_0 := Aside0.mk hl406_0; clear hi406_0 hl406_0; replace p406 := eq_true p406; replace q406 := eq_true q406) | ((with_reducible refine gate_builtin (b := .append) (xs := #[.tmp 64, .tmp 68]) rfl ?_); at_builtin; refine Kd.R_append_rows k52 w.heap.size rfl (.tmp 64) (.tmp 68) 34 52 (.agg #[(.int .i64 0), (.int .i64 0)]) 16 rfl Try.underlying34 info52 rfl (by decide) (by omega) v404 y403 (rd_L5 x7_2 t399) _ _ _ (fun _ => True) (fun _ => False) rfl rfl ?aO ?aR (fun _ _ h => h) (fun _ h => h.elim) ?aF (Below.refl _ _) ?aS ?aL ?_; (case aR => repeat (first | exact (by repeat (first | (with_reducible exact HR406_0.out) | (with_reducible refine Kd.C_alloc ?_ _) | (with_reducible refine Kd.C_drewN ?_ _) | (with_reducible refine Kd.C_drew ?_) | exact HR406_0.out)) | (with_reducible refine Kd.C_alloc ?_ _) | (with_reducible refine Kd.C_drewN ?_ _) | (with_reducible refine Kd.C_drew ?_))); (case aF => exact (fun _ _ => trivial)); (case aO => exact (by (with_reducible repeat (first | apply Kd.R_alloc | apply Kd.R_drewN | apply Kd.R_drew)); exact HO405.out)); (case aS => exact (keep_size (w := w) (g := g) (row := none) (by repeat (first | (with_reducible first | exact HK.out | apply KeepBut.set_ | apply keep_drewN | apply keep_drew | apply keep_alloc) | exact HK.out)))); (case aL => have := LMc36.out; omega); intro v408 w44 ho hb hg hat; rw [← Ny407.out] at ho; have n0_ := Aside0.mk (Kd.R_after (ok := (fun _ => True)) (by (with_reducible repeat (first | apply Kd.R_alloc | apply Kd.R_drewN | apply Kd.R_drew)); exact HO_7.out) hg hat); have n1_ := Aside0.mk (IsS115.grown (by repeat (first | (with_reducible first | exact HI0.out | apply IsS115.alloc | apply IsS115.drewN | apply IsS115.drew | apply IsS115.set_1) | exact HI0.out)) hg (IsS115.own_ne HI0.out HO405.out (by decide))); have n2_ := Aside0.mk (Kd.R_after (ok := (fun k_ => some k_ ≠ (.slice (some ad406) x7_2.length co39 : Value).ownBlock)) (by (with_reducible repeat (first | apply Kd.R_alloc | apply Kd.R_drewN | apply Kd.R_drew)); exact Kd.R_mono HL406_0.out (fun _ hk => ⟨hk.2, hk.1.2⟩)) hg hat); have n3_ := Aside0.mk (below_weaken (by repeat (first | (with_reducible first | exact HB.out | apply below_alloc | apply pw_below_drewN | apply below_drew1 | refine below_set ?_ (IsS115.ge HI0.out)) | exact HB.out)) HL.out hb); have n4_ := Aside0.mk (KeepBut.trans (by repeat (first | (with_reducible first | exact HK.out | apply KeepBut.set_ | apply keep_drewN | apply keep_drew | apply keep_alloc) | exact HK.out)) (KeepBut.of_grown hg g) (Kd.R_base2 HO405.out)); have n5_ := Aside0.mk (ho); clear HO_7; clear HI0; clear HL406_0; clear HB; clear HK; clear HO405; have HO_7 := n0_; have HI0 := n1_; have HL406_0 := n2_; have HB := n3_; have HK := n4_; have HO409 := n5_; clear n0_ n1_ n2_ n3_ n4_ n5_; clear ho hb hg hat) | ((with_reducible refine gate_builtin (b := .append) (xs := #[.tmp 69, .tmp 71]) rfl ?_); at_builtin; refine Kd.R_append k52 w.heap.size rfl (.tmp 69) (.tmp 71) 34 52 (.agg #[(.int .i64 0), (.int .i64 0)]) 16 rfl Try.underlying34 info52 rfl (by decide) (by omega) v408 y407 (⟨2, 0⟩ : S52) [.int .i64 2, .int .i64 0] (fun _ => True) (fun _ => False) rfl rfl ?aP (fun _ hk => hk.elim) ?aF ?aO (Below.refl _ _) ?aS ?aL ?_; (case aP => exact k52_mkM _ _ _ (⟨2, 0⟩ : S52)); (case aF => exact (fun _ _ => trivial)); (case aO => exact (by (with_reducible repeat (first | apply Kd.R_alloc | apply Kd.R_drewN | apply Kd.R_drew)); exact HO409.out)); (case aS => exact (keep_size (w := w) (g := g) (row := none) (by repeat (first | (with_reducible first | exact HK.out | apply KeepBut.set_ | apply keep_drewN | apply keep_drew | apply keep_alloc) | exact HK.out)))); (case aL => have := LMc37.out; omega); intro v411 w45 ho hb hg hat; rw [← Ny410.out] at ho; have n0_ := Aside0.mk (Kd.R_after (ok := (fun _ => True)) (by (with_reducible repeat (first | apply Kd.R_alloc | apply Kd.R_drewN | apply Kd.R_drew)); exact HO_7.out) hg hat); have n1_ := Aside0.mk (IsS115.grown (by repeat (first | (with_reducible first | exact HI0.out | apply IsS115.alloc | apply IsS115.drewN | apply IsS115.drew | apply IsS115.set_1) | exact HI0.out)) hg (IsS115.own_ne HI0.out HO409.out (by decide))); have n2_ := Aside0.mk (Kd.R_after (ok := (fun k_ => some k_ ≠ (.slice (some ad406) x7_2.length co39 : Value).ownBlock)) (by (with_reducible repeat (first | apply Kd.R_alloc | apply Kd.R_drewN | apply Kd.R_drew)); exact HL406_0.out) hg hat); have n3_ := Aside0.mk (below_weaken (by repeat (first | (with_reducible first | exact HB.out | apply below_alloc | apply pw_below_drewN | apply below_drew1 | refine below_set ?_ (IsS115.ge HI0.out)) | exact HB.out)) HL.out hb); have n4_ := Aside0.mk (KeepBut.trans (by repeat (first | (with_reducible first | exact HK.out | apply KeepBut.set_ | apply keep_drewN | apply keep_drew | apply keep_alloc) | exact HK.out)) (KeepBut.of_grown hg g) (Kd.R_base2 HO409.out)); have n5_ := Aside0.mk (ho); clear HO_7; clear HI0; clear HL406_0; clear HB; clear HK; clear HO409; have HO_7 := n0_; have HI0 := n1_; have HL406_0 := n2_; have HB := n3_; have HK := n4_; have HO412 := n5_; clear n0_ n1_ n2_ n3_ n4_ n5_; clear ho hb hg hat; have p38 : 0 ≤ (t399 : Int) := of_decide_eq_true (by first | (with_reducible assumption) | assumption); have q38 : (t399 : Int) < ((x7_2.length : Int) : Int) := of_decide_eq_true (by first | (with_reducible assumption) | assumption); obtain ⟨go38, co38, eo38, gb38, gl38, cl38, HG38⟩ := Kd.R_form HO_7.out (by omega); (first | cases eo38 | (injection eo38 with ea_ en_ ec_; (first | subst ea_ | (injection ea_ with ea_; subst ea_)); subst ec_; clear en_)); have GB38 := Aside0.mk gb38; have GG38 := Aside0.mk HG38; clear gb38 gl38 HG38; (first | simp only [add_plain] at hx406_0 | skip); obtain ⟨ce38, hcl38, hM38, hcc38, hfr38⟩ := Kd.R_elem HO_7.out [] (t399 : Int) p38 q38; obtain ⟨ve38_0, rfl, ge38_0⟩ := hM38; have hx38_0 := hcc38 0 _ rfl; have hf38_0 := hfr38 0; (try simp only [show ((Kd.slice 52 k52)).sz = 1 from rfl, Nat.mul_one, Nat.add_zero] at hx38_0); (try simp only [show ((Kd.slice 52 k52)).sz = 1 from rfl, Nat.mul_one, Nat.add_zero] at hf38_0); clear hcl38 hcc38 hfr38; (try clear hM38); replace p38 := eq_true p38; replace q38 := eq_true q38; have n_ := Aside0.mk (Kd.R_mono (ok' := (fun k_ => some k_ ≠ (v411 : Value).ownBlock)) HO_7.out (fun k_ hk => hk.2)); clear HO_7; have HO_7 := n_; clear n_; have HX46 := Aside0.mk (show Kd.R (Kd.slice 52 k52) 34 w45 w.heap.size (fun _ => True) (.slice (some ⟨go38, 0, none⟩) x7_2.length co39) x7_2 from (by (with_reducible repeat (first | apply Kd.R_alloc | apply Kd.R_drewN | apply Kd.R_drew)); exact Kd.R_mono HO_7.out (fun _ hk => trivial))); obtain ⟨ce46, hcl46, hM46, hcc46, hfr46⟩ := Kd.R_elem HX46.out [] (t399 : Int) (of_decide_eq_true (by first | (with_reducible assumption) | assumption)) (by have h_ : (t399 : Int) < ((x7_2.length : Int) : Int) := of_decide_eq_true (by first | (with_reducible assumption) | assumption); first | exact h_ | (have e_ := (Kd.R_reads' HO_7.out).1; omega) | simpa using h_); obtain ⟨ve46_0, rfl, ge46_0⟩ := hM46; have HP46 := Kd.R_seg HX46.out (t399 : Int) (of_decide_eq_true (by first | (with_reducible assumption) | assumption)) (by have h_ : (t399 : Int) < ((x7_2.length : Int) : Int) := of_decide_eq_true (by first | (with_reducible assumption) | assumption); first | exact h_ | (have e_ := (Kd.R_reads' HO_7.out).1; omega) | simpa using h_) (seg := [v411]) (j := 0) hcl46 hcc46 (show 1 ≤ 1 from by decide) (x' := y410) (Kd.M_row (Kd.R_mono (Kd.R_apart' (HO412.out) (Kd.R_typed HO_7.out) (by decide)) (fun k_ hk => ⟨trivial, fun e_ => (hk.2) (by rw [e_]; rfl)⟩))) (fun _ hk => hk); have hx46_0 := hcc46 0 _ rfl; (try simp only [show ((Kd.slice 52 k52)).sz = 1 from rfl, Nat.mul_one, Nat.add_zero] at hx46_0); have hf46_0 := hfr46 0; (try simp only [show ((Kd.slice 52 k52)).sz = 1 from rfl, Nat.mul_one, Nat.add_zero] at hf46_0); clear hcl46 hcc46 hfr46; (try clear hM46); (try simp only [show ((Kd.slice 52 k52)).sz = 1 from rfl, Nat.mul_one, Nat.add_zero] at HP46)) | ((with_reducible refine gate_store (t := 34) (p := 73) rfl ?_); refine store_event (t := 34) (p := 73) (v := ?vo_w47) (w1 := (w45.setCell ⟨go38, (t399 : Int).toNat, none⟩ (v411))) ?hg ?ho ?hn ?hr ?_; (case ho => rfl); (case hg => rfl); (case hn => rfl); (case hr => first | (go_simp; done) | (go_simp; rfl) | (obtain ⟨As_, cs_, es_⟩ := Kd.R_slice HO412.out; rw [es_]; first | (go_simp; done) | (go_simp; rfl))); intro w47 hw; have hg : w45.grownBy w47 (some go38) := (by rw [hw]; exact HP46.2); have hp_ : Kd.R (Kd.slice 52 k52) 34 w47 w.heap.size (fun _ => True) (.slice (some ⟨go38, 0, none⟩) x7_2.length co39) y413 := (by rw [hw, Ny413.out]; exact HP46.1); clear HP46; have n0_ := Aside0.mk (hp_); have n1_ := Aside0.mk (IsS115.grown (by repeat (first | (with_reducible first | exact HI0.out | apply IsS115.alloc | apply IsS115.drewN | apply IsS115.drew | apply IsS115.set_1) | exact HI0.out)) hg (IsS115.own_ne HI0.out HO_7.out (by decide))); have n2_ := Aside0.mk (Kd.R_after (v := (.slice (some ⟨go38, 0, none⟩) x7_2.length co39)) (v1 := (.slice (some ⟨go38, 0, none⟩) x7_2.length co39)) (ok := (fun k_ => some k_ ≠ (v411 : Value).ownBlock)) (by (with_reducible repeat (first | apply Kd.R_alloc | apply Kd.R_drewN | apply Kd.R_drew)); exact Kd.R_mono HL406_0.out (fun _ hk => ⟨hk.2, hk.1⟩)) hg (.inl rfl)); have n3_ := Aside0.mk ((by rw [hw]; exact below_set (HB.out) (Nat.le_trans HL.out GB38.out) : Below w0.heap.size w0 w47)); have n4_ := Aside0.mk (KeepBut.trans (by repeat (first | (with_reducible first | exact HK.out | apply KeepBut.set_ | apply keep_drewN | apply keep_drew | apply keep_alloc) | exact HK.out)) (KeepBut.of_grown hg g) (Kd.R_base2 HO_7.out)); clear HO_7; clear HI0; clear HL406_0; clear HB; clear HK; clear HO412; have HO_7 := n0_; have HI0 := n1_; have HL406_0 := n2_; have HB := n3_; have HK := n4_; clear n0_ n1_ n2_ n3_ n4_; clear hg hw hp_))
             go_roundg k2
             case measure => have := HK1.out; have := HK2.out; omega
             case rel => exact ⟨(y413), (wrap64 (x9_2 - 1)), (t402), (by first | rfl | (simp; done) | (simp [*]; done)), H', ⟨by have := HK1.out; have := HK2.out; omega⟩, ⟨by (with_reducible repeat (first | apply Kd.R_alloc | apply Kd.R_drewN | apply Kd.R_drew)); exact HO_7.out⟩, ⟨by repeat (first | (with_reducible first | exact HI0.out | apply IsS115.alloc | apply IsS115.drewN | apply IsS115.drew | apply IsS115.set_1) | exact HI0.out)⟩, ⟨by repeat (first | (with_reducible first | exact HK.out | apply KeepBut.set_ | apply keep_drewN | apply keep_drew | apply keep_alloc) | exact HK.out)⟩, ⟨by repeat (first | (with_reducible first | exact HB.out | apply below_alloc | apply pw_below_drewN | apply below_drew1 | refine below_set ?_ (IsS115.ge HI0.out)) | exact HB.out)⟩⟩
            ·rw [if_neg c37] at H
             exact absurd H (by simp)
           ·rw [if_neg c36] at H
            exact absurd H (by simp)
          ·rw [if_neg c35] at H
           exact absurd H (by simp)
         ·rw [if_neg c34] at H
          exact absurd H (by simp)
        ·rw [if_neg c33] at H
         have c33b0 : (t401 == 0) = false := beq_eq_false_iff_ne.mpr c33
         have c33b1 : (t401 != 0) = true := bne_iff_ne.mpr c33
         obtain ⟨y414, hy414⟩ : ∃ y_ : List (S52), y_ = (([] : List (S52))) := ⟨_, rfl⟩
         replace H : (if 0 ≤ t399 then (if t399 < (x7_2.length : Int) then (if y414.length + (rd_L5 x7_2 t399).length < 8796093022208 then ((some (y414 ++ (rd_L5 x7_2 t399) : List (S52))).bind fun y418 => (if 0 ≤ (wrap64 (t399 + 1)) then (if (wrap64 (t399 + 1)) < (x7_2.length : Int) then (if y418.length + (rd_L5 x7_2 (wrap64 (t399 + 1))).length < 8796093022208 then ((some (y418 ++ (rd_L5 x7_2 (wrap64 (t399 + 1))) : List (S52))).bind fun y422 => ((spec_l20Rd_pick.f k2 s0_0 t402 3).bind fun bt425 => (if y422.length < 8796093022208 then ((some (([] : List (List (S52))) : List (List (S52)))).bind fun y430 => (if t399 ≤ (x7_2.length : Int) then ((some (x7_2.take (t399 : Int).toNat : List (List (S52)))).bind fun y433 => (if y430.length + y433.length < 5864062014805 then ((some (y430 ++ y433 : List (List (S52)))).bind fun y437 => (if y437.length < 5864062014805 then ((some (y437 ++ [(y422 ++ [(⟨wrap64 (3 + bt425.1), 0⟩ : S52)])] : List (List (S52)))).bind fun y440 => (if 0 ≤ (wrap64 (t399 + 2)) then (if (wrap64 (t399 + 2)) ≤ (x7_2.length : Int) then ((some (x7_2.drop ((wrap64 (t399 + 2)) : Int).toNat : List (List (S52)))).bind fun y443 => (if y440.length + y443.length < 5864062014805 then (spec_l20Term.l1 k2 a2 (y440 ++ y443) x9_2 s0_0 bt425.2) else (none))) else (none)) else (none))) else (none))) else (none))) else (none))) else (none)))) else (none)) else (none)) else (none))) else (none)) else (none)) else (none)) = some (r1, r2) := by first | (rw [hy414]; with_reducible exact H) | (have H2_ := (Option.bind_some _ _).symm.trans H; rw [hy414]; with_reducible exact H2_) | (have H2_ := (Option.bind_some _ _).symm.trans H; with_reducible exact H2_) | with_reducible exact H | (rw [hy414]; exact H) | exact H
         have Ny414 := Aside0.mk hy414
         clear hy414
         by_cases c48 : 0 ≤ t399
         ·rw [if_pos c48] at H
          have c48b0 : decide (0 ≤ t399) = true := decide_eq_true c48
          clear c48
          by_cases c49 : t399 < (x7_2.length : Int)
          ·rw [if_pos c49] at H
           have c49b0 : decide (t399 < (x7_2.length : Int)) = true := decide_eq_true c49
           clear c49
           by_cases c50 : y414.length + (rd_L5 x7_2 t399).length < 8796093022208
           ·rw [if_pos c50] at H
            have LMc50 := Aside0.mk c50
            clear c50
            obtain ⟨y418, hy418⟩ : ∃ y_ : List (S52), y_ = (y414 ++ (rd_L5 x7_2 t399)) := ⟨_, rfl⟩
            replace H : (if 0 ≤ (wrap64 (t399 + 1)) then (if (wrap64 (t399 + 1)) < (x7_2.length : Int) then (if y418.length + (rd_L5 x7_2 (wrap64 (t399 + 1))).length < 8796093022208 then ((some (y418 ++ (rd_L5 x7_2 (wrap64 (t399 + 1))) : List (S52))).bind fun y422 => ((spec_l20Rd_pick.f k2 s0_0 t402 3).bind fun bt425 => (if y422.length < 8796093022208 then ((some (([] : List (List (S52))) : List (List (S52)))).bind fun y430 => (if t399 ≤ (x7_2.length : Int) then ((some (x7_2.take (t399 : Int).toNat : List (List (S52)))).bind fun y433 => (if y430.length + y433.length < 5864062014805 then ((some (y430 ++ y433 : List (List (S52)))).bind fun y437 => (if y437.length < 5864062014805 then ((some (y437 ++ [(y422 ++ [(⟨wrap64 (3 + bt425.1), 0⟩ : S52)])] : List (List (S52)))).bind fun y440 => (if 0 ≤ (wrap64 (t399 + 2)) then (if (wrap64 (t399 + 2)) ≤ (x7_2.length : Int) then ((some (x7_2.drop ((wrap64 (t399 + 2)) : Int).toNat : List (List (S52)))).bind fun y443 => (if y440.length + y443.length < 5864062014805 then (spec_l20Term.l1 k2 a2 (y440 ++ y443) x9_2 s0_0 bt425.2) else (none))) else (none)) else (none))) else (none))) else (none))) else (none))) else (none)))) else (none)) else (none)) else (none)) = some (r1, r2) := by first | (rw [hy418]; with_reducible exact H) | (have H2_ := (Option.bind_some _ _).symm.trans H; rw [hy418]; with_reducible exact H2_) | (have H2_ := (Option.bind_some _ _).symm.trans H; with_reducible exact H2_) | with_reducible exact H | (rw [hy418]; exact H) | exact H
            have Ny418 := Aside0.mk hy418
            clear hy418
            obtain ⟨ji51, hji51⟩ : ∃ j_ : Int, (wrap64 (t399 + 1)) = j_ := ⟨_, rfl⟩
            replace H : (if 0 ≤ (ji51) then (if (ji51) < (x7_2.length : Int) then (if y418.length + (rd_L5 x7_2 (ji51)).length < 8796093022208 then ((some (y418 ++ (rd_L5 x7_2 (ji51)) : List (S52))).bind fun y422 => ((spec_l20Rd_pick.f k2 s0_0 t402 3).bind fun bt425 => (if y422.length < 8796093022208 then ((some (([] : List (List (S52))) : List (List (S52)))).bind fun y430 => (if t399 ≤ (x7_2.length : Int) then ((some (x7_2.take (t399 : Int).toNat : List (List (S52)))).bind fun y433 => (if y430.length + y433.length < 5864062014805 then ((some (y430 ++ y433 : List (List (S52)))).bind fun y437 => (if y437.length < 5864062014805 then ((some (y437 ++ [(y422 ++ [(⟨wrap64 (3 + bt425.1), 0⟩ : S52)])] : List (List (S52)))).bind fun y440 => (if 0 ≤ (wrap64 (t399 + 2)) then (if (wrap64 (t399 + 2)) ≤ (x7_2.length : Int) then ((some (x7_2.drop ((wrap64 (t399 + 2)) : Int).toNat : List (List (S52)))).bind fun y443 => (if y440.length + y443.length < 5864062014805 then (spec_l20Term.l1 k2 a2 (y440 ++ y443) x9_2 s0_0 bt425.2) else (none))) else (none)) else (none))) else (none))) else (none))) else (none))) else (none)))) else (none)) else (none)) else (none)) = some (r1, r2) := by first | (rw [hji51] at H; exact H) | (simp only [hji51] at H ⊢; exact H)
            (try rw [hji51] at A30)
            (try rw [hji51] at A32)
            have hji51w : (IntKind.i64.wrap (t399 + 1)) = ji51 := (i64_w _).trans hji51
            by_cases c52 : 0 ≤ (ji51)
            ·rw [if_pos c52] at H
             have c52b0 : decide (0 ≤ (ji51)) = true := decide_eq_true c52
             clear c52
             by_cases c53 : (ji51) < (x7_2.length : Int)
             ·rw [if_pos c53] at H
              have c53b0 : decide ((ji51) < (x7_2.length : Int)) = true := decide_eq_true c53
              clear c53
              by_cases c54 : y418.length + (rd_L5 x7_2 (ji51)).length < 8796093022208
              ·rw [if_pos c54] at H
               have LMc54 := Aside0.mk c54
               clear c54
               obtain ⟨y422, hy422⟩ : ∃ y_ : List (S52), y_ = (y418 ++ (rd_L5 x7_2 (ji51))) := ⟨_, rfl⟩
               replace H : ((spec_l20Rd_pick.f k2 s0_0 t402 3).bind fun bt425 => (if y422.length < 8796093022208 then ((some (([] : List (List (S52))) : List (List (S52)))).bind fun y430 => (if t399 ≤ (x7_2.length : Int) then ((some (x7_2.take (t399 : Int).toNat : List (List (S52)))).bind fun y433 => (if y430.length + y433.length < 5864062014805 then ((some (y430 ++ y433 : List (List (S52)))).bind fun y437 => (if y437.length < 5864062014805 then ((some (y437 ++ [(y422 ++ [(⟨wrap64 (3 + bt425.1), 0⟩ : S52)])] : List (List (S52)))).bind fun y440 => (if 0 ≤ (wrap64 (t399 + 2)) then (if (wrap64 (t399 + 2)) ≤ (x7_2.length : Int) then ((some (x7_2.drop ((wrap64 (t399 + 2)) : Int).toNat : List (List (S52)))).bind fun y443 => (if y440.length + y443.length < 5864062014805 then (spec_l20Term.l1 k2 a2 (y440 ++ y443) x9_2 s0_0 bt425.2) else (none))) else (none)) else (none))) else (none))) else (none))) else (none))) else (none))) = some (r1, r2) := by first | (rw [hy422]; with_reducible exact H) | (have H2_ := (Option.bind_some _ _).symm.trans H; rw [hy422]; with_reducible exact H2_) | (have H2_ := (Option.bind_some _ _).symm.trans H; with_reducible exact H2_) | with_reducible exact H | (rw [hy422]; exact H) | exact H
               have Ny422 := Aside0.mk hy422
               clear hy422
               replace H := Option.bind_eq_some_iff.mp H
               obtain ⟨⟨t425, t426⟩, A550, H⟩ := H
               replace H : (if y422.length < 8796093022208 then ((some (([] : List (List (S52))) : List (List (S52)))).bind fun y430 => (if t399 ≤ (x7_2.length : Int) then ((some (x7_2.take (t399 : Int).toNat : List (List (S52)))).bind fun y433 => (if y430.length + y433.length < 5864062014805 then ((some (y430 ++ y433 : List (List (S52)))).bind fun y437 => (if y437.length < 5864062014805 then ((some (y437 ++ [(y422 ++ [(⟨wrap64 (3 + t425), 0⟩ : S52)])] : List (List (S52)))).bind fun y440 => (if 0 ≤ (wrap64 (t399 + 2)) then (if (wrap64 (t399 + 2)) ≤ (x7_2.length : Int) then ((some (x7_2.drop ((wrap64 (t399 + 2)) : Int).toNat : List (List (S52)))).bind fun y443 => (if y440.length + y443.length < 5864062014805 then (spec_l20Term.l1 k2 a2 (y440 ++ y443) x9_2 s0_0 t426) else (none))) else (none)) else (none))) else (none))) else (none))) else (none))) else (none)) = some (r1, r2) := H
               have A55 := Aside0.mk A550
               clear A550
               by_cases c56 : y422.length < 8796093022208
               ·rw [if_pos c56] at H
                have LMc56 := Aside0.mk c56
                clear c56
                obtain ⟨y427, hy427⟩ : ∃ y_ : List (S52), y_ = (y422 ++ [(⟨wrap64 (3 + t425), 0⟩ : S52)]) := ⟨_, rfl⟩
                replace H : ((some (([] : List (List (S52))) : List (List (S52)))).bind fun y430 => (if t399 ≤ (x7_2.length : Int) then ((some (x7_2.take (t399 : Int).toNat : List (List (S52)))).bind fun y433 => (if y430.length + y433.length < 5864062014805 then ((some (y430 ++ y433 : List (List (S52)))).bind fun y437 => (if y437.length < 5864062014805 then ((some (y437 ++ [y427] : List (List (S52)))).bind fun y440 => (if 0 ≤ (wrap64 (t399 + 2)) then (if (wrap64 (t399 + 2)) ≤ (x7_2.length : Int) then ((some (x7_2.drop ((wrap64 (t399 + 2)) : Int).toNat : List (List (S52)))).bind fun y443 => (if y440.length + y443.length < 5864062014805 then (spec_l20Term.l1 k2 a2 (y440 ++ y443) x9_2 s0_0 t426) else (none))) else (none)) else (none))) else (none))) else (none))) else (none))) = some (r1, r2) := by first | (rw [hy427]; with_reducible exact H) | (have H2_ := (Option.bind_some _ _).symm.trans H; rw [hy427]; with_reducible exact H2_) | (have H2_ := (Option.bind_some _ _).symm.trans H; with_reducible exact H2_) | with_reducible exact H | (rw [hy427]; exact H) | exact H
                have Ny427 := Aside0.mk hy427
                clear hy427
                obtain ⟨y430, hy430⟩ : ∃ y_ : List (List (S52)), y_ = (([] : List (List (S52)))) := ⟨_, rfl⟩
                replace H : (if t399 ≤ (x7_2.length : Int) then ((some (x7_2.take (t399 : Int).toNat : List (List (S52)))).bind fun y433 => (if y430.length + y433.length < 5864062014805 then ((some (y430 ++ y433 : List (List (S52)))).bind fun y437 => (if y437.length < 5864062014805 then ((some (y437 ++ [y427] : List (List (S52)))).bind fun y440 => (if 0 ≤ (wrap64 (t399 + 2)) then (if (wrap64 (t399 + 2)) ≤ (x7_2.length : Int) then ((some (x7_2.drop ((wrap64 (t399 + 2)) : Int).toNat : List (List (S52)))).bind fun y443 => (if y440.length + y443.length < 5864062014805 then (spec_l20Term.l1 k2 a2 (y440 ++ y443) x9_2 s0_0 t426) else (none))) else (none)) else (none))) else (none))) else (none))) else (none)) = some (r1, r2) := by first | (rw [hy430]; with_reducible exact H) | (have H2_ := (Option.bind_some _ _).symm.trans H; rw [hy430]; with_reducible exact H2_) | (have H2_ := (Option.bind_some _ _).symm.trans H; with_reducible exact H2_) | with_reducible exact H | (rw [hy430]; exact H) | exact H
                have Ny430 := Aside0.mk hy430
                clear hy430
                have c57b0 := eq_true (of_decide_eq_true (by first | (with_reducible assumption) | assumption) : 0 ≤ t399)
                by_cases c58 : t399 ≤ (x7_2.length : Int)
                ·rw [if_pos c58] at H
                 have c58b0 := eq_true c58
                 have c58b1 : decide (t399 ≤ (x7_2.length : Int)) = true := decide_eq_true c58
                 clear c58
                 obtain ⟨y433, hy433⟩ : ∃ y_ : List (List (S52)), y_ = (x7_2.take (t399 : Int).toNat) := ⟨_, rfl⟩
                 replace H : (if y430.length + y433.length < 5864062014805 then ((some (y430 ++ y433 : List (List (S52)))).bind fun y437 => (if y437.length < 5864062014805 then ((some (y437 ++ [y427] : List (List (S52)))).bind fun y440 => (if 0 ≤ (wrap64 (t399 + 2)) then (if (wrap64 (t399 + 2)) ≤ (x7_2.length : Int) then ((some (x7_2.drop ((wrap64 (t399 + 2)) : Int).toNat : List (List (S52)))).bind fun y443 => (if y440.length + y443.length < 5864062014805 then (spec_l20Term.l1 k2 a2 (y440 ++ y443) x9_2 s0_0 t426) else (none))) else (none)) else (none))) else (none))) else (none)) = some (r1, r2) := by first | (rw [hy433]; with_reducible exact H) | (have H2_ := (Option.bind_some _ _).symm.trans H; rw [hy433]; with_reducible exact H2_) | (have H2_ := (Option.bind_some _ _).symm.trans H; with_reducible exact H2_) | with_reducible exact H | (rw [hy433]; exact H) | exact H
                 have Ny433 := Aside0.mk hy433
                 clear hy433
                 by_cases c59 : y430.length + y433.length < 5864062014805
                 ·rw [if_pos c59] at H
                  have LMc59 := Aside0.mk c59
                  clear c59
                  obtain ⟨y437, hy437⟩ : ∃ y_ : List (List (S52)), y_ = (y430 ++ y433) := ⟨_, rfl⟩
                  replace H : (if y437.length < 5864062014805 then ((some (y437 ++ [y427] : List (List (S52)))).bind fun y440 => (if 0 ≤ (wrap64 (t399 + 2)) then (if (wrap64 (t399 + 2)) ≤ (x7_2.length : Int) then ((some (x7_2.drop ((wrap64 (t399 + 2)) : Int).toNat : List (List (S52)))).bind fun y443 => (if y440.length + y443.length < 5864062014805 then (spec_l20Term.l1 k2 a2 (y440 ++ y443) x9_2 s0_0 t426) else (none))) else (none)) else (none))) else (none)) = some (r1, r2) := by first | (rw [hy437]; with_reducible exact H) | (have H2_ := (Option.bind_some _ _).symm.trans H; rw [hy437]; with_reducible exact H2_) | (have H2_ := (Option.bind_some _ _).symm.trans H; with_reducible exact H2_) | with_reducible exact H | (rw [hy437]; exact H) | exact H
                  have Ny437 := Aside0.mk hy437
                  clear hy437
                  by_cases c60 : y437.length < 5864062014805
                  ·rw [if_pos c60] at H
                   have LMc60 := Aside0.mk c60
                   clear c60
                   obtain ⟨y440, hy440⟩ : ∃ y_ : List (List (S52)), y_ = (y437 ++ [y427]) := ⟨_, rfl⟩
                   replace H : (if 0 ≤ (wrap64 (t399 + 2)) then (if (wrap64 (t399 + 2)) ≤ (x7_2.length : Int) then ((some (x7_2.drop ((wrap64 (t399 + 2)) : Int).toNat : List (List (S52)))).bind fun y443 => (if y440.length + y443.length < 5864062014805 then (spec_l20Term.l1 k2 a2 (y440 ++ y443) x9_2 s0_0 t426) else (none))) else (none)) else (none)) = some (r1, r2) := by first | (rw [hy440]; with_reducible exact H) | (have H2_ := (Option.bind_some _ _).symm.trans H; rw [hy440]; with_reducible exact H2_) | (have H2_ := (Option.bind_some _ _).symm.trans H; with_reducible exact H2_) | with_reducible exact H | (rw [hy440]; exact H) | exact H
                   have Ny440 := Aside0.mk hy440
                   clear hy440
                   obtain ⟨ji61, hji61⟩ : ∃ j_ : Int, (wrap64 (t399 + 2)) = j_ := ⟨_, rfl⟩
                   replace H : (if 0 ≤ (ji61) then (if (ji61) ≤ (x7_2.length : Int) then ((some (x7_2.drop ((ji61) : Int).toNat : List (List (S52)))).bind fun y443 => (if y440.length + y443.length < 5864062014805 then (spec_l20Term.l1 k2 a2 (y440 ++ y443) x9_2 s0_0 t426) else (none))) else (none)) else (none)) = some (r1, r2) := by first | (rw [hji61] at H; exact H) | (simp only [hji61] at H ⊢; exact H)
                   (try rw [hji61] at A30)
                   (try rw [hji61] at A32)
                   (try rw [hji61] at A55)
                   have hji61w : (IntKind.i64.wrap (t399 + 2)) = ji61 := (i64_w _).trans hji61
                   by_cases c62 : 0 ≤ (ji61)
                   ·rw [if_pos c62] at H
                    have c62b0 := eq_true c62
                    have c62b1 : decide (0 ≤ (ji61)) = true := decide_eq_true c62
                    clear c62
                    by_cases c63 : (ji61) ≤ (x7_2.length : Int)
                    ·rw [if_pos c63] at H
                     have c63b0 := eq_true c63
                     have c63b1 : decide ((ji61) ≤ (x7_2.length : Int)) = true := decide_eq_true c63
                     clear c63
                     obtain ⟨y443, hy443⟩ : ∃ y_ : List (List (S52)), y_ = (x7_2.drop ((ji61) : Int).toNat) := ⟨_, rfl⟩
                     replace H : (if y440.length + y443.length < 5864062014805 then (spec_l20Term.l1 k2 a2 (y440 ++ y443) x9_2 s0_0 t426) else (none)) = some (r1, r2) := by first | (rw [hy443]; with_reducible exact H) | (have H2_ := (Option.bind_some _ _).symm.trans H; rw [hy443]; with_reducible exact H2_) | (have H2_ := (Option.bind_some _ _).symm.trans H; with_reducible exact H2_) | with_reducible exact H | (rw [hy443]; exact H) | exact H
                     have Ny443 := Aside0.mk hy443
                     clear hy443
                     by_cases c64 : y440.length + y443.length < 5864062014805
                     ·rw [if_pos c64] at H
                      have LMc64 := Aside0.mk c64
                      clear c64
                      obtain ⟨y447, hy447⟩ : ∃ y_ : List (List (S52)), y_ = (y440 ++ y443) := ⟨_, rfl⟩
                      replace H : (spec_l20Term.l1 k2 a2 y447 x9_2 s0_0 t426) = some (r1, r2) := by first | (rw [hy447]; with_reducible exact H) | (have H2_ := (Option.bind_some _ _).symm.trans H; rw [hy447]; with_reducible exact H2_) | (have H2_ := (Option.bind_some _ _).symm.trans H; with_reducible exact H2_) | with_reducible exact H | (rw [hy447]; exact H) | exact H
                      have Ny447 := Aside0.mk hy447
                      clear hy447
                      have H' := Aside0.mk H
                      clear H
                      obtain ⟨Ao65, co65, eo65⟩ := Kd.R_slice HO_7.out
                      subst eo65
                      try go_wp2_with (first | ((with_reducible refine gate_callee (f := 116) rfl ?_); refine goesL_ (some 52) rfl rfl Try.func116 (by kernel_rfl) rfl #[.pointer (some ⟨g, 0, none⟩), .int .i64 (wrap64 ((x7_2.length : Int) - 1))] rfl (by (try simp only [List.map_toArray, List.map_cons, List.map_nil]); first | done | rfl | (simp only [List.length_drop, List.length_take]; rfl)) ?_; (with_reducible refine (spec_l20Rd_pick.calls k2 g s0_0 x1001_2 (wrap64 ((x7_2.length : Int) - 1)) t399 t400 w0 _ ?side1 ?side2 A30.out).mono ?_); (case side1 => repeat (first | (with_reducible first | exact HI0.out | apply IsS115.alloc | apply IsS115.drewN | apply IsS115.drew | apply IsS115.set_1) | exact HI0.out)); (case side2 => repeat (first | (with_reducible first | exact HB.out | apply below_alloc | apply pw_below_drewN | apply below_drew1 | refine below_set ?_ (IsS115.ge HI0.out)) | exact HB.out)); rintro e w66 ⟨rfl, hi, hb, hk⟩; refine ⟨_, rfl, ?_⟩; have n0_ := Aside0.mk (Kd.R_mono (Kd.R_keep (IsS115.apart (show IsS115 w0 _ g s0_0 x1001_2 from by repeat (first | (with_reducible first | exact HI0.out | apply IsS115.alloc | apply IsS115.drewN | apply IsS115.drew | apply IsS115.set_1) | exact HI0.out)) (by (with_reducible repeat (first | apply Kd.R_alloc | apply Kd.R_drewN | apply Kd.R_drew)); exact HO_7.out) (by decide)) hk (fun _ h => h.2)) (fun _ h => h.1)); have n1_ := Aside0.mk (KeepBut.trans (by repeat (first | (with_reducible first | exact HK.out | apply KeepBut.set_ | apply keep_drewN | apply keep_drew | apply keep_alloc) | exact HK.out)) hk (.inl rfl)); have n2_ := Aside0.mk (hb); have n3_ := Aside0.mk (hi); clear HO_7; clear HK; clear HB; clear HI0; have HO_7 := n0_; have HK := n1_; have HB := n2_; have HI0 := n3_; clear n0_ n1_ n2_ n3_; (try clear hb); (try clear hb2); (try clear hk); (try clear hi)) | (go_at_call 116; (with_reducible refine (spec_l20Rd_pick.calls k2 g s0_0 t400 4 t401 t402 w0 _ ?side1 ?side2 A32.out).mono ?_); (case side1 => repeat (first | (with_reducible first | exact HI0.out | apply IsS115.alloc | apply IsS115.drewN | apply IsS115.drew | apply IsS115.set_1) | exact HI0.out)); (case side2 => repeat (first | (with_reducible first | exact HB.out | apply below_alloc | apply pw_below_drewN | apply below_drew1 | refine below_set ?_ (IsS115.ge HI0.out)) | exact HB.out)); rintro e w67 ⟨rfl, hi, hb, hk⟩; have n0_ := Aside0.mk (Kd.R_mono (Kd.R_keep (IsS115.apart (show IsS115 w0 _ g s0_0 t400 from by repeat (first | (with_reducible first | exact HI0.out | apply IsS115.alloc | apply IsS115.drewN | apply IsS115.drew | apply IsS115.set_1) | exact HI0.out)) (by (with_reducible repeat (first | apply Kd.R_alloc | apply Kd.R_drewN | apply Kd.R_drew)); exact HO_7.out) (by decide)) hk (fun _ h => h.2)) (fun _ h => h.1)); have n1_ := Aside0.mk (KeepBut.trans (by repeat (first | (with_reducible first | exact HK.out | apply KeepBut.set_ | apply keep_drewN | apply keep_drew | apply keep_alloc) | exact HK.out)) hk (.inl rfl)); have n2_ := Aside0.mk (hb); have n3_ := Aside0.mk (hi); clear HO_7; clear HK; clear HB; clear HI0; have HO_7 := n0_; have HK := n1_; have HB := n2_; have HI0 := n3_; clear n0_ n1_ n2_ n3_; (try clear hb); (try clear hb2); (try clear hk); (try clear hi)))
                      have n0_ := Aside0.mk (Kd.R_drew HO_7.out)
                      have n1_ := Aside0.mk (IsS115.drew HI0.out)
                      have n2_ := Aside0.mk (keep_drew HK.out)
                      have n3_ := Aside0.mk (below_drew1 HB.out)
                      clear HO_7
                      clear HI0
                      clear HK
                      clear HB
                      have HO_7 := n0_
                      have HI0 := n1_
                      have HK := n2_
                      have HB := n3_
                      clear n0_ n1_ n2_ n3_
                      have p417 : 0 ≤ (t399 : Int) := of_decide_eq_true (by first | (with_reducible assumption) | assumption)
                      have q417 : t399 < (x7_2.length : Int) := of_decide_eq_true (by first | (with_reducible assumption) | assumption)
                      obtain ⟨ad417, A417_0, c417_0, e417, hx417_0, hl417_0, hi417_0⟩ := at_L5 (Kd.R_reads' HO_7.out).2.2 t399 p417 q417
                      cases e417
                      obtain ⟨ce417, hce417, hMe417, hcc417⟩ := Kd.R_get HO_7.out [] t399 p417 (by first | exact q417 | exact of_decide_eq_true (by first | (with_reducible assumption) | assumption) | (have e_ := (Kd.R_reads' HO_7.out).1; omega))
                      obtain ⟨ve417_0, rfl, ge417_0⟩ := hMe417
                      have hv417_0 := hcc417 0 _ rfl
                      rw [Nat.add_zero, show ((Kd.slice 52 k52)).sz = 1 from rfl, Nat.mul_one] at hv417_0
                      replace hv417_0 := Option.some.inj (hv417_0.symm.trans hx417_0)
                      rw [hv417_0] at ge417_0
                      have HL417_0 := Aside0.mk (show Kd.R k52 52 _ _ _ _ (rd_L5 x7_2 t399) from ge417_0)
                      clear hv417_0 ge417_0
                      clear hcc417 hce417
                      have HR417_0 := Aside0.mk hi417_0
                      have HC417_0 := Aside0.mk hl417_0
                      clear hi417_0 hl417_0
                      replace p417 := eq_true p417
                      replace q417 := eq_true q417
                      have p421 : 0 ≤ ((ji51) : Int) := of_decide_eq_true (by first | (with_reducible assumption) | assumption)
                      have q421 : (ji51) < (x7_2.length : Int) := of_decide_eq_true (by first | (with_reducible assumption) | assumption)
                      obtain ⟨ad421, A421_0, c421_0, e421, hx421_0, hl421_0, hi421_0⟩ := at_L5 (Kd.R_reads' HO_7.out).2.2 (ji51) p421 q421
                      obtain rfl : ad417 = ad421 := (by injection e421)
                      obtain ⟨ce421, hce421, hMe421, hcc421⟩ := Kd.R_get HO_7.out [] (ji51) p421 (by first | exact q421 | exact of_decide_eq_true (by first | (with_reducible assumption) | assumption) | (have e_ := (Kd.R_reads' HO_7.out).1; omega))
                      obtain ⟨ve421_0, rfl, ge421_0⟩ := hMe421
                      have hv421_0 := hcc421 0 _ rfl
                      rw [Nat.add_zero, show ((Kd.slice 52 k52)).sz = 1 from rfl, Nat.mul_one] at hv421_0
                      replace hv421_0 := Option.some.inj (hv421_0.symm.trans hx421_0)
                      rw [hv421_0] at ge421_0
                      have HL421_0 := Aside0.mk (show Kd.R k52 52 _ _ _ _ (rd_L5 x7_2 (ji51)) from ge421_0)
                      clear hv421_0 ge421_0
                      clear hcc421 hce421
                      have HR421_0 := Aside0.mk hi421_0
                      have HC421_0 := Aside0.mk hl421_0
                      clear hi421_0 hl421_0
                      replace p421 := eq_true p421
                      replace q421 := eq_true q421
                      refine start_ (n := 19) (S := fun w' => w'.cell? (ad417.add (t399).toNat) = some (.slice A417_0 (rd_L5 x7_2 t399).length c417_0) ∧ w'.cell? (ad417.add ((ji51)).toNat) = some (.slice A421_0 (rd_L5 x7_2 (ji51)).length c421_0)) (ds := [16, 17]) #[false, false, false, false, false, false, false, false, false, false, false, false, false, false, false, false, false, false, false] (by kernel_rfl) rfl rfl ⟨hx417_0, hx421_0⟩ (fun hHeld => ?_); refine with_tabW spec_l20Term.tab15 spec_l20Term.bits15 (fun HT_ HW_ => ?_)
                      generalize w67.drew = w68 at HO_7 HI0 HK HB HL417_0 HL421_0 HR417_0 HR421_0 hx417_0 hx421_0 hHeld ⊢
                      refine pure_ (i := 1) (N := some 75) (v := ?_) (a' := ?_) #[false, true, false, false, false, false, false, false, false, false, false, false, false, false, false, false, false, false, false] rfl rfl (any_of HT_.out (by kernel_rfl)) (fun _ _ _ h => h) (Or.inl ⟨by rfl, ?_⟩) ?_ ?_
                      rotate_left
                      ·intro w'
                       go_simp
                       with_reducible rfl
                      rotate_left
                      ·simp only [Act.put, List.setIfInBounds_toArray, List.set_cons_zero, List.set_cons_succ, i64_w, i32_w]
                       rfl
                      refine pure_ (i := 2) (N := some 76) (v := ?_) (a' := ?_) #[false, true, true, false, false, false, false, false, false, false, false, false, false, false, false, false, false, false, false] rfl rfl (any_of HT_.out (by kernel_rfl)) (fun _ _ _ h => h) (Or.inl ⟨by rfl, ?_⟩) ?_ ?_
                      rotate_left
                      ·intro w'
                       go_simp
                       with_reducible rfl
                      rotate_left
                      ·simp only [Act.put, List.setIfInBounds_toArray, List.set_cons_zero, List.set_cons_succ, i64_w, i32_w]
                       rfl
                      refine pure_ (i := 3) (N := some 77) (v := ?_) (a' := ?_) #[false, true, true, true, false, false, false, false, false, false, false, false, false, false, false, false, false, false, false] rfl rfl (any_of HT_.out (by kernel_rfl)) (fun _ _ _ h => h) (Or.inl ⟨by rfl, ?_⟩) ?_ ?_
                      rotate_left
                      ·intro w'
                       go_simp
                       with_reducible rfl
                      rotate_left
                      ·simp only [Act.put, List.setIfInBounds_toArray, List.set_cons_zero, List.set_cons_succ, i64_w, i32_w]
                       rfl
                      refine pure_ (i := 6) (N := some 80) (v := ?_) (a' := ?_) #[false, true, true, true, false, false, true, false, false, false, false, false, false, false, false, false, false, false, false] rfl rfl (any_of HT_.out (by kernel_rfl)) (fun _ _ _ h => h) (Or.inl ⟨by rfl, ?_⟩) ?_ ?_
                      rotate_left
                      ·intro w'
                       go_simp
                       with_reducible rfl
                      rotate_left
                      ·simp only [Act.put, List.setIfInBounds_toArray, List.set_cons_zero, List.set_cons_succ, i64_w, i32_w]
                       rfl
                      refine pure_ (i := 7) (N := some 81) (v := ?_) (a' := ?_) #[false, true, true, true, false, false, true, true, false, false, false, false, false, false, false, false, false, false, false] rfl rfl (any_of HT_.out (by kernel_rfl)) (fun _ _ _ h => h) (Or.inl ⟨by rfl, ?_⟩) ?_ ?_
                      rotate_left
                      ·intro w'
                       go_simp
                       with_reducible rfl
                      rotate_left
                      ·simp only [Act.put, List.setIfInBounds_toArray, List.set_cons_zero, List.set_cons_succ, i64_w, i32_w]
                       rfl
                      refine pure_ (i := 8) (N := some 82) (v := ?_) (a' := ?_) #[false, true, true, true, false, false, true, true, true, false, false, false, false, false, false, false, false, false, false] rfl rfl (any_of HT_.out (by kernel_rfl)) (fun _ _ _ h => h) (Or.inl ⟨by rfl, ?_⟩) ?_ ?_
                      rotate_left
                      ·intro w'
                       go_simp
                       with_reducible rfl
                      rotate_left
                      ·simp only [Act.put, List.setIfInBounds_toArray, List.set_cons_zero, List.set_cons_succ, i64_w, i32_w]
                       rfl
                      refine pure_ (i := 9) (N := some 83) (v := ?_) (a' := ?_) #[false, true, true, true, false, false, true, true, true, true, false, false, false, false, false, false, false, false, false] rfl rfl (any_of HT_.out (by kernel_rfl)) (fun _ _ _ h => h) (Or.inl ⟨by rfl, ?_⟩) ?_ ?_
                      rotate_left
                      ·intro w'
                       go_simp
                       with_reducible rfl
                      rotate_left
                      ·simp only [Act.put, List.setIfInBounds_toArray, List.set_cons_zero, List.set_cons_succ, i64_w, i32_w]
                       rfl
                      refine pure_ (i := 12) (N := some 86) (v := ?_) (a' := ?_) #[false, true, true, true, false, false, true, true, true, true, false, false, true, false, false, false, false, false, false] rfl rfl (any_of HT_.out (by kernel_rfl)) (fun _ _ _ h => h) (Or.inl ⟨by rfl, ?_⟩) ?_ ?_
                      rotate_left
                      ·intro w'
                       go_simp
                       with_reducible rfl
                      rotate_left
                      ·simp only [Act.put, List.setIfInBounds_toArray, List.set_cons_zero, List.set_cons_succ, i64_w, i32_w]
                       rfl
                      refine take_ (i := 4) (N := some 78) (v := ?_) (a' := ?_) #[false, true, true, true, true, false, true, true, true, true, false, false, true, false, false, false, false, false, false] rfl rfl (take_ofW HT_.out HW_.out (by kernel_rfl)) (fun _ _ _ h => h) (Or.inl ⟨by rfl, ?_⟩) hHeld ?_ ?_
                      rotate_left
                      ·rintro w' ⟨s0, s1⟩
                       go_simp
                       with_reducible rfl
                      rotate_left
                      ·simp only [Act.put, List.setIfInBounds_toArray, List.set_cons_zero, List.set_cons_succ, i64_w, i32_w]
                       rfl
                      refine take_ (i := 10) (N := some 84) (v := ?_) (a' := ?_) #[false, true, true, true, true, false, true, true, true, true, true, false, true, false, false, false, false, false, false] rfl rfl (take_ofW HT_.out HW_.out (by kernel_rfl)) (fun _ _ _ h => h) (Or.inl ⟨by rfl, ?_⟩) hHeld ?_ ?_
                      rotate_left
                      ·rintro w' ⟨s0, s1⟩
                       go_simp
                       with_reducible rfl
                      rotate_left
                      ·simp only [Act.put, List.setIfInBounds_toArray, List.set_cons_zero, List.set_cons_succ, i64_w, i32_w]
                       rfl
                      refine one_ (i := 0) (N := some 74) #[true, true, true, true, true, false, true, true, true, true, true, false, true, false, false, false, false, false, false] rfl rfl (one_of HT_.out (by kernel_rfl)) (by decide) (fun K hK => ?_)
                      refine Kd.R_lit_step k52 _ 52 ?hg (N := 74) ?hd (xs := ([] : List (S52))) (inner := []) (ok := fun _ => True) (okp := fun _ => True) ?hr ?hp (fun _ hk => hk) trivial (Below.refl _ _) (Nat.le_refl _) (by simp) ?_; (case hd => rfl); (case hg => rfl); (case hr => first | (go_simp; done) | (go_simp; rfl)); (case hp => exact (Reps.none _ _))
                      intro v415 w69 ho70 hb hg_ hnew_
                      have HS0_ := (hb.cell (World.block_lt_of_cell? _ _ (hHeld.1))).trans (hHeld.1)
                      have HS1_ := (hb.cell (World.block_lt_of_cell? _ _ (hHeld.2))).trans (hHeld.2)
                      clear hg_ hnew_
                      (first | rw [← Ny414.out] at ho70 | (simp only [Int.reduceToNat] at ho70; rw [← Ny414.out] at ho70))
                      have n0_ := Aside0.mk (Kd.R_elder' (by (with_reducible repeat (first | apply Kd.R_alloc | apply Kd.R_drewN | apply Kd.R_drew)); exact HO_7.out) (Kd.R_base ho70) hb)
                      have n1_ := Aside0.mk (Kd.R_elder' (by (with_reducible repeat (first | apply Kd.R_alloc | apply Kd.R_drewN | apply Kd.R_drew)); exact HL417_0.out) (Kd.R_base ho70) hb)
                      have n2_ := Aside0.mk (Kd.R_elder' (by (with_reducible repeat (first | apply Kd.R_alloc | apply Kd.R_drewN | apply Kd.R_drew)); exact HL421_0.out) (Kd.R_base ho70) hb)
                      have n3_ := Aside0.mk (Kd.R_lower (Kd.R_new' (Kd.R_new' ho70 (Kd.R_lt (by (with_reducible repeat (first | apply Kd.R_alloc | apply Kd.R_drewN | apply Kd.R_drew)); exact HL417_0.out))) (Kd.R_lt (by (with_reducible repeat (first | apply Kd.R_alloc | apply Kd.R_drewN | apply Kd.R_drew)); exact HL421_0.out))) (keep_size (w := w) (g := g) (row := none) (by repeat (first | (with_reducible first | exact HK.out | apply KeepBut.set_ | apply keep_drewN | apply keep_drew | apply keep_alloc) | exact HK.out))))
                      have n4_ := Aside0.mk (IsS115.below (by repeat (first | (with_reducible first | exact HI0.out | apply IsS115.alloc | apply IsS115.drewN | apply IsS115.drew | apply IsS115.set_1) | exact HI0.out)) hb)
                      have n5_ := Aside0.mk (Kd.C_below (by repeat (first | (with_reducible exact HR417_0.out) | (with_reducible refine Kd.C_alloc ?_ _) | (with_reducible refine Kd.C_drewN ?_ _) | (with_reducible refine Kd.C_drew ?_) | exact HR417_0.out)) hb)
                      have n6_ := Aside0.mk (Kd.C_below (by repeat (first | (with_reducible exact HR421_0.out) | (with_reducible refine Kd.C_alloc ?_ _) | (with_reducible refine Kd.C_drewN ?_ _) | (with_reducible refine Kd.C_drew ?_) | exact HR421_0.out)) hb)
                      have n7_ := Aside0.mk (KeepBut.trans (by repeat (first | (with_reducible first | exact HK.out | apply KeepBut.set_ | apply keep_drewN | apply keep_drew | apply keep_alloc) | exact HK.out)) (KeepBut.of_below hb g none) (.inl rfl))
                      have n8_ := Aside0.mk (below_step (by repeat (first | (with_reducible first | exact HB.out | apply below_alloc | apply pw_below_drewN | apply below_drew1 | refine below_set ?_ (IsS115.ge HI0.out)) | exact HB.out)) hb)
                      clear HO_7
                      clear HL417_0
                      clear HL421_0
                      clear HI0
                      clear HR417_0
                      clear HR421_0
                      clear HK
                      clear HB
                      have HO_7 := n0_
                      have HL417_0 := n1_
                      have HL421_0 := n2_
                      have HO416 := n3_
                      have HI0 := n4_
                      have HR417_0 := n5_
                      have HR421_0 := n6_
                      have HK := n7_
                      have HB := n8_
                      clear n0_ n1_ n2_ n3_ n4_ n5_ n6_ n7_ n8_
                      clear hb ho70
                      refine hK.out _ _ ⟨HS0_, HS1_⟩ (fun hHeld => ?_)
                      clear hK K
                      refine norm_ (a' := ?_) ?_ ?_
                      rotate_left
                      ·show Act.put _ (some 74) _ = _
                       simp only [Act.put, List.setIfInBounds_toArray, List.set_cons_zero, List.set_cons_succ, i64_w, i32_w]
                       rfl
                      refine one_ (i := 5) (N := some 79) #[true, true, true, true, true, true, true, true, true, true, true, false, true, false, false, false, false, false, false] rfl rfl (one_of HT_.out (by kernel_rfl)) (by decide) (fun K hK => ?_)
                      refine Kd.R_append_rows_step k52 w.heap.size (by rfl) (.tmp 74) (.tmp 78) 34 52 (.agg #[(.int .i64 0), (.int .i64 0)]) 16 rfl Try.underlying34 info52 rfl (by decide) (by omega) v415 y414 (rd_L5 x7_2 t399) _ _ _ (fun k_ => some k_ ≠ (.slice A417_0 (rd_L5 x7_2 t399).length c417_0 : Value).ownBlock ∧ some k_ ≠ (.slice A421_0 (rd_L5 x7_2 (ji51)).length c421_0 : Value).ownBlock) (fun _ => False) rfl rfl ?aO ?aR (fun _ _ h => h) (fun _ h => h.elim) ?aF (Below.refl _ _) ?aS ?aL ?_
                      (case aR => repeat (first | exact (by repeat (first | (with_reducible exact HR417_0.out) | (with_reducible refine Kd.C_alloc ?_ _) | (with_reducible refine Kd.C_drewN ?_ _) | (with_reducible refine Kd.C_drew ?_) | exact HR417_0.out)) | (with_reducible refine Kd.C_alloc ?_ _) | (with_reducible refine Kd.C_drewN ?_ _) | (with_reducible refine Kd.C_drew ?_)))
                      (case aF => exact (fun k_ hk => ⟨Kd.fresh' (Kd.R_lt (by (with_reducible repeat (first | apply Kd.R_alloc | apply Kd.R_drewN | apply Kd.R_drew)); exact HL417_0.out)) k_ hk, Kd.fresh' (Kd.R_lt (by (with_reducible repeat (first | apply Kd.R_alloc | apply Kd.R_drewN | apply Kd.R_drew)); exact HL421_0.out)) k_ hk⟩))
                      (case aO => exact (by (with_reducible repeat (first | apply Kd.R_alloc | apply Kd.R_drewN | apply Kd.R_drew)); exact Kd.R_mono HO416.out (fun _ hk => ⟨hk.1.2, hk.2⟩)))
                      (case aS => exact (keep_size (w := w) (g := g) (row := none) (by repeat (first | (with_reducible first | exact HK.out | apply KeepBut.set_ | apply keep_drewN | apply keep_drew | apply keep_alloc) | exact HK.out))))
                      (case aL => have := LMc50.out; omega)
                      intro v419 w71 ho hb hg hat
                      have HS0_ := cell_grown hg (hHeld.1) (by first | (rw [add_block]; exact row_ne HO_7.out HO416.out (by decide) _ rfl) | (show some (Addr.add _ _).block ≠ _; rw [add_block]; exact row_ne HO_7.out HO416.out (by decide) _ rfl) | exact row_ne HO_7.out HO416.out (by decide) _ rfl)
                      have HS1_ := cell_grown hg (hHeld.2) (by first | (rw [add_block]; exact row_ne HO_7.out HO416.out (by decide) _ rfl) | (show some (Addr.add _ _).block ≠ _; rw [add_block]; exact row_ne HO_7.out HO416.out (by decide) _ rfl) | exact row_ne HO_7.out HO416.out (by decide) _ rfl)
                      rw [← Ny418.out] at ho
                      have n0_ := Aside0.mk (Kd.R_after (ok := (fun _ => True)) (by (with_reducible repeat (first | apply Kd.R_alloc | apply Kd.R_drewN | apply Kd.R_drew)); exact HO_7.out) hg hat)
                      have n1_ := Aside0.mk (IsS115.grown (by repeat (first | (with_reducible first | exact HI0.out | apply IsS115.alloc | apply IsS115.drewN | apply IsS115.drew | apply IsS115.set_1) | exact HI0.out)) hg (IsS115.own_ne HI0.out HO416.out (by decide)))
                      have n2_ := Aside0.mk (Kd.R_after (ok := (fun k_ => some k_ ≠ (.slice (some ad417) x7_2.length co65 : Value).ownBlock)) (by (with_reducible repeat (first | apply Kd.R_alloc | apply Kd.R_drewN | apply Kd.R_drew)); exact Kd.R_mono HL417_0.out (fun _ hk => ⟨hk.1.2, hk.2⟩)) hg hat)
                      have n3_ := Aside0.mk (Kd.R_after (ok := (fun k_ => some k_ ≠ (.slice (some ad417) x7_2.length co65 : Value).ownBlock)) (by (with_reducible repeat (first | apply Kd.R_alloc | apply Kd.R_drewN | apply Kd.R_drew)); exact Kd.R_mono HL421_0.out (fun _ hk => ⟨hk.1.2, hk.2⟩)) hg hat)
                      have n4_ := Aside0.mk (below_weaken (by repeat (first | (with_reducible first | exact HB.out | apply below_alloc | apply pw_below_drewN | apply below_drew1 | refine below_set ?_ (IsS115.ge HI0.out)) | exact HB.out)) HL.out hb)
                      have n5_ := Aside0.mk (KeepBut.trans (by repeat (first | (with_reducible first | exact HK.out | apply KeepBut.set_ | apply keep_drewN | apply keep_drew | apply keep_alloc) | exact HK.out)) (KeepBut.of_grown hg g) (Kd.R_base2 HO416.out))
                      have n6_ := Aside0.mk (ho)
                      clear HO_7
                      clear HI0
                      clear HL417_0
                      clear HL421_0
                      clear HB
                      clear HK
                      clear HO416
                      have HO_7 := n0_
                      have HI0 := n1_
                      have HL417_0 := n2_
                      have HL421_0 := n3_
                      have HB := n4_
                      have HK := n5_
                      have HO420 := n6_
                      clear n0_ n1_ n2_ n3_ n4_ n5_ n6_
                      clear ho hb hg hat
                      refine hK.out _ _ ⟨HS0_, HS1_⟩ (fun hHeld => ?_)
                      clear hK K
                      refine norm_ (a' := ?_) ?_ ?_
                      rotate_left
                      ·show Act.put _ (some 79) _ = _
                       simp only [Act.put, List.setIfInBounds_toArray, List.set_cons_zero, List.set_cons_succ, i64_w, i32_w]
                       rfl
                      refine one_ (i := 11) (N := some 85) #[true, true, true, true, true, true, true, true, true, true, true, true, true, false, false, false, false, false, false] rfl rfl (one_of HT_.out (by kernel_rfl)) (by decide) (fun K hK => ?_)
                      refine Kd.R_append_rows_step k52 w.heap.size (by rfl) (.tmp 79) (.tmp 84) 34 52 (.agg #[(.int .i64 0), (.int .i64 0)]) 16 rfl Try.underlying34 info52 rfl (by decide) (by omega) v419 y418 (rd_L5 x7_2 (ji51)) _ _ _ (fun k_ => some k_ ≠ (.slice A417_0 (rd_L5 x7_2 t399).length c417_0 : Value).ownBlock ∧ some k_ ≠ (.slice A421_0 (rd_L5 x7_2 (ji51)).length c421_0 : Value).ownBlock) (fun _ => False) rfl rfl ?aO ?aR (fun _ _ h => h) (fun _ h => h.elim) ?aF (Below.refl _ _) ?aS ?aL ?_
                      (case aR => repeat (first | exact ((Kd.R_reads' (by (with_reducible repeat (first | apply Kd.R_alloc | apply Kd.R_drewN | apply Kd.R_drew)); exact HL421_0.out)).2.2) | (with_reducible refine Kd.C_alloc ?_ _) | (with_reducible refine Kd.C_drewN ?_ _) | (with_reducible refine Kd.C_drew ?_)))
                      (case aF => exact (fun k_ hk => ⟨Kd.fresh' (Kd.R_lt (by (with_reducible repeat (first | apply Kd.R_alloc | apply Kd.R_drewN | apply Kd.R_drew)); exact HL417_0.out)) k_ hk, Kd.fresh' (Kd.R_lt (by (with_reducible repeat (first | apply Kd.R_alloc | apply Kd.R_drewN | apply Kd.R_drew)); exact HL421_0.out)) k_ hk⟩))
                      (case aO => exact (by (with_reducible repeat (first | apply Kd.R_alloc | apply Kd.R_drewN | apply Kd.R_drew)); exact HO420.out))
                      (case aS => exact (keep_size (w := w) (g := g) (row := none) (by repeat (first | (with_reducible first | exact HK.out | apply KeepBut.set_ | apply keep_drewN | apply keep_drew | apply keep_alloc) | exact HK.out))))
                      (case aL => have := LMc54.out; omega)
                      intro v423 w72 ho hb hg hat
                      have HS0_ := cell_grown hg (hHeld.1) (by first | (rw [add_block]; exact row_ne HO_7.out HO420.out (by decide) _ rfl) | (show some (Addr.add _ _).block ≠ _; rw [add_block]; exact row_ne HO_7.out HO420.out (by decide) _ rfl) | exact row_ne HO_7.out HO420.out (by decide) _ rfl)
                      have HS1_ := cell_grown hg (hHeld.2) (by first | (rw [add_block]; exact row_ne HO_7.out HO420.out (by decide) _ rfl) | (show some (Addr.add _ _).block ≠ _; rw [add_block]; exact row_ne HO_7.out HO420.out (by decide) _ rfl) | exact row_ne HO_7.out HO420.out (by decide) _ rfl)
                      rw [← Ny422.out] at ho
                      have n0_ := Aside0.mk (Kd.R_after (ok := (fun _ => True)) (by (with_reducible repeat (first | apply Kd.R_alloc | apply Kd.R_drewN | apply Kd.R_drew)); exact HO_7.out) hg hat)
                      have n1_ := Aside0.mk (IsS115.grown (by repeat (first | (with_reducible first | exact HI0.out | apply IsS115.alloc | apply IsS115.drewN | apply IsS115.drew | apply IsS115.set_1) | exact HI0.out)) hg (IsS115.own_ne HI0.out HO420.out (by decide)))
                      have n2_ := Aside0.mk (Kd.R_after (ok := (fun k_ => some k_ ≠ (.slice (some ad417) x7_2.length co65 : Value).ownBlock)) (by (with_reducible repeat (first | apply Kd.R_alloc | apply Kd.R_drewN | apply Kd.R_drew)); exact HL417_0.out) hg hat)
                      have n3_ := Aside0.mk (Kd.R_after (ok := (fun k_ => some k_ ≠ (.slice (some ad417) x7_2.length co65 : Value).ownBlock)) (by (with_reducible repeat (first | apply Kd.R_alloc | apply Kd.R_drewN | apply Kd.R_drew)); exact HL421_0.out) hg hat)
                      have n4_ := Aside0.mk (below_weaken (by repeat (first | (with_reducible first | exact HB.out | apply below_alloc | apply pw_below_drewN | apply below_drew1 | refine below_set ?_ (IsS115.ge HI0.out)) | exact HB.out)) HL.out hb)
                      have n5_ := Aside0.mk (KeepBut.trans (by repeat (first | (with_reducible first | exact HK.out | apply KeepBut.set_ | apply keep_drewN | apply keep_drew | apply keep_alloc) | exact HK.out)) (KeepBut.of_grown hg g) (Kd.R_base2 HO420.out))
                      have n6_ := Aside0.mk (ho)
                      clear HO_7
                      clear HI0
                      clear HL417_0
                      clear HL421_0
                      clear HB
                      clear HK
                      clear HO420
                      have HO_7 := n0_
                      have HI0 := n1_
                      have HL417_0 := n2_
                      have HL421_0 := n3_
                      have HB := n4_
                      have HK := n5_
                      have HO424 := n6_
                      clear n0_ n1_ n2_ n3_ n4_ n5_ n6_
                      clear ho hb hg hat
                      refine hK.out _ _ ⟨HS0_, HS1_⟩ (fun hHeld => ?_)
                      clear hK K
                      refine norm_ (a' := ?_) ?_ ?_
                      rotate_left
                      ·show Act.put _ (some 85) _ = _
                       simp only [Act.put, List.setIfInBounds_toArray, List.set_cons_zero, List.set_cons_succ, i64_w, i32_w]
                       rfl
                      refine one_ (i := 13) (N := some 87) #[true, true, true, true, true, true, true, true, true, true, true, true, true, true, false, false, false, false, false] rfl rfl (one_of HT_.out (by kernel_rfl)) (by decide) (fun K hK => ?_)
                      refine goes_ Try.func116 (by kernel_rfl) rfl #[.pointer (some ⟨g, 0, none⟩), .int .i64 3] (by rfl) rfl rfl (by (try simp only [List.map_toArray, List.map_cons, List.map_nil]); first | done | rfl | (simp only [List.length_drop, List.length_take]; rfl)) ?_
                      with_reducible refine (spec_l20Rd_pick.calls k2 g s0_0 t402 3 t425 t426 w0 _ ?side1 ?side2 A55.out).mono ?_
                      (case side1 => repeat (first | (with_reducible first | exact HI0.out | apply IsS115.alloc | apply IsS115.drewN | apply IsS115.drew | apply IsS115.set_1) | exact HI0.out))
                      (case side2 => repeat (first | (with_reducible first | exact HB.out | apply below_alloc | apply pw_below_drewN | apply below_drew1 | refine below_set ?_ (IsS115.ge HI0.out)) | exact HB.out))
                      rintro e w73 ⟨rfl, hi, hb, hk⟩
                      have HS0_ := keep_cell hk (hHeld.1) (by first | (rw [add_block]; exact Kd.own_blk (IsS115.own_ne HI0.out HO_7.out (by decide))) | (show (Addr.add _ _).block ≠ _; rw [add_block]; exact Kd.own_blk (IsS115.own_ne HI0.out HO_7.out (by decide))) | exact Kd.own_blk (IsS115.own_ne HI0.out HO_7.out (by decide)))
                      have HS1_ := keep_cell hk (hHeld.2) (by first | (rw [add_block]; exact Kd.own_blk (IsS115.own_ne HI0.out HO_7.out (by decide))) | (show (Addr.add _ _).block ≠ _; rw [add_block]; exact Kd.own_blk (IsS115.own_ne HI0.out HO_7.out (by decide))) | exact Kd.own_blk (IsS115.own_ne HI0.out HO_7.out (by decide)))
                      refine ⟨_, rfl, ?_⟩
                      have n0_ := Aside0.mk (Kd.R_mono (Kd.R_keep (IsS115.apart (show IsS115 w0 _ g s0_0 t402 from by repeat (first | (with_reducible first | exact HI0.out | apply IsS115.alloc | apply IsS115.drewN | apply IsS115.drew | apply IsS115.set_1) | exact HI0.out)) (by (with_reducible repeat (first | apply Kd.R_alloc | apply Kd.R_drewN | apply Kd.R_drew)); exact HO_7.out) (by decide)) hk (fun _ h => h.2)) (fun _ h => h.1))
                      have n1_ := Aside0.mk (Kd.R_mono (Kd.R_keep (IsS115.apart (show IsS115 w0 _ g s0_0 t402 from by repeat (first | (with_reducible first | exact HI0.out | apply IsS115.alloc | apply IsS115.drewN | apply IsS115.drew | apply IsS115.set_1) | exact HI0.out)) (by (with_reducible repeat (first | apply Kd.R_alloc | apply Kd.R_drewN | apply Kd.R_drew)); exact HL417_0.out) (by decide)) hk (fun _ h => h.2)) (fun _ h => h.1))
                      have n2_ := Aside0.mk (Kd.R_mono (Kd.R_keep (IsS115.apart (show IsS115 w0 _ g s0_0 t402 from by repeat (first | (with_reducible first | exact HI0.out | apply IsS115.alloc | apply IsS115.drewN | apply IsS115.drew | apply IsS115.set_1) | exact HI0.out)) (by (with_reducible repeat (first | apply Kd.R_alloc | apply Kd.R_drewN | apply Kd.R_drew)); exact HL421_0.out) (by decide)) hk (fun _ h => h.2)) (fun _ h => h.1))
                      have n3_ := Aside0.mk (Kd.R_mono (Kd.R_keep (IsS115.apart (show IsS115 w0 _ g s0_0 t402 from by repeat (first | (with_reducible first | exact HI0.out | apply IsS115.alloc | apply IsS115.drewN | apply IsS115.drew | apply IsS115.set_1) | exact HI0.out)) (by (with_reducible repeat (first | apply Kd.R_alloc | apply Kd.R_drewN | apply Kd.R_drew)); exact HO424.out) (by decide)) hk (fun _ h => h.2)) (fun _ h => h.1))
                      have n4_ := Aside0.mk (KeepBut.trans (by repeat (first | (with_reducible first | exact HK.out | apply KeepBut.set_ | apply keep_drewN | apply keep_drew | apply keep_alloc) | exact HK.out)) hk (.inl rfl))
                      have n5_ := Aside0.mk (hb)
                      have n6_ := Aside0.mk (hi)
                      clear HO_7
                      clear HL417_0
                      clear HL421_0
                      clear HO424
                      clear HK
                      clear HB
                      clear HI0
                      have HO_7 := n0_
                      have HL417_0 := n1_
                      have HL421_0 := n2_
                      have HO424 := n3_
                      have HK := n4_
                      have HB := n5_
                      have HI0 := n6_
                      clear n0_ n1_ n2_ n3_ n4_ n5_ n6_
                      (try clear hb)
                      (try clear hb2)
                      (try clear hk)
                      (try clear hi)
                      refine hK.out _ _ ⟨HS0_, HS1_⟩ (fun hHeld => ?_)
                      clear hK K
                      refine norm_ (a' := ?_) ?_ ?_
                      rotate_left
                      ·show Act.put _ (some 87) _ = _
                       simp only [Act.put, List.setIfInBounds_toArray, List.set_cons_zero, List.set_cons_succ, i64_w, i32_w]
                       rfl
                      refine pure_ (i := 14) (N := some 88) (v := ?_) (a' := ?_) #[true, true, true, true, true, true, true, true, true, true, true, true, true, true, true, false, false, false, false] rfl rfl (any_of HT_.out (by kernel_rfl)) (fun _ _ _ h => h) (Or.inl ⟨by rfl, ?_⟩) ?_ ?_
                      rotate_left
                      ·intro w'
                       go_simp
                       with_reducible rfl
                      rotate_left
                      ·simp only [Act.put, List.setIfInBounds_toArray, List.set_cons_zero, List.set_cons_succ, i64_w, i32_w]
                       rfl
                      refine pure_ (i := 15) (N := some 89) (v := ?_) (a' := ?_) #[true, true, true, true, true, true, true, true, true, true, true, true, true, true, true, true, false, false, false] rfl rfl (any_of HT_.out (by kernel_rfl)) (fun _ _ _ h => h) (Or.inl ⟨by rfl, ?_⟩) ?_ ?_
                      rotate_left
                      ·intro w'
                       go_simp
                       with_reducible rfl
                      rotate_left
                      ·simp only [Act.put, List.setIfInBounds_toArray, List.set_cons_zero, List.set_cons_succ, i64_w, i32_w]
                       rfl
                      refine last_ (i := 16) (N := some 90) #[true, true, true, true, true, true, true, true, true, true, true, true, true, true, true, true, true, false, false] rfl rfl (one_of HT_.out (by kernel_rfl)) (by decide) (fun K hK => ?_)
                      refine value_ (w1 := ?_) (v := ?_) (by rfl) rfl ?_ ?_
                      rotate_left 2
                      ·go_simp
                       constructor
                       ·rfl
                       ·rfl
                      refine hK.out _ _ ?_
                      clear hK K
                      refine norm_ (a' := ?_) ?_ ?_
                      rotate_left
                      ·show Act.put _ (some 90) _ = _
                       simp only [Act.put, List.setIfInBounds_toArray, List.set_cons_zero, List.set_cons_succ, i64_w, i32_w]
                       rfl
                      refine last_ (i := 17) (N := some 91) #[true, true, true, true, true, true, true, true, true, true, true, true, true, true, true, true, true, true, false] rfl rfl (one_of HT_.out (by kernel_rfl)) (by decide) (fun K hK => ?_)
                      refine Kd.R_append_step k52 w.heap.size (by rfl) (.tmp 85) (.tmp 90) 34 52 (.agg #[(.int .i64 0), (.int .i64 0)]) 16 rfl Try.underlying34 info52 rfl (by decide) (by omega) v423 y422 (⟨wrap64 (3 + t425), 0⟩ : S52) [.int .i64 (wrap64 (3 + t425)), .int .i64 0] (fun k_ => some k_ ≠ (.slice A417_0 (rd_L5 x7_2 t399).length c417_0 : Value).ownBlock ∧ some k_ ≠ (.slice A421_0 (rd_L5 x7_2 (ji51)).length c421_0 : Value).ownBlock) (fun _ => False) rfl rfl ?aP (fun _ hk => hk.elim) ?aF ?aO (Below.refl _ _) ?aS ?aL ?_
                      (case aP => exact k52_mkM _ _ _ (⟨wrap64 (3 + t425), 0⟩ : S52))
                      (case aF => exact (fun k_ hk => ⟨Kd.fresh' (Kd.R_lt (by (with_reducible repeat (first | apply Kd.R_alloc | apply Kd.R_drewN | apply Kd.R_drew)); exact HL417_0.out)) k_ hk, Kd.fresh' (Kd.R_lt (by (with_reducible repeat (first | apply Kd.R_alloc | apply Kd.R_drewN | apply Kd.R_drew)); exact HL421_0.out)) k_ hk⟩))
                      (case aO => exact (by (with_reducible repeat (first | apply Kd.R_alloc | apply Kd.R_drewN | apply Kd.R_drew)); exact HO424.out))
                      (case aS => exact (keep_size (w := w) (g := g) (row := none) (by repeat (first | (with_reducible first | exact HK.out | apply KeepBut.set_ | apply keep_drewN | apply keep_drew | apply keep_alloc) | exact HK.out))))
                      (case aL => have := LMc56.out; omega)
                      intro v428 w74 ho hb hg hat
                      rw [← Ny427.out] at ho
                      have n0_ := Aside0.mk (Kd.R_after (ok := (fun _ => True)) (by (with_reducible repeat (first | apply Kd.R_alloc | apply Kd.R_drewN | apply Kd.R_drew)); exact HO_7.out) hg hat)
                      have n1_ := Aside0.mk (IsS115.grown (by repeat (first | (with_reducible first | exact HI0.out | apply IsS115.alloc | apply IsS115.drewN | apply IsS115.drew | apply IsS115.set_1) | exact HI0.out)) hg (IsS115.own_ne HI0.out HO424.out (by decide)))
                      have n2_ := Aside0.mk (Kd.R_after (ok := (fun k_ => some k_ ≠ (.slice (some ad417) x7_2.length co65 : Value).ownBlock)) (by (with_reducible repeat (first | apply Kd.R_alloc | apply Kd.R_drewN | apply Kd.R_drew)); exact HL417_0.out) hg hat)
                      have n3_ := Aside0.mk (Kd.R_after (ok := (fun k_ => some k_ ≠ (.slice (some ad417) x7_2.length co65 : Value).ownBlock)) (by (with_reducible repeat (first | apply Kd.R_alloc | apply Kd.R_drewN | apply Kd.R_drew)); exact HL421_0.out) hg hat)
                      have n4_ := Aside0.mk (below_weaken (by repeat (first | (with_reducible first | exact HB.out | apply below_alloc | apply pw_below_drewN | apply below_drew1 | refine below_set ?_ (IsS115.ge HI0.out)) | exact HB.out)) HL.out hb)
                      have n5_ := Aside0.mk (KeepBut.trans (by repeat (first | (with_reducible first | exact HK.out | apply KeepBut.set_ | apply keep_drewN | apply keep_drew | apply keep_alloc) | exact HK.out)) (KeepBut.of_grown hg g) (Kd.R_base2 HO424.out))
                      have n6_ := Aside0.mk (ho)
                      clear HO_7
                      clear HI0
                      clear HL417_0
                      clear HL421_0
                      clear HB
                      clear HK
                      clear HO424
                      have HO_7 := n0_
                      have HI0 := n1_
                      have HL417_0 := n2_
                      have HL421_0 := n3_
                      have HB := n4_
                      have HK := n5_
                      have HO429 := n6_
                      clear n0_ n1_ n2_ n3_ n4_ n5_ n6_
                      clear ho hb hg hat
                      refine hK.out _ _ ?_
                      clear hK K
                      refine norm_ (a' := ?_) ?_ ?_
                      rotate_left
                      ·show Act.put _ (some 91) _ = _
                       simp only [Act.put, List.setIfInBounds_toArray, List.set_cons_zero, List.set_cons_succ, i64_w, i32_w]
                       rfl
                      refine pure_ (i := 18) (N := some 11) (v := ?_) (a' := ?_) #[true, true, true, true, true, true, true, true, true, true, true, true, true, true, true, true, true, true, true] rfl rfl (any_of HT_.out (by kernel_rfl)) (fun _ _ _ h => h) (Or.inl ⟨by rfl, ?_⟩) ?_ ?_
                      rotate_left
                      ·intro w'
                       go_simp
                       with_reducible rfl
                      rotate_left
                      ·simp only [Act.put, List.setIfInBounds_toArray, List.set_cons_zero, List.set_cons_succ, i64_w, i32_w]
                       rfl
                      refine done_ (done_of HT_.out (by kernel_rfl)) ?_
                      try go_wp2_with (first | ((with_reducible refine gate_dst (N := 92) rfl ?_); refine Kd.R_lit (Kd.slice 52 k52) _ 34 ?hg (N := 92) ?hd (xs := ([] : List (List (S52)))) (inner := []) (ok := fun _ => True) (okp := fun _ => True) ?hr ?hp (fun _ hk => hk) trivial (Below.refl _ _) (Nat.le_refl _) (by simp) ?_; (case hd => rfl); (case hg => rfl); (case hr => first | (go_simp; done) | (go_simp; rfl)); (case hp => exact (Reps.none _ _)); intro v431 w75 ho76 hb hg_ hnew_; clear hg_ hnew_; (first | rw [← Ny430.out] at ho76 | (simp only [Int.reduceToNat] at ho76; rw [← Ny430.out] at ho76)); have n0_ := Aside0.mk (Kd.R_elder' (by (with_reducible repeat (first | apply Kd.R_alloc | apply Kd.R_drewN | apply Kd.R_drew)); exact HO_7.out) (Kd.R_base ho76) hb); have n1_ := Aside0.mk (Kd.R_below (by (with_reducible repeat (first | apply Kd.R_alloc | apply Kd.R_drewN | apply Kd.R_drew)); exact HL417_0.out) hb); have n2_ := Aside0.mk (Kd.R_below (by (with_reducible repeat (first | apply Kd.R_alloc | apply Kd.R_drewN | apply Kd.R_drew)); exact HL421_0.out) hb); have n3_ := Aside0.mk (Kd.R_below (by (with_reducible repeat (first | apply Kd.R_alloc | apply Kd.R_drewN | apply Kd.R_drew)); exact HO429.out) hb); have n4_ := Aside0.mk (Kd.R_lower (Kd.R_new' (Kd.R_new' (Kd.R_new' (Kd.R_new' ho76 (Kd.R_lt (by (with_reducible repeat (first | apply Kd.R_alloc | apply Kd.R_drewN | apply Kd.R_drew)); exact HO_7.out))) (Kd.R_lt (by (with_reducible repeat (first | apply Kd.R_alloc | apply Kd.R_drewN | apply Kd.R_drew)); exact HL417_0.out))) (Kd.R_lt (by (with_reducible repeat (first | apply Kd.R_alloc | apply Kd.R_drewN | apply Kd.R_drew)); exact HL421_0.out))) (Kd.R_lt (by (with_reducible repeat (first | apply Kd.R_alloc | apply Kd.R_drewN | apply Kd.R_drew)); exact HO429.out))) (keep_size (w := w) (g := g) (row := none) (by repeat (first | (with_reducible first | exact HK.out | apply KeepBut.set_ | apply keep_drewN | apply keep_drew | apply keep_alloc) | exact HK.out)))); have n5_ := Aside0.mk (IsS115.below (by repeat (first | (with_reducible first | exact HI0.out | apply IsS115.alloc | apply IsS115.drewN | apply IsS115.drew | apply IsS115.set_1) | exact HI0.out)) hb); have n6_ := Aside0.mk (KeepBut.trans (by repeat (first | (with_reducible first | exact HK.out | apply KeepBut.set_ | apply keep_drewN | apply keep_drew | apply keep_alloc) | exact HK.out)) (KeepBut.of_below hb g none) (.inl rfl)); have n7_ := Aside0.mk (below_step (by repeat (first | (with_reducible first | exact HB.out | apply below_alloc | apply pw_below_drewN | apply below_drew1 | refine below_set ?_ (IsS115.ge HI0.out)) | exact HB.out)) hb); clear HO_7; clear HL417_0; clear HL421_0; clear HO429; clear HI0; clear HK; clear HB; have HO_7 := n0_; have HL417_0 := n1_; have HL421_0 := n2_; have HO429 := n3_; have HO432 := n4_; have HI0 := n5_; have HK := n6_; have HB := n7_; clear n0_ n1_ n2_ n3_ n4_ n5_ n6_ n7_; clear hb ho76; have q77 : (t399 : Int) ≤ ((x7_2.length : Int) : Int) := of_decide_eq_true (by first | (with_reducible assumption) | assumption); obtain ⟨i077, hi077, _, hsz77, _⟩ := info_parts info34; have hroom77 : x7_2.length ≤ co65 := (Kd.R_reads' HO_7.out).2.1; have hC77 : Kd.C (Kd.slice 52 k52) _ (some ad417) x7_2.length x7_2 := (Kd.R_reads' HO_7.out).2.2; have hcut77 := cut_to (P := Try.prog) 116 34 .i64 Try.underlying116 hi077 (some ad417) x7_2.length co65 t399 (of_decide_eq_true (by first | (with_reducible assumption) | assumption)) q77 hroom77; have hr77 := Kd.C_take (m := (t399 : Int).toNat) hC77 (by omega); have hy77 : y433.length = (t399 : Int).toNat := (by rw [Ny433.out, List.length_take]; omega); rw [← Ny433.out] at hr77; rw [← hy77] at hcut77; have HR436 := Aside0.mk hr77; have HC436 := Aside0.mk (show y433.length ≤ co65 from by omega); clear hr77 hC77 hroom77 hi077 hsz77; have KY77 := Aside0.mk hy77; clear hy77; have KL77 := Aside0.mk (show (t399 : Int).toNat ≤ x7_2.length from by omega); replace q77 := eq_true q77) | ((with_reducible refine gate_builtin (b := .append) (xs := #[.tmp 92, .tmp 95]) rfl ?_); at_builtin; refine Kd.R_append_rows (Kd.slice 52 k52) w.heap.size rfl (.tmp 92) (.tmp 95) 116 34 (.slice none 0 0) 24 rfl Try.underlying116 info34 rfl (by decide) (by omega) v431 y430 y433 _ _ _ (fun k_ => some k_ ≠ (.slice (some ad417) x7_2.length co65 : Value).ownBlock ∧ some k_ ≠ (v428 : Value).ownBlock) (fun k_ => (((fun k_ => some k_ ≠ (v428 : Value).ownBlock)) k_ ∧ some k_ ≠ (.slice (some ad417) x7_2.length co65 : Value).ownBlock) ∧ some k_ ≠ (v431 : Value).ownBlock) rfl rfl ?aO ?aR (fun _ _ h_ => h_) (fun k_ hk => ⟨⟨hk.1.2, hk.1.1⟩, hk.2⟩) ?aF (Below.refl _ _) ?aS ?aL ?_; (case aR => exact (rowsTake (R_rowsT (Kd.R_mono (ok' := (fun k_ => some k_ ≠ (v428 : Value).ownBlock)) (HO_7.out) (fun k_ hk => hk.1.2)) (Kd.R_typed (by (with_reducible repeat (first | apply Kd.R_alloc | apply Kd.R_drewN | apply Kd.R_drew)); exact HO432.out)) (by decide)) Ny433.out)); (case aF => exact (fun k_ hk => ⟨Kd.fresh' (Kd.R_lt (by (with_reducible repeat (first | apply Kd.R_alloc | apply Kd.R_drewN | apply Kd.R_drew)); exact HO_7.out)) k_ hk, Kd.fresh' (Kd.R_lt (by (with_reducible repeat (first | apply Kd.R_alloc | apply Kd.R_drewN | apply Kd.R_drew)); exact HO429.out)) k_ hk⟩)); (case aO => exact (by (with_reducible repeat (first | apply Kd.R_alloc | apply Kd.R_drewN | apply Kd.R_drew)); exact Kd.R_mono HO432.out (fun _ hk => ⟨hk.1.1.1.2, hk.2⟩))); (case aS => exact (keep_size (w := w) (g := g) (row := none) (by repeat (first | (with_reducible first | exact HK.out | apply KeepBut.set_ | apply keep_drewN | apply keep_drew | apply keep_alloc) | exact HK.out)))); (case aL => have := LMc59.out; omega); intro v438 w78 ho hb hg hat; rw [← Ny437.out] at ho; have n0_ := Aside0.mk (Kd.R_after (ok := (fun k_ => some k_ ≠ (v428 : Value).ownBlock)) (by (with_reducible repeat (first | apply Kd.R_alloc | apply Kd.R_drewN | apply Kd.R_drew)); exact Kd.R_mono HO_7.out (fun _ hk => ⟨hk.1.2, hk.2⟩)) hg hat); have n1_ := Aside0.mk (IsS115.grown (by repeat (first | (with_reducible first | exact HI0.out | apply IsS115.alloc | apply IsS115.drewN | apply IsS115.drew | apply IsS115.set_1) | exact HI0.out)) hg (IsS115.own_ne HI0.out HO432.out (by decide))); have n2_ := Aside0.mk (Kd.R_over' (by (with_reducible repeat (first | apply Kd.R_alloc | apply Kd.R_drewN | apply Kd.R_drew)); exact HL417_0.out) (Kd.R_typed (by (with_reducible repeat (first | apply Kd.R_alloc | apply Kd.R_drewN | apply Kd.R_drew)); exact HO432.out)) (by decide) hg); have n3_ := Aside0.mk (Kd.R_over' (by (with_reducible repeat (first | apply Kd.R_alloc | apply Kd.R_drewN | apply Kd.R_drew)); exact HL421_0.out) (Kd.R_typed (by (with_reducible repeat (first | apply Kd.R_alloc | apply Kd.R_drewN | apply Kd.R_drew)); exact HO432.out)) (by decide) hg); have n4_ := Aside0.mk (Kd.R_over' (by (with_reducible repeat (first | apply Kd.R_alloc | apply Kd.R_drewN | apply Kd.R_drew)); exact HO429.out) (Kd.R_typed (by (with_reducible repeat (first | apply Kd.R_alloc | apply Kd.R_drewN | apply Kd.R_drew)); exact HO432.out)) (by decide) hg); have n5_ := Aside0.mk (below_weaken (by repeat (first | (with_reducible first | exact HB.out | apply below_alloc | apply pw_below_drewN | apply below_drew1 | refine below_set ?_ (IsS115.ge HI0.out)) | exact HB.out)) HL.out hb); have n6_ := Aside0.mk (KeepBut.trans (by repeat (first | (with_reducible first | exact HK.out | apply KeepBut.set_ | apply keep_drewN | apply keep_drew | apply keep_alloc) | exact HK.out)) (KeepBut.of_grown hg g) (Kd.R_base2 HO432.out)); have n7_ := Aside0.mk ((show Kd.C (Kd.slice 52 k52) w78 (some ad417) y433.length y433 from by rw [Ny433.out]; exact Kd.C_take (m := (t399 : Int).toNat) ((Kd.R_reads' (Kd.R_after (ok := (fun k_ => some k_ ≠ (v428 : Value).ownBlock)) (by (with_reducible repeat (first | apply Kd.R_alloc | apply Kd.R_drewN | apply Kd.R_drew)); exact Kd.R_mono HO_7.out (fun _ hk => ⟨hk.1.2, hk.2⟩)) hg hat)).2.2) KL77.out)); have n8_ := Aside0.mk (ho); clear HO_7; clear HI0; clear HL417_0; clear HL421_0; clear HO429; clear HB; clear HK; clear HR436; clear HO432; have HO_7 := n0_; have HI0 := n1_; have HL417_0 := n2_; have HL421_0 := n3_; have HO429 := n4_; have HB := n5_; have HK := n6_; have HR436 := n7_; have HO439 := n8_; clear n0_ n1_ n2_ n3_ n4_ n5_ n6_ n7_ n8_; clear ho hb hg hat; obtain ⟨Ao80, co80, eo80⟩ := Kd.R_slice HO429.out; subst eo80) | ((with_reducible refine gate_builtin (b := .append) (xs := #[.tmp 97, .tmp 99]) rfl ?_); at_builtin; refine Kd.R_append (Kd.slice 52 k52) w.heap.size rfl (.tmp 97) (.tmp 99) 116 34 (.slice none 0 0) 24 rfl Try.underlying116 info34 rfl (by decide) (by omega) v438 y437 y427 [.slice Ao80 y427.length co80] (fun k_ => some k_ ≠ (.slice (some ad417) x7_2.length co65 : Value).ownBlock) (fun k_ => ((fun k_ => some k_ ≠ (.slice (some ad417) x7_2.length co65 : Value).ownBlock)) k_ ∧ some k_ ≠ (v438 : Value).ownBlock) rfl rfl ?aP (fun _ hk => hk) ?aF ?aO (Below.refl _ _) ?aS ?aL ?_; (case aP => exact Kd.M_row (Kd.R_mono (Kd.R_apart' (Kd.R_apart' (HO429.out) (Kd.R_typed HO_7.out) (by decide)) (Kd.R_typed HO439.out) (by decide)) (fun k_ hk => ⟨hk.1.2, hk.2⟩))); (case aF => exact (fun k_ hk => Kd.fresh' (Kd.R_lt (by (with_reducible repeat (first | apply Kd.R_alloc | apply Kd.R_drewN | apply Kd.R_drew)); exact HO_7.out)) k_ hk)); (case aO => exact (by (with_reducible repeat (first | apply Kd.R_alloc | apply Kd.R_drewN | apply Kd.R_drew)); exact Kd.R_mono HO439.out (fun _ hk => hk.1))); (case aS => exact (keep_size (w := w) (g := g) (row := none) (by repeat (first | (with_reducible first | exact HK.out | apply KeepBut.set_ | apply keep_drewN | apply keep_drew | apply keep_alloc) | exact HK.out)))); (case aL => have := LMc60.out; omega); intro v441 w79 ho hb hg hat; rw [← Ny440.out] at ho; have n0_ := Aside0.mk (Kd.R_after (ok := (fun k_ => some k_ ≠ (.slice Ao80 y427.length co80 : Value).ownBlock)) (by (with_reducible repeat (first | apply Kd.R_alloc | apply Kd.R_drewN | apply Kd.R_drew)); exact HO_7.out) hg hat); have n1_ := Aside0.mk (IsS115.grown (by repeat (first | (with_reducible first | exact HI0.out | apply IsS115.alloc | apply IsS115.drewN | apply IsS115.drew | apply IsS115.set_1) | exact HI0.out)) hg (IsS115.own_ne HI0.out HO439.out (by decide))); have n2_ := Aside0.mk (Kd.R_over' (by (with_reducible repeat (first | apply Kd.R_alloc | apply Kd.R_drewN | apply Kd.R_drew)); exact HL417_0.out) (Kd.R_typed (by (with_reducible repeat (first | apply Kd.R_alloc | apply Kd.R_drewN | apply Kd.R_drew)); exact HO439.out)) (by decide) hg); have n3_ := Aside0.mk (Kd.R_over' (by (with_reducible repeat (first | apply Kd.R_alloc | apply Kd.R_drewN | apply Kd.R_drew)); exact HL421_0.out) (Kd.R_typed (by (with_reducible repeat (first | apply Kd.R_alloc | apply Kd.R_drewN | apply Kd.R_drew)); exact HO439.out)) (by decide) hg); have n4_ := Aside0.mk (below_weaken (by repeat (first | (with_reducible first | exact HB.out | apply below_alloc | apply pw_below_drewN | apply below_drew1 | refine below_set ?_ (IsS115.ge HI0.out)) | exact HB.out)) HL.out hb); have n5_ := Aside0.mk (KeepBut.trans (by repeat (first | (with_reducible first | exact HK.out | apply KeepBut.set_ | apply keep_drewN | apply keep_drew | apply keep_alloc) | exact HK.out)) (KeepBut.of_grown hg g) (Kd.R_base2 HO439.out)); have n6_ := Aside0.mk ((show Kd.C (Kd.slice 52 k52) w79 (some ad417) y433.length y433 from by rw [Ny433.out]; exact Kd.C_take (m := (t399 : Int).toNat) ((Kd.R_reads' (Kd.R_after (ok := (fun k_ => some k_ ≠ (.slice Ao80 y427.length co80 : Value).ownBlock)) (by (with_reducible repeat (first | apply Kd.R_alloc | apply Kd.R_drewN | apply Kd.R_drew)); exact HO_7.out) hg hat)).2.2) KL77.out)); have n7_ := Aside0.mk (ho); clear HO_7; clear HI0; clear HL417_0; clear HL421_0; clear HB; clear HK; clear HR436; clear HO439; clear HO429; have HO_7 := n0_; have HI0 := n1_; have HL417_0 := n2_; have HL421_0 := n3_; have HB := n4_; have HK := n5_; have HR436 := n6_; have HO442 := n7_; clear n0_ n1_ n2_ n3_ n4_ n5_ n6_ n7_; clear ho hb hg hat; have q81 : ((ji61) : Int) ≤ ((x7_2.length : Int) : Int) := of_decide_eq_true (by first | (with_reducible assumption) | assumption); obtain ⟨i081, hi081, _, hsz81, _⟩ := info_parts info34; have hroom81 : x7_2.length ≤ co65 := (Kd.R_reads' HO_7.out).2.1; have hC81 : Kd.C (Kd.slice 52 k52) _ (some ad417) x7_2.length x7_2 := (Kd.R_reads' HO_7.out).2.2; have q081 : (0 : Int) ≤ ((ji61) : Int) := of_decide_eq_true (by first | (with_reducible assumption) | assumption); have hcut81 := cut_from (P := Try.prog) 116 34 .i64 Try.underlying116 hi081 1 hsz81 (some ad417) x7_2.length co65 (ji61) q081 q81; have hr81 := Kd.C_drop (m := ((ji61) : Int).toNat) (c := co65) hC81 (by omega) hroom81; obtain ⟨A81, hA81⟩ : ∃ A1, A1 = (if co65 = ((ji61) : Int).toNat then (some ad417) else ((some ad417) : Option Addr).map (·.add (((ji61) : Int).toNat * 1))) := ⟨_, rfl⟩; obtain ⟨c81, hc81⟩ : ∃ c1, c1 = co65 - ((ji61) : Int).toNat := ⟨_, rfl⟩; have hy81 : y443.length = x7_2.length - ((ji61) : Int).toNat := (by rw [Ny443.out, List.length_drop] <;> omega); rw [show (x7_2).drop ((ji61) : Int).toNat = y443 from Ny443.out.symm] at hr81; replace hr81 : Kd.C (Kd.slice 52 k52) _ A81 y443.length y443 := (by rw [hA81]; exact hr81); rw [← hy81, ← hA81, ← hc81] at hcut81; have HR446 := Aside0.mk hr81; have HC446 := Aside0.mk (show y443.length ≤ c81 from by rw [hy81, hc81]; exact Nat.sub_le_sub_right hroom81 _); clear hr81 hC81 hroom81 hi081 hsz81 hc81; have KY81 := Aside0.mk hy81; have KA81 := Aside0.mk hA81; clear hy81 hA81; have KL81 := Aside0.mk (show ((ji61) : Int).toNat ≤ x7_2.length from by omega); replace q81 := eq_true q81) | ((with_reducible refine gate_builtin (b := .append) (xs := #[.tmp 101, .tmp 105]) rfl ?_); at_builtin; refine Kd.R_append_rows (Kd.slice 52 k52) w.heap.size rfl (.tmp 101) (.tmp 105) 116 34 (.slice none 0 0) 24 rfl Try.underlying116 info34 rfl (by decide) (by omega) v441 y440 y443 _ _ _ (fun k_ => some k_ ≠ (.slice (some ad417) x7_2.length co65 : Value).ownBlock) (fun k_ => (((fun _ => True)) k_ ∧ some k_ ≠ (.slice (some ad417) x7_2.length co65 : Value).ownBlock) ∧ some k_ ≠ (v441 : Value).ownBlock) rfl rfl ?aO ?aR (fun _ _ h_ => h_) (fun k_ hk => ⟨hk.1.2, hk.2⟩) ?aF (Below.refl _ _) ?aS ?aL ?_; (case aR => exact (rowsDrop (R_rowsT (Kd.R_mono (ok' := (fun _ => True)) (HO_7.out) (fun k_ hk => trivial)) (Kd.R_typed (by (with_reducible repeat (first | apply Kd.R_alloc | apply Kd.R_drewN | apply Kd.R_drew)); exact HO442.out)) (by decide)) (Kd.R_reads' (Kd.R_mono (ok' := (fun _ => True)) (HO_7.out) (fun k_ hk => trivial))).2.1 Ny443.out KA81.out)); (case aF => exact (fun k_ hk => Kd.fresh' (Kd.R_lt (by (with_reducible repeat (first | apply Kd.R_alloc | apply Kd.R_drewN | apply Kd.R_drew)); exact HO_7.out)) k_ hk)); (case aO => exact (by (with_reducible repeat (first | apply Kd.R_alloc | apply Kd.R_drewN | apply Kd.R_drew)); exact HO442.out)); (case aS => exact (keep_size (w := w) (g := g) (row := none) (by repeat (first | (with_reducible first | exact HK.out | apply KeepBut.set_ | apply keep_drewN | apply keep_drew | apply keep_alloc) | exact HK.out)))); (case aL => have := LMc64.out; omega); intro v448 w82 ho hb hg hat; rw [← Ny447.out] at ho; have n0_ := Aside0.mk (Kd.R_after (ok := (fun _ => True)) (by (with_reducible repeat (first | apply Kd.R_alloc | apply Kd.R_drewN | apply Kd.R_drew)); exact Kd.R_mono HO_7.out (fun _ hk => ⟨trivial, hk.2⟩)) hg hat); have n1_ := Aside0.mk (IsS115.grown (by repeat (first | (with_reducible first | exact HI0.out | apply IsS115.alloc | apply IsS115.drewN | apply IsS115.drew | apply IsS115.set_1) | exact HI0.out)) hg (IsS115.own_ne HI0.out HO442.out (by decide))); have n2_ := Aside0.mk (Kd.R_over' (by (with_reducible repeat (first | apply Kd.R_alloc | apply Kd.R_drewN | apply Kd.R_drew)); exact HL417_0.out) (Kd.R_typed (by (with_reducible repeat (first | apply Kd.R_alloc | apply Kd.R_drewN | apply Kd.R_drew)); exact HO442.out)) (by decide) hg); have n3_ := Aside0.mk (Kd.R_over' (by (with_reducible repeat (first | apply Kd.R_alloc | apply Kd.R_drewN | apply Kd.R_drew)); exact HL421_0.out) (Kd.R_typed (by (with_reducible repeat (first | apply Kd.R_alloc | apply Kd.R_drewN | apply Kd.R_drew)); exact HO442.out)) (by decide) hg); have n4_ := Aside0.mk (below_weaken (by repeat (first | (with_reducible first | exact HB.out | apply below_alloc | apply pw_below_drewN | apply below_drew1 | refine below_set ?_ (IsS115.ge HI0.out)) | exact HB.out)) HL.out hb); have n5_ := Aside0.mk (KeepBut.trans (by repeat (first | (with_reducible first | exact HK.out | apply KeepBut.set_ | apply keep_drewN | apply keep_drew | apply keep_alloc) | exact HK.out)) (KeepBut.of_grown hg g) (Kd.R_base2 HO442.out)); have n6_ := Aside0.mk ((show Kd.C (Kd.slice 52 k52) w82 (some ad417) y433.length y433 from by rw [Ny433.out]; exact Kd.C_take (m := (t399 : Int).toNat) ((Kd.R_reads' (Kd.R_after (ok := (fun _ => True)) (by (with_reducible repeat (first | apply Kd.R_alloc | apply Kd.R_drewN | apply Kd.R_drew)); exact Kd.R_mono HO_7.out (fun _ hk => ⟨trivial, hk.2⟩)) hg hat)).2.2) KL77.out)); have n7_ := Aside0.mk ((show Kd.C (Kd.slice 52 k52) w82 A81 y443.length y443 from by rw [Ny443.out, KA81.out]; exact Kd.C_drop (m := ((ji61) : Int).toNat) (c := co65) ((Kd.R_reads' (Kd.R_after (ok := (fun _ => True)) (by (with_reducible repeat (first | apply Kd.R_alloc | apply Kd.R_drewN | apply Kd.R_drew)); exact Kd.R_mono HO_7.out (fun _ hk => ⟨trivial, hk.2⟩)) hg hat)).2.2) KL81.out ((Kd.R_reads' (Kd.R_after (ok := (fun _ => True)) (by (with_reducible repeat (first | apply Kd.R_alloc | apply Kd.R_drewN | apply Kd.R_drew)); exact Kd.R_mono HO_7.out (fun _ hk => ⟨trivial, hk.2⟩)) hg hat)).2.1))); have n8_ := Aside0.mk (ho); clear HO_7; clear HI0; clear HL417_0; clear HL421_0; clear HB; clear HK; clear HR436; clear HR446; clear HO442; have HO_7 := n0_; have HI0 := n1_; have HL417_0 := n2_; have HL421_0 := n3_; have HB := n4_; have HK := n5_; have HR436 := n6_; have HR446 := n7_; have HO449 := n8_; clear n0_ n1_ n2_ n3_ n4_ n5_ n6_ n7_ n8_; clear ho hb hg hat))
                      go_roundg k2
                      case measure => have := HK1.out; have := HK2.out; omega
                      case rel => exact ⟨(y447), (x9_2), (t426), (by first | rfl | (simp; done) | (simp [*]; done)), H', ⟨by have := HK1.out; have := HK2.out; omega⟩, ⟨by (with_reducible repeat (first | apply Kd.R_alloc | apply Kd.R_drewN | apply Kd.R_drew)); exact Kd.R_mono HO449.out (fun _ hk => trivial)⟩, ⟨by repeat (first | (with_reducible first | exact HI0.out | apply IsS115.alloc | apply IsS115.drewN | apply IsS115.drew | apply IsS115.set_1) | exact HI0.out)⟩, ⟨by repeat (first | (with_reducible first | exact HK.out | apply KeepBut.set_ | apply keep_drewN | apply keep_drew | apply keep_alloc) | exact HK.out)⟩, ⟨by repeat (first | (with_reducible first | exact HB.out | apply below_alloc | apply pw_below_drewN | apply below_drew1 | refine below_set ?_ (IsS115.ge HI0.out)) | exact HB.out)⟩⟩
                     ·rw [if_neg c64] at H
                      exact absurd H (by simp)
                    ·rw [if_neg c63] at H
                     exact absurd H (by simp)
                   ·rw [if_neg c62] at H
                    exact absurd H (by simp)
                  ·rw [if_neg c60] at H
                   exact absurd H (by simp)
                 ·rw [if_neg c59] at H
                  exact absurd H (by simp)
                ·rw [if_neg c58] at H
                 exact absurd H (by simp)
               ·rw [if_neg c56] at H
                exact absurd H (by simp)
              ·rw [if_neg c54] at H
               exact absurd H (by simp)
             ·rw [if_neg c53] at H
              exact absurd H (by simp)
            ·rw [if_neg c52] at H
             exact absurd H (by simp)
           ·rw [if_neg c50] at H
            exact absurd H (by simp)
          ·rw [if_neg c49] at H
           exact absurd H (by simp)
         ·rw [if_neg c48] at H
          exact absurd H (by simp)
       ·rw [if_neg c31] at H
        have c31b0 : decide (0 < x9_2) = false := decide_eq_false c31
        clear c31
        obtain ⟨y450, hy450⟩ : ∃ y_ : List (S52), y_ = (([] : List (S52))) := ⟨_, rfl⟩
        replace H : (if 0 ≤ t399 then (if t399 < (x7_2.length : Int) then (if y450.length + (rd_L5 x7_2 t399).length < 8796093022208 then ((some (y450 ++ (rd_L5 x7_2 t399) : List (S52))).bind fun y454 => (if 0 ≤ (wrap64 (t399 + 1)) then (if (wrap64 (t399 + 1)) < (x7_2.length : Int) then (if y454.length + (rd_L5 x7_2 (wrap64 (t399 + 1))).length < 8796093022208 then ((some (y454 ++ (rd_L5 x7_2 (wrap64 (t399 + 1))) : List (S52))).bind fun y458 => ((spec_l20Rd_pick.f k2 s0_0 t400 3).bind fun bt461 => (if y458.length < 8796093022208 then ((some (([] : List (List (S52))) : List (List (S52)))).bind fun y466 => (if t399 ≤ (x7_2.length : Int) then ((some (x7_2.take (t399 : Int).toNat : List (List (S52)))).bind fun y469 => (if y466.length + y469.length < 5864062014805 then ((some (y466 ++ y469 : List (List (S52)))).bind fun y473 => (if y473.length < 5864062014805 then ((some (y473 ++ [(y458 ++ [(⟨wrap64 (3 + bt461.1), 0⟩ : S52)])] : List (List (S52)))).bind fun y476 => (if 0 ≤ (wrap64 (t399 + 2)) then (if (wrap64 (t399 + 2)) ≤ (x7_2.length : Int) then ((some (x7_2.drop ((wrap64 (t399 + 2)) : Int).toNat : List (List (S52)))).bind fun y479 => (if y476.length + y479.length < 5864062014805 then (spec_l20Term.l1 k2 a2 (y476 ++ y479) x9_2 s0_0 bt461.2) else (none))) else (none)) else (none))) else (none))) else (none))) else (none))) else (none)))) else (none)) else (none)) else (none))) else (none)) else (none)) else (none)) = some (r1, r2) := by first | (rw [hy450]; with_reducible exact H) | (have H2_ := (Option.bind_some _ _).symm.trans H; rw [hy450]; with_reducible exact H2_) | (have H2_ := (Option.bind_some _ _).symm.trans H; with_reducible exact H2_) | with_reducible exact H | (rw [hy450]; exact H) | exact H
        have Ny450 := Aside0.mk hy450
        clear hy450
        by_cases c83 : 0 ≤ t399
        ·rw [if_pos c83] at H
         have c83b0 : decide (0 ≤ t399) = true := decide_eq_true c83
         clear c83
         by_cases c84 : t399 < (x7_2.length : Int)
         ·rw [if_pos c84] at H
          have c84b0 : decide (t399 < (x7_2.length : Int)) = true := decide_eq_true c84
          clear c84
          by_cases c85 : y450.length + (rd_L5 x7_2 t399).length < 8796093022208
          ·rw [if_pos c85] at H
           have LMc85 := Aside0.mk c85
           clear c85
           obtain ⟨y454, hy454⟩ : ∃ y_ : List (S52), y_ = (y450 ++ (rd_L5 x7_2 t399)) := ⟨_, rfl⟩
           replace H : (if 0 ≤ (wrap64 (t399 + 1)) then (if (wrap64 (t399 + 1)) < (x7_2.length : Int) then (if y454.length + (rd_L5 x7_2 (wrap64 (t399 + 1))).length < 8796093022208 then ((some (y454 ++ (rd_L5 x7_2 (wrap64 (t399 + 1))) : List (S52))).bind fun y458 => ((spec_l20Rd_pick.f k2 s0_0 t400 3).bind fun bt461 => (if y458.length < 8796093022208 then ((some (([] : List (List (S52))) : List (List (S52)))).bind fun y466 => (if t399 ≤ (x7_2.length : Int) then ((some (x7_2.take (t399 : Int).toNat : List (List (S52)))).bind fun y469 => (if y466.length + y469.length < 5864062014805 then ((some (y466 ++ y469 : List (List (S52)))).bind fun y473 => (if y473.length < 5864062014805 then ((some (y473 ++ [(y458 ++ [(⟨wrap64 (3 + bt461.1), 0⟩ : S52)])] : List (List (S52)))).bind fun y476 => (if 0 ≤ (wrap64 (t399 + 2)) then (if (wrap64 (t399 + 2)) ≤ (x7_2.length : Int) then ((some (x7_2.drop ((wrap64 (t399 + 2)) : Int).toNat : List (List (S52)))).bind fun y479 => (if y476.length + y479.length < 5864062014805 then (spec_l20Term.l1 k2 a2 (y476 ++ y479) x9_2 s0_0 bt461.2) else (none))) else (none)) else (none))) else (none))) else (none))) else (none))) else (none)))) else (none)) else (none)) else (none)) = some (r1, r2) := by first | (rw [hy454]; with_reducible exact H) | (have H2_ := (Option.bind_some _ _).symm.trans H; rw [hy454]; with_reducible exact H2_) | (have H2_ := (Option.bind_some _ _).symm.trans H; with_reducible exact H2_) | with_reducible exact H | (rw [hy454]; exact H) | exact H
           have Ny454 := Aside0.mk hy454
           clear hy454
           obtain ⟨ji86, hji86⟩ : ∃ j_ : Int, (wrap64 (t399 + 1)) = j_ := ⟨_, rfl⟩
           replace H : (if 0 ≤ (ji86) then (if (ji86) < (x7_2.length : Int) then (if y454.length + (rd_L5 x7_2 (ji86)).length < 8796093022208 then ((some (y454 ++ (rd_L5 x7_2 (ji86)) : List (S52))).bind fun y458 => ((spec_l20Rd_pick.f k2 s0_0 t400 3).bind fun bt461 => (if y458.length < 8796093022208 then ((some (([] : List (List (S52))) : List (List (S52)))).bind fun y466 => (if t399 ≤ (x7_2.length : Int) then ((some (x7_2.take (t399 : Int).toNat : List (List (S52)))).bind fun y469 => (if y466.length + y469.length < 5864062014805 then ((some (y466 ++ y469 : List (List (S52)))).bind fun y473 => (if y473.length < 5864062014805 then ((some (y473 ++ [(y458 ++ [(⟨wrap64 (3 + bt461.1), 0⟩ : S52)])] : List (List (S52)))).bind fun y476 => (if 0 ≤ (wrap64 (t399 + 2)) then (if (wrap64 (t399 + 2)) ≤ (x7_2.length : Int) then ((some (x7_2.drop ((wrap64 (t399 + 2)) : Int).toNat : List (List (S52)))).bind fun y479 => (if y476.length + y479.length < 5864062014805 then (spec_l20Term.l1 k2 a2 (y476 ++ y479) x9_2 s0_0 bt461.2) else (none))) else (none)) else (none))) else (none))) else (none))) else (none))) else (none)))) else (none)) else (none)) else (none)) = some (r1, r2) := by first | (rw [hji86] at H; exact H) | (simp only [hji86] at H ⊢; exact H)
           (try rw [hji86] at A30)
           have hji86w : (IntKind.i64.wrap (t399 + 1)) = ji86 := (i64_w _).trans hji86
           by_cases c87 : 0 ≤ (ji86)
           ·rw [if_pos c87] at H
            have c87b0 : decide (0 ≤ (ji86)) = true := decide_eq_true c87
            clear c87
            by_cases c88 : (ji86) < (x7_2.length : Int)
            ·rw [if_pos c88] at H
             have c88b0 : decide ((ji86) < (x7_2.length : Int)) = true := decide_eq_true c88
             clear c88
             by_cases c89 : y454.length + (rd_L5 x7_2 (ji86)).length < 8796093022208
             ·rw [if_pos c89] at H
              have LMc89 := Aside0.mk c89
              clear c89
              obtain ⟨y458, hy458⟩ : ∃ y_ : List (S52), y_ = (y454 ++ (rd_L5 x7_2 (ji86))) := ⟨_, rfl⟩
              replace H : ((spec_l20Rd_pick.f k2 s0_0 t400 3).bind fun bt461 => (if y458.length < 8796093022208 then ((some (([] : List (List (S52))) : List (List (S52)))).bind fun y466 => (if t399 ≤ (x7_2.length : Int) then ((some (x7_2.take (t399 : Int).toNat : List (List (S52)))).bind fun y469 => (if y466.length + y469.length < 5864062014805 then ((some (y466 ++ y469 : List (List (S52)))).bind fun y473 => (if y473.length < 5864062014805 then ((some (y473 ++ [(y458 ++ [(⟨wrap64 (3 + bt461.1), 0⟩ : S52)])] : List (List (S52)))).bind fun y476 => (if 0 ≤ (wrap64 (t399 + 2)) then (if (wrap64 (t399 + 2)) ≤ (x7_2.length : Int) then ((some (x7_2.drop ((wrap64 (t399 + 2)) : Int).toNat : List (List (S52)))).bind fun y479 => (if y476.length + y479.length < 5864062014805 then (spec_l20Term.l1 k2 a2 (y476 ++ y479) x9_2 s0_0 bt461.2) else (none))) else (none)) else (none))) else (none))) else (none))) else (none))) else (none))) = some (r1, r2) := by first | (rw [hy458]; with_reducible exact H) | (have H2_ := (Option.bind_some _ _).symm.trans H; rw [hy458]; with_reducible exact H2_) | (have H2_ := (Option.bind_some _ _).symm.trans H; with_reducible exact H2_) | with_reducible exact H | (rw [hy458]; exact H) | exact H
              have Ny458 := Aside0.mk hy458
              clear hy458
              replace H := Option.bind_eq_some_iff.mp H
              obtain ⟨⟨t461, t462⟩, A900, H⟩ := H
              replace H : (if y458.length < 8796093022208 then ((some (([] : List (List (S52))) : List (List (S52)))).bind fun y466 => (if t399 ≤ (x7_2.length : Int) then ((some (x7_2.take (t399 : Int).toNat : List (List (S52)))).bind fun y469 => (if y466.length + y469.length < 5864062014805 then ((some (y466 ++ y469 : List (List (S52)))).bind fun y473 => (if y473.length < 5864062014805 then ((some (y473 ++ [(y458 ++ [(⟨wrap64 (3 + t461), 0⟩ : S52)])] : List (List (S52)))).bind fun y476 => (if 0 ≤ (wrap64 (t399 + 2)) then (if (wrap64 (t399 + 2)) ≤ (x7_2.length : Int) then ((some (x7_2.drop ((wrap64 (t399 + 2)) : Int).toNat : List (List (S52)))).bind fun y479 => (if y476.length + y479.length < 5864062014805 then (spec_l20Term.l1 k2 a2 (y476 ++ y479) x9_2 s0_0 t462) else (none))) else (none)) else (none))) else (none))) else (none))) else (none))) else (none)) = some (r1, r2) := H
              have A90 := Aside0.mk A900
              clear A900
              by_cases c91 : y458.length < 8796093022208
              ·rw [if_pos c91] at H
               have LMc91 := Aside0.mk c91
               clear c91
               obtain ⟨y463, hy463⟩ : ∃ y_ : List (S52), y_ = (y458 ++ [(⟨wrap64 (3 + t461), 0⟩ : S52)]) := ⟨_, rfl⟩
               replace H : ((some (([] : List (List (S52))) : List (List (S52)))).bind fun y466 => (if t399 ≤ (x7_2.length : Int) then ((some (x7_2.take (t399 : Int).toNat : List (List (S52)))).bind fun y469 => (if y466.length + y469.length < 5864062014805 then ((some (y466 ++ y469 : List (List (S52)))).bind fun y473 => (if y473.length < 5864062014805 then ((some (y473 ++ [y463] : List (List (S52)))).bind fun y476 => (if 0 ≤ (wrap64 (t399 + 2)) then (if (wrap64 (t399 + 2)) ≤ (x7_2.length : Int) then ((some (x7_2.drop ((wrap64 (t399 + 2)) : Int).toNat : List (List (S52)))).bind fun y479 => (if y476.length + y479.length < 5864062014805 then (spec_l20Term.l1 k2 a2 (y476 ++ y479) x9_2 s0_0 t462) else (none))) else (none)) else (none))) else (none))) else (none))) else (none))) = some (r1, r2) := by first | (rw [hy463]; with_reducible exact H) | (have H2_ := (Option.bind_some _ _).symm.trans H; rw [hy463]; with_reducible exact H2_) | (have H2_ := (Option.bind_some _ _).symm.trans H; with_reducible exact H2_) | with_reducible exact H | (rw [hy463]; exact H) | exact H
               have Ny463 := Aside0.mk hy463
               clear hy463
               obtain ⟨y466, hy466⟩ : ∃ y_ : List (List (S52)), y_ = (([] : List (List (S52)))) := ⟨_, rfl⟩
               replace H : (if t399 ≤ (x7_2.length : Int) then ((some (x7_2.take (t399 : Int).toNat : List (List (S52)))).bind fun y469 => (if y466.length + y469.length < 5864062014805 then ((some (y466 ++ y469 : List (List (S52)))).bind fun y473 => (if y473.length < 5864062014805 then ((some (y473 ++ [y463] : List (List (S52)))).bind fun y476 => (if 0 ≤ (wrap64 (t399 + 2)) then (if (wrap64 (t399 + 2)) ≤ (x7_2.length : Int) then ((some (x7_2.drop ((wrap64 (t399 + 2)) : Int).toNat : List (List (S52)))).bind fun y479 => (if y476.length + y479.length < 5864062014805 then (spec_l20Term.l1 k2 a2 (y476 ++ y479) x9_2 s0_0 t462) else (none))) else (none)) else (none))) else (none))) else (none))) else (none)) = some (r1, r2) := by first | (rw [hy466]; with_reducible exact H) | (have H2_ := (Option.bind_some _ _).symm.trans H; rw [hy466]; with_reducible exact H2_) | (have H2_ := (Option.bind_some _ _).symm.trans H; with_reducible exact H2_) | with_reducible exact H | (rw [hy466]; exact H) | exact H
               have Ny466 := Aside0.mk hy466
               clear hy466
               have c92b0 := eq_true (of_decide_eq_true (by first | (with_reducible assumption) | assumption) : 0 ≤ t399)
               by_cases c93 : t399 ≤ (x7_2.length : Int)
               ·rw [if_pos c93] at H
                have c93b0 := eq_true c93
                have c93b1 : decide (t399 ≤ (x7_2.length : Int)) = true := decide_eq_true c93
                clear c93
                obtain ⟨y469, hy469⟩ : ∃ y_ : List (List (S52)), y_ = (x7_2.take (t399 : Int).toNat) := ⟨_, rfl⟩
                replace H : (if y466.length + y469.length < 5864062014805 then ((some (y466 ++ y469 : List (List (S52)))).bind fun y473 => (if y473.length < 5864062014805 then ((some (y473 ++ [y463] : List (List (S52)))).bind fun y476 => (if 0 ≤ (wrap64 (t399 + 2)) then (if (wrap64 (t399 + 2)) ≤ (x7_2.length : Int) then ((some (x7_2.drop ((wrap64 (t399 + 2)) : Int).toNat : List (List (S52)))).bind fun y479 => (if y476.length + y479.length < 5864062014805 then (spec_l20Term.l1 k2 a2 (y476 ++ y479) x9_2 s0_0 t462) else (none))) else (none)) else (none))) else (none))) else (none)) = some (r1, r2) := by first | (rw [hy469]; with_reducible exact H) | (have H2_ := (Option.bind_some _ _).symm.trans H; rw [hy469]; with_reducible exact H2_) | (have H2_ := (Option.bind_some _ _).symm.trans H; with_reducible exact H2_) | with_reducible exact H | (rw [hy469]; exact H) | exact H
                have Ny469 := Aside0.mk hy469
                clear hy469
                by_cases c94 : y466.length + y469.length < 5864062014805
                ·rw [if_pos c94] at H
                 have LMc94 := Aside0.mk c94
                 clear c94
                 obtain ⟨y473, hy473⟩ : ∃ y_ : List (List (S52)), y_ = (y466 ++ y469) := ⟨_, rfl⟩
                 replace H : (if y473.length < 5864062014805 then ((some (y473 ++ [y463] : List (List (S52)))).bind fun y476 => (if 0 ≤ (wrap64 (t399 + 2)) then (if (wrap64 (t399 + 2)) ≤ (x7_2.length : Int) then ((some (x7_2.drop ((wrap64 (t399 + 2)) : Int).toNat : List (List (S52)))).bind fun y479 => (if y476.length + y479.length < 5864062014805 then (spec_l20Term.l1 k2 a2 (y476 ++ y479) x9_2 s0_0 t462) else (none))) else (none)) else (none))) else (none)) = some (r1, r2) := by first | (rw [hy473]; with_reducible exact H) | (have H2_ := (Option.bind_some _ _).symm.trans H; rw [hy473]; with_reducible exact H2_) | (have H2_ := (Option.bind_some _ _).symm.trans H; with_reducible exact H2_) | with_reducible exact H | (rw [hy473]; exact H) | exact H
                 have Ny473 := Aside0.mk hy473
                 clear hy473
                 by_cases c95 : y473.length < 5864062014805
                 ·rw [if_pos c95] at H
                  have LMc95 := Aside0.mk c95
                  clear c95
                  obtain ⟨y476, hy476⟩ : ∃ y_ : List (List (S52)), y_ = (y473 ++ [y463]) := ⟨_, rfl⟩
                  replace H : (if 0 ≤ (wrap64 (t399 + 2)) then (if (wrap64 (t399 + 2)) ≤ (x7_2.length : Int) then ((some (x7_2.drop ((wrap64 (t399 + 2)) : Int).toNat : List (List (S52)))).bind fun y479 => (if y476.length + y479.length < 5864062014805 then (spec_l20Term.l1 k2 a2 (y476 ++ y479) x9_2 s0_0 t462) else (none))) else (none)) else (none)) = some (r1, r2) := by first | (rw [hy476]; with_reducible exact H) | (have H2_ := (Option.bind_some _ _).symm.trans H; rw [hy476]; with_reducible exact H2_) | (have H2_ := (Option.bind_some _ _).symm.trans H; with_reducible exact H2_) | with_reducible exact H | (rw [hy476]; exact H) | exact H
                  have Ny476 := Aside0.mk hy476
                  clear hy476
                  obtain ⟨ji96, hji96⟩ : ∃ j_ : Int, (wrap64 (t399 + 2)) = j_ := ⟨_, rfl⟩
                  replace H : (if 0 ≤ (ji96) then (if (ji96) ≤ (x7_2.length : Int) then ((some (x7_2.drop ((ji96) : Int).toNat : List (List (S52)))).bind fun y479 => (if y476.length + y479.length < 5864062014805 then (spec_l20Term.l1 k2 a2 (y476 ++ y479) x9_2 s0_0 t462) else (none))) else (none)) else (none)) = some (r1, r2) := by first | (rw [hji96] at H; exact H) | (simp only [hji96] at H ⊢; exact H)
                  (try rw [hji96] at A30)
                  (try rw [hji96] at A90)
                  have hji96w : (IntKind.i64.wrap (t399 + 2)) = ji96 := (i64_w _).trans hji96
                  by_cases c97 : 0 ≤ (ji96)
                  ·rw [if_pos c97] at H
                   have c97b0 := eq_true c97
                   have c97b1 : decide (0 ≤ (ji96)) = true := decide_eq_true c97
                   clear c97
                   by_cases c98 : (ji96) ≤ (x7_2.length : Int)
                   ·rw [if_pos c98] at H
                    have c98b0 := eq_true c98
                    have c98b1 : decide ((ji96) ≤ (x7_2.length : Int)) = true := decide_eq_true c98
                    clear c98
                    obtain ⟨y479, hy479⟩ : ∃ y_ : List (List (S52)), y_ = (x7_2.drop ((ji96) : Int).toNat) := ⟨_, rfl⟩
                    replace H : (if y476.length + y479.length < 5864062014805 then (spec_l20Term.l1 k2 a2 (y476 ++ y479) x9_2 s0_0 t462) else (none)) = some (r1, r2) := by first | (rw [hy479]; with_reducible exact H) | (have H2_ := (Option.bind_some _ _).symm.trans H; rw [hy479]; with_reducible exact H2_) | (have H2_ := (Option.bind_some _ _).symm.trans H; with_reducible exact H2_) | with_reducible exact H | (rw [hy479]; exact H) | exact H
                    have Ny479 := Aside0.mk hy479
                    clear hy479
                    by_cases c99 : y476.length + y479.length < 5864062014805
                    ·rw [if_pos c99] at H
                     have LMc99 := Aside0.mk c99
                     clear c99
                     obtain ⟨y483, hy483⟩ : ∃ y_ : List (List (S52)), y_ = (y476 ++ y479) := ⟨_, rfl⟩
                     replace H : (spec_l20Term.l1 k2 a2 y483 x9_2 s0_0 t462) = some (r1, r2) := by first | (rw [hy483]; with_reducible exact H) | (have H2_ := (Option.bind_some _ _).symm.trans H; rw [hy483]; with_reducible exact H2_) | (have H2_ := (Option.bind_some _ _).symm.trans H; with_reducible exact H2_) | with_reducible exact H | (rw [hy483]; exact H) | exact H
                     have Ny483 := Aside0.mk hy483
                     clear hy483
                     have H' := Aside0.mk H
                     clear H
                     obtain ⟨Ao100, co100, eo100⟩ := Kd.R_slice HO_7.out
                     subst eo100
                     try go_wp2_with (first | ((with_reducible refine gate_callee (f := 116) rfl ?_); refine goesL_ (some 52) rfl rfl Try.func116 (by kernel_rfl) rfl #[.pointer (some ⟨g, 0, none⟩), .int .i64 (wrap64 ((x7_2.length : Int) - 1))] rfl (by (try simp only [List.map_toArray, List.map_cons, List.map_nil]); first | done | rfl | (simp only [List.length_drop, List.length_take]; rfl)) ?_; (with_reducible refine (spec_l20Rd_pick.calls k2 g s0_0 x1001_2 (wrap64 ((x7_2.length : Int) - 1)) t399 t400 w0 _ ?side1 ?side2 A30.out).mono ?_); (case side1 => repeat (first | (with_reducible first | exact HI0.out | apply IsS115.alloc | apply IsS115.drewN | apply IsS115.drew | apply IsS115.set_1) | exact HI0.out)); (case side2 => repeat (first | (with_reducible first | exact HB.out | apply below_alloc | apply pw_below_drewN | apply below_drew1 | refine below_set ?_ (IsS115.ge HI0.out)) | exact HB.out)); rintro e w101 ⟨rfl, hi, hb, hk⟩; refine ⟨_, rfl, ?_⟩; have n0_ := Aside0.mk (Kd.R_mono (Kd.R_keep (IsS115.apart (show IsS115 w0 _ g s0_0 x1001_2 from by repeat (first | (with_reducible first | exact HI0.out | apply IsS115.alloc | apply IsS115.drewN | apply IsS115.drew | apply IsS115.set_1) | exact HI0.out)) (by (with_reducible repeat (first | apply Kd.R_alloc | apply Kd.R_drewN | apply Kd.R_drew)); exact HO_7.out) (by decide)) hk (fun _ h => h.2)) (fun _ h => h.1)); have n1_ := Aside0.mk (KeepBut.trans (by repeat (first | (with_reducible first | exact HK.out | apply KeepBut.set_ | apply keep_drewN | apply keep_drew | apply keep_alloc) | exact HK.out)) hk (.inl rfl)); have n2_ := Aside0.mk (hb); have n3_ := Aside0.mk (hi); clear HO_7; clear HK; clear HB; clear HI0; have HO_7 := n0_; have HK := n1_; have HB := n2_; have HI0 := n3_; clear n0_ n1_ n2_ n3_; (try clear hb); (try clear hb2); (try clear hk); (try clear hi)))
                     have n0_ := Aside0.mk (Kd.R_drew HO_7.out)
                     have n1_ := Aside0.mk (IsS115.drew HI0.out)
                     have n2_ := Aside0.mk (keep_drew HK.out)
                     have n3_ := Aside0.mk (below_drew1 HB.out)
                     clear HO_7
                     clear HI0
                     clear HK
                     clear HB
                     have HO_7 := n0_
                     have HI0 := n1_
                     have HK := n2_
                     have HB := n3_
                     clear n0_ n1_ n2_ n3_
                     have p453 : 0 ≤ (t399 : Int) := of_decide_eq_true (by first | (with_reducible assumption) | assumption)
                     have q453 : t399 < (x7_2.length : Int) := of_decide_eq_true (by first | (with_reducible assumption) | assumption)
                     obtain ⟨ad453, A453_0, c453_0, e453, hx453_0, hl453_0, hi453_0⟩ := at_L5 (Kd.R_reads' HO_7.out).2.2 t399 p453 q453
                     cases e453
                     obtain ⟨ce453, hce453, hMe453, hcc453⟩ := Kd.R_get HO_7.out [] t399 p453 (by first | exact q453 | exact of_decide_eq_true (by first | (with_reducible assumption) | assumption) | (have e_ := (Kd.R_reads' HO_7.out).1; omega))
                     obtain ⟨ve453_0, rfl, ge453_0⟩ := hMe453
                     have hv453_0 := hcc453 0 _ rfl
                     rw [Nat.add_zero, show ((Kd.slice 52 k52)).sz = 1 from rfl, Nat.mul_one] at hv453_0
                     replace hv453_0 := Option.some.inj (hv453_0.symm.trans hx453_0)
                     rw [hv453_0] at ge453_0
                     have HL453_0 := Aside0.mk (show Kd.R k52 52 _ _ _ _ (rd_L5 x7_2 t399) from ge453_0)
                     clear hv453_0 ge453_0
                     clear hcc453 hce453
                     have HR453_0 := Aside0.mk hi453_0
                     have HC453_0 := Aside0.mk hl453_0
                     clear hi453_0 hl453_0
                     replace p453 := eq_true p453
                     replace q453 := eq_true q453
                     have p457 : 0 ≤ ((ji86) : Int) := of_decide_eq_true (by first | (with_reducible assumption) | assumption)
                     have q457 : (ji86) < (x7_2.length : Int) := of_decide_eq_true (by first | (with_reducible assumption) | assumption)
                     obtain ⟨ad457, A457_0, c457_0, e457, hx457_0, hl457_0, hi457_0⟩ := at_L5 (Kd.R_reads' HO_7.out).2.2 (ji86) p457 q457
                     obtain rfl : ad453 = ad457 := (by injection e457)
                     obtain ⟨ce457, hce457, hMe457, hcc457⟩ := Kd.R_get HO_7.out [] (ji86) p457 (by first | exact q457 | exact of_decide_eq_true (by first | (with_reducible assumption) | assumption) | (have e_ := (Kd.R_reads' HO_7.out).1; omega))
                     obtain ⟨ve457_0, rfl, ge457_0⟩ := hMe457
                     have hv457_0 := hcc457 0 _ rfl
                     rw [Nat.add_zero, show ((Kd.slice 52 k52)).sz = 1 from rfl, Nat.mul_one] at hv457_0
                     replace hv457_0 := Option.some.inj (hv457_0.symm.trans hx457_0)
                     rw [hv457_0] at ge457_0
                     have HL457_0 := Aside0.mk (show Kd.R k52 52 _ _ _ _ (rd_L5 x7_2 (ji86)) from ge457_0)
                     clear hv457_0 ge457_0
                     clear hcc457 hce457
                     have HR457_0 := Aside0.mk hi457_0
                     have HC457_0 := Aside0.mk hl457_0
                     clear hi457_0 hl457_0
                     replace p457 := eq_true p457
                     replace q457 := eq_true q457
                     refine start_ (n := 19) (S := fun w' => w'.cell? (ad453.add (t399).toNat) = some (.slice A453_0 (rd_L5 x7_2 t399).length c453_0) ∧ w'.cell? (ad453.add ((ji86)).toNat) = some (.slice A457_0 (rd_L5 x7_2 (ji86)).length c457_0)) (ds := [16, 17]) #[false, false, false, false, false, false, false, false, false, false, false, false, false, false, false, false, false, false, false] (by kernel_rfl) rfl rfl ⟨hx453_0, hx457_0⟩ (fun hHeld => ?_); refine with_tabW spec_l20Term.tab15 spec_l20Term.bits15 (fun HT_ HW_ => ?_)
                     generalize w101.drew = w102 at HO_7 HI0 HK HB HL453_0 HL457_0 HR453_0 HR457_0 hx453_0 hx457_0 hHeld ⊢
                     refine pure_ (i := 1) (N := some 75) (v := ?_) (a' := ?_) #[false, true, false, false, false, false, false, false, false, false, false, false, false, false, false, false, false, false, false] rfl rfl (any_of HT_.out (by kernel_rfl)) (fun _ _ _ h => h) (Or.inl ⟨by rfl, ?_⟩) ?_ ?_
                     rotate_left
                     ·intro w'
                      go_simp
                      with_reducible rfl
                     rotate_left
                     ·simp only [Act.put, List.setIfInBounds_toArray, List.set_cons_zero, List.set_cons_succ, i64_w, i32_w]
                      rfl
                     refine pure_ (i := 2) (N := some 76) (v := ?_) (a' := ?_) #[false, true, true, false, false, false, false, false, false, false, false, false, false, false, false, false, false, false, false] rfl rfl (any_of HT_.out (by kernel_rfl)) (fun _ _ _ h => h) (Or.inl ⟨by rfl, ?_⟩) ?_ ?_
                     rotate_left
                     ·intro w'
                      go_simp
                      with_reducible rfl
                     rotate_left
                     ·simp only [Act.put, List.setIfInBounds_toArray, List.set_cons_zero, List.set_cons_succ, i64_w, i32_w]
                      rfl
                     refine pure_ (i := 3) (N := some 77) (v := ?_) (a' := ?_) #[false, true, true, true, false, false, false, false, false, false, false, false, false, false, false, false, false, false, false] rfl rfl (any_of HT_.out (by kernel_rfl)) (fun _ _ _ h => h) (Or.inl ⟨by rfl, ?_⟩) ?_ ?_
                     rotate_left
                     ·intro w'
                      go_simp
                      with_reducible rfl
                     rotate_left
                     ·simp only [Act.put, List.setIfInBounds_toArray, List.set_cons_zero, List.set_cons_succ, i64_w, i32_w]
                      rfl
                     refine pure_ (i := 6) (N := some 80) (v := ?_) (a' := ?_) #[false, true, true, true, false, false, true, false, false, false, false, false, false, false, false, false, false, false, false] rfl rfl (any_of HT_.out (by kernel_rfl)) (fun _ _ _ h => h) (Or.inl ⟨by rfl, ?_⟩) ?_ ?_
                     rotate_left
                     ·intro w'
                      go_simp
                      with_reducible rfl
                     rotate_left
                     ·simp only [Act.put, List.setIfInBounds_toArray, List.set_cons_zero, List.set_cons_succ, i64_w, i32_w]
                      rfl
                     refine pure_ (i := 7) (N := some 81) (v := ?_) (a' := ?_) #[false, true, true, true, false, false, true, true, false, false, false, false, false, false, false, false, false, false, false] rfl rfl (any_of HT_.out (by kernel_rfl)) (fun _ _ _ h => h) (Or.inl ⟨by rfl, ?_⟩) ?_ ?_
                     rotate_left
                     ·intro w'
                      go_simp
                      with_reducible rfl
                     rotate_left
                     ·simp only [Act.put, List.setIfInBounds_toArray, List.set_cons_zero, List.set_cons_succ, i64_w, i32_w]
                      rfl
                     refine pure_ (i := 8) (N := some 82) (v := ?_) (a' := ?_) #[false, true, true, true, false, false, true, true, true, false, false, false, false, false, false, false, false, false, false] rfl rfl (any_of HT_.out (by kernel_rfl)) (fun _ _ _ h => h) (Or.inl ⟨by rfl, ?_⟩) ?_ ?_
                     rotate_left
                     ·intro w'
                      go_simp
                      with_reducible rfl
                     rotate_left
                     ·simp only [Act.put, List.setIfInBounds_toArray, List.set_cons_zero, List.set_cons_succ, i64_w, i32_w]
                      rfl
                     refine pure_ (i := 9) (N := some 83) (v := ?_) (a' := ?_) #[false, true, true, true, false, false, true, true, true, true, false, false, false, false, false, false, false, false, false] rfl rfl (any_of HT_.out (by kernel_rfl)) (fun _ _ _ h => h) (Or.inl ⟨by rfl, ?_⟩) ?_ ?_
                     rotate_left
                     ·intro w'
                      go_simp
                      with_reducible rfl
                     rotate_left
                     ·simp only [Act.put, List.setIfInBounds_toArray, List.set_cons_zero, List.set_cons_succ, i64_w, i32_w]
                      rfl
                     refine pure_ (i := 12) (N := some 86) (v := ?_) (a' := ?_) #[false, true, true, true, false, false, true, true, true, true, false, false, true, false, false, false, false, false, false] rfl rfl (any_of HT_.out (by kernel_rfl)) (fun _ _ _ h => h) (Or.inl ⟨by rfl, ?_⟩) ?_ ?_
                     rotate_left
                     ·intro w'
                      go_simp
                      with_reducible rfl
                     rotate_left
                     ·simp only [Act.put, List.setIfInBounds_toArray, List.set_cons_zero, List.set_cons_succ, i64_w, i32_w]
                      rfl
                     refine take_ (i := 4) (N := some 78) (v := ?_) (a' := ?_) #[false, true, true, true, true, false, true, true, true, true, false, false, true, false, false, false, false, false, false] rfl rfl (take_ofW HT_.out HW_.out (by kernel_rfl)) (fun _ _ _ h => h) (Or.inl ⟨by rfl, ?_⟩) hHeld ?_ ?_
                     rotate_left
                     ·rintro w' ⟨s0, s1⟩
                      go_simp
                      with_reducible rfl
                     rotate_left
                     ·simp only [Act.put, List.setIfInBounds_toArray, List.set_cons_zero, List.set_cons_succ, i64_w, i32_w]
                      rfl
                     refine take_ (i := 10) (N := some 84) (v := ?_) (a' := ?_) #[false, true, true, true, true, false, true, true, true, true, true, false, true, false, false, false, false, false, false] rfl rfl (take_ofW HT_.out HW_.out (by kernel_rfl)) (fun _ _ _ h => h) (Or.inl ⟨by rfl, ?_⟩) hHeld ?_ ?_
                     rotate_left
                     ·rintro w' ⟨s0, s1⟩
                      go_simp
                      with_reducible rfl
                     rotate_left
                     ·simp only [Act.put, List.setIfInBounds_toArray, List.set_cons_zero, List.set_cons_succ, i64_w, i32_w]
                      rfl
                     refine one_ (i := 0) (N := some 74) #[true, true, true, true, true, false, true, true, true, true, true, false, true, false, false, false, false, false, false] rfl rfl (one_of HT_.out (by kernel_rfl)) (by decide) (fun K hK => ?_)
                     refine Kd.R_lit_step k52 _ 52 ?hg (N := 74) ?hd (xs := ([] : List (S52))) (inner := []) (ok := fun _ => True) (okp := fun _ => True) ?hr ?hp (fun _ hk => hk) trivial (Below.refl _ _) (Nat.le_refl _) (by simp) ?_; (case hd => rfl); (case hg => rfl); (case hr => first | (go_simp; done) | (go_simp; rfl)); (case hp => exact (Reps.none _ _))
                     intro v451 w103 ho104 hb hg_ hnew_
                     have HS0_ := (hb.cell (World.block_lt_of_cell? _ _ (hHeld.1))).trans (hHeld.1)
                     have HS1_ := (hb.cell (World.block_lt_of_cell? _ _ (hHeld.2))).trans (hHeld.2)
                     clear hg_ hnew_
                     (first | rw [← Ny450.out] at ho104 | (simp only [Int.reduceToNat] at ho104; rw [← Ny450.out] at ho104))
                     have n0_ := Aside0.mk (Kd.R_elder' (by (with_reducible repeat (first | apply Kd.R_alloc | apply Kd.R_drewN | apply Kd.R_drew)); exact HO_7.out) (Kd.R_base ho104) hb)
                     have n1_ := Aside0.mk (Kd.R_elder' (by (with_reducible repeat (first | apply Kd.R_alloc | apply Kd.R_drewN | apply Kd.R_drew)); exact HL453_0.out) (Kd.R_base ho104) hb)
                     have n2_ := Aside0.mk (Kd.R_elder' (by (with_reducible repeat (first | apply Kd.R_alloc | apply Kd.R_drewN | apply Kd.R_drew)); exact HL457_0.out) (Kd.R_base ho104) hb)
                     have n3_ := Aside0.mk (Kd.R_lower (Kd.R_new' (Kd.R_new' ho104 (Kd.R_lt (by (with_reducible repeat (first | apply Kd.R_alloc | apply Kd.R_drewN | apply Kd.R_drew)); exact HL453_0.out))) (Kd.R_lt (by (with_reducible repeat (first | apply Kd.R_alloc | apply Kd.R_drewN | apply Kd.R_drew)); exact HL457_0.out))) (keep_size (w := w) (g := g) (row := none) (by repeat (first | (with_reducible first | exact HK.out | apply KeepBut.set_ | apply keep_drewN | apply keep_drew | apply keep_alloc) | exact HK.out))))
                     have n4_ := Aside0.mk (IsS115.below (by repeat (first | (with_reducible first | exact HI0.out | apply IsS115.alloc | apply IsS115.drewN | apply IsS115.drew | apply IsS115.set_1) | exact HI0.out)) hb)
                     have n5_ := Aside0.mk (Kd.C_below (by repeat (first | (with_reducible exact HR453_0.out) | (with_reducible refine Kd.C_alloc ?_ _) | (with_reducible refine Kd.C_drewN ?_ _) | (with_reducible refine Kd.C_drew ?_) | exact HR453_0.out)) hb)
                     have n6_ := Aside0.mk (Kd.C_below (by repeat (first | (with_reducible exact HR457_0.out) | (with_reducible refine Kd.C_alloc ?_ _) | (with_reducible refine Kd.C_drewN ?_ _) | (with_reducible refine Kd.C_drew ?_) | exact HR457_0.out)) hb)
                     have n7_ := Aside0.mk (KeepBut.trans (by repeat (first | (with_reducible first | exact HK.out | apply KeepBut.set_ | apply keep_drewN | apply keep_drew | apply keep_alloc) | exact HK.out)) (KeepBut.of_below hb g none) (.inl rfl))
                     have n8_ := Aside0.mk (below_step (by repeat (first | (with_reducible first | exact HB.out | apply below_alloc | apply pw_below_drewN | apply below_drew1 | refine below_set ?_ (IsS115.ge HI0.out)) | exact HB.out)) hb)
                     clear HO_7
                     clear HL453_0
                     clear HL457_0
                     clear HI0
                     clear HR453_0
                     clear HR457_0
                     clear HK
                     clear HB
                     have HO_7 := n0_
                     have HL453_0 := n1_
                     have HL457_0 := n2_
                     have HO452 := n3_
                     have HI0 := n4_
                     have HR453_0 := n5_
                     have HR457_0 := n6_
                     have HK := n7_
                     have HB := n8_
                     clear n0_ n1_ n2_ n3_ n4_ n5_ n6_ n7_ n8_
                     clear hb ho104
                     refine hK.out _ _ ⟨HS0_, HS1_⟩ (fun hHeld => ?_)
                     clear hK K
                     refine norm_ (a' := ?_) ?_ ?_
                     rotate_left
                     ·show Act.put _ (some 74) _ = _
                      simp only [Act.put, List.setIfInBounds_toArray, List.set_cons_zero, List.set_cons_succ, i64_w, i32_w]
                      rfl
                     refine one_ (i := 5) (N := some 79) #[true, true, true, true, true, true, true, true, true, true, true, false, true, false, false, false, false, false, false] rfl rfl (one_of HT_.out (by kernel_rfl)) (by decide) (fun K hK => ?_)
                     refine Kd.R_append_rows_step k52 w.heap.size (by rfl) (.tmp 74) (.tmp 78) 34 52 (.agg #[(.int .i64 0), (.int .i64 0)]) 16 rfl Try.underlying34 info52 rfl (by decide) (by omega) v451 y450 (rd_L5 x7_2 t399) _ _ _ (fun k_ => some k_ ≠ (.slice A453_0 (rd_L5 x7_2 t399).length c453_0 : Value).ownBlock ∧ some k_ ≠ (.slice A457_0 (rd_L5 x7_2 (ji86)).length c457_0 : Value).ownBlock) (fun _ => False) rfl rfl ?aO ?aR (fun _ _ h => h) (fun _ h => h.elim) ?aF (Below.refl _ _) ?aS ?aL ?_
                     (case aR => repeat (first | exact (by repeat (first | (with_reducible exact HR453_0.out) | (with_reducible refine Kd.C_alloc ?_ _) | (with_reducible refine Kd.C_drewN ?_ _) | (with_reducible refine Kd.C_drew ?_) | exact HR453_0.out)) | (with_reducible refine Kd.C_alloc ?_ _) | (with_reducible refine Kd.C_drewN ?_ _) | (with_reducible refine Kd.C_drew ?_)))
                     (case aF => exact (fun k_ hk => ⟨Kd.fresh' (Kd.R_lt (by (with_reducible repeat (first | apply Kd.R_alloc | apply Kd.R_drewN | apply Kd.R_drew)); exact HL453_0.out)) k_ hk, Kd.fresh' (Kd.R_lt (by (with_reducible repeat (first | apply Kd.R_alloc | apply Kd.R_drewN | apply Kd.R_drew)); exact HL457_0.out)) k_ hk⟩))
                     (case aO => exact (by (with_reducible repeat (first | apply Kd.R_alloc | apply Kd.R_drewN | apply Kd.R_drew)); exact Kd.R_mono HO452.out (fun _ hk => ⟨hk.1.2, hk.2⟩)))
                     (case aS => exact (keep_size (w := w) (g := g) (row := none) (by repeat (first | (with_reducible first | exact HK.out | apply KeepBut.set_ | apply keep_drewN | apply keep_drew | apply keep_alloc) | exact HK.out))))
                     (case aL => have := LMc85.out; omega)
                     intro v455 w105 ho hb hg hat
                     have HS0_ := cell_grown hg (hHeld.1) (by first | (rw [add_block]; exact row_ne HO_7.out HO452.out (by decide) _ rfl) | (show some (Addr.add _ _).block ≠ _; rw [add_block]; exact row_ne HO_7.out HO452.out (by decide) _ rfl) | exact row_ne HO_7.out HO452.out (by decide) _ rfl)
                     have HS1_ := cell_grown hg (hHeld.2) (by first | (rw [add_block]; exact row_ne HO_7.out HO452.out (by decide) _ rfl) | (show some (Addr.add _ _).block ≠ _; rw [add_block]; exact row_ne HO_7.out HO452.out (by decide) _ rfl) | exact row_ne HO_7.out HO452.out (by decide) _ rfl)
                     rw [← Ny454.out] at ho
                     have n0_ := Aside0.mk (Kd.R_after (ok := (fun _ => True)) (by (with_reducible repeat (first | apply Kd.R_alloc | apply Kd.R_drewN | apply Kd.R_drew)); exact HO_7.out) hg hat)
                     have n1_ := Aside0.mk (IsS115.grown (by repeat (first | (with_reducible first | exact HI0.out | apply IsS115.alloc | apply IsS115.drewN | apply IsS115.drew | apply IsS115.set_1) | exact HI0.out)) hg (IsS115.own_ne HI0.out HO452.out (by decide)))
                     have n2_ := Aside0.mk (Kd.R_after (ok := (fun k_ => some k_ ≠ (.slice (some ad453) x7_2.length co100 : Value).ownBlock)) (by (with_reducible repeat (first | apply Kd.R_alloc | apply Kd.R_drewN | apply Kd.R_drew)); exact Kd.R_mono HL453_0.out (fun _ hk => ⟨hk.1.2, hk.2⟩)) hg hat)
                     have n3_ := Aside0.mk (Kd.R_after (ok := (fun k_ => some k_ ≠ (.slice (some ad453) x7_2.length co100 : Value).ownBlock)) (by (with_reducible repeat (first | apply Kd.R_alloc | apply Kd.R_drewN | apply Kd.R_drew)); exact Kd.R_mono HL457_0.out (fun _ hk => ⟨hk.1.2, hk.2⟩)) hg hat)
                     have n4_ := Aside0.mk (below_weaken (by repeat (first | (with_reducible first | exact HB.out | apply below_alloc | apply pw_below_drewN | apply below_drew1 | refine below_set ?_ (IsS115.ge HI0.out)) | exact HB.out)) HL.out hb)
                     have n5_ := Aside0.mk (KeepBut.trans (by repeat (first | (with_reducible first | exact HK.out | apply KeepBut.set_ | apply keep_drewN | apply keep_drew | apply keep_alloc) | exact HK.out)) (KeepBut.of_grown hg g) (Kd.R_base2 HO452.out))
                     have n6_ := Aside0.mk (ho)
                     clear HO_7
                     clear HI0
                     clear HL453_0
                     clear HL457_0
                     clear HB
                     clear HK
                     clear HO452
                     have HO_7 := n0_
                     have HI0 := n1_
                     have HL453_0 := n2_
                     have HL457_0 := n3_
                     have HB := n4_
                     have HK := n5_
                     have HO456 := n6_
                     clear n0_ n1_ n2_ n3_ n4_ n5_ n6_
                     clear ho hb hg hat
                     refine hK.out _ _ ⟨HS0_, HS1_⟩ (fun hHeld => ?_)
                     clear hK K
                     refine norm_ (a' := ?_) ?_ ?_
                     rotate_left
                     ·show Act.put _ (some 79) _ = _
                      simp only [Act.put, List.setIfInBounds_toArray, List.set_cons_zero, List.set_cons_succ, i64_w, i32_w]
                      rfl
                     refine one_ (i := 11) (N := some 85) #[true, true, true, true, true, true, true, true, true, true, true, true, true, false, false, false, false, false, false] rfl rfl (one_of HT_.out (by kernel_rfl)) (by decide) (fun K hK => ?_)
                     refine Kd.R_append_rows_step k52 w.heap.size (by rfl) (.tmp 79) (.tmp 84) 34 52 (.agg #[(.int .i64 0), (.int .i64 0)]) 16 rfl Try.underlying34 info52 rfl (by decide) (by omega) v455 y454 (rd_L5 x7_2 (ji86)) _ _ _ (fun k_ => some k_ ≠ (.slice A453_0 (rd_L5 x7_2 t399).length c453_0 : Value).ownBlock ∧ some k_ ≠ (.slice A457_0 (rd_L5 x7_2 (ji86)).length c457_0 : Value).ownBlock) (fun _ => False) rfl rfl ?aO ?aR (fun _ _ h => h) (fun _ h => h.elim) ?aF (Below.refl _ _) ?aS ?aL ?_
                     (case aR => repeat (first | exact ((Kd.R_reads' (by (with_reducible repeat (first | apply Kd.R_alloc | apply Kd.R_drewN | apply Kd.R_drew)); exact HL457_0.out)).2.2) | (with_reducible refine Kd.C_alloc ?_ _) | (with_reducible refine Kd.C_drewN ?_ _) | (with_reducible refine Kd.C_drew ?_)))
                     (case aF => exact (fun k_ hk => ⟨Kd.fresh' (Kd.R_lt (by (with_reducible repeat (first | apply Kd.R_alloc | apply Kd.R_drewN | apply Kd.R_drew)); exact HL453_0.out)) k_ hk, Kd.fresh' (Kd.R_lt (by (with_reducible repeat (first | apply Kd.R_alloc | apply Kd.R_drewN | apply Kd.R_drew)); exact HL457_0.out)) k_ hk⟩))
                     (case aO => exact (by (with_reducible repeat (first | apply Kd.R_alloc | apply Kd.R_drewN | apply Kd.R_drew)); exact HO456.out))
                     (case aS => exact (keep_size (w := w) (g := g) (row := none) (by repeat (first | (with_reducible first | exact HK.out | apply KeepBut.set_ | apply keep_drewN | apply keep_drew | apply keep_alloc) | exact HK.out))))
                     (case aL => have := LMc89.out; omega)
                     intro v459 w106 ho hb hg hat
                     have HS0_ := cell_grown hg (hHeld.1) (by first | (rw [add_block]; exact row_ne HO_7.out HO456.out (by decide) _ rfl) | (show some (Addr.add _ _).block ≠ _; rw [add_block]; exact row_ne HO_7.out HO456.out (by decide) _ rfl) | exact row_ne HO_7.out HO456.out (by decide) _ rfl)
                     have HS1_ := cell_grown hg (hHeld.2) (by first | (rw [add_block]; exact row_ne HO_7.out HO456.out (by decide) _ rfl) | (show some (Addr.add _ _).block ≠ _; rw [add_block]; exact row_ne HO_7.out HO456.out (by decide) _ rfl) | exact row_ne HO_7.out HO456.out (by decide) _ rfl)
                     rw [← Ny458.out] at ho
                     have n0_ := Aside0.mk (Kd.R_after (ok := (fun _ => True)) (by (with_reducible repeat (first | apply Kd.R_alloc | apply Kd.R_drewN | apply Kd.R_drew)); exact HO_7.out) hg hat)
                     have n1_ := Aside0.mk (IsS115.grown (by repeat (first | (with_reducible first | exact HI0.out | apply IsS115.alloc | apply IsS115.drewN | apply IsS115.drew | apply IsS115.set_1) | exact HI0.out)) hg (IsS115.own_ne HI0.out HO456.out (by decide)))
                     have n2_ := Aside0.mk (Kd.R_after (ok := (fun k_ => some k_ ≠ (.slice (some ad453) x7_2.length co100 : Value).ownBlock)) (by (with_reducible repeat (first | apply Kd.R_alloc | apply Kd.R_drewN | apply Kd.R_drew)); exact HL453_0.out) hg hat)
                     have n3_ := Aside0.mk (Kd.R_after (ok := (fun k_ => some k_ ≠ (.slice (some ad453) x7_2.length co100 : Value).ownBlock)) (by (with_reducible repeat (first | apply Kd.R_alloc | apply Kd.R_drewN | apply Kd.R_drew)); exact HL457_0.out) hg hat)
                     have n4_ := Aside0.mk (below_weaken (by repeat (first | (with_reducible first | exact HB.out | apply below_alloc | apply pw_below_drewN | apply below_drew1 | refine below_set ?_ (IsS115.ge HI0.out)) | exact HB.out)) HL.out hb)
                     have n5_ := Aside0.mk (KeepBut.trans (by repeat (first | (with_reducible first | exact HK.out | apply KeepBut.set_ | apply keep_drewN | apply keep_drew | apply keep_alloc) | exact HK.out)) (KeepBut.of_grown hg g) (Kd.R_base2 HO456.out))
                     have n6_ := Aside0.mk (ho)
                     clear HO_7
                     clear HI0
                     clear HL453_0
                     clear HL457_0
                     clear HB
                     clear HK
                     clear HO456
                     have HO_7 := n0_
                     have HI0 := n1_
                     have HL453_0 := n2_
                     have HL457_0 := n3_
                     have HB := n4_
                     have HK := n5_
                     have HO460 := n6_
                     clear n0_ n1_ n2_ n3_ n4_ n5_ n6_
                     clear ho hb hg hat
                     refine hK.out _ _ ⟨HS0_, HS1_⟩ (fun hHeld => ?_)
                     clear hK K
                     refine norm_ (a' := ?_) ?_ ?_
                     rotate_left
                     ·show Act.put _ (some 85) _ = _
                      simp only [Act.put, List.setIfInBounds_toArray, List.set_cons_zero, List.set_cons_succ, i64_w, i32_w]
                      rfl
                     refine one_ (i := 13) (N := some 87) #[true, true, true, true, true, true, true, true, true, true, true, true, true, true, false, false, false, false, false] rfl rfl (one_of HT_.out (by kernel_rfl)) (by decide) (fun K hK => ?_)
                     refine goes_ Try.func116 (by kernel_rfl) rfl #[.pointer (some ⟨g, 0, none⟩), .int .i64 3] (by rfl) rfl rfl (by (try simp only [List.map_toArray, List.map_cons, List.map_nil]); first | done | rfl | (simp only [List.length_drop, List.length_take]; rfl)) ?_
                     with_reducible refine (spec_l20Rd_pick.calls k2 g s0_0 t400 3 t461 t462 w0 _ ?side1 ?side2 A90.out).mono ?_
                     (case side1 => repeat (first | (with_reducible first | exact HI0.out | apply IsS115.alloc | apply IsS115.drewN | apply IsS115.drew | apply IsS115.set_1) | exact HI0.out))
                     (case side2 => repeat (first | (with_reducible first | exact HB.out | apply below_alloc | apply pw_below_drewN | apply below_drew1 | refine below_set ?_ (IsS115.ge HI0.out)) | exact HB.out))
                     rintro e w107 ⟨rfl, hi, hb, hk⟩
                     have HS0_ := keep_cell hk (hHeld.1) (by first | (rw [add_block]; exact Kd.own_blk (IsS115.own_ne HI0.out HO_7.out (by decide))) | (show (Addr.add _ _).block ≠ _; rw [add_block]; exact Kd.own_blk (IsS115.own_ne HI0.out HO_7.out (by decide))) | exact Kd.own_blk (IsS115.own_ne HI0.out HO_7.out (by decide)))
                     have HS1_ := keep_cell hk (hHeld.2) (by first | (rw [add_block]; exact Kd.own_blk (IsS115.own_ne HI0.out HO_7.out (by decide))) | (show (Addr.add _ _).block ≠ _; rw [add_block]; exact Kd.own_blk (IsS115.own_ne HI0.out HO_7.out (by decide))) | exact Kd.own_blk (IsS115.own_ne HI0.out HO_7.out (by decide)))
                     refine ⟨_, rfl, ?_⟩
                     have n0_ := Aside0.mk (Kd.R_mono (Kd.R_keep (IsS115.apart (show IsS115 w0 _ g s0_0 t400 from by repeat (first | (with_reducible first | exact HI0.out | apply IsS115.alloc | apply IsS115.drewN | apply IsS115.drew | apply IsS115.set_1) | exact HI0.out)) (by (with_reducible repeat (first | apply Kd.R_alloc | apply Kd.R_drewN | apply Kd.R_drew)); exact HO_7.out) (by decide)) hk (fun _ h => h.2)) (fun _ h => h.1))
                     have n1_ := Aside0.mk (Kd.R_mono (Kd.R_keep (IsS115.apart (show IsS115 w0 _ g s0_0 t400 from by repeat (first | (with_reducible first | exact HI0.out | apply IsS115.alloc | apply IsS115.drewN | apply IsS115.drew | apply IsS115.set_1) | exact HI0.out)) (by (with_reducible repeat (first | apply Kd.R_alloc | apply Kd.R_drewN | apply Kd.R_drew)); exact HL453_0.out) (by decide)) hk (fun _ h => h.2)) (fun _ h => h.1))
                     have n2_ := Aside0.mk (Kd.R_mono (Kd.R_keep (IsS115.apart (show IsS115 w0 _ g s0_0 t400 from by repeat (first | (with_reducible first | exact HI0.out | apply IsS115.alloc | apply IsS115.drewN | apply IsS115.drew | apply IsS115.set_1) | exact HI0.out)) (by (with_reducible repeat (first | apply Kd.R_alloc | apply Kd.R_drewN | apply Kd.R_drew)); exact HL457_0.out) (by decide)) hk (fun _ h => h.2)) (fun _ h => h.1))
                     have n3_ := Aside0.mk (Kd.R_mono (Kd.R_keep (IsS115.apart (show IsS115 w0 _ g s0_0 t400 from by repeat (first | (with_reducible first | exact HI0.out | apply IsS115.alloc | apply IsS115.drewN | apply IsS115.drew | apply IsS115.set_1) | exact HI0.out)) (by (with_reducible repeat (first | apply Kd.R_alloc | apply Kd.R_drewN | apply Kd.R_drew)); exact HO460.out) (by decide)) hk (fun _ h => h.2)) (fun _ h => h.1))
                     have n4_ := Aside0.mk (KeepBut.trans (by repeat (first | (with_reducible first | exact HK.out | apply KeepBut.set_ | apply keep_drewN | apply keep_drew | apply keep_alloc) | exact HK.out)) hk (.inl rfl))
                     have n5_ := Aside0.mk (hb)
                     have n6_ := Aside0.mk (hi)
                     clear HO_7
                     clear HL453_0
                     clear HL457_0
                     clear HO460
                     clear HK
                     clear HB
                     clear HI0
                     have HO_7 := n0_
                     have HL453_0 := n1_
                     have HL457_0 := n2_
                     have HO460 := n3_
                     have HK := n4_
                     have HB := n5_
                     have HI0 := n6_
                     clear n0_ n1_ n2_ n3_ n4_ n5_ n6_
                     (try clear hb)
                     (try clear hb2)
                     (try clear hk)
                     (try clear hi)
                     refine hK.out _ _ ⟨HS0_, HS1_⟩ (fun hHeld => ?_)
                     clear hK K
                     refine norm_ (a' := ?_) ?_ ?_
                     rotate_left
                     ·show Act.put _ (some 87) _ = _
                      simp only [Act.put, List.setIfInBounds_toArray, List.set_cons_zero, List.set_cons_succ, i64_w, i32_w]
                      rfl
                     refine pure_ (i := 14) (N := some 88) (v := ?_) (a' := ?_) #[true, true, true, true, true, true, true, true, true, true, true, true, true, true, true, false, false, false, false] rfl rfl (any_of HT_.out (by kernel_rfl)) (fun _ _ _ h => h) (Or.inl ⟨by rfl, ?_⟩) ?_ ?_
                     rotate_left
                     ·intro w'
                      go_simp
                      with_reducible rfl
                     rotate_left
                     ·simp only [Act.put, List.setIfInBounds_toArray, List.set_cons_zero, List.set_cons_succ, i64_w, i32_w]
                      rfl
                     refine pure_ (i := 15) (N := some 89) (v := ?_) (a' := ?_) #[true, true, true, true, true, true, true, true, true, true, true, true, true, true, true, true, false, false, false] rfl rfl (any_of HT_.out (by kernel_rfl)) (fun _ _ _ h => h) (Or.inl ⟨by rfl, ?_⟩) ?_ ?_
                     rotate_left
                     ·intro w'
                      go_simp
                      with_reducible rfl
                     rotate_left
                     ·simp only [Act.put, List.setIfInBounds_toArray, List.set_cons_zero, List.set_cons_succ, i64_w, i32_w]
                      rfl
                     refine last_ (i := 16) (N := some 90) #[true, true, true, true, true, true, true, true, true, true, true, true, true, true, true, true, true, false, false] rfl rfl (one_of HT_.out (by kernel_rfl)) (by decide) (fun K hK => ?_)
                     refine value_ (w1 := ?_) (v := ?_) (by rfl) rfl ?_ ?_
                     rotate_left 2
                     ·go_simp
                      constructor
                      ·rfl
                      ·rfl
                     refine hK.out _ _ ?_
                     clear hK K
                     refine norm_ (a' := ?_) ?_ ?_
                     rotate_left
                     ·show Act.put _ (some 90) _ = _
                      simp only [Act.put, List.setIfInBounds_toArray, List.set_cons_zero, List.set_cons_succ, i64_w, i32_w]
                      rfl
                     refine last_ (i := 17) (N := some 91) #[true, true, true, true, true, true, true, true, true, true, true, true, true, true, true, true, true, true, false] rfl rfl (one_of HT_.out (by kernel_rfl)) (by decide) (fun K hK => ?_)
                     refine Kd.R_append_step k52 w.heap.size (by rfl) (.tmp 85) (.tmp 90) 34 52 (.agg #[(.int .i64 0), (.int .i64 0)]) 16 rfl Try.underlying34 info52 rfl (by decide) (by omega) v459 y458 (⟨wrap64 (3 + t461), 0⟩ : S52) [.int .i64 (wrap64 (3 + t461)), .int .i64 0] (fun k_ => some k_ ≠ (.slice A453_0 (rd_L5 x7_2 t399).length c453_0 : Value).ownBlock ∧ some k_ ≠ (.slice A457_0 (rd_L5 x7_2 (ji86)).length c457_0 : Value).ownBlock) (fun _ => False) rfl rfl ?aP (fun _ hk => hk.elim) ?aF ?aO (Below.refl _ _) ?aS ?aL ?_
                     (case aP => exact k52_mkM _ _ _ (⟨wrap64 (3 + t461), 0⟩ : S52))
                     (case aF => exact (fun k_ hk => ⟨Kd.fresh' (Kd.R_lt (by (with_reducible repeat (first | apply Kd.R_alloc | apply Kd.R_drewN | apply Kd.R_drew)); exact HL453_0.out)) k_ hk, Kd.fresh' (Kd.R_lt (by (with_reducible repeat (first | apply Kd.R_alloc | apply Kd.R_drewN | apply Kd.R_drew)); exact HL457_0.out)) k_ hk⟩))
                     (case aO => exact (by (with_reducible repeat (first | apply Kd.R_alloc | apply Kd.R_drewN | apply Kd.R_drew)); exact HO460.out))
                     (case aS => exact (keep_size (w := w) (g := g) (row := none) (by repeat (first | (with_reducible first | exact HK.out | apply KeepBut.set_ | apply keep_drewN | apply keep_drew | apply keep_alloc) | exact HK.out))))
                     (case aL => have := LMc91.out; omega)
                     intro v464 w108 ho hb hg hat
                     rw [← Ny463.out] at ho
                     have n0_ := Aside0.mk (Kd.R_after (ok := (fun _ => True)) (by (with_reducible repeat (first | apply Kd.R_alloc | apply Kd.R_drewN | apply Kd.R_drew)); exact HO_7.out) hg hat)
                     have n1_ := Aside0.mk (IsS115.grown (by repeat (first | (with_reducible first | exact HI0.out | apply IsS115.alloc | apply IsS115.drewN | apply IsS115.drew | apply IsS115.set_1) | exact HI0.out)) hg (IsS115.own_ne HI0.out HO460.out (by decide)))
                     have n2_ := Aside0.mk (Kd.R_after (ok := (fun k_ => some k_ ≠ (.slice (some ad453) x7_2.length co100 : Value).ownBlock)) (by (with_reducible repeat (first | apply Kd.R_alloc | apply Kd.R_drewN | apply Kd.R_drew)); exact HL453_0.out) hg hat)
                     have n3_ := Aside0.mk (Kd.R_after (ok := (fun k_ => some k_ ≠ (.slice (some ad453) x7_2.length co100 : Value).ownBlock)) (by (with_reducible repeat (first | apply Kd.R_alloc | apply Kd.R_drewN | apply Kd.R_drew)); exact HL457_0.out) hg hat)
                     have n4_ := Aside0.mk (below_weaken (by repeat (first | (with_reducible first | exact HB.out | apply below_alloc | apply pw_below_drewN | apply below_drew1 | refine below_set ?_ (IsS115.ge HI0.out)) | exact HB.out)) HL.out hb)
                     have n5_ := Aside0.mk (KeepBut.trans (by repeat (first | (with_reducible first | exact HK.out | apply KeepBut.set_ | apply keep_drewN | apply keep_drew | apply keep_alloc) | exact HK.out)) (KeepBut.of_grown hg g) (Kd.R_base2 HO460.out))
                     have n6_ := Aside0.mk (ho)
                     clear HO_7
                     clear HI0
                     clear HL453_0
                     clear HL457_0
                     clear HB
                     clear HK
                     clear HO460
                     have HO_7 := n0_
                     have HI0 := n1_
                     have HL453_0 := n2_
                     have HL457_0 := n3_
                     have HB := n4_
                     have HK := n5_
                     have HO465 := n6_
                     clear n0_ n1_ n2_ n3_ n4_ n5_ n6_
                     clear ho hb hg hat
                     refine hK.out _ _ ?_
                     clear hK K
                     refine norm_ (a' := ?_) ?_ ?_
                     rotate_left
                     ·show Act.put _ (some 91) _ = _
                      simp only [Act.put, List.setIfInBounds_toArray, List.set_cons_zero, List.set_cons_succ, i64_w, i32_w]
                      rfl
                     refine pure_ (i := 18) (N := some 11) (v := ?_) (a' := ?_) #[true, true, true, true, true, true, true, true, true, true, true, true, true, true, true, true, true, true, true] rfl rfl (any_of HT_.out (by kernel_rfl)) (fun _ _ _ h => h) (Or.inl ⟨by rfl, ?_⟩) ?_ ?_
                     rotate_left
                     ·intro w'
                      go_simp
                      with_reducible rfl
                     rotate_left
                     ·simp only [Act.put, List.setIfInBounds_toArray, List.set_cons_zero, List.set_cons_succ, i64_w, i32_w]
                      rfl
                     refine done_ (done_of HT_.out (by kernel_rfl)) ?_
                     try go_wp2_with (first | ((with_reducible refine gate_dst (N := 92) rfl ?_); refine Kd.R_lit (Kd.slice 52 k52) _ 34 ?hg (N := 92) ?hd (xs := ([] : List (List (S52)))) (inner := []) (ok := fun _ => True) (okp := fun _ => True) ?hr ?hp (fun _ hk => hk) trivial (Below.refl _ _) (Nat.le_refl _) (by simp) ?_; (case hd => rfl); (case hg => rfl); (case hr => first | (go_simp; done) | (go_simp; rfl)); (case hp => exact (Reps.none _ _)); intro v467 w109 ho110 hb hg_ hnew_; clear hg_ hnew_; (first | rw [← Ny466.out] at ho110 | (simp only [Int.reduceToNat] at ho110; rw [← Ny466.out] at ho110)); have n0_ := Aside0.mk (Kd.R_elder' (by (with_reducible repeat (first | apply Kd.R_alloc | apply Kd.R_drewN | apply Kd.R_drew)); exact HO_7.out) (Kd.R_base ho110) hb); have n1_ := Aside0.mk (Kd.R_below (by (with_reducible repeat (first | apply Kd.R_alloc | apply Kd.R_drewN | apply Kd.R_drew)); exact HL453_0.out) hb); have n2_ := Aside0.mk (Kd.R_below (by (with_reducible repeat (first | apply Kd.R_alloc | apply Kd.R_drewN | apply Kd.R_drew)); exact HL457_0.out) hb); have n3_ := Aside0.mk (Kd.R_below (by (with_reducible repeat (first | apply Kd.R_alloc | apply Kd.R_drewN | apply Kd.R_drew)); exact HO465.out) hb); have n4_ := Aside0.mk (Kd.R_lower (Kd.R_new' (Kd.R_new' (Kd.R_new' (Kd.R_new' ho110 (Kd.R_lt (by (with_reducible repeat (first | apply Kd.R_alloc | apply Kd.R_drewN | apply Kd.R_drew)); exact HO_7.out))) (Kd.R_lt (by (with_reducible repeat (first | apply Kd.R_alloc | apply Kd.R_drewN | apply Kd.R_drew)); exact HL453_0.out))) (Kd.R_lt (by (with_reducible repeat (first | apply Kd.R_alloc | apply Kd.R_drewN | apply Kd.R_drew)); exact HL457_0.out))) (Kd.R_lt (by (with_reducible repeat (first | apply Kd.R_alloc | apply Kd.R_drewN | apply Kd.R_drew)); exact HO465.out))) (keep_size (w := w) (g := g) (row := none) (by repeat (first | (with_reducible first | exact HK.out | apply KeepBut.set_ | apply keep_drewN | apply keep_drew | apply keep_alloc) | exact HK.out)))); have n5_ := Aside0.mk (IsS115.below (by repeat (first | (with_reducible first | exact HI0.out | apply IsS115.alloc | apply IsS115.drewN | apply IsS115.drew | apply IsS115.set_1) | exact HI0.out)) hb); have n6_ := Aside0.mk (KeepBut.trans (by repeat (first | (with_reducible first | exact HK.out | apply KeepBut.set_ | apply keep_drewN | apply keep_drew | apply keep_alloc) | exact HK.out)) (KeepBut.of_below hb g none) (.inl rfl)); have n7_ := Aside0.mk (below_step (by repeat (first | (with_reducible first | exact HB.out | apply below_alloc | apply pw_below_drewN | apply below_drew1 | refine below_set ?_ (IsS115.ge HI0.out)) | exact HB.out)) hb); clear HO_7; clear HL453_0; clear HL457_0; clear HO465; clear HI0; clear HK; clear HB; have HO_7 := n0_; have HL453_0 := n1_; have HL457_0 := n2_; have HO465 := n3_; have HO468 := n4_; have HI0 := n5_; have HK := n6_; have HB := n7_; clear n0_ n1_ n2_ n3_ n4_ n5_ n6_ n7_; clear hb ho110; have q111 : (t399 : Int) ≤ ((x7_2.length : Int) : Int) := of_decide_eq_true (by first | (with_reducible assumption) | assumption); obtain ⟨i0111, hi0111, _, hsz111, _⟩ := info_parts info34; have hroom111 : x7_2.length ≤ co100 := (Kd.R_reads' HO_7.out).2.1; have hC111 : Kd.C (Kd.slice 52 k52) _ (some ad453) x7_2.length x7_2 := (Kd.R_reads' HO_7.out).2.2; have hcut111 := cut_to (P := Try.prog) 116 34 .i64 Try.underlying116 hi0111 (some ad453) x7_2.length co100 t399 (of_decide_eq_true (by first | (with_reducible assumption) | assumption)) q111 hroom111; have hr111 := Kd.C_take (m := (t399 : Int).toNat) hC111 (by omega); have hy111 : y469.length = (t399 : Int).toNat := (by rw [Ny469.out, List.length_take]; omega); rw [← Ny469.out] at hr111; rw [← hy111] at hcut111; have HR472 := Aside0.mk hr111; have HC472 := Aside0.mk (show y469.length ≤ co100 from by omega); clear hr111 hC111 hroom111 hi0111 hsz111; have KY111 := Aside0.mk hy111; clear hy111; have KL111 := Aside0.mk (show (t399 : Int).toNat ≤ x7_2.length from by omega); replace q111 := eq_true q111) | ((with_reducible refine gate_builtin (b := .append) (xs := #[.tmp 92, .tmp 95]) rfl ?_); at_builtin; refine Kd.R_append_rows (Kd.slice 52 k52) w.heap.size rfl (.tmp 92) (.tmp 95) 116 34 (.slice none 0 0) 24 rfl Try.underlying116 info34 rfl (by decide) (by omega) v467 y466 y469 _ _ _ (fun k_ => some k_ ≠ (.slice (some ad453) x7_2.length co100 : Value).ownBlock ∧ some k_ ≠ (v464 : Value).ownBlock) (fun k_ => (((fun k_ => some k_ ≠ (v464 : Value).ownBlock)) k_ ∧ some k_ ≠ (.slice (some ad453) x7_2.length co100 : Value).ownBlock) ∧ some k_ ≠ (v467 : Value).ownBlock) rfl rfl ?aO ?aR (fun _ _ h_ => h_) (fun k_ hk => ⟨⟨hk.1.2, hk.1.1⟩, hk.2⟩) ?aF (Below.refl _ _) ?aS ?aL ?_; (case aR => exact (rowsTake (R_rowsT (Kd.R_mono (ok' := (fun k_ => some k_ ≠ (v464 : Value).ownBlock)) (HO_7.out) (fun k_ hk => hk.1.2)) (Kd.R_typed (by (with_reducible repeat (first | apply Kd.R_alloc | apply Kd.R_drewN | apply Kd.R_drew)); exact HO468.out)) (by decide)) Ny469.out)); (case aF => exact (fun k_ hk => ⟨Kd.fresh' (Kd.R_lt (by (with_reducible repeat (first | apply Kd.R_alloc | apply Kd.R_drewN | apply Kd.R_drew)); exact HO_7.out)) k_ hk, Kd.fresh' (Kd.R_lt (by (with_reducible repeat (first | apply Kd.R_alloc | apply Kd.R_drewN | apply Kd.R_drew)); exact HO465.out)) k_ hk⟩)); (case aO => exact (by (with_reducible repeat (first | apply Kd.R_alloc | apply Kd.R_drewN | apply Kd.R_drew)); exact Kd.R_mono HO468.out (fun _ hk => ⟨hk.1.1.1.2, hk.2⟩))); (case aS => exact (keep_size (w := w) (g := g) (row := none) (by repeat (first | (with_reducible first | exact HK.out | apply KeepBut.set_ | apply keep_drewN | apply keep_drew | apply keep_alloc) | exact HK.out)))); (case aL => have := LMc94.out; omega); intro v474 w112 ho hb hg hat; rw [← Ny473.out] at ho; have n0_ := Aside0.mk (Kd.R_after (ok := (fun k_ => some k_ ≠ (v464 : Value).ownBlock)) (by (with_reducible repeat (first | apply Kd.R_alloc | apply Kd.R_drewN | apply Kd.R_drew)); exact Kd.R_mono HO_7.out (fun _ hk => ⟨hk.1.2, hk.2⟩)) hg hat); have n1_ := Aside0.mk (IsS115.grown (by repeat (first | (with_reducible first | exact HI0.out | apply IsS115.alloc | apply IsS115.drewN | apply IsS115.drew | apply IsS115.set_1) | exact HI0.out)) hg (IsS115.own_ne HI0.out HO468.out (by decide))); have n2_ := Aside0.mk (Kd.R_over' (by (with_reducible repeat (first | apply Kd.R_alloc | apply Kd.R_drewN | apply Kd.R_drew)); exact HL453_0.out) (Kd.R_typed (by (with_reducible repeat (first | apply Kd.R_alloc | apply Kd.R_drewN | apply Kd.R_drew)); exact HO468.out)) (by decide) hg); have n3_ := Aside0.mk (Kd.R_over' (by (with_reducible repeat (first | apply Kd.R_alloc | apply Kd.R_drewN | apply Kd.R_drew)); exact HL457_0.out) (Kd.R_typed (by (with_reducible repeat (first | apply Kd.R_alloc | apply Kd.R_drewN | apply Kd.R_drew)); exact HO468.out)) (by decide) hg); have n4_ := Aside0.mk (Kd.R_over' (by (with_reducible repeat (first | apply Kd.R_alloc | apply Kd.R_drewN | apply Kd.R_drew)); exact HO465.out) (Kd.R_typed (by (with_reducible repeat (first | apply Kd.R_alloc | apply Kd.R_drewN | apply Kd.R_drew)); exact HO468.out)) (by decide) hg); have n5_ := Aside0.mk (below_weaken (by repeat (first | (with_reducible first | exact HB.out | apply below_alloc | apply pw_below_drewN | apply below_drew1 | refine below_set ?_ (IsS115.ge HI0.out)) | exact HB.out)) HL.out hb); have n6_ := Aside0.mk (KeepBut.trans (by repeat (first | (with_reducible first | exact HK.out | apply KeepBut.set_ | apply keep_drewN | apply keep_drew | apply keep_alloc) | exact HK.out)) (KeepBut.of_grown hg g) (Kd.R_base2 HO468.out)); have n7_ := Aside0.mk ((show Kd.C (Kd.slice 52 k52) w112 (some ad453) y469.length y469 from by rw [Ny469.out]; exact Kd.C_take (m := (t399 : Int).toNat) ((Kd.R_reads' (Kd.R_after (ok := (fun k_ => some k_ ≠ (v464 : Value).ownBlock)) (by (with_reducible repeat (first | apply Kd.R_alloc | apply Kd.R_drewN | apply Kd.R_drew)); exact Kd.R_mono HO_7.out (fun _ hk => ⟨hk.1.2, hk.2⟩)) hg hat)).2.2) KL111.out)); have n8_ := Aside0.mk (ho); clear HO_7; clear HI0; clear HL453_0; clear HL457_0; clear HO465; clear HB; clear HK; clear HR472; clear HO468; have HO_7 := n0_; have HI0 := n1_; have HL453_0 := n2_; have HL457_0 := n3_; have HO465 := n4_; have HB := n5_; have HK := n6_; have HR472 := n7_; have HO475 := n8_; clear n0_ n1_ n2_ n3_ n4_ n5_ n6_ n7_ n8_; clear ho hb hg hat; obtain ⟨Ao114, co114, eo114⟩ := Kd.R_slice HO465.out; subst eo114) | ((with_reducible refine gate_builtin (b := .append) (xs := #[.tmp 97, .tmp 99]) rfl ?_); at_builtin; refine Kd.R_append (Kd.slice 52 k52) w.heap.size rfl (.tmp 97) (.tmp 99) 116 34 (.slice none 0 0) 24 rfl Try.underlying116 info34 rfl (by decide) (by omega) v474 y473 y463 [.slice Ao114 y463.length co114] (fun k_ => some k_ ≠ (.slice (some ad453) x7_2.length co100 : Value).ownBlock) (fun k_ => ((fun k_ => some k_ ≠ (.slice (some ad453) x7_2.length co100 : Value).ownBlock)) k_ ∧ some k_ ≠ (v474 : Value).ownBlock) rfl rfl ?aP (fun _ hk => hk) ?aF ?aO (Below.refl _ _) ?aS ?aL ?_; (case aP => exact Kd.M_row (Kd.R_mono (Kd.R_apart' (Kd.R_apart' (HO465.out) (Kd.R_typed HO_7.out) (by decide)) (Kd.R_typed HO475.out) (by decide)) (fun k_ hk => ⟨hk.1.2, hk.2⟩))); (case aF => exact (fun k_ hk => Kd.fresh' (Kd.R_lt (by (with_reducible repeat (first | apply Kd.R_alloc | apply Kd.R_drewN | apply Kd.R_drew)); exact HO_7.out)) k_ hk)); (case aO => exact (by (with_reducible repeat (first | apply Kd.R_alloc | apply Kd.R_drewN | apply Kd.R_drew)); exact Kd.R_mono HO475.out (fun _ hk => hk.1))); (case aS => exact (keep_size (w := w) (g := g) (row := none) (by repeat (first | (with_reducible first | exact HK.out | apply KeepBut.set_ | apply keep_drewN | apply keep_drew | apply keep_alloc) | exact HK.out)))); (case aL => have := LMc95.out; omega); intro v477 w113 ho hb hg hat; rw [← Ny476.out] at ho; have n0_ := Aside0.mk (Kd.R_after (ok := (fun k_ => some k_ ≠ (.slice Ao114 y463.length co114 : Value).ownBlock)) (by (with_reducible repeat (first | apply Kd.R_alloc | apply Kd.R_drewN | apply Kd.R_drew)); exact HO_7.out) hg hat); have n1_ := Aside0.mk (IsS115.grown (by repeat (first | (with_reducible first | exact HI0.out | apply IsS115.alloc | apply IsS115.drewN | apply IsS115.drew | apply IsS115.set_1) | exact HI0.out)) hg (IsS115.own_ne HI0.out HO475.out (by decide))); have n2_ := Aside0.mk (Kd.R_over' (by (with_reducible repeat (first | apply Kd.R_alloc | apply Kd.R_drewN | apply Kd.R_drew)); exact HL453_0.out) (Kd.R_typed (by (with_reducible repeat (first | apply Kd.R_alloc | apply Kd.R_drewN | apply Kd.R_drew)); exact HO475.out)) (by decide) hg); have n3_ := Aside0.mk (Kd.R_over' (by (with_reducible repeat (first | apply Kd.R_alloc | apply Kd.R_drewN | apply Kd.R_drew)); exact HL457_0.out) (Kd.R_typed (by (with_reducible repeat (first | apply Kd.R_alloc | apply Kd.R_drewN | apply Kd.R_drew)); exact HO475.out)) (by decide) hg); have n4_ := Aside0.mk (below_weaken (by repeat (first | (with_reducible first | exact HB.out | apply below_alloc | apply pw_below_drewN | apply below_drew1 | refine below_set ?_ (IsS115.ge HI0.out)) | exact HB.out)) HL.out hb); have n5_ := Aside0.mk (KeepBut.trans (by repeat (first | (with_reducible first | exact HK.out | apply KeepBut.set_ | apply keep_drewN | apply keep_drew | apply keep_alloc) | exact HK.out)) (KeepBut.of_grown hg g) (Kd.R_base2 HO475.out)); have n6_ := Aside0.mk ((show Kd.C (Kd.slice 52 k52) w113 (some ad453) y469.length y469 from by rw [Ny469.out]; exact Kd.C_take (m := (t399 : Int).toNat) ((Kd.R_reads' (Kd.R_after (ok := (fun k_ => some k_ ≠ (.slice Ao114 y463.length co114 : Value).ownBlock)) (by (with_reducible repeat (first | apply Kd.R_alloc | apply Kd.R_drewN | apply Kd.R_drew)); exact HO_7.out) hg hat)).2.2) KL111.out)); have n7_ := Aside0.mk (ho); clear HO_7; clear HI0; clear HL453_0; clear HL457_0; clear HB; clear HK; clear HR472; clear HO475; clear HO465; have HO_7 := n0_; have HI0 := n1_; have HL453_0 := n2_; have HL457_0 := n3_; have HB := n4_; have HK := n5_; have HR472 := n6_; have HO478 := n7_; clear n0_ n1_ n2_ n3_ n4_ n5_ n6_ n7_; clear ho hb hg hat; have q115 : ((ji96) : Int) ≤ ((x7_2.length : Int) : Int) := of_decide_eq_true (by first | (with_reducible assumption) | assumption); obtain ⟨i0115, hi0115, _, hsz115, _⟩ := info_parts info34; have hroom115 : x7_2.length ≤ co100 := (Kd.R_reads' HO_7.out).2.1; have hC115 : Kd.C (Kd.slice 52 k52) _ (some ad453) x7_2.length x7_2 := (Kd.R_reads' HO_7.out).2.2; have q0115 : (0 : Int) ≤ ((ji96) : Int) := of_decide_eq_true (by first | (with_reducible assumption) | assumption); have hcut115 := cut_from (P := Try.prog) 116 34 .i64 Try.underlying116 hi0115 1 hsz115 (some ad453) x7_2.length co100 (ji96) q0115 q115; have hr115 := Kd.C_drop (m := ((ji96) : Int).toNat) (c := co100) hC115 (by omega) hroom115; obtain ⟨A115, hA115⟩ : ∃ A1, A1 = (if co100 = ((ji96) : Int).toNat then (some ad453) else ((some ad453) : Option Addr).map (·.add (((ji96) : Int).toNat * 1))) := ⟨_, rfl⟩; obtain ⟨c115, hc115⟩ : ∃ c1, c1 = co100 - ((ji96) : Int).toNat := ⟨_, rfl⟩; have hy115 : y479.length = x7_2.length - ((ji96) : Int).toNat := (by rw [Ny479.out, List.length_drop] <;> omega); rw [show (x7_2).drop ((ji96) : Int).toNat = y479 from Ny479.out.symm] at hr115; replace hr115 : Kd.C (Kd.slice 52 k52) _ A115 y479.length y479 := (by rw [hA115]; exact hr115); rw [← hy115, ← hA115, ← hc115] at hcut115; have HR482 := Aside0.mk hr115; have HC482 := Aside0.mk (show y479.length ≤ c115 from by rw [hy115, hc115]; exact Nat.sub_le_sub_right hroom115 _); clear hr115 hC115 hroom115 hi0115 hsz115 hc115; have KY115 := Aside0.mk hy115; have KA115 := Aside0.mk hA115; clear hy115 hA115; have KL115 := Aside0.mk (show ((ji96) : Int).toNat ≤ x7_2.length from by omega); replace q115 := eq_true q115) | ((with_reducible refine gate_builtin (b := .append) (xs := #[.tmp 101, .tmp 105]) rfl ?_); at_builtin; refine Kd.R_append_rows (Kd.slice 52 k52) w.heap.size rfl (.tmp 101) (.tmp 105) 116 34 (.slice none 0 0) 24 rfl Try.underlying116 info34 rfl (by decide) (by omega) v477 y476 y479 _ _ _ (fun k_ => some k_ ≠ (.slice (some ad453) x7_2.length co100 : Value).ownBlock) (fun k_ => (((fun _ => True)) k_ ∧ some k_ ≠ (.slice (some ad453) x7_2.length co100 : Value).ownBlock) ∧ some k_ ≠ (v477 : Value).ownBlock) rfl rfl ?aO ?aR (fun _ _ h_ => h_) (fun k_ hk => ⟨hk.1.2, hk.2⟩) ?aF (Below.refl _ _) ?aS ?aL ?_; (case aR => exact (rowsDrop (R_rowsT (Kd.R_mono (ok' := (fun _ => True)) (HO_7.out) (fun k_ hk => trivial)) (Kd.R_typed (by (with_reducible repeat (first | apply Kd.R_alloc | apply Kd.R_drewN | apply Kd.R_drew)); exact HO478.out)) (by decide)) (Kd.R_reads' (Kd.R_mono (ok' := (fun _ => True)) (HO_7.out) (fun k_ hk => trivial))).2.1 Ny479.out KA115.out)); (case aF => exact (fun k_ hk => Kd.fresh' (Kd.R_lt (by (with_reducible repeat (first | apply Kd.R_alloc | apply Kd.R_drewN | apply Kd.R_drew)); exact HO_7.out)) k_ hk)); (case aO => exact (by (with_reducible repeat (first | apply Kd.R_alloc | apply Kd.R_drewN | apply Kd.R_drew)); exact HO478.out)); (case aS => exact (keep_size (w := w) (g := g) (row := none) (by repeat (first | (with_reducible first | exact HK.out | apply KeepBut.set_ | apply keep_drewN | apply keep_drew | apply keep_alloc) | exact HK.out)))); (case aL => have := LMc99.out; omega); intro v484 w116 ho hb hg hat; rw [← Ny483.out] at ho; have n0_ := Aside0.mk (Kd.R_after (ok := (fun _ => True)) (by (with_reducible repeat (first | apply Kd.R_alloc | apply Kd.R_drewN | apply Kd.R_drew)); exact Kd.R_mono HO_7.out (fun _ hk => ⟨trivial, hk.2⟩)) hg hat); have n1_ := Aside0.mk (IsS115.grown (by repeat (first | (with_reducible first | exact HI0.out | apply IsS115.alloc | apply IsS115.drewN | apply IsS115.drew | apply IsS115.set_1) | exact HI0.out)) hg (IsS115.own_ne HI0.out HO478.out (by decide))); have n2_ := Aside0.mk (Kd.R_over' (by (with_reducible repeat (first | apply Kd.R_alloc | apply Kd.R_drewN | apply Kd.R_drew)); exact HL453_0.out) (Kd.R_typed (by (with_reducible repeat (first | apply Kd.R_alloc | apply Kd.R_drewN | apply Kd.R_drew)); exact HO478.out)) (by decide) hg); have n3_ := Aside0.mk (Kd.R_over' (by (with_reducible repeat (first | apply Kd.R_alloc | apply Kd.R_drewN | apply Kd.R_drew)); exact HL457_0.out) (Kd.R_typed (by (with_reducible repeat (first | apply Kd.R_alloc | apply Kd.R_drewN | apply Kd.R_drew)); exact HO478.out)) (by decide) hg); have n4_ := Aside0.mk (below_weaken (by repeat (first | (with_reducible first | exact HB.out | apply below_alloc | apply pw_below_drewN | apply below_drew1 | refine below_set ?_ (IsS115.ge HI0.out)) | exact HB.out)) HL.out hb); have n5_ := Aside0.mk (KeepBut.trans (by repeat (first | (with_reducible first | exact HK.out | apply KeepBut.set_ | apply keep_drewN | apply keep_drew | apply keep_alloc) | exact HK.out)) (KeepBut.of_grown hg g) (Kd.R_base2 HO478.out)); have n6_ := Aside0.mk ((show Kd.C (Kd.slice 52 k52) w116 (some ad453) y469.length y469 from by rw [Ny469.out]; exact Kd.C_take (m := (t399 : Int).toNat) ((Kd.R_reads' (Kd.R_after (ok := (fun _ => True)) (by (with_reducible repeat (first | apply Kd.R_alloc | apply Kd.R_drewN | apply Kd.R_drew)); exact Kd.R_mono HO_7.out (fun _ hk => ⟨trivial, hk.2⟩)) hg hat)).2.2) KL111.out)); have n7_ := Aside0.mk ((show Kd.C (Kd.slice 52 k52) w116 A115 y479.length y479 from by rw [Ny479.out, KA115.out]; exact Kd.C_drop (m := ((ji96) : Int).toNat) (c := co100) ((Kd.R_reads' (Kd.R_after (ok := (fun _ => True)) (by (with_reducible repeat (first | apply Kd.R_alloc | apply Kd.R_drewN | apply Kd.R_drew)); exact Kd.R_mono HO_7.out (fun _ hk => ⟨trivial, hk.2⟩)) hg hat)).2.2) KL115.out ((Kd.R_reads' (Kd.R_after (ok := (fun _ => True)) (by (with_reducible repeat (first | apply Kd.R_alloc | apply Kd.R_drewN | apply Kd.R_drew)); exact Kd.R_mono HO_7.out (fun _ hk => ⟨trivial, hk.2⟩)) hg hat)).2.1))); have n8_ := Aside0.mk (ho); clear HO_7; clear HI0; clear HL453_0; clear HL457_0; clear HB; clear HK; clear HR472; clear HR482; clear HO478; have HO_7 := n0_; have HI0 := n1_; have HL453_0 := n2_; have HL457_0 := n3_; have HB := n4_; have HK := n5_; have HR472 := n6_; have HR482 := n7_; have HO485 := n8_; clear n0_ n1_ n2_ n3_ n4_ n5_ n6_ n7_ n8_; clear ho hb hg hat))
                     go_roundg k2
                     case measure => have := HK1.out; have := HK2.out; omega
                     case rel => exact ⟨(y483), (x9_2), (t462), (by first | rfl | (simp; done) | (simp [*]; done)), H', ⟨by have := HK1.out; have := HK2.out; omega⟩, ⟨by (with_reducible repeat (first | apply Kd.R_alloc | apply Kd.R_drewN | apply Kd.R_drew)); exact Kd.R_mono HO485.out (fun _ hk => trivial)⟩, ⟨by repeat (first | (with_reducible first | exact HI0.out | apply IsS115.alloc | apply IsS115.drewN | apply IsS115.drew | apply IsS115.set_1) | exact HI0.out)⟩, ⟨by repeat (first | (with_reducible first | exact HK.out | apply KeepBut.set_ | apply keep_drewN | apply keep_drew | apply keep_alloc) | exact HK.out)⟩, ⟨by repeat (first | (with_reducible first | exact HB.out | apply below_alloc | apply pw_below_drewN | apply below_drew1 | refine below_set ?_ (IsS115.ge HI0.out)) | exact HB.out)⟩⟩
                    ·rw [if_neg c99] at H
                     exact absurd H (by simp)
                   ·rw [if_neg c98] at H
                    exact absurd H (by simp)
                  ·rw [if_neg c97] at H
                   exact absurd H (by simp)
                 ·rw [if_neg c95] at H
                  exact absurd H (by simp)
                ·rw [if_neg c94] at H
                 exact absurd H (by simp)
               ·rw [if_neg c93] at H
                exact absurd H (by simp)
              ·rw [if_neg c91] at H
               exact absurd H (by simp)
             ·rw [if_neg c89] at H
              exact absurd H (by simp)
            ·rw [if_neg c88] at H
             exact absurd H (by simp)
           ·rw [if_neg c87] at H
            exact absurd H (by simp)
          ·rw [if_neg c85] at H
           exact absurd H (by simp)
         ·rw [if_neg c84] at H
          exact absurd H (by simp)
        ·rw [if_neg c83] at H
         exact absurd H (by simp)
      ·rw [if_neg c29] at H
       have c29b0 : decide (1 < (x7_2.length : Int)) = false := decide_eq_false c29
       have c29b1 : decide (1 < x7_2.length) = false := decide_eq_false (by omega)
       clear c29
       by_cases c117 : 0 < (x7_2.length : Int)
       ·rw [if_pos c117] at H
        have c117b0 : decide (0 < (x7_2.length : Int)) = true := decide_eq_true c117
        have c117b1 : decide (0 < x7_2.length) = true := decide_eq_true (by omega)
        clear c117
        replace H := Option.bind_eq_some_iff.mp H
        obtain ⟨⟨t488, t489⟩, A1180, H⟩ := H
        replace H : (if t488 = 0 then (if (rd_L5 x7_2 0).length < 8796093022208 then (spec_l20Term.j2 k2 a2 ((rd_L5 x7_2 0) ++ [(⟨2, 0⟩ : S52)]) s0_0 t489) else (none)) else (spec_l20Term.j2 k2 a2 (rd_L5 x7_2 0) s0_0 t489)) = some (r1, r2) := H
        have A118 := Aside0.mk A1180
        clear A1180
        have HC119 := Aside0.mk H
        clear H
        obtain ⟨Ao120, co120, eo120⟩ := Kd.R_slice HO_7.out
        subst eo120
        have p486 : 0 ≤ (0 : Int) := (by omega)
        have q486 : 0 < (x7_2.length : Int) := of_decide_eq_true (by first | (with_reducible assumption) | assumption)
        obtain ⟨ad486, A486_0, c486_0, e486, hx486_0, hl486_0, hi486_0⟩ := at_L5 (Kd.R_reads' HO_7.out).2.2 0 p486 q486
        cases e486
        obtain ⟨ce486, hce486, hMe486, hcc486⟩ := Kd.R_get HO_7.out [] 0 p486 (by first | exact q486 | exact of_decide_eq_true (by first | (with_reducible assumption) | assumption) | (have e_ := (Kd.R_reads' HO_7.out).1; omega))
        obtain ⟨ve486_0, rfl, ge486_0⟩ := hMe486
        have hv486_0 := hcc486 0 _ rfl
        rw [Nat.add_zero, show ((Kd.slice 52 k52)).sz = 1 from rfl, Nat.mul_one] at hv486_0
        replace hv486_0 := Option.some.inj (hv486_0.symm.trans hx486_0)
        rw [hv486_0] at ge486_0
        have HL486_0 := Aside0.mk (show Kd.R k52 52 _ _ _ _ (rd_L5 x7_2 0) from ge486_0)
        clear hv486_0 ge486_0
        clear hcc486 hce486
        have qi486 : (0 < x7_2.length) = True := eq_true (by omega)
        (try rw [show ((0 : Int)).toNat = 0 from rfl] at hx486_0)
        (try rw [Addr.add_zero'] at hx486_0)
        have HR486_0 := Aside0.mk hi486_0
        have HC486_0 := Aside0.mk hl486_0
        clear hi486_0 hl486_0
        replace p486 := eq_true p486
        replace q486 := eq_true q486
        have HO487 := Aside0.mk (Kd.R_mono (ok' := (fun _ => True)) HL486_0.out (fun k_ hk => trivial))
        clear HO_7
        go_upto_if 112 with (first | ((with_reducible refine gate_callee (f := 116) rfl ?_); refine goesL_ (some 111) rfl rfl Try.func116 (by kernel_rfl) rfl #[.pointer (some ⟨g, 0, none⟩), .int .i64 5] rfl (by (try simp only [List.map_toArray, List.map_cons, List.map_nil]); first | done | rfl | (simp only [List.length_drop, List.length_take]; rfl)) ?_; (with_reducible refine (spec_l20Rd_pick.calls k2 g s0_0 x1001_2 5 t488 t489 w0 _ ?side1 ?side2 A118.out).mono ?_); (case side1 => repeat (first | (with_reducible first | exact HI0.out | apply IsS115.alloc | apply IsS115.drewN | apply IsS115.drew | apply IsS115.set_1) | exact HI0.out)); (case side2 => repeat (first | (with_reducible first | exact HB.out | apply below_alloc | apply pw_below_drewN | apply below_drew1 | refine below_set ?_ (IsS115.ge HI0.out)) | exact HB.out)); rintro e w121 ⟨rfl, hi, hb, hk⟩; refine ⟨_, rfl, ?_⟩; have n0_ := Aside0.mk (Kd.R_mono (Kd.R_keep (IsS115.apart (show IsS115 w0 _ g s0_0 x1001_2 from by repeat (first | (with_reducible first | exact HI0.out | apply IsS115.alloc | apply IsS115.drewN | apply IsS115.drew | apply IsS115.set_1) | exact HI0.out)) (by (with_reducible repeat (first | apply Kd.R_alloc | apply Kd.R_drewN | apply Kd.R_drew)); exact HO487.out) (by decide)) hk (fun _ h => h.2)) (fun _ h => h.1)); have n1_ := Aside0.mk (KeepBut.trans (by repeat (first | (with_reducible first | exact HK.out | apply KeepBut.set_ | apply keep_drewN | apply keep_drew | apply keep_alloc) | exact HK.out)) hk (.inl rfl)); have n2_ := Aside0.mk (hb); have n3_ := Aside0.mk (hi); clear HO487; clear HK; clear HB; clear HI0; have HO487 := n0_; have HK := n1_; have HB := n2_; have HI0 := n3_; clear n0_ n1_ n2_ n3_; (try clear hb); (try clear hb2); (try clear hk); (try clear hi)))
        (try simp only [Act.put, List.setIfInBounds_toArray, List.set_cons_zero, List.set_cons_succ])
        go_cut [13] (fun v13 wc => ∃ (kq : Nat) (x13_118 : List (S52)), Aside0 (spec_l20Term.j2 kq a2 x13_118 s0_0 t489 = some (r1, r2)) ∧ Aside0 (kq ≤ k2) ∧ Aside0 (Kd.R k52 52 wc w.heap.size (fun _ => True) v13 x13_118) ∧ Aside0 (IsS115 w0 wc g s0_0 t489) ∧ Aside0 (KeepBut w wc g none) ∧ Aside0 (Below w0.heap.size w0 wc))
        case first =>
         have H := HC119.out
         clear HC119
         by_cases c122 : t488 = 0
         ·rw [if_pos c122] at H
          have c122b0 : (t488 == 0) = true := beq_iff_eq.mpr c122
          have c122b1 : (t488 != 0) = false := bne_eq_false_iff_eq.mpr c122
          clear c122
          (first | rw [c122b0] | (simp only [i64_w, i32_w]; rw [c122b0]) | skip)
          by_cases c123 : (rd_L5 x7_2 0).length < 8796093022208
          ·rw [if_pos c123] at H
           have LMc123 := Aside0.mk c123
           clear c123
           obtain ⟨y490, hy490⟩ : ∃ y_ : List (S52), y_ = ((rd_L5 x7_2 0) ++ [(⟨2, 0⟩ : S52)]) := ⟨_, rfl⟩
           replace H : (spec_l20Term.j2 k2 a2 y490 s0_0 t489) = some (r1, r2) := by first | (rw [hy490]; with_reducible exact H) | (have H2_ := (Option.bind_some _ _).symm.trans H; rw [hy490]; with_reducible exact H2_) | (have H2_ := (Option.bind_some _ _).symm.trans H; with_reducible exact H2_) | with_reducible exact H | (rw [hy490]; exact H) | exact H
           have Ny490 := Aside0.mk hy490
           clear hy490
           have H' := Aside0.mk H
           clear H
           go_wp2_with (first | ((with_reducible refine gate_builtin (b := .append) (xs := #[.tmp 113, .tmp 115]) rfl ?_); at_builtin; refine Kd.R_append k52 w.heap.size rfl (.tmp 113) (.tmp 115) 34 52 (.agg #[(.int .i64 0), (.int .i64 0)]) 16 rfl Try.underlying34 info52 rfl (by decide) (by omega) (.slice A486_0 (rd_L5 x7_2 0).length c486_0) (rd_L5 x7_2 0) (⟨2, 0⟩ : S52) [.int .i64 2, .int .i64 0] (fun _ => True) (fun _ => False) rfl rfl ?aP (fun _ hk => hk.elim) ?aF ?aO (Below.refl _ _) ?aS ?aL ?_; (case aP => exact k52_mkM _ _ _ (⟨2, 0⟩ : S52)); (case aF => exact (fun _ _ => trivial)); (case aO => exact (by (with_reducible repeat (first | apply Kd.R_alloc | apply Kd.R_drewN | apply Kd.R_drew)); exact HO487.out)); (case aS => exact (keep_size (w := w) (g := g) (row := none) (by repeat (first | (with_reducible first | exact HK.out | apply KeepBut.set_ | apply keep_drewN | apply keep_drew | apply keep_alloc) | exact HK.out)))); (case aL => have := LMc123.out; omega); intro v491 w124 ho hb hg hat; rw [← Ny490.out] at ho; have n0_ := Aside0.mk (IsS115.grown (by repeat (first | (with_reducible first | exact HI0.out | apply IsS115.alloc | apply IsS115.drewN | apply IsS115.drew | apply IsS115.set_1) | exact HI0.out)) hg (IsS115.own_ne HI0.out HO487.out (by decide))); have n1_ := Aside0.mk (below_weaken (by repeat (first | (with_reducible first | exact HB.out | apply below_alloc | apply pw_below_drewN | apply below_drew1 | refine below_set ?_ (IsS115.ge HI0.out)) | exact HB.out)) HL.out hb); have n2_ := Aside0.mk (KeepBut.trans (by repeat (first | (with_reducible first | exact HK.out | apply KeepBut.set_ | apply keep_drewN | apply keep_drew | apply keep_alloc) | exact HK.out)) (KeepBut.of_grown hg g) (Kd.R_base2 HO487.out)); have n3_ := Aside0.mk (ho); clear HI0; clear HB; clear HK; clear HO487; have HI0 := n0_; have HB := n1_; have HK := n2_; have HO492 := n3_; clear n0_ n1_ n2_ n3_; clear ho hb hg hat))
           go_meet
           case rel => exact ⟨_, (y490), H', ⟨by have := HK1.out; have := HK2.out; first | omega | exact Nat.le_refl _⟩, ⟨by (with_reducible repeat (first | apply Kd.R_alloc | apply Kd.R_drewN | apply Kd.R_drew)); exact HO492.out⟩, ⟨by repeat (first | (with_reducible first | exact HI0.out | apply IsS115.alloc | apply IsS115.drewN | apply IsS115.drew | apply IsS115.set_1) | exact HI0.out)⟩, ⟨by repeat (first | (with_reducible first | exact HK.out | apply KeepBut.set_ | apply keep_drewN | apply keep_drew | apply keep_alloc) | exact HK.out)⟩, ⟨by repeat (first | (with_reducible first | exact HB.out | apply below_alloc | apply pw_below_drewN | apply below_drew1 | refine below_set ?_ (IsS115.ge HI0.out)) | exact HB.out)⟩⟩
          ·rw [if_neg c123] at H
           exact absurd H (by simp)
         ·rw [if_neg c122] at H
          have c122b0 : (t488 == 0) = false := beq_eq_false_iff_ne.mpr c122
          have c122b1 : (t488 != 0) = true := bne_iff_ne.mpr c122
          (first | rw [c122b0] | (simp only [i64_w, i32_w]; rw [c122b0]) | skip)
          have H' := Aside0.mk H
          clear H
          go_wp2
          go_meet
          case rel => exact ⟨_, (rd_L5 x7_2 0), H', ⟨by have := HK1.out; have := HK2.out; first | omega | exact Nat.le_refl _⟩, ⟨by (with_reducible repeat (first | apply Kd.R_alloc | apply Kd.R_drewN | apply Kd.R_drew)); exact HO487.out⟩, ⟨by repeat (first | (with_reducible first | exact HI0.out | apply IsS115.alloc | apply IsS115.drewN | apply IsS115.drew | apply IsS115.set_1) | exact HI0.out)⟩, ⟨by repeat (first | (with_reducible first | exact HK.out | apply KeepBut.set_ | apply keep_drewN | apply keep_drew | apply keep_alloc) | exact HK.out)⟩, ⟨by repeat (first | (with_reducible first | exact HB.out | apply below_alloc | apply pw_below_drewN | apply below_drew1 | refine below_set ?_ (IsS115.ge HI0.out)) | exact HB.out)⟩⟩
        case rest =>
         clear HC119
         try clear c1
         try clear q1
         try clear c2
         try clear p2
         try clear c3
         try clear c4
         try clear p4
         try clear q4
         try clear hx4
         try clear qi4
         try clear p6
         try clear c8
         try clear c9
         try clear c11
         try clear q11
         try clear c12
         try clear c29
         try clear c29b0
         try clear c29b1
         try clear c31
         try clear c45
         try clear p45
         try clear q45
         try clear hx45
         try clear c48
         try clear p48
         try clear q48
         try clear hx48
         try clear qi48
         try clear p64
         try clear c83
         try clear c83b0
         try clear c84
         try clear c84b0
         try clear c85
         try clear c87
         try clear c87b0
         try clear c88
         try clear c88b0
         try clear c89
         try clear c91
         try clear c92
         try clear c92b0
         try clear c93
         try clear c93b0
         try clear c93b1
         try clear c94
         try clear c95
         try clear c97
         try clear c97b0
         try clear c97b1
         try clear c98
         try clear c98b0
         try clear c98b1
         try clear c99
         try clear q111
         try clear c115
         try clear q115
         try clear c116
         try clear c117
         try clear c117b0
         try clear c117b1
         try clear c122
         try clear c122b0
         try clear c122b1
         try clear c123
         try clear hx453_0
         try clear hx457_0
         try clear hx486_0
         try clear p453
         try clear p457
         try clear p486
         try clear q0115
         try clear q111
         try clear q115
         try clear q453
         try clear q457
         try clear q486
         obtain ⟨kq, x13_118, HA, HJ118, HO_13, HI0, HK, HB⟩ := hcut
         cases kq with
         | zero => exact absurd HA.out (by simp [spec_l20Term.j2])
         | succ kj118 =>
          have H := HA.out
          clear HA
          simp only [spec_l20Term.j2] at H
          replace H := Option.bind_eq_some_iff.mp H
          obtain ⟨⟨t493, t494⟩, A1250, H⟩ := H
          replace H : (if t493 = true then ((spec_l20Rd_pick.f kj118 s0_0 t494 3).bind fun bt495 => (if bt495.1 = 0 then (some ((([] : List (S52))), bt495.2)) else (if bt495.1 = 1 then (if x13_118.length < 8796093022208 then (some ((x13_118 ++ [(⟨5, 0⟩ : S52)]), bt495.2)) else (none)) else ((spec_l20Rd_pick.f kj118 s0_0 bt495.2 2).bind fun bt503 => (if 0 < (x13_118.length : Int) then (some ((x13_118.set (0 : Int).toNat (⟨bt503.1, 6⟩ : S52)), bt503.2)) else (none)))))) else (some (x13_118, t494))) = some (r1, r2) := H
          have A125 := Aside0.mk A1250
          clear A1250
          by_cases c126 : t493 = true
          ·subst c126
           have H1 : ((spec_l20Rd_pick.f kj118 s0_0 t494 3).bind fun bt495 => (if bt495.1 = 0 then (some ((([] : List (S52))), bt495.2)) else (if bt495.1 = 1 then (if x13_118.length < 8796093022208 then (some ((x13_118 ++ [(⟨5, 0⟩ : S52)]), bt495.2)) else (none)) else ((spec_l20Rd_pick.f kj118 s0_0 bt495.2 2).bind fun bt503 => (if 0 < (x13_118.length : Int) then (some ((x13_118.set (0 : Int).toNat (⟨bt503.1, 6⟩ : S52)), bt503.2)) else (none)))))) = some (r1, r2) := by rw [if_pos rfl] at H; exact H
           clear H
           have H := H1
           clear H1
           replace H := Option.bind_eq_some_iff.mp H
           obtain ⟨⟨t495, t496⟩, A1270, H⟩ := H
           replace H : (if t495 = 0 then (some ((([] : List (S52))), t496)) else (if t495 = 1 then (if x13_118.length < 8796093022208 then (some ((x13_118 ++ [(⟨5, 0⟩ : S52)]), t496)) else (none)) else ((spec_l20Rd_pick.f kj118 s0_0 t496 2).bind fun bt503 => (if 0 < (x13_118.length : Int) then (some ((x13_118.set (0 : Int).toNat (⟨bt503.1, 6⟩ : S52)), bt503.2)) else (none))))) = some (r1, r2) := H
           have A127 := Aside0.mk A1270
           clear A1270
           by_cases c128 : t495 = 0
           ·rw [if_pos c128] at H
            have c128b0 : (t495 == 0) = true := beq_iff_eq.mpr c128
            have c128b1 : (t495 != 0) = false := bne_eq_false_iff_eq.mpr c128
            clear c128
            obtain ⟨y497, hy497⟩ : ∃ y_ : List (S52), y_ = (([] : List (S52))) := ⟨_, rfl⟩
            replace H : (some (y497, t496)) = some (r1, r2) := by first | (rw [hy497]; with_reducible exact H) | (have H2_ := (Option.bind_some _ _).symm.trans H; rw [hy497]; with_reducible exact H2_) | (have H2_ := (Option.bind_some _ _).symm.trans H; with_reducible exact H2_) | with_reducible exact H | (rw [hy497]; exact H) | exact H
            have Ny497 := Aside0.mk hy497
            clear hy497
            simp only [Option.some.injEq, Prod.mk.injEq] at H
            obtain ⟨rfl, rfl⟩ := H
            go_wp2_with (first | ((with_reducible refine gate_callee (f := 132) rfl ?_); refine goesL_ (some 119) rfl rfl Try.func132 (by kernel_rfl) rfl #[.pointer (some ⟨g, 0, none⟩), .int .i64 a2] rfl (by (try simp only [List.map_toArray, List.map_cons, List.map_nil]); first | done | rfl | (simp only [List.length_drop, List.length_take]; rfl)) ?_; (with_reducible refine (spec_l20Rd_odd.calls kj118 g s0_0 t489 a2 true t494 w0 _ ?side1 ?side2 A125.out).mono ?_); (case side1 => repeat (first | (with_reducible first | exact HI0.out | apply IsS115.alloc | apply IsS115.drewN | apply IsS115.drew | apply IsS115.set_1) | exact HI0.out)); (case side2 => repeat (first | (with_reducible first | exact HB.out | apply below_alloc | apply pw_below_drewN | apply below_drew1 | refine below_set ?_ (IsS115.ge HI0.out)) | exact HB.out)); rintro e w129 ⟨rfl, hi, hb, hk⟩; refine ⟨_, rfl, ?_⟩; have n0_ := Aside0.mk (Kd.R_mono (Kd.R_keep (IsS115.apart (show IsS115 w0 _ g s0_0 t489 from by repeat (first | (with_reducible first | exact HI0.out | apply IsS115.alloc | apply IsS115.drewN | apply IsS115.drew | apply IsS115.set_1) | exact HI0.out)) (by (with_reducible repeat (first | apply Kd.R_alloc | apply Kd.R_drewN | apply Kd.R_drew)); exact HO_13.out) (by decide)) hk (fun _ h => h.2)) (fun _ h => h.1)); have n1_ := Aside0.mk (KeepBut.trans (by repeat (first | (with_reducible first | exact HK.out | apply KeepBut.set_ | apply keep_drewN | apply keep_drew | apply keep_alloc) | exact HK.out)) hk (.inl rfl)); have n2_ := Aside0.mk (hb); have n3_ := Aside0.mk (hi); clear HO_13; clear HK; clear HB; clear HI0; have HO_13 := n0_; have HK := n1_; have HB := n2_; have HI0 := n3_; clear n0_ n1_ n2_ n3_; (try clear hb); (try clear hb2); (try clear hk); (try clear hi)) | ((with_reducible refine gate_callee (f := 116) rfl ?_); refine goesL_ (some 121) rfl rfl Try.func116 (by kernel_rfl) rfl #[.pointer (some ⟨g, 0, none⟩), .int .i64 3] rfl (by (try simp only [List.map_toArray, List.map_cons, List.map_nil]); first | done | rfl | (simp only [List.length_drop, List.length_take]; rfl)) ?_; (with_reducible refine (spec_l20Rd_pick.calls kj118 g s0_0 t494 3 t495 t496 w0 _ ?side1 ?side2 A127.out).mono ?_); (case side1 => repeat (first | (with_reducible first | exact HI0.out | apply IsS115.alloc | apply IsS115.drewN | apply IsS115.drew | apply IsS115.set_1) | exact HI0.out)); (case side2 => repeat (first | (with_reducible first | exact HB.out | apply below_alloc | apply pw_below_drewN | apply below_drew1 | refine below_set ?_ (IsS115.ge HI0.out)) | exact HB.out)); rintro e w130 ⟨rfl, hi, hb, hk⟩; refine ⟨_, rfl, ?_⟩; have n0_ := Aside0.mk (Kd.R_mono (Kd.R_keep (IsS115.apart (show IsS115 w0 _ g s0_0 t494 from by repeat (first | (with_reducible first | exact HI0.out | apply IsS115.alloc | apply IsS115.drewN | apply IsS115.drew | apply IsS115.set_1) | exact HI0.out)) (by (with_reducible repeat (first | apply Kd.R_alloc | apply Kd.R_drewN | apply Kd.R_drew)); exact HO_13.out) (by decide)) hk (fun _ h => h.2)) (fun _ h => h.1)); have n1_ := Aside0.mk (KeepBut.trans (by repeat (first | (with_reducible first | exact HK.out | apply KeepBut.set_ | apply keep_drewN | apply keep_drew | apply keep_alloc) | exact HK.out)) hk (.inl rfl)); have n2_ := Aside0.mk (hb); have n3_ := Aside0.mk (hi); clear HO_13; clear HK; clear HB; clear HI0; have HO_13 := n0_; have HK := n1_; have HB := n2_; have HI0 := n3_; clear n0_ n1_ n2_ n3_; (try clear hb); (try clear hb2); (try clear hk); (try clear hi)) | ((with_reducible refine gate_dst (N := 129) rfl ?_); refine Kd.R_lit k52 _ 52 ?hg (N := 129) ?hd (xs := ([] : List (S52))) (inner := []) (ok := fun _ => True) (okp := fun _ => True) ?hr ?hp (fun _ hk => hk) trivial (Below.refl _ _) (Nat.le_refl _) (by simp) ?_; (case hd => rfl); (case hg => rfl); (case hr => first | (go_simp; done) | (go_simp; rfl)); (case hp => exact (Reps.none _ _)); intro v498 w131 ho132 hb hg_ hnew_; clear hg_ hnew_; (first | rw [← Ny497.out] at ho132 | (simp only [Int.reduceToNat] at ho132; rw [← Ny497.out] at ho132)); have n0_ := Aside0.mk (Kd.R_elder' (by (with_reducible repeat (first | apply Kd.R_alloc | apply Kd.R_drewN | apply Kd.R_drew)); exact HO_13.out) (Kd.R_base ho132) hb); have n1_ := Aside0.mk (Kd.R_lower (Kd.R_new' ho132 (Kd.R_lt (by (with_reducible repeat (first | apply Kd.R_alloc | apply Kd.R_drewN | apply Kd.R_drew)); exact HO_13.out))) (keep_size (w := w) (g := g) (row := none) (by repeat (first | (with_reducible first | exact HK.out | apply KeepBut.set_ | apply keep_drewN | apply keep_drew | apply keep_alloc) | exact HK.out)))); have n2_ := Aside0.mk (IsS115.below (by repeat (first | (with_reducible first | exact HI0.out | apply IsS115.alloc | apply IsS115.drewN | apply IsS115.drew | apply IsS115.set_1) | exact HI0.out)) hb); have n3_ := Aside0.mk (KeepBut.trans (by repeat (first | (with_reducible first | exact HK.out | apply KeepBut.set_ | apply keep_drewN | apply keep_drew | apply keep_alloc) | exact HK.out)) (KeepBut.of_below hb g none) (.inl rfl)); have n4_ := Aside0.mk (below_step (by repeat (first | (with_reducible first | exact HB.out | apply below_alloc | apply pw_below_drewN | apply below_drew1 | refine below_set ?_ (IsS115.ge HI0.out)) | exact HB.out)) hb); clear HO_13; clear HI0; clear HK; clear HB; have HO_13 := n0_; have HO499 := n1_; have HI0 := n2_; have HK := n3_; have HB := n4_; clear n0_ n1_ n2_ n3_ n4_; clear hb ho132))
            go_ret
            exact ⟨_, by first | rfl | (simp [errW_none, errW_some] <;> rfl) | (simp only [← hji4, ← hji5]; first | rfl | (simp [errW_none, errW_some] <;> rfl)) | (simp [*, errW_none, errW_some] <;> rfl), by (with_reducible repeat (first | apply Kd.R_alloc | apply Kd.R_drewN | apply Kd.R_drew)); exact Kd.R_mono HO499.out (fun _ hk => trivial), by repeat (first | (with_reducible first | exact HI0.out | apply IsS115.alloc | apply IsS115.drewN | apply IsS115.drew | apply IsS115.set_1) | exact HI0.out), by repeat (first | (with_reducible first | exact HB.out | apply below_alloc | apply pw_below_drewN | apply below_drew1 | refine below_set ?_ (IsS115.ge HI0.out)) | exact HB.out), by repeat (first | (with_reducible first | exact HK.out | apply KeepBut.set_ | apply keep_drewN | apply keep_drew | apply keep_alloc) | exact HK.out)⟩
           ·rw [if_neg c128] at H
            have c128b0 : (t495 == 0) = false := beq_eq_false_iff_ne.mpr c128
            have c128b1 : (t495 != 0) = true := bne_iff_ne.mpr c128
            by_cases c133 : t495 = 1
            ·rw [if_pos c133] at H
             have c133b0 : (t495 == 1) = true := beq_iff_eq.mpr c133
             have c133b1 : (t495 != 1) = false := bne_eq_false_iff_eq.mpr c133
             clear c133
             by_cases c134 : x13_118.length < 8796093022208
             ·rw [if_pos c134] at H
              have LMc134 := Aside0.mk c134
              clear c134
              obtain ⟨y500, hy500⟩ : ∃ y_ : List (S52), y_ = (x13_118 ++ [(⟨5, 0⟩ : S52)]) := ⟨_, rfl⟩
              replace H : (some (y500, t496)) = some (r1, r2) := by first | (rw [hy500]; with_reducible exact H) | (have H2_ := (Option.bind_some _ _).symm.trans H; rw [hy500]; with_reducible exact H2_) | (have H2_ := (Option.bind_some _ _).symm.trans H; with_reducible exact H2_) | with_reducible exact H | (rw [hy500]; exact H) | exact H
              have Ny500 := Aside0.mk hy500
              clear hy500
              simp only [Option.some.injEq, Prod.mk.injEq] at H
              obtain ⟨rfl, rfl⟩ := H
              go_wp2_with (first | ((with_reducible refine gate_callee (f := 132) rfl ?_); refine goesL_ (some 119) rfl rfl Try.func132 (by kernel_rfl) rfl #[.pointer (some ⟨g, 0, none⟩), .int .i64 a2] rfl (by (try simp only [List.map_toArray, List.map_cons, List.map_nil]); first | done | rfl | (simp only [List.length_drop, List.length_take]; rfl)) ?_; (with_reducible refine (spec_l20Rd_odd.calls kj118 g s0_0 t489 a2 true t494 w0 _ ?side1 ?side2 A125.out).mono ?_); (case side1 => repeat (first | (with_reducible first | exact HI0.out | apply IsS115.alloc | apply IsS115.drewN | apply IsS115.drew | apply IsS115.set_1) | exact HI0.out)); (case side2 => repeat (first | (with_reducible first | exact HB.out | apply below_alloc | apply pw_below_drewN | apply below_drew1 | refine below_set ?_ (IsS115.ge HI0.out)) | exact HB.out)); rintro e w135 ⟨rfl, hi, hb, hk⟩; refine ⟨_, rfl, ?_⟩; have n0_ := Aside0.mk (Kd.R_mono (Kd.R_keep (IsS115.apart (show IsS115 w0 _ g s0_0 t489 from by repeat (first | (with_reducible first | exact HI0.out | apply IsS115.alloc | apply IsS115.drewN | apply IsS115.drew | apply IsS115.set_1) | exact HI0.out)) (by (with_reducible repeat (first | apply Kd.R_alloc | apply Kd.R_drewN | apply Kd.R_drew)); exact HO_13.out) (by decide)) hk (fun _ h => h.2)) (fun _ h => h.1)); have n1_ := Aside0.mk (KeepBut.trans (by repeat (first | (with_reducible first | exact HK.out | apply KeepBut.set_ | apply keep_drewN | apply keep_drew | apply keep_alloc) | exact HK.out)) hk (.inl rfl)); have n2_ := Aside0.mk (hb); have n3_ := Aside0.mk (hi); clear HO_13; clear HK; clear HB; clear HI0; have HO_13 := n0_; have HK := n1_; have HB := n2_; have HI0 := n3_; clear n0_ n1_ n2_ n3_; (try clear hb); (try clear hb2); (try clear hk); (try clear hi)) | ((with_reducible refine gate_callee (f := 116) rfl ?_); refine goesL_ (some 121) rfl rfl Try.func116 (by kernel_rfl) rfl #[.pointer (some ⟨g, 0, none⟩), .int .i64 3] rfl (by (try simp only [List.map_toArray, List.map_cons, List.map_nil]); first | done | rfl | (simp only [List.length_drop, List.length_take]; rfl)) ?_; (with_reducible refine (spec_l20Rd_pick.calls kj118 g s0_0 t494 3 t495 t496 w0 _ ?side1 ?side2 A127.out).mono ?_); (case side1 => repeat (first | (with_reducible first | exact HI0.out | apply IsS115.alloc | apply IsS115.drewN | apply IsS115.drew | apply IsS115.set_1) | exact HI0.out)); (case side2 => repeat (first | (with_reducible first | exact HB.out | apply below_alloc | apply pw_below_drewN | apply below_drew1 | refine below_set ?_ (IsS115.ge HI0.out)) | exact HB.out)); rintro e w136 ⟨rfl, hi, hb, hk⟩; refine ⟨_, rfl, ?_⟩; have n0_ := Aside0.mk (Kd.R_mono (Kd.R_keep (IsS115.apart (show IsS115 w0 _ g s0_0 t494 from by repeat (first | (with_reducible first | exact HI0.out | apply IsS115.alloc | apply IsS115.drewN | apply IsS115.drew | apply IsS115.set_1) | exact HI0.out)) (by (with_reducible repeat (first | apply Kd.R_alloc | apply Kd.R_drewN | apply Kd.R_drew)); exact HO_13.out) (by decide)) hk (fun _ h => h.2)) (fun _ h => h.1)); have n1_ := Aside0.mk (KeepBut.trans (by repeat (first | (with_reducible first | exact HK.out | apply KeepBut.set_ | apply keep_drewN | apply keep_drew | apply keep_alloc) | exact HK.out)) hk (.inl rfl)); have n2_ := Aside0.mk (hb); have n3_ := Aside0.mk (hi); clear HO_13; clear HK; clear HB; clear HI0; have HO_13 := n0_; have HK := n1_; have HB := n2_; have HI0 := n3_; clear n0_ n1_ n2_ n3_; (try clear hb); (try clear hb2); (try clear hk); (try clear hi)) | ((with_reducible refine gate_builtin (b := .append) (xs := #[.tmp 132, .tmp 134]) rfl ?_); at_builtin; refine Kd.R_append k52 w.heap.size rfl (.tmp 132) (.tmp 134) 34 52 (.agg #[(.int .i64 0), (.int .i64 0)]) 16 rfl Try.underlying34 info52 rfl (by decide) (by omega) u13 x13_118 (⟨5, 0⟩ : S52) [.int .i64 5, .int .i64 0] (fun _ => True) (fun _ => False) rfl rfl ?aP (fun _ hk => hk.elim) ?aF ?aO (Below.refl _ _) ?aS ?aL ?_; (case aP => exact k52_mkM _ _ _ (⟨5, 0⟩ : S52)); (case aF => exact (fun _ _ => trivial)); (case aO => exact (by (with_reducible repeat (first | apply Kd.R_alloc | apply Kd.R_drewN | apply Kd.R_drew)); exact HO_13.out)); (case aS => exact (keep_size (w := w) (g := g) (row := none) (by repeat (first | (with_reducible first | exact HK.out | apply KeepBut.set_ | apply keep_drewN | apply keep_drew | apply keep_alloc) | exact HK.out)))); (case aL => have := LMc134.out; omega); intro v501 w137 ho hb hg hat; rw [← Ny500.out] at ho; have n0_ := Aside0.mk (IsS115.grown (by repeat (first | (with_reducible first | exact HI0.out | apply IsS115.alloc | apply IsS115.drewN | apply IsS115.drew | apply IsS115.set_1) | exact HI0.out)) hg (IsS115.own_ne HI0.out HO_13.out (by decide))); have n1_ := Aside0.mk (below_weaken (by repeat (first | (with_reducible first | exact HB.out | apply below_alloc | apply pw_below_drewN | apply below_drew1 | refine below_set ?_ (IsS115.ge HI0.out)) | exact HB.out)) HL.out hb); have n2_ := Aside0.mk (KeepBut.trans (by repeat (first | (with_reducible first | exact HK.out | apply KeepBut.set_ | apply keep_drewN | apply keep_drew | apply keep_alloc) | exact HK.out)) (KeepBut.of_grown hg g) (Kd.R_base2 HO_13.out)); have n3_ := Aside0.mk (ho); clear HI0; clear HB; clear HK; clear HO_13; have HI0 := n0_; have HB := n1_; have HK := n2_; have HO502 := n3_; clear n0_ n1_ n2_ n3_; clear ho hb hg hat))
              go_ret
              exact ⟨_, by first | rfl | (simp [errW_none, errW_some] <;> rfl) | (simp only [← hji4, ← hji5]; first | rfl | (simp [errW_none, errW_some] <;> rfl)) | (simp [*, errW_none, errW_some] <;> rfl), by (with_reducible repeat (first | apply Kd.R_alloc | apply Kd.R_drewN | apply Kd.R_drew)); exact HO502.out, by repeat (first | (with_reducible first | exact HI0.out | apply IsS115.alloc | apply IsS115.drewN | apply IsS115.drew | apply IsS115.set_1) | exact HI0.out), by repeat (first | (with_reducible first | exact HB.out | apply below_alloc | apply pw_below_drewN | apply below_drew1 | refine below_set ?_ (IsS115.ge HI0.out)) | exact HB.out), by repeat (first | (with_reducible first | exact HK.out | apply KeepBut.set_ | apply keep_drewN | apply keep_drew | apply keep_alloc) | exact HK.out)⟩
             ·rw [if_neg c134] at H
              exact absurd H (by simp)
            ·rw [if_neg c133] at H
             have c133b0 : (t495 == 1) = false := beq_eq_false_iff_ne.mpr c133
             have c133b1 : (t495 != 1) = true := bne_iff_ne.mpr c133
             replace H := Option.bind_eq_some_iff.mp H
             obtain ⟨⟨t503, t504⟩, A1380, H⟩ := H
             replace H : (if 0 < (x13_118.length : Int) then (some ((x13_118.set (0 : Int).toNat (⟨t503, 6⟩ : S52)), t504)) else (none)) = some (r1, r2) := H
             have A138 := Aside0.mk A1380
             clear A1380
             by_cases c139 : 0 < (x13_118.length : Int)
             ·rw [if_pos c139] at H
              have c139b0 : decide (0 < (x13_118.length : Int)) = true := decide_eq_true c139
              have c139b1 : decide (0 < x13_118.length) = true := decide_eq_true (by omega)
              clear c139
              obtain ⟨y505, hy505⟩ : ∃ y_ : List (S52), y_ = (x13_118.set (0 : Int).toNat (⟨t503, 6⟩ : S52)) := ⟨_, rfl⟩
              replace H : (some (y505, t504)) = some (r1, r2) := by first | (rw [hy505]; with_reducible exact H) | (have H2_ := (Option.bind_some _ _).symm.trans H; rw [hy505]; with_reducible exact H2_) | (have H2_ := (Option.bind_some _ _).symm.trans H; with_reducible exact H2_) | with_reducible exact H | (rw [hy505]; exact H) | exact H
              have Ny505 := Aside0.mk hy505
              clear hy505
              simp only [Option.some.injEq, Prod.mk.injEq] at H
              obtain ⟨rfl, rfl⟩ := H
              go_wp2_with (first | ((with_reducible refine gate_callee (f := 132) rfl ?_); refine goesL_ (some 119) rfl rfl Try.func132 (by kernel_rfl) rfl #[.pointer (some ⟨g, 0, none⟩), .int .i64 a2] rfl (by (try simp only [List.map_toArray, List.map_cons, List.map_nil]); first | done | rfl | (simp only [List.length_drop, List.length_take]; rfl)) ?_; (with_reducible refine (spec_l20Rd_odd.calls kj118 g s0_0 t489 a2 true t494 w0 _ ?side1 ?side2 A125.out).mono ?_); (case side1 => repeat (first | (with_reducible first | exact HI0.out | apply IsS115.alloc | apply IsS115.drewN | apply IsS115.drew | apply IsS115.set_1) | exact HI0.out)); (case side2 => repeat (first | (with_reducible first | exact HB.out | apply below_alloc | apply pw_below_drewN | apply below_drew1 | refine below_set ?_ (IsS115.ge HI0.out)) | exact HB.out)); rintro e w141 ⟨rfl, hi, hb, hk⟩; refine ⟨_, rfl, ?_⟩; have n0_ := Aside0.mk (Kd.R_mono (Kd.R_keep (IsS115.apart (show IsS115 w0 _ g s0_0 t489 from by repeat (first | (with_reducible first | exact HI0.out | apply IsS115.alloc | apply IsS115.drewN | apply IsS115.drew | apply IsS115.set_1) | exact HI0.out)) (by (with_reducible repeat (first | apply Kd.R_alloc | apply Kd.R_drewN | apply Kd.R_drew)); exact HO_13.out) (by decide)) hk (fun _ h => h.2)) (fun _ h => h.1)); have n1_ := Aside0.mk (KeepBut.trans (by repeat (first | (with_reducible first | exact HK.out | apply KeepBut.set_ | apply keep_drewN | apply keep_drew | apply keep_alloc) | exact HK.out)) hk (.inl rfl)); have n2_ := Aside0.mk (hb); have n3_ := Aside0.mk (hi); clear HO_13; clear HK; clear HB; clear HI0; have HO_13 := n0_; have HK := n1_; have HB := n2_; have HI0 := n3_; clear n0_ n1_ n2_ n3_; (try clear hb); (try clear hb2); (try clear hk); (try clear hi)) | ((with_reducible refine gate_callee (f := 116) rfl ?_); refine goesL_ (some 121) rfl rfl Try.func116 (by kernel_rfl) rfl #[.pointer (some ⟨g, 0, none⟩), .int .i64 3] rfl (by (try simp only [List.map_toArray, List.map_cons, List.map_nil]); first | done | rfl | (simp only [List.length_drop, List.length_take]; rfl)) ?_; (with_reducible refine (spec_l20Rd_pick.calls kj118 g s0_0 t494 3 t495 t496 w0 _ ?side1 ?side2 A127.out).mono ?_); (case side1 => repeat (first | (with_reducible first | exact HI0.out | apply IsS115.alloc | apply IsS115.drewN | apply IsS115.drew | apply IsS115.set_1) | exact HI0.out)); (case side2 => repeat (first | (with_reducible first | exact HB.out | apply below_alloc | apply pw_below_drewN | apply below_drew1 | refine below_set ?_ (IsS115.ge HI0.out)) | exact HB.out)); rintro e w142 ⟨rfl, hi, hb, hk⟩; refine ⟨_, rfl, ?_⟩; have n0_ := Aside0.mk (Kd.R_mono (Kd.R_keep (IsS115.apart (show IsS115 w0 _ g s0_0 t494 from by repeat (first | (with_reducible first | exact HI0.out | apply IsS115.alloc | apply IsS115.drewN | apply IsS115.drew | apply IsS115.set_1) | exact HI0.out)) (by (with_reducible repeat (first | apply Kd.R_alloc | apply Kd.R_drewN | apply Kd.R_drew)); exact HO_13.out) (by decide)) hk (fun _ h => h.2)) (fun _ h => h.1)); have n1_ := Aside0.mk (KeepBut.trans (by repeat (first | (with_reducible first | exact HK.out | apply KeepBut.set_ | apply keep_drewN | apply keep_drew | apply keep_alloc) | exact HK.out)) hk (.inl rfl)); have n2_ := Aside0.mk (hb); have n3_ := Aside0.mk (hi); clear HO_13; clear HK; clear HB; clear HI0; have HO_13 := n0_; have HK := n1_; have HB := n2_; have HI0 := n3_; clear n0_ n1_ n2_ n3_; (try clear hb); (try clear hb2); (try clear hk); (try clear hi)) | ((with_reducible refine gate_callee (f := 116) rfl ?_); refine goesL_ (some 124) rfl rfl Try.func116 (by kernel_rfl) rfl #[.pointer (some ⟨g, 0, none⟩), .int .i64 2] rfl (by (try simp only [List.map_toArray, List.map_cons, List.map_nil]); first | done | rfl | (simp only [List.length_drop, List.length_take]; rfl)) ?_; (with_reducible refine (spec_l20Rd_pick.calls kj118 g s0_0 t496 2 t503 t504 w0 _ ?side1 ?side2 A138.out).mono ?_); (case side1 => repeat (first | (with_reducible first | exact HI0.out | apply IsS115.alloc | apply IsS115.drewN | apply IsS115.drew | apply IsS115.set_1) | exact HI0.out)); (case side2 => repeat (first | (with_reducible first | exact HB.out | apply below_alloc | apply pw_below_drewN | apply below_drew1 | refine below_set ?_ (IsS115.ge HI0.out)) | exact HB.out)); rintro e w143 ⟨rfl, hi, hb, hk⟩; refine ⟨_, rfl, ?_⟩; have n0_ := Aside0.mk (Kd.R_mono (Kd.R_keep (IsS115.apart (show IsS115 w0 _ g s0_0 t496 from by repeat (first | (with_reducible first | exact HI0.out | apply IsS115.alloc | apply IsS115.drewN | apply IsS115.drew | apply IsS115.set_1) | exact HI0.out)) (by (with_reducible repeat (first | apply Kd.R_alloc | apply Kd.R_drewN | apply Kd.R_drew)); exact HO_13.out) (by decide)) hk (fun _ h => h.2)) (fun _ h => h.1)); have n1_ := Aside0.mk (KeepBut.trans (by repeat (first | (with_reducible first | exact HK.out | apply KeepBut.set_ | apply keep_drewN | apply keep_drew | apply keep_alloc) | exact HK.out)) hk (.inl rfl)); have n2_ := Aside0.mk (hb); have n3_ := Aside0.mk (hi); clear HO_13; clear HK; clear HB; clear HI0; have HO_13 := n0_; have HK := n1_; have HB := n2_; have HI0 := n3_; clear n0_ n1_ n2_ n3_; (try clear hb); (try clear hb2); (try clear hk); (try clear hi); have p140 : 0 ≤ (0 : Int) := (by omega); have q140 : (0 : Int) < ((x13_118.length : Int) : Int) := of_decide_eq_true (by first | (with_reducible assumption) | assumption); have qi140 : (0 < x13_118.length) = True := eq_true (by omega); obtain ⟨go140, co140, eo140, gb140, gl140, cl140, HG140⟩ := Kd.R_form HO_13.out (by omega); (first | cases eo140 | (injection eo140 with ea_ en_ ec_; (first | subst ea_ | (injection ea_ with ea_; subst ea_)); subst ec_; clear en_)); have GB140 := Aside0.mk gb140; have GG140 := Aside0.mk HG140; clear gb140 gl140 HG140; obtain ⟨ce140, hcl140, hM140, hcc140, hfr140⟩ := Kd.R_elem HO_13.out z52 (0 : Int) p140 q140; obtain rfl := k52_openM hM140; have hx140_0 : w143.cell? ⟨go140, (0 : Int).toNat * 2, none⟩ = some (.int .i64 ((rd_T52 x13_118 0).f0)) := hcc140 0 _ rfl; have hx140_1 : w143.cell? ⟨go140, (0 : Int).toNat * 2 + 1, none⟩ = some (.int .i64 ((rd_T52 x13_118 0).f1)) := hcc140 1 _ rfl; have hf140_0 : w143.frozen? ⟨go140, (0 : Int).toNat * 2, none⟩ = false := hfr140 0; have hf140_1 : w143.frozen? ⟨go140, (0 : Int).toNat * 2 + 1, none⟩ = false := hfr140 1; clear hcl140 hcc140 hfr140; (try clear hM140); (try rw [show ((0 : Int)).toNat = 0 from rfl] at hx140_0); (try simp only [Nat.reduceMul, Nat.zero_mul, Nat.zero_add, Nat.reduceAdd] at hx140_0); (try rw [show ((0 : Int)).toNat = 0 from rfl] at hf140_0); (try simp only [Nat.reduceMul, Nat.zero_mul, Nat.zero_add, Nat.reduceAdd] at hf140_0); (try rw [show ((0 : Int)).toNat = 0 from rfl] at hx140_1); (try simp only [Nat.reduceMul, Nat.zero_mul, Nat.zero_add, Nat.reduceAdd] at hx140_1); (try rw [show ((0 : Int)).toNat = 0 from rfl] at hf140_1); (try simp only [Nat.reduceMul, Nat.zero_mul, Nat.zero_add, Nat.reduceAdd] at hf140_1); replace p140 := eq_true p140; replace q140 := eq_true q140; have HX144 := Aside0.mk (show Kd.R k52 52 w143 w.heap.size (fun _ => True) (.slice (some ⟨go140, 0, none⟩) x13_118.length co140) x13_118 from (by (with_reducible repeat (first | apply Kd.R_alloc | apply Kd.R_drewN | apply Kd.R_drew)); exact HO_13.out)); obtain ⟨ce144, hcl144, hM144, hcc144, hfr144⟩ := Kd.R_elem HX144.out z52 (0 : Int) (by omega) (by have h_ : (0 : Int) < ((x13_118.length : Int) : Int) := of_decide_eq_true (by first | (with_reducible assumption) | assumption); first | exact h_ | (have e_ := (Kd.R_reads' HO_13.out).1; omega) | simpa using h_); obtain rfl := k52_openM hM144; have HP144 := Kd.R_seg HX144.out (0 : Int) (by omega) (by have h_ : (0 : Int) < ((x13_118.length : Int) : Int) := of_decide_eq_true (by first | (with_reducible assumption) | assumption); first | exact h_ | (have e_ := (Kd.R_reads' HO_13.out).1; omega) | simpa using h_) (seg := [.int .i64 t503, .int .i64 6]) (j := 0) hcl144 hcc144 (show 2 ≤ 2 from by decide) (x' := (⟨t503, 6⟩ : S52)) (k52_mkM _ _ _ (⟨t503, 6⟩ : S52) ) (fun _ hk => hk); have hx144_0 := hcc144 0 _ rfl; (try simp only [show (k52).sz = 2 from rfl, Nat.mul_one, Nat.add_zero] at hx144_0); (try rw [show ((0 : Int)).toNat = 0 from rfl] at hx144_0); (try simp only [Nat.reduceMul, Nat.zero_mul, Nat.zero_add, Nat.reduceAdd] at hx144_0); have hf144_0 := hfr144 0; (try simp only [show (k52).sz = 2 from rfl, Nat.mul_one, Nat.add_zero] at hf144_0); (try rw [show ((0 : Int)).toNat = 0 from rfl] at hf144_0); (try simp only [Nat.reduceMul, Nat.zero_mul, Nat.zero_add, Nat.reduceAdd] at hf144_0); have hx144_1 := hcc144 1 _ rfl; (try simp only [show (k52).sz = 2 from rfl, Nat.mul_one, Nat.add_zero] at hx144_1); (try rw [show ((0 : Int)).toNat = 0 from rfl] at hx144_1); (try simp only [Nat.reduceMul, Nat.zero_mul, Nat.zero_add, Nat.reduceAdd] at hx144_1); have hf144_1 := hfr144 1; (try simp only [show (k52).sz = 2 from rfl, Nat.mul_one, Nat.add_zero] at hf144_1); (try rw [show ((0 : Int)).toNat = 0 from rfl] at hf144_1); (try simp only [Nat.reduceMul, Nat.zero_mul, Nat.zero_add, Nat.reduceAdd] at hf144_1); clear hcl144 hcc144 hfr144; (try clear hM144)) | ((with_reducible refine gate_store (t := 52) (p := 126) rfl ?_); refine store_event (t := 52) (p := 126) (v := ?vo_w145) (w1 := ((w143.setCell ⟨go140, 0, none⟩ (.int .i64 t503)).setCell ⟨go140, 1, none⟩ (.int .i64 6))) ?hg ?ho ?hn ?hr ?_; (case ho => rfl); (case hg => rfl); (case hn => rfl); (case hr => first | (go_simp; done) | (go_simp; rfl)); intro w145 hw; have hg : w143.grownBy w145 (some go140) := (by rw [hw]; exact HP144.2); have hp_ : Kd.R k52 52 w145 w.heap.size (fun _ => True) (.slice (some ⟨go140, 0, none⟩) x13_118.length co140) y505 := (by rw [hw, Ny505.out]; exact HP144.1); clear HP144; have n0_ := Aside0.mk (hp_); have n1_ := Aside0.mk (IsS115.grown (by repeat (first | (with_reducible first | exact HI0.out | apply IsS115.alloc | apply IsS115.drewN | apply IsS115.drew | apply IsS115.set_1) | exact HI0.out)) hg (IsS115.own_ne HI0.out HO_13.out (by decide))); have n2_ := Aside0.mk ((by rw [hw]; exact below_set (below_set (HB.out) (Nat.le_trans HL.out GB140.out)) (Nat.le_trans HL.out GB140.out) : Below w0.heap.size w0 w145)); have n3_ := Aside0.mk (KeepBut.trans (by repeat (first | (with_reducible first | exact HK.out | apply KeepBut.set_ | apply keep_drewN | apply keep_drew | apply keep_alloc) | exact HK.out)) (KeepBut.of_grown hg g) (Kd.R_base2 HO_13.out)); clear HO_13; clear HI0; clear HB; clear HK; have HO_13 := n0_; have HI0 := n1_; have HB := n2_; have HK := n3_; clear n0_ n1_ n2_ n3_; clear hg hw hp_))
              go_ret
              exact ⟨_, by first | rfl | (simp [errW_none, errW_some] <;> rfl) | (simp only [← hji4, ← hji5]; first | rfl | (simp [errW_none, errW_some] <;> rfl)) | (simp [*, errW_none, errW_some] <;> rfl), by (with_reducible repeat (first | apply Kd.R_alloc | apply Kd.R_drewN | apply Kd.R_drew)); exact HO_13.out, by repeat (first | (with_reducible first | exact HI0.out | apply IsS115.alloc | apply IsS115.drewN | apply IsS115.drew | apply IsS115.set_1) | exact HI0.out), by repeat (first | (with_reducible first | exact HB.out | apply below_alloc | apply pw_below_drewN | apply below_drew1 | refine below_set ?_ (IsS115.ge HI0.out)) | exact HB.out), by repeat (first | (with_reducible first | exact HK.out | apply KeepBut.set_ | apply keep_drewN | apply keep_drew | apply keep_alloc) | exact HK.out)⟩
             ·rw [if_neg c139] at H
              exact absurd H (by simp)
          ·replace c126 := Bool.eq_false_iff.mpr c126
           subst c126
           have H1 : (some (x13_118, t494)) = some (r1, r2) := by rw [if_neg (show ¬ (false = true) by decide)] at H; exact H
           clear H
           have H := H1
           clear H1
           simp only [Option.some.injEq, Prod.mk.injEq] at H
           obtain ⟨rfl, rfl⟩ := H
           go_wp2_with (first | ((with_reducible refine gate_callee (f := 132) rfl ?_); refine goesL_ (some 119) rfl rfl Try.func132 (by kernel_rfl) rfl #[.pointer (some ⟨g, 0, none⟩), .int .i64 a2] rfl (by (try simp only [List.map_toArray, List.map_cons, List.map_nil]); first | done | rfl | (simp only [List.length_drop, List.length_take]; rfl)) ?_; (with_reducible refine (spec_l20Rd_odd.calls kj118 g s0_0 t489 a2 false t494 w0 _ ?side1 ?side2 A125.out).mono ?_); (case side1 => repeat (first | (with_reducible first | exact HI0.out | apply IsS115.alloc | apply IsS115.drewN | apply IsS115.drew | apply IsS115.set_1) | exact HI0.out)); (case side2 => repeat (first | (with_reducible first | exact HB.out | apply below_alloc | apply pw_below_drewN | apply below_drew1 | refine below_set ?_ (IsS115.ge HI0.out)) | exact HB.out)); rintro e w146 ⟨rfl, hi, hb, hk⟩; refine ⟨_, rfl, ?_⟩; have n0_ := Aside0.mk (Kd.R_mono (Kd.R_keep (IsS115.apart (show IsS115 w0 _ g s0_0 t489 from by repeat (first | (with_reducible first | exact HI0.out | apply IsS115.alloc | apply IsS115.drewN | apply IsS115.drew | apply IsS115.set_1) | exact HI0.out)) (by (with_reducible repeat (first | apply Kd.R_alloc | apply Kd.R_drewN | apply Kd.R_drew)); exact HO_13.out) (by decide)) hk (fun _ h => h.2)) (fun _ h => h.1)); have n1_ := Aside0.mk (KeepBut.trans (by repeat (first | (with_reducible first | exact HK.out | apply KeepBut.set_ | apply keep_drewN | apply keep_drew | apply keep_alloc) | exact HK.out)) hk (.inl rfl)); have n2_ := Aside0.mk (hb); have n3_ := Aside0.mk (hi); clear HO_13; clear HK; clear HB; clear HI0; have HO_13 := n0_; have HK := n1_; have HB := n2_; have HI0 := n3_; clear n0_ n1_ n2_ n3_; (try clear hb); (try clear hb2); (try clear hk); (try clear hi)))
           go_ret
           exact ⟨_, by first | rfl | (simp [errW_none, errW_some] <;> rfl) | (simp only [← hji4, ← hji5]; first | rfl | (simp [errW_none, errW_some] <;> rfl)) | (simp [*, errW_none, errW_some] <;> rfl), by (with_reducible repeat (first | apply Kd.R_alloc | apply Kd.R_drewN | apply Kd.R_drew)); exact HO_13.out, by repeat (first | (with_reducible first | exact HI0.out | apply IsS115.alloc | apply IsS115.drewN | apply IsS115.drew | apply IsS115.set_1) | exact HI0.out), by repeat (first | (with_reducible first | exact HB.out | apply below_alloc | apply pw_below_drewN | apply below_drew1 | refine below_set ?_ (IsS115.ge HI0.out)) | exact HB.out), by repeat (first | (with_reducible first | exact HK.out | apply KeepBut.set_ | apply keep_drewN | apply keep_drew | apply keep_alloc) | exact HK.out)⟩
       ·rw [if_neg c117] at H
        exact absurd H (by simp)

end Go.Proofs.Ytpampekijfjlkaa.X
