/- Joined by a program of this session's: X51. -/
import Derived.Test.YtofcmhpoebbnoaaG54d165df4d
import Derived.Test.YtofcmhpoebbnoaaG70ee9aeafe

-- printed by a program of this session's (xprint)
namespace Go.Proofs.Ytofcmhpoebbnoaa.X
open Go.RowKit Go.Proofs.YtofcmhpoebbnoaaW.PrintWords Go.Proofs.YtofcmhpoebbnoaaW.PrintLast Go.Proofs.YtofcmhpoebbnoaaW.PrintMore
attribute [local go_sem] max2_int min2_int max_two min_two max_three min_three max_four min_four   -- for this text's walks alone
set_option linter.unusedVariables false
set_option linter.unusedSimpArgs false

/-! ### spec_l20Term: function 85 -/
mutual
def spec_l20Term.l0 : Nat → Int → Int → List (List (S83)) → Int → List Int → Int → Option ((List (S83)) × Int)
 | 0, _, _, _, _, _, _ => none
 | k + 1, x1, x2, x7, x8, x1000, x1001 => if x8 > 0 then ((spec_l20Rd_pick.f k x1000 x1001 4).bind fun bt436 => (if bt436.1 = 0 then ((spec_l20Rd_pick.f k x1000 bt436.2 (wrap64 (x1 + 2))).bind fun bt438 => (if x7.length < 5864062014805 then (spec_l20Term.l0 k x1 x2 (x7 ++ [(([(⟨1, bt438.1⟩ : S83)] : List (S83)))]) (wrap64 (x8 - 1)) x1000 bt438.2) else (none))) else ((spec_l20Rd_pick.f k x1000 bt436.2 x1).bind fun bt446 => (if x7.length < 5864062014805 then (spec_l20Term.l0 k x1 x2 (x7 ++ [(([(⟨0, bt446.1⟩ : S83)] : List (S83)))]) (wrap64 (x8 - 1)) x1000 bt446.2) else (none))))) else (spec_l20Term.l1 k x2 x7 3 x1000 x1001)
def spec_l20Term.l1 : Nat → Int → List (List (S83)) → Int → List Int → Int → Option ((List (S83)) × Int)
 | 0, _, _, _, _, _ => none
 | k + 1, x2, x7, x9, x1000, x1001 => if (x7.length : Int) > 1 then ((spec_l20Rd_pick.f k x1000 x1001 (wrap64 ((x7.length : Int) - 1))).bind fun bt454 => (if x9 > 0 then ((spec_l20Rd_pick.f k x1000 bt454.2 4).bind fun bt456 => (if bt456.1 = 0 then ((some (([] : List (S83)) : List (S83))).bind fun y458 => (if 0 ≤ bt454.1 then (if bt454.1 < (x7.length : Int) then (if y458.length + (rd_L4 x7 bt454.1).length < 8796093022208 then ((some (y458 ++ (rd_L4 x7 bt454.1) : List (S83))).bind fun y462 => (if y462.length < 8796093022208 then (spec_l20Term.l1 k x2 (x7.set (bt454.1 : Int).toNat (y462 ++ [(⟨2, 0⟩ : S83)])) (wrap64 (x9 - 1)) x1000 bt456.2) else (none))) else (none)) else (none)) else (none))) else ((some (([] : List (S83)) : List (S83))).bind fun y469 => (if 0 ≤ bt454.1 then (if bt454.1 < (x7.length : Int) then (if y469.length + (rd_L4 x7 bt454.1).length < 8796093022208 then ((some (y469 ++ (rd_L4 x7 bt454.1) : List (S83))).bind fun y473 => (if 0 ≤ (wrap64 (bt454.1 + 1)) then (if (wrap64 (bt454.1 + 1)) < (x7.length : Int) then (if y473.length + (rd_L4 x7 (wrap64 (bt454.1 + 1))).length < 8796093022208 then ((some (y473 ++ (rd_L4 x7 (wrap64 (bt454.1 + 1))) : List (S83))).bind fun y477 => ((spec_l20Rd_pick.f k x1000 bt456.2 3).bind fun bt480 => (if y477.length < 8796093022208 then ((some (([] : List (List (S83))) : List (List (S83)))).bind fun y485 => (if bt454.1 ≤ (x7.length : Int) then ((some (x7.take (bt454.1 : Int).toNat : List (List (S83)))).bind fun y488 => (if y485.length + y488.length < 5864062014805 then ((some (y485 ++ y488 : List (List (S83)))).bind fun y492 => (if y492.length < 5864062014805 then ((some (y492 ++ [(y477 ++ [(⟨wrap64 (3 + bt480.1), 0⟩ : S83)])] : List (List (S83)))).bind fun y495 => (if 0 ≤ (wrap64 (bt454.1 + 2)) then (if (wrap64 (bt454.1 + 2)) ≤ (x7.length : Int) then ((some (x7.drop ((wrap64 (bt454.1 + 2)) : Int).toNat : List (List (S83)))).bind fun y498 => (if y495.length + y498.length < 5864062014805 then (spec_l20Term.l1 k x2 (y495 ++ y498) x9 x1000 bt480.2) else (none))) else (none)) else (none))) else (none))) else (none))) else (none))) else (none)))) else (none)) else (none)) else (none))) else (none)) else (none)) else (none))))) else ((some (([] : List (S83)) : List (S83))).bind fun y505 => (if 0 ≤ bt454.1 then (if bt454.1 < (x7.length : Int) then (if y505.length + (rd_L4 x7 bt454.1).length < 8796093022208 then ((some (y505 ++ (rd_L4 x7 bt454.1) : List (S83))).bind fun y509 => (if 0 ≤ (wrap64 (bt454.1 + 1)) then (if (wrap64 (bt454.1 + 1)) < (x7.length : Int) then (if y509.length + (rd_L4 x7 (wrap64 (bt454.1 + 1))).length < 8796093022208 then ((some (y509 ++ (rd_L4 x7 (wrap64 (bt454.1 + 1))) : List (S83))).bind fun y513 => ((spec_l20Rd_pick.f k x1000 bt454.2 3).bind fun bt516 => (if y513.length < 8796093022208 then ((some (([] : List (List (S83))) : List (List (S83)))).bind fun y521 => (if bt454.1 ≤ (x7.length : Int) then ((some (x7.take (bt454.1 : Int).toNat : List (List (S83)))).bind fun y524 => (if y521.length + y524.length < 5864062014805 then ((some (y521 ++ y524 : List (List (S83)))).bind fun y528 => (if y528.length < 5864062014805 then ((some (y528 ++ [(y513 ++ [(⟨wrap64 (3 + bt516.1), 0⟩ : S83)])] : List (List (S83)))).bind fun y531 => (if 0 ≤ (wrap64 (bt454.1 + 2)) then (if (wrap64 (bt454.1 + 2)) ≤ (x7.length : Int) then ((some (x7.drop ((wrap64 (bt454.1 + 2)) : Int).toNat : List (List (S83)))).bind fun y534 => (if y531.length + y534.length < 5864062014805 then (spec_l20Term.l1 k x2 (y531 ++ y534) x9 x1000 bt516.2) else (none))) else (none)) else (none))) else (none))) else (none))) else (none))) else (none)))) else (none)) else (none)) else (none))) else (none)) else (none)) else (none))))) else (if 0 < (x7.length : Int) then ((spec_l20Rd_pick.f k x1000 x1001 5).bind fun bt543 => (if bt543.1 = 0 then (if (rd_L4 x7 0).length < 8796093022208 then (spec_l20Term.j2 k x2 ((rd_L4 x7 0) ++ [(⟨2, 0⟩ : S83)]) x1000 bt543.2) else (none)) else (spec_l20Term.j2 k x2 (rd_L4 x7 0) x1000 bt543.2))) else (none))
def spec_l20Term.j2 : Nat → Int → List (S83) → List Int → Int → Option ((List (S83)) × Int)
 | 0, _, _, _, _ => none
 | k + 1, x2, x13, x1000, x1001 => (spec_l20Rd_odd.f k x1000 x1001 x2).bind fun bt548 => (if bt548.1 = true then ((spec_l20Rd_pick.f k x1000 bt548.2 3).bind fun bt550 => (if bt550.1 = 0 then (some ((([] : List (S83))), bt550.2)) else (if bt550.1 = 1 then (if x13.length < 8796093022208 then (some ((x13 ++ [(⟨5, 0⟩ : S83)]), bt550.2)) else (none)) else ((spec_l20Rd_pick.f k x1000 bt550.2 2).bind fun bt558 => (if 0 < (x13.length : Int) then (some ((x13.set (0 : Int).toNat (⟨bt558.1, 6⟩ : S83)), bt558.2)) else (none)))))) else (some (x13, bt548.2)))
end
def spec_l20Term.f (k : Nat) (s0_0 : List Int) (s0_1 : Int) (a1 : Int) (a2 : Int) : Option ((List (S83)) × Int) := (spec_l20Rd_pick.f k s0_0 s0_1 4).bind fun bt434 => (spec_l20Term.l0 k (mn (mx a1 1) 4) a2 (([] : List (List (S83)))) (wrap64 (1 + bt434.1)) s0_0 bt434.2)
theorem spec_l20Term.mono_l : ∀ k, (∀ y0 y1 y2 y3 y4 y5, LeO (spec_l20Term.l0 k y0 y1 y2 y3 y4 y5) (spec_l20Term.l0 (k + 1) y0 y1 y2 y3 y4 y5)) ∧ (∀ y0 y1 y2 y3 y4, LeO (spec_l20Term.l1 k y0 y1 y2 y3 y4) (spec_l20Term.l1 (k + 1) y0 y1 y2 y3 y4)) ∧ (∀ y0 y1 y2 y3, LeO (spec_l20Term.j2 k y0 y1 y2 y3) (spec_l20Term.j2 (k + 1) y0 y1 y2 y3))
 | 0 => ⟨fun _ _ _ _ _ _ r h => by simp [spec_l20Term.l0] at h, fun _ _ _ _ _ r h => by simp [spec_l20Term.l1] at h, fun _ _ _ _ r h => by simp [spec_l20Term.j2] at h⟩
 | k + 1 => by
  obtain ⟨ih0, ih1, ih2⟩ := spec_l20Term.mono_l k
  refine ⟨?_, ?_, ?_⟩
  ·intro y0 y1 y2 y3 y4 y5
   unfold spec_l20Term.l0
   repeat' first
   | (with_reducible exact ih0 _ _ _ _ _ _)
   | (with_reducible exact ih1 _ _ _ _ _)
   | (with_reducible exact ih2 _ _ _ _)
   | (with_reducible exact spec_l20Rd_odd.mono _ _ _ _)
   | (with_reducible exact spec_l20Rd_pick.mono _ _ _ _)
   | (with_reducible exact LeO.refl _)
   | (with_reducible exact LeO.none _)
   | (with_reducible refine LeO.ite ?_ ?_)
   | (with_reducible refine LeO.bind ?_ (fun _ => ?_))
   | exact ih0 _ _ _ _ _ _
   | exact ih1 _ _ _ _ _
   | exact ih2 _ _ _ _
   | exact spec_l20Rd_odd.mono _ _ _ _
   | exact spec_l20Rd_pick.mono _ _ _ _
   | exact LeO.none _
   | refine LeO.ite ?_ ?_
   | refine LeO.bind ?_ (fun _ => ?_)
  ·intro y0 y1 y2 y3 y4
   unfold spec_l20Term.l1
   repeat' first
   | (with_reducible exact ih0 _ _ _ _ _ _)
   | (with_reducible exact ih1 _ _ _ _ _)
   | (with_reducible exact ih2 _ _ _ _)
   | (with_reducible exact spec_l20Rd_odd.mono _ _ _ _)
   | (with_reducible exact spec_l20Rd_pick.mono _ _ _ _)
   | (with_reducible exact LeO.refl _)
   | (with_reducible exact LeO.none _)
   | (with_reducible refine LeO.ite ?_ ?_)
   | (with_reducible refine LeO.bind ?_ (fun _ => ?_))
   | exact ih0 _ _ _ _ _ _
   | exact ih1 _ _ _ _ _
   | exact ih2 _ _ _ _
   | exact spec_l20Rd_odd.mono _ _ _ _
   | exact spec_l20Rd_pick.mono _ _ _ _
   | exact LeO.none _
   | refine LeO.ite ?_ ?_
   | refine LeO.bind ?_ (fun _ => ?_)
  ·intro y0 y1 y2 y3
   unfold spec_l20Term.j2
   repeat' first
   | (with_reducible exact ih0 _ _ _ _ _ _)
   | (with_reducible exact ih1 _ _ _ _ _)
   | (with_reducible exact ih2 _ _ _ _)
   | (with_reducible exact spec_l20Rd_odd.mono _ _ _ _)
   | (with_reducible exact spec_l20Rd_pick.mono _ _ _ _)
   | (with_reducible exact LeO.refl _)
   | (with_reducible exact LeO.none _)
   | (with_reducible refine LeO.ite ?_ ?_)
   | (with_reducible refine LeO.bind ?_ (fun _ => ?_))
   | exact ih0 _ _ _ _ _ _
   | exact ih1 _ _ _ _ _
   | exact ih2 _ _ _ _
   | exact spec_l20Rd_odd.mono _ _ _ _
   | exact spec_l20Rd_pick.mono _ _ _ _
   | exact LeO.none _
   | refine LeO.ite ?_ ?_
   | refine LeO.bind ?_ (fun _ => ?_)
theorem spec_l20Term.mono : ∀ a0 a1 a2 a3 k, LeO (spec_l20Term.f k a0 a1 a2 a3) (spec_l20Term.f (k + 1) a0 a1 a2 a3) := by
 intro a0 a1 a2 a3 k
 obtain ⟨ih0, ih1, ih2⟩ := spec_l20Term.mono_l k
 unfold spec_l20Term.f
 repeat' first
   | (with_reducible exact ih0 _ _ _ _ _ _)
   | (with_reducible exact ih1 _ _ _ _ _)
   | (with_reducible exact ih2 _ _ _ _)
   | (with_reducible exact spec_l20Rd_odd.mono _ _ _ _)
   | (with_reducible exact spec_l20Rd_pick.mono _ _ _ _)
   | (with_reducible exact LeO.refl _)
   | (with_reducible exact LeO.none _)
   | (with_reducible refine LeO.ite ?_ ?_)
   | (with_reducible refine LeO.bind ?_ (fun _ => ?_))
   | exact ih0 _ _ _ _ _ _
   | exact ih1 _ _ _ _ _
   | exact ih2 _ _ _ _
   | exact spec_l20Rd_odd.mono _ _ _ _
   | exact spec_l20Rd_pick.mono _ _ _ _
   | exact LeO.none _
   | refine LeO.ite ?_ ?_
   | refine LeO.bind ?_ (fun _ => ?_)
def spec_l20Term.T15 : Bool × List (List Nat × List Nat) := (true, [([], []), ([], []), ([], []), ([1, 2], [1, 2]), ([3], [3]), ([0, 4], [0, 4]), ([], []), ([], []), ([7], [7]), ([6, 8], [6, 8]), ([9], [9]), ([5, 10, 5], [5, 10]), ([], []), ([12, 11], [12]), ([13], [13]), ([14], [14]), ([15], [15]), ([11, 16, 13], [11, 16]), ([17, 17, 0, 1, 2, 3, 4, 5, 6, 7, 8, 9, 10, 11, 12, 13, 14, 15, 16, 17], [17])])
def spec_l20Term.B15 : List Nat := [0, 0, 0, 6, 14, 31, 0, 0, 128, 448, 960, 2047, 0, 8191, 16383, 32767, 65535, 131071, 262143]
theorem spec_l20Term.tab15 : rtab .any (opsOf Try.f85 15) = spec_l20Term.T15 := by kernel_rfl
theorem spec_l20Term.bits15 : waitsOk spec_l20Term.T15.2 spec_l20Term.B15 = true := by kernel_rfl
set_option maxHeartbeats 8000000 in
set_option maxRecDepth 100000 in
theorem spec_l20Term.calls (k : Nat) (g : Nat) (s0_0 : List Int) (s0_1 : Int) (a1 : Int) (a2 : Int) (r1 : List (S83)) (r2 : Int) (w0 w : World) (hI : IsS100 w0 w g s0_0 s0_1) (hB : Below w0.heap.size w0 w) (h : spec_l20Term.f k s0_0 s0_1 a1 a2 = some (r1, r2)) :
  Calls Try.prog 85 #[.pointer (some ⟨g, 0, none⟩), .int .i64 a1, .int .i64 a2] w fun e w' => ∃ v0_ : Value, e = .returned (v0_) ∧ Kd.R k83 83 w' w.heap.size (fun _ => True) v0_ r1 ∧ IsS100 w0 w' g s0_0 r2 ∧ Below w0.heap.size w0 w' ∧ KeepBut w w' g none := by
 have hu83 := Try.underlying83
 have HI0 := Aside0.mk hI
 have HK := Aside0.mk (KeepBut.refl w g none)
 have HL := Aside0.mk hB.size
 clear hI
 have HW0 := Aside0.mk hB.size
 have HB := Aside0.mk hB
 clear hB
 have H : ((spec_l20Rd_pick.f k s0_0 s0_1 4).bind fun bt434 => (spec_l20Term.l0 k (mn (mx a1 1) 4) a2 (([] : List (List (S83)))) (wrap64 (1 + bt434.1)) s0_0 bt434.2)) = some (r1, r2) := h
 clear h
 obtain ⟨ji4, hji4⟩ : ∃ j_ : Int, (mx a1 1) = j_ := ⟨_, rfl⟩
 replace H : ((spec_l20Rd_pick.f k s0_0 s0_1 4).bind fun bt434 => (spec_l20Term.l0 k (mn (ji4) 4) a2 (([] : List (List (S83)))) (wrap64 (1 + bt434.1)) s0_0 bt434.2)) = some (r1, r2) := by first | (rw [hji4] at H; exact H) | (simp only [hji4] at H ⊢; exact H)
 (try (have hji4l : 1 ≤ ji4 := by (rw [← hji4]; unfold mx; (repeat' split) <;> omega)))
 (try (have hji4m : 0 ≤ ji4 := by omega))
 have hji4_ : (if a1 < 1 then 1 else a1) = ji4 := hji4
 obtain ⟨ji5, hji5⟩ : ∃ j_ : Int, (mn (ji4) 4) = j_ := ⟨_, rfl⟩
 replace H : ((spec_l20Rd_pick.f k s0_0 s0_1 4).bind fun bt434 => (spec_l20Term.l0 k ji5 a2 (([] : List (List (S83)))) (wrap64 (1 + bt434.1)) s0_0 bt434.2)) = some (r1, r2) := by first | (rw [hji5] at H; exact H) | (simp only [hji5] at H ⊢; exact H)
 have hji5_ : (if 4 < (ji4) then 4 else (ji4)) = ji5 := hji5
 obtain ⟨y431, hy431⟩ : ∃ y_ : List (List (S83)), y_ = (([] : List (List (S83)))) := ⟨_, rfl⟩
 replace H : ((spec_l20Rd_pick.f k s0_0 s0_1 4).bind fun bt434 => (spec_l20Term.l0 k ji5 a2 y431 (wrap64 (1 + bt434.1)) s0_0 bt434.2)) = some (r1, r2) := by first | (rw [hy431]; with_reducible exact H) | (have H2_ := (Option.bind_some _ _).symm.trans H; rw [hy431]; with_reducible exact H2_) | (have H2_ := (Option.bind_some _ _).symm.trans H; with_reducible exact H2_) | with_reducible exact H | (rw [hy431]; exact H) | exact H
 have Ny431 := Aside0.mk hy431
 clear hy431
 replace H := Option.bind_eq_some_iff.mp H
 obtain ⟨⟨t434, t435⟩, A60, H⟩ := H
 replace H : (spec_l20Term.l0 k ji5 a2 y431 (wrap64 (1 + t434)) s0_0 t435) = some (r1, r2) := H
 have A6 := Aside0.mk A60
 clear A60
 have H' := Aside0.mk H
 clear H
 go_enter Try.func85, Try.ntmps85
 go_wp2_with (first | ((with_reducible refine gate_dst (N := 17) rfl ?_); refine Kd.R_lit (Kd.slice 83 k83) _ 35 ?hg (N := 17) ?hd (xs := ([] : List (List (S83)))) (inner := []) (ok := fun _ => True) (okp := fun _ => True) ?hr ?hp (fun _ hk => hk) trivial (Below.refl _ _) (Nat.le_refl _) (by simp) ?_; (case hd => rfl); (case hg => rfl); (case hr => first | (go_simp; done) | (go_simp; rfl)); (case hp => exact (Reps.none _ _)); intro v432 w7 ho8 hb hg_ hnew_; clear hg_ hnew_; (first | rw [← Ny431.out] at ho8 | (simp only [Int.reduceToNat] at ho8; rw [← Ny431.out] at ho8)); have n0_ := Aside0.mk (Kd.R_lower ho8 (keep_size (w := w) (g := g) (row := none) (by repeat (first | (with_reducible first | exact HK.out | apply KeepBut.set_ | apply keep_drewN | apply keep_drew | apply keep_alloc) | exact HK.out)))); have n1_ := Aside0.mk (IsS100.below (by repeat (first | (with_reducible first | exact HI0.out | apply IsS100.alloc | apply IsS100.drewN | apply IsS100.drew | apply IsS100.set_1) | exact HI0.out)) hb); have n2_ := Aside0.mk (KeepBut.trans (by repeat (first | (with_reducible first | exact HK.out | apply KeepBut.set_ | apply keep_drewN | apply keep_drew | apply keep_alloc) | exact HK.out)) (KeepBut.of_below hb g none) (.inl rfl)); have n3_ := Aside0.mk (below_step (by repeat (first | (with_reducible first | exact HB.out | apply below_alloc | apply pw_below_drewN | apply below_drew1 | refine below_set ?_ (IsS100.ge HI0.out)) | exact HB.out)) hb); clear HI0; clear HK; clear HB; have HO433 := n0_; have HI0 := n1_; have HK := n2_; have HB := n3_; clear n0_ n1_ n2_ n3_; clear hb ho8) | ((with_reducible refine gate_callee (f := 64) rfl ?_); refine goesL_ (some 19) rfl rfl Try.func64 (by kernel_rfl) rfl #[.pointer (some ⟨g, 0, none⟩), .int .i64 4] rfl (by (try simp only [List.map_toArray, List.map_cons, List.map_nil]); first | done | rfl | (simp only [List.length_drop, List.length_take]; rfl)) ?_; (with_reducible refine (spec_l20Rd_pick.calls k g s0_0 s0_1 4 t434 t435 w0 _ ?side1 ?side2 A6.out).mono ?_); (case side1 => repeat (first | (with_reducible first | exact HI0.out | apply IsS100.alloc | apply IsS100.drewN | apply IsS100.drew | apply IsS100.set_1) | exact HI0.out)); (case side2 => repeat (first | (with_reducible first | exact HB.out | apply below_alloc | apply pw_below_drewN | apply below_drew1 | refine below_set ?_ (IsS100.ge HI0.out)) | exact HB.out)); rintro e w9 ⟨rfl, hi, hb, hk⟩; refine ⟨_, rfl, ?_⟩; have n0_ := Aside0.mk (Kd.R_mono (Kd.R_keep (IsS100.apart (show IsS100 w0 _ g s0_0 s0_1 from by repeat (first | (with_reducible first | exact HI0.out | apply IsS100.alloc | apply IsS100.drewN | apply IsS100.drew | apply IsS100.set_1) | exact HI0.out)) (by (with_reducible repeat (first | apply Kd.R_alloc | apply Kd.R_drewN | apply Kd.R_drew)); exact HO433.out) (by decide)) hk (fun _ h => h.2)) (fun _ h => h.1)); have n1_ := Aside0.mk (KeepBut.trans (by repeat (first | (with_reducible first | exact HK.out | apply KeepBut.set_ | apply keep_drewN | apply keep_drew | apply keep_alloc) | exact HK.out)) hk (.inl rfl)); have n2_ := Aside0.mk (hb); have n3_ := Aside0.mk (hi); clear HO433; clear HK; clear HB; clear HI0; have HO433 := n0_; have HK := n1_; have HB := n2_; have HI0 := n3_; clear n0_ n1_ n2_ n3_; (try clear hb); (try clear hb2); (try clear hk); (try clear hi)))
 go_loopg [7, 8] k (fun kq v7 v8 w' => ∃ (x7_1 : List (List (S83))) (x8_1 : Int) (x1001_1 : Int), v8 = .int .i64 x8_1 ∧ Aside0 (spec_l20Term.l0 kq ji5 a2 x7_1 x8_1 s0_0 x1001_1 = some (r1, r2)) ∧ Aside0 (kq ≤ k) ∧ Aside0 (Kd.R (Kd.slice 83 k83) 35 w' w.heap.size (fun _ => True) v7 x7_1) ∧ Aside0 (IsS100 w0 w' g s0_0 x1001_1) ∧ Aside0 (KeepBut w w' g none) ∧ Aside0 (Below w0.heap.size w0 w'))
 case atStart => exact ⟨(y431), (wrap64 (1 + t434)), (t435), (by first | rfl | (simp; done) | (simp [*]; done)), H', ⟨Nat.le_refl _⟩, ⟨by (with_reducible repeat (first | apply Kd.R_alloc | apply Kd.R_drewN | apply Kd.R_drew)); exact HO433.out⟩, ⟨by repeat (first | (with_reducible first | exact HI0.out | apply IsS100.alloc | apply IsS100.drewN | apply IsS100.drew | apply IsS100.set_1) | exact HI0.out)⟩, ⟨by repeat (first | (with_reducible first | exact HK.out | apply KeepBut.set_ | apply keep_drewN | apply keep_drew | apply keep_alloc) | exact HK.out)⟩, ⟨by repeat (first | (with_reducible first | exact HB.out | apply below_alloc | apply pw_below_drewN | apply below_drew1 | refine below_set ?_ (IsS100.ge HI0.out)) | exact HB.out)⟩⟩
 case round =>
  try clear hji4_ hji5_
  clear H'
  try clear p2
  try clear c6
  try clear p6
  try clear c8
  obtain ⟨x7_1, x8_1, x1001_1, rfl, HA, HK1, HO_7, HI0, HK, HB⟩ := hrel
  cases gk with
  | zero => exact absurd HA.out (by simp [spec_l20Term.l0])
  | succ k1 =>
   have H := HA.out
   clear HA
   simp only [spec_l20Term.l0] at H
   by_cases c10 : x8_1 > 0
   ·rw [if_pos c10] at H
    have c10b0 : decide (0 < x8_1) = true := decide_eq_true c10
    clear c10
    replace H := Option.bind_eq_some_iff.mp H
    obtain ⟨⟨t436, t437⟩, A110, H⟩ := H
    replace H : (if t436 = 0 then ((spec_l20Rd_pick.f k1 s0_0 t437 (wrap64 (ji5 + 2))).bind fun bt438 => (if x7_1.length < 5864062014805 then (spec_l20Term.l0 k1 ji5 a2 (x7_1 ++ [(([(⟨1, bt438.1⟩ : S83)] : List (S83)))]) (wrap64 (x8_1 - 1)) s0_0 bt438.2) else (none))) else ((spec_l20Rd_pick.f k1 s0_0 t437 ji5).bind fun bt446 => (if x7_1.length < 5864062014805 then (spec_l20Term.l0 k1 ji5 a2 (x7_1 ++ [(([(⟨0, bt446.1⟩ : S83)] : List (S83)))]) (wrap64 (x8_1 - 1)) s0_0 bt446.2) else (none)))) = some (r1, r2) := H
    have A11 := Aside0.mk A110
    clear A110
    by_cases c12 : t436 = 0
    ·rw [if_pos c12] at H
     have c12b0 : (t436 == 0) = true := beq_iff_eq.mpr c12
     have c12b1 : (t436 != 0) = false := bne_eq_false_iff_eq.mpr c12
     clear c12
     replace H := Option.bind_eq_some_iff.mp H
     obtain ⟨⟨t438, t439⟩, A130, H⟩ := H
     replace H : (if x7_1.length < 5864062014805 then (spec_l20Term.l0 k1 ji5 a2 (x7_1 ++ [(([(⟨1, t438⟩ : S83)] : List (S83)))]) (wrap64 (x8_1 - 1)) s0_0 t439) else (none)) = some (r1, r2) := H
     have A13 := Aside0.mk A130
     clear A130
     obtain ⟨y440, hy440⟩ : ∃ y_ : List (S83), y_ = (([(⟨1, t438⟩ : S83)] : List (S83))) := ⟨_, rfl⟩
     replace H : (if x7_1.length < 5864062014805 then (spec_l20Term.l0 k1 ji5 a2 (x7_1 ++ [y440]) (wrap64 (x8_1 - 1)) s0_0 t439) else (none)) = some (r1, r2) := by first | (rw [hy440]; with_reducible exact H) | (have H2_ := (Option.bind_some _ _).symm.trans H; rw [hy440]; with_reducible exact H2_) | (have H2_ := (Option.bind_some _ _).symm.trans H; with_reducible exact H2_) | with_reducible exact H | (rw [hy440]; exact H) | exact H
     have Ny440 := Aside0.mk hy440
     clear hy440
     by_cases c14 : x7_1.length < 5864062014805
     ·rw [if_pos c14] at H
      have LMc14 := Aside0.mk c14
      clear c14
      obtain ⟨y443, hy443⟩ : ∃ y_ : List (List (S83)), y_ = (x7_1 ++ [y440]) := ⟨_, rfl⟩
      replace H : (spec_l20Term.l0 k1 ji5 a2 y443 (wrap64 (x8_1 - 1)) s0_0 t439) = some (r1, r2) := by first | (rw [hy443]; with_reducible exact H) | (have H2_ := (Option.bind_some _ _).symm.trans H; rw [hy443]; with_reducible exact H2_) | (have H2_ := (Option.bind_some _ _).symm.trans H; with_reducible exact H2_) | with_reducible exact H | (rw [hy443]; exact H) | exact H
      have Ny443 := Aside0.mk hy443
      clear hy443
      have H' := Aside0.mk H
      clear H
      go_wp2_with (first | ((with_reducible refine gate_callee (f := 64) rfl ?_); refine goesL_ (some 26) rfl rfl Try.func64 (by kernel_rfl) rfl #[.pointer (some ⟨g, 0, none⟩), .int .i64 4] rfl (by (try simp only [List.map_toArray, List.map_cons, List.map_nil]); first | done | rfl | (simp only [List.length_drop, List.length_take]; rfl)) ?_; (with_reducible refine (spec_l20Rd_pick.calls k1 g s0_0 x1001_1 4 t436 t437 w0 _ ?side1 ?side2 A11.out).mono ?_); (case side1 => repeat (first | (with_reducible first | exact HI0.out | apply IsS100.alloc | apply IsS100.drewN | apply IsS100.drew | apply IsS100.set_1) | exact HI0.out)); (case side2 => repeat (first | (with_reducible first | exact HB.out | apply below_alloc | apply pw_below_drewN | apply below_drew1 | refine below_set ?_ (IsS100.ge HI0.out)) | exact HB.out)); rintro e w15 ⟨rfl, hi, hb, hk⟩; refine ⟨_, rfl, ?_⟩; have n0_ := Aside0.mk (Kd.R_mono (Kd.R_keep (IsS100.apart (show IsS100 w0 _ g s0_0 x1001_1 from by repeat (first | (with_reducible first | exact HI0.out | apply IsS100.alloc | apply IsS100.drewN | apply IsS100.drew | apply IsS100.set_1) | exact HI0.out)) (by (with_reducible repeat (first | apply Kd.R_alloc | apply Kd.R_drewN | apply Kd.R_drew)); exact HO_7.out) (by decide)) hk (fun _ h => h.2)) (fun _ h => h.1)); have n1_ := Aside0.mk (KeepBut.trans (by repeat (first | (with_reducible first | exact HK.out | apply KeepBut.set_ | apply keep_drewN | apply keep_drew | apply keep_alloc) | exact HK.out)) hk (.inl rfl)); have n2_ := Aside0.mk (hb); have n3_ := Aside0.mk (hi); clear HO_7; clear HK; clear HB; clear HI0; have HO_7 := n0_; have HK := n1_; have HB := n2_; have HI0 := n3_; clear n0_ n1_ n2_ n3_; (try clear hb); (try clear hb2); (try clear hk); (try clear hi)) | ((with_reducible refine gate_callee (f := 64) rfl ?_); refine goesL_ (some 32) rfl rfl Try.func64 (by kernel_rfl) rfl #[.pointer (some ⟨g, 0, none⟩), .int .i64 (wrap64 (ji5 + 2))] rfl (by (try simp only [List.map_toArray, List.map_cons, List.map_nil]); first | done | (simp only [hji5]; rfl) | rfl | (simp only [List.length_drop, List.length_take]; rfl)) ?_; (with_reducible refine (spec_l20Rd_pick.calls k1 g s0_0 t437 (wrap64 (ji5 + 2)) t438 t439 w0 _ ?side1 ?side2 A13.out).mono ?_); (case side1 => repeat (first | (with_reducible first | exact HI0.out | apply IsS100.alloc | apply IsS100.drewN | apply IsS100.drew | apply IsS100.set_1) | exact HI0.out)); (case side2 => repeat (first | (with_reducible first | exact HB.out | apply below_alloc | apply pw_below_drewN | apply below_drew1 | refine below_set ?_ (IsS100.ge HI0.out)) | exact HB.out)); rintro e w16 ⟨rfl, hi, hb, hk⟩; refine ⟨_, rfl, ?_⟩; have n0_ := Aside0.mk (Kd.R_mono (Kd.R_keep (IsS100.apart (show IsS100 w0 _ g s0_0 t437 from by repeat (first | (with_reducible first | exact HI0.out | apply IsS100.alloc | apply IsS100.drewN | apply IsS100.drew | apply IsS100.set_1) | exact HI0.out)) (by (with_reducible repeat (first | apply Kd.R_alloc | apply Kd.R_drewN | apply Kd.R_drew)); exact HO_7.out) (by decide)) hk (fun _ h => h.2)) (fun _ h => h.1)); have n1_ := Aside0.mk (KeepBut.trans (by repeat (first | (with_reducible first | exact HK.out | apply KeepBut.set_ | apply keep_drewN | apply keep_drew | apply keep_alloc) | exact HK.out)) hk (.inl rfl)); have n2_ := Aside0.mk (hb); have n3_ := Aside0.mk (hi); clear HO_7; clear HK; clear HB; clear HI0; have HO_7 := n0_; have HK := n1_; have HB := n2_; have HI0 := n3_; clear n0_ n1_ n2_ n3_; (try clear hb); (try clear hb2); (try clear hk); (try clear hi)) | ((with_reducible refine gate_dst (N := 34) rfl ?_); refine Kd.R_lit k83 _ 83 ?hg (N := 34) ?hd (xs := ([(⟨1, t438⟩ : S83)] : List (S83))) (inner := [.int .i64 1, .int .i64 t438]) (ok := fun _ => True) (okp := fun _ => True) ?hr ?hp (fun _ hk => hk) trivial (Below.refl _ _) (Nat.le_refl _) (by simp) ?_; (case hd => rfl); (case hg => rfl); (case hr => first | (go_simp; done) | (go_simp; rfl)); (case hp => exact (Reps.c2 (show Kd.M k83 _ _ _ (⟨1, t438⟩ : S83) [.int .i64 1, .int .i64 t438] from (k83_mkM _ _ _ (⟨1, t438⟩ : S83) )) (Reps.none _ _))); intro v441 w17 ho18 hb hg_ hnew_; clear hg_ hnew_; (first | rw [← Ny440.out] at ho18 | (simp only [Int.reduceToNat] at ho18; rw [← Ny440.out] at ho18)); have n0_ := Aside0.mk (Kd.R_elder' (by (with_reducible repeat (first | apply Kd.R_alloc | apply Kd.R_drewN | apply Kd.R_drew)); exact HO_7.out) (Kd.R_base ho18) hb); have n1_ := Aside0.mk (Kd.R_lower ho18 (keep_size (w := w) (g := g) (row := none) (by repeat (first | (with_reducible first | exact HK.out | apply KeepBut.set_ | apply keep_drewN | apply keep_drew | apply keep_alloc) | exact HK.out)))); have n2_ := Aside0.mk (IsS100.below (by repeat (first | (with_reducible first | exact HI0.out | apply IsS100.alloc | apply IsS100.drewN | apply IsS100.drew | apply IsS100.set_1) | exact HI0.out)) hb); have n3_ := Aside0.mk (KeepBut.trans (by repeat (first | (with_reducible first | exact HK.out | apply KeepBut.set_ | apply keep_drewN | apply keep_drew | apply keep_alloc) | exact HK.out)) (KeepBut.of_below hb g none) (.inl rfl)); have n4_ := Aside0.mk (below_step (by repeat (first | (with_reducible first | exact HB.out | apply below_alloc | apply pw_below_drewN | apply below_drew1 | refine below_set ?_ (IsS100.ge HI0.out)) | exact HB.out)) hb); clear HO_7; clear HI0; clear HK; clear HB; have HO_7 := n0_; have HO442 := n1_; have HI0 := n2_; have HK := n3_; have HB := n4_; clear n0_ n1_ n2_ n3_ n4_; clear hb ho18; obtain ⟨Ao20, co20, eo20⟩ := Kd.R_slice HO442.out; subst eo20) | ((with_reducible refine gate_builtin (b := .append) (xs := #[.tmp 28, .tmp 35]) rfl ?_); at_builtin; refine Kd.R_append (Kd.slice 83 k83) w.heap.size rfl (.tmp 28) (.tmp 35) 106 35 (.slice none 0 0) 24 rfl Try.underlying106 info35 rfl (by decide) (by omega) u7 x7_1 y440 [.slice Ao20 y440.length co20] (fun _ => True) (fun k_ => ((fun _ => True)) k_ ∧ some k_ ≠ (u7 : Value).ownBlock) rfl rfl ?aP (fun _ hk => hk) ?aF ?aO (Below.refl _ _) ?aS ?aL ?_; (case aP => exact Kd.M_row (Kd.R_mono (Kd.R_apart' (HO442.out) (Kd.R_typed HO_7.out) (by decide)) (fun k_ hk => ⟨trivial, hk.2⟩))); (case aF => exact (fun _ _ => trivial)); (case aO => exact (by (with_reducible repeat (first | apply Kd.R_alloc | apply Kd.R_drewN | apply Kd.R_drew)); exact Kd.R_mono HO_7.out (fun _ hk => trivial))); (case aS => exact (keep_size (w := w) (g := g) (row := none) (by repeat (first | (with_reducible first | exact HK.out | apply KeepBut.set_ | apply keep_drewN | apply keep_drew | apply keep_alloc) | exact HK.out)))); (case aL => have := LMc14.out; omega); intro v444 w19 ho hb hg hat; rw [← Ny443.out] at ho; have n0_ := Aside0.mk (IsS100.grown (by repeat (first | (with_reducible first | exact HI0.out | apply IsS100.alloc | apply IsS100.drewN | apply IsS100.drew | apply IsS100.set_1) | exact HI0.out)) hg (IsS100.own_ne HI0.out HO_7.out (by decide))); have n1_ := Aside0.mk (below_weaken (by repeat (first | (with_reducible first | exact HB.out | apply below_alloc | apply pw_below_drewN | apply below_drew1 | refine below_set ?_ (IsS100.ge HI0.out)) | exact HB.out)) HL.out hb); have n2_ := Aside0.mk (KeepBut.trans (by repeat (first | (with_reducible first | exact HK.out | apply KeepBut.set_ | apply keep_drewN | apply keep_drew | apply keep_alloc) | exact HK.out)) (KeepBut.of_grown hg g) (Kd.R_base2 HO_7.out)); have n3_ := Aside0.mk (ho); clear HI0; clear HB; clear HK; clear HO_7; clear HO442; have HI0 := n0_; have HB := n1_; have HK := n2_; have HO445 := n3_; clear n0_ n1_ n2_ n3_; clear ho hb hg hat))
      go_roundg k1
      case measure => have := HK1.out; omega
      case rel => exact ⟨(y443), (wrap64 (x8_1 - 1)), (t439), (by first | rfl | (simp; done) | (simp [*]; done)), H', ⟨by have := HK1.out; omega⟩, ⟨by (with_reducible repeat (first | apply Kd.R_alloc | apply Kd.R_drewN | apply Kd.R_drew)); exact HO445.out⟩, ⟨by repeat (first | (with_reducible first | exact HI0.out | apply IsS100.alloc | apply IsS100.drewN | apply IsS100.drew | apply IsS100.set_1) | exact HI0.out)⟩, ⟨by repeat (first | (with_reducible first | exact HK.out | apply KeepBut.set_ | apply keep_drewN | apply keep_drew | apply keep_alloc) | exact HK.out)⟩, ⟨by repeat (first | (with_reducible first | exact HB.out | apply below_alloc | apply pw_below_drewN | apply below_drew1 | refine below_set ?_ (IsS100.ge HI0.out)) | exact HB.out)⟩⟩
     ·rw [if_neg c14] at H
      exact absurd H (by simp)
    ·rw [if_neg c12] at H
     have c12b0 : (t436 == 0) = false := beq_eq_false_iff_ne.mpr c12
     have c12b1 : (t436 != 0) = true := bne_iff_ne.mpr c12
     replace H := Option.bind_eq_some_iff.mp H
     obtain ⟨⟨t446, t447⟩, A210, H⟩ := H
     replace H : (if x7_1.length < 5864062014805 then (spec_l20Term.l0 k1 ji5 a2 (x7_1 ++ [(([(⟨0, t446⟩ : S83)] : List (S83)))]) (wrap64 (x8_1 - 1)) s0_0 t447) else (none)) = some (r1, r2) := H
     have A21 := Aside0.mk A210
     clear A210
     obtain ⟨y448, hy448⟩ : ∃ y_ : List (S83), y_ = (([(⟨0, t446⟩ : S83)] : List (S83))) := ⟨_, rfl⟩
     replace H : (if x7_1.length < 5864062014805 then (spec_l20Term.l0 k1 ji5 a2 (x7_1 ++ [y448]) (wrap64 (x8_1 - 1)) s0_0 t447) else (none)) = some (r1, r2) := by first | (rw [hy448]; with_reducible exact H) | (have H2_ := (Option.bind_some _ _).symm.trans H; rw [hy448]; with_reducible exact H2_) | (have H2_ := (Option.bind_some _ _).symm.trans H; with_reducible exact H2_) | with_reducible exact H | (rw [hy448]; exact H) | exact H
     have Ny448 := Aside0.mk hy448
     clear hy448
     by_cases c22 : x7_1.length < 5864062014805
     ·rw [if_pos c22] at H
      have LMc22 := Aside0.mk c22
      clear c22
      obtain ⟨y451, hy451⟩ : ∃ y_ : List (List (S83)), y_ = (x7_1 ++ [y448]) := ⟨_, rfl⟩
      replace H : (spec_l20Term.l0 k1 ji5 a2 y451 (wrap64 (x8_1 - 1)) s0_0 t447) = some (r1, r2) := by first | (rw [hy451]; with_reducible exact H) | (have H2_ := (Option.bind_some _ _).symm.trans H; rw [hy451]; with_reducible exact H2_) | (have H2_ := (Option.bind_some _ _).symm.trans H; with_reducible exact H2_) | with_reducible exact H | (rw [hy451]; exact H) | exact H
      have Ny451 := Aside0.mk hy451
      clear hy451
      have H' := Aside0.mk H
      clear H
      go_wp2_with (first | ((with_reducible refine gate_callee (f := 64) rfl ?_); refine goesL_ (some 26) rfl rfl Try.func64 (by kernel_rfl) rfl #[.pointer (some ⟨g, 0, none⟩), .int .i64 4] rfl (by (try simp only [List.map_toArray, List.map_cons, List.map_nil]); first | done | rfl | (simp only [List.length_drop, List.length_take]; rfl)) ?_; (with_reducible refine (spec_l20Rd_pick.calls k1 g s0_0 x1001_1 4 t436 t437 w0 _ ?side1 ?side2 A11.out).mono ?_); (case side1 => repeat (first | (with_reducible first | exact HI0.out | apply IsS100.alloc | apply IsS100.drewN | apply IsS100.drew | apply IsS100.set_1) | exact HI0.out)); (case side2 => repeat (first | (with_reducible first | exact HB.out | apply below_alloc | apply pw_below_drewN | apply below_drew1 | refine below_set ?_ (IsS100.ge HI0.out)) | exact HB.out)); rintro e w23 ⟨rfl, hi, hb, hk⟩; refine ⟨_, rfl, ?_⟩; have n0_ := Aside0.mk (Kd.R_mono (Kd.R_keep (IsS100.apart (show IsS100 w0 _ g s0_0 x1001_1 from by repeat (first | (with_reducible first | exact HI0.out | apply IsS100.alloc | apply IsS100.drewN | apply IsS100.drew | apply IsS100.set_1) | exact HI0.out)) (by (with_reducible repeat (first | apply Kd.R_alloc | apply Kd.R_drewN | apply Kd.R_drew)); exact HO_7.out) (by decide)) hk (fun _ h => h.2)) (fun _ h => h.1)); have n1_ := Aside0.mk (KeepBut.trans (by repeat (first | (with_reducible first | exact HK.out | apply KeepBut.set_ | apply keep_drewN | apply keep_drew | apply keep_alloc) | exact HK.out)) hk (.inl rfl)); have n2_ := Aside0.mk (hb); have n3_ := Aside0.mk (hi); clear HO_7; clear HK; clear HB; clear HI0; have HO_7 := n0_; have HK := n1_; have HB := n2_; have HI0 := n3_; clear n0_ n1_ n2_ n3_; (try clear hb); (try clear hb2); (try clear hk); (try clear hi)) | ((with_reducible refine gate_callee (f := 64) rfl ?_); refine goesL_ (some 40) rfl rfl Try.func64 (by kernel_rfl) rfl #[.pointer (some ⟨g, 0, none⟩), .int .i64 ji5] rfl (by (try simp only [List.map_toArray, List.map_cons, List.map_nil]); first | done | (simp only [hji5]; rfl) | rfl | (simp only [List.length_drop, List.length_take]; rfl)) ?_; (with_reducible refine (spec_l20Rd_pick.calls k1 g s0_0 t437 ji5 t446 t447 w0 _ ?side1 ?side2 A21.out).mono ?_); (case side1 => repeat (first | (with_reducible first | exact HI0.out | apply IsS100.alloc | apply IsS100.drewN | apply IsS100.drew | apply IsS100.set_1) | exact HI0.out)); (case side2 => repeat (first | (with_reducible first | exact HB.out | apply below_alloc | apply pw_below_drewN | apply below_drew1 | refine below_set ?_ (IsS100.ge HI0.out)) | exact HB.out)); rintro e w24 ⟨rfl, hi, hb, hk⟩; refine ⟨_, rfl, ?_⟩; have n0_ := Aside0.mk (Kd.R_mono (Kd.R_keep (IsS100.apart (show IsS100 w0 _ g s0_0 t437 from by repeat (first | (with_reducible first | exact HI0.out | apply IsS100.alloc | apply IsS100.drewN | apply IsS100.drew | apply IsS100.set_1) | exact HI0.out)) (by (with_reducible repeat (first | apply Kd.R_alloc | apply Kd.R_drewN | apply Kd.R_drew)); exact HO_7.out) (by decide)) hk (fun _ h => h.2)) (fun _ h => h.1)); have n1_ := Aside0.mk (KeepBut.trans (by repeat (first | (with_reducible first | exact HK.out | apply KeepBut.set_ | apply keep_drewN | apply keep_drew | apply keep_alloc) | exact HK.out)) hk (.inl rfl)); have n2_ := Aside0.mk (hb); have n3_ := Aside0.mk (hi); clear HO_7; clear HK; clear HB; clear HI0; have HO_7 := n0_; have HK := n1_; have HB := n2_; have HI0 := n3_; clear n0_ n1_ n2_ n3_; (try clear hb); (try clear hb2); (try clear hk); (try clear hi)) | ((with_reducible refine gate_dst (N := 42) rfl ?_); refine Kd.R_lit k83 _ 83 ?hg (N := 42) ?hd (xs := ([(⟨0, t446⟩ : S83)] : List (S83))) (inner := [.int .i64 0, .int .i64 t446]) (ok := fun _ => True) (okp := fun _ => True) ?hr ?hp (fun _ hk => hk) trivial (Below.refl _ _) (Nat.le_refl _) (by simp) ?_; (case hd => rfl); (case hg => rfl); (case hr => first | (go_simp; done) | (go_simp; rfl)); (case hp => exact (Reps.c2 (show Kd.M k83 _ _ _ (⟨0, t446⟩ : S83) [.int .i64 0, .int .i64 t446] from (k83_mkM _ _ _ (⟨0, t446⟩ : S83) )) (Reps.none _ _))); intro v449 w25 ho26 hb hg_ hnew_; clear hg_ hnew_; (first | rw [← Ny448.out] at ho26 | (simp only [Int.reduceToNat] at ho26; rw [← Ny448.out] at ho26)); have n0_ := Aside0.mk (Kd.R_elder' (by (with_reducible repeat (first | apply Kd.R_alloc | apply Kd.R_drewN | apply Kd.R_drew)); exact HO_7.out) (Kd.R_base ho26) hb); have n1_ := Aside0.mk (Kd.R_lower ho26 (keep_size (w := w) (g := g) (row := none) (by repeat (first | (with_reducible first | exact HK.out | apply KeepBut.set_ | apply keep_drewN | apply keep_drew | apply keep_alloc) | exact HK.out)))); have n2_ := Aside0.mk (IsS100.below (by repeat (first | (with_reducible first | exact HI0.out | apply IsS100.alloc | apply IsS100.drewN | apply IsS100.drew | apply IsS100.set_1) | exact HI0.out)) hb); have n3_ := Aside0.mk (KeepBut.trans (by repeat (first | (with_reducible first | exact HK.out | apply KeepBut.set_ | apply keep_drewN | apply keep_drew | apply keep_alloc) | exact HK.out)) (KeepBut.of_below hb g none) (.inl rfl)); have n4_ := Aside0.mk (below_step (by repeat (first | (with_reducible first | exact HB.out | apply below_alloc | apply pw_below_drewN | apply below_drew1 | refine below_set ?_ (IsS100.ge HI0.out)) | exact HB.out)) hb); clear HO_7; clear HI0; clear HK; clear HB; have HO_7 := n0_; have HO450 := n1_; have HI0 := n2_; have HK := n3_; have HB := n4_; clear n0_ n1_ n2_ n3_ n4_; clear hb ho26; obtain ⟨Ao28, co28, eo28⟩ := Kd.R_slice HO450.out; subst eo28) | ((with_reducible refine gate_builtin (b := .append) (xs := #[.tmp 37, .tmp 43]) rfl ?_); at_builtin; refine Kd.R_append (Kd.slice 83 k83) w.heap.size rfl (.tmp 37) (.tmp 43) 106 35 (.slice none 0 0) 24 rfl Try.underlying106 info35 rfl (by decide) (by omega) u7 x7_1 y448 [.slice Ao28 y448.length co28] (fun _ => True) (fun k_ => ((fun _ => True)) k_ ∧ some k_ ≠ (u7 : Value).ownBlock) rfl rfl ?aP (fun _ hk => hk) ?aF ?aO (Below.refl _ _) ?aS ?aL ?_; (case aP => exact Kd.M_row (Kd.R_mono (Kd.R_apart' (HO450.out) (Kd.R_typed HO_7.out) (by decide)) (fun k_ hk => ⟨trivial, hk.2⟩))); (case aF => exact (fun _ _ => trivial)); (case aO => exact (by (with_reducible repeat (first | apply Kd.R_alloc | apply Kd.R_drewN | apply Kd.R_drew)); exact Kd.R_mono HO_7.out (fun _ hk => trivial))); (case aS => exact (keep_size (w := w) (g := g) (row := none) (by repeat (first | (with_reducible first | exact HK.out | apply KeepBut.set_ | apply keep_drewN | apply keep_drew | apply keep_alloc) | exact HK.out)))); (case aL => have := LMc22.out; omega); intro v452 w27 ho hb hg hat; rw [← Ny451.out] at ho; have n0_ := Aside0.mk (IsS100.grown (by repeat (first | (with_reducible first | exact HI0.out | apply IsS100.alloc | apply IsS100.drewN | apply IsS100.drew | apply IsS100.set_1) | exact HI0.out)) hg (IsS100.own_ne HI0.out HO_7.out (by decide))); have n1_ := Aside0.mk (below_weaken (by repeat (first | (with_reducible first | exact HB.out | apply below_alloc | apply pw_below_drewN | apply below_drew1 | refine below_set ?_ (IsS100.ge HI0.out)) | exact HB.out)) HL.out hb); have n2_ := Aside0.mk (KeepBut.trans (by repeat (first | (with_reducible first | exact HK.out | apply KeepBut.set_ | apply keep_drewN | apply keep_drew | apply keep_alloc) | exact HK.out)) (KeepBut.of_grown hg g) (Kd.R_base2 HO_7.out)); have n3_ := Aside0.mk (ho); clear HI0; clear HB; clear HK; clear HO_7; clear HO450; have HI0 := n0_; have HB := n1_; have HK := n2_; have HO453 := n3_; clear n0_ n1_ n2_ n3_; clear ho hb hg hat))
      go_roundg k1
      case measure => have := HK1.out; omega
      case rel => exact ⟨(y451), (wrap64 (x8_1 - 1)), (t447), (by first | rfl | (simp; done) | (simp [*]; done)), H', ⟨by have := HK1.out; omega⟩, ⟨by (with_reducible repeat (first | apply Kd.R_alloc | apply Kd.R_drewN | apply Kd.R_drew)); exact HO453.out⟩, ⟨by repeat (first | (with_reducible first | exact HI0.out | apply IsS100.alloc | apply IsS100.drewN | apply IsS100.drew | apply IsS100.set_1) | exact HI0.out)⟩, ⟨by repeat (first | (with_reducible first | exact HK.out | apply KeepBut.set_ | apply keep_drewN | apply keep_drew | apply keep_alloc) | exact HK.out)⟩, ⟨by repeat (first | (with_reducible first | exact HB.out | apply below_alloc | apply pw_below_drewN | apply below_drew1 | refine below_set ?_ (IsS100.ge HI0.out)) | exact HB.out)⟩⟩
     ·rw [if_neg c22] at H
      exact absurd H (by simp)
   ·rw [if_neg c10] at H
    have c10b0 : decide (0 < x8_1) = false := decide_eq_false c10
    clear c10
    have H' := Aside0.mk H
    clear H
    go_wp2
    go_loopg [7, 9] k1 (fun kq v7 v9 w' => ∃ (x7_2 : List (List (S83))) (x9_2 : Int) (x1001_2 : Int), v9 = .int .i64 x9_2 ∧ Aside0 (spec_l20Term.l1 kq a2 x7_2 x9_2 s0_0 x1001_2 = some (r1, r2)) ∧ Aside0 (kq ≤ k1) ∧ Aside0 (Kd.R (Kd.slice 83 k83) 35 w' w.heap.size (fun _ => True) v7 x7_2) ∧ Aside0 (IsS100 w0 w' g s0_0 x1001_2) ∧ Aside0 (KeepBut w w' g none) ∧ Aside0 (Below w0.heap.size w0 w'))
    case atStart => exact ⟨(x7_1), (3), (x1001_1), (by first | rfl | (simp; done) | (simp [*]; done)), H', ⟨Nat.le_refl _⟩, ⟨by (with_reducible repeat (first | apply Kd.R_alloc | apply Kd.R_drewN | apply Kd.R_drew)); exact HO_7.out⟩, ⟨by repeat (first | (with_reducible first | exact HI0.out | apply IsS100.alloc | apply IsS100.drewN | apply IsS100.drew | apply IsS100.set_1) | exact HI0.out)⟩, ⟨by repeat (first | (with_reducible first | exact HK.out | apply KeepBut.set_ | apply keep_drewN | apply keep_drew | apply keep_alloc) | exact HK.out)⟩, ⟨by repeat (first | (with_reducible first | exact HB.out | apply below_alloc | apply pw_below_drewN | apply below_drew1 | refine below_set ?_ (IsS100.ge HI0.out)) | exact HB.out)⟩⟩
    case round =>
     try clear hji4_ hji5_
     clear H'
     try clear c1
     try clear c2
     try clear p2
     try clear c6
     try clear p6
     try clear c8
     try clear c10
     try clear c10b0
     try clear c12
     try clear c12b0
     try clear c12b1
     try clear c14
     try clear c22
     try clear p2
     try clear p6
     obtain ⟨x7_2, x9_2, x1001_2, rfl, HA, HK2, HO_7, HI0, HK, HB⟩ := hrel
     cases gk with
     | zero => exact absurd HA.out (by simp [spec_l20Term.l1])
     | succ k2 =>
      have H := HA.out
      clear HA
      simp only [spec_l20Term.l1] at H
      by_cases c29 : (x7_2.length : Int) > 1
      ·rw [if_pos c29] at H
       have c29b0 : decide (1 < (x7_2.length : Int)) = true := decide_eq_true c29
       have c29b1 : decide (1 < x7_2.length) = true := decide_eq_true (by omega)
       clear c29
       replace H := Option.bind_eq_some_iff.mp H
       obtain ⟨⟨t454, t455⟩, A300, H⟩ := H
       replace H : (if x9_2 > 0 then ((spec_l20Rd_pick.f k2 s0_0 t455 4).bind fun bt456 => (if bt456.1 = 0 then ((some (([] : List (S83)) : List (S83))).bind fun y458 => (if 0 ≤ t454 then (if t454 < (x7_2.length : Int) then (if y458.length + (rd_L4 x7_2 t454).length < 8796093022208 then ((some (y458 ++ (rd_L4 x7_2 t454) : List (S83))).bind fun y462 => (if y462.length < 8796093022208 then (spec_l20Term.l1 k2 a2 (x7_2.set (t454 : Int).toNat (y462 ++ [(⟨2, 0⟩ : S83)])) (wrap64 (x9_2 - 1)) s0_0 bt456.2) else (none))) else (none)) else (none)) else (none))) else ((some (([] : List (S83)) : List (S83))).bind fun y469 => (if 0 ≤ t454 then (if t454 < (x7_2.length : Int) then (if y469.length + (rd_L4 x7_2 t454).length < 8796093022208 then ((some (y469 ++ (rd_L4 x7_2 t454) : List (S83))).bind fun y473 => (if 0 ≤ (wrap64 (t454 + 1)) then (if (wrap64 (t454 + 1)) < (x7_2.length : Int) then (if y473.length + (rd_L4 x7_2 (wrap64 (t454 + 1))).length < 8796093022208 then ((some (y473 ++ (rd_L4 x7_2 (wrap64 (t454 + 1))) : List (S83))).bind fun y477 => ((spec_l20Rd_pick.f k2 s0_0 bt456.2 3).bind fun bt480 => (if y477.length < 8796093022208 then ((some (([] : List (List (S83))) : List (List (S83)))).bind fun y485 => (if t454 ≤ (x7_2.length : Int) then ((some (x7_2.take (t454 : Int).toNat : List (List (S83)))).bind fun y488 => (if y485.length + y488.length < 5864062014805 then ((some (y485 ++ y488 : List (List (S83)))).bind fun y492 => (if y492.length < 5864062014805 then ((some (y492 ++ [(y477 ++ [(⟨wrap64 (3 + bt480.1), 0⟩ : S83)])] : List (List (S83)))).bind fun y495 => (if 0 ≤ (wrap64 (t454 + 2)) then (if (wrap64 (t454 + 2)) ≤ (x7_2.length : Int) then ((some (x7_2.drop ((wrap64 (t454 + 2)) : Int).toNat : List (List (S83)))).bind fun y498 => (if y495.length + y498.length < 5864062014805 then (spec_l20Term.l1 k2 a2 (y495 ++ y498) x9_2 s0_0 bt480.2) else (none))) else (none)) else (none))) else (none))) else (none))) else (none))) else (none)))) else (none)) else (none)) else (none))) else (none)) else (none)) else (none))))) else ((some (([] : List (S83)) : List (S83))).bind fun y505 => (if 0 ≤ t454 then (if t454 < (x7_2.length : Int) then (if y505.length + (rd_L4 x7_2 t454).length < 8796093022208 then ((some (y505 ++ (rd_L4 x7_2 t454) : List (S83))).bind fun y509 => (if 0 ≤ (wrap64 (t454 + 1)) then (if (wrap64 (t454 + 1)) < (x7_2.length : Int) then (if y509.length + (rd_L4 x7_2 (wrap64 (t454 + 1))).length < 8796093022208 then ((some (y509 ++ (rd_L4 x7_2 (wrap64 (t454 + 1))) : List (S83))).bind fun y513 => ((spec_l20Rd_pick.f k2 s0_0 t455 3).bind fun bt516 => (if y513.length < 8796093022208 then ((some (([] : List (List (S83))) : List (List (S83)))).bind fun y521 => (if t454 ≤ (x7_2.length : Int) then ((some (x7_2.take (t454 : Int).toNat : List (List (S83)))).bind fun y524 => (if y521.length + y524.length < 5864062014805 then ((some (y521 ++ y524 : List (List (S83)))).bind fun y528 => (if y528.length < 5864062014805 then ((some (y528 ++ [(y513 ++ [(⟨wrap64 (3 + bt516.1), 0⟩ : S83)])] : List (List (S83)))).bind fun y531 => (if 0 ≤ (wrap64 (t454 + 2)) then (if (wrap64 (t454 + 2)) ≤ (x7_2.length : Int) then ((some (x7_2.drop ((wrap64 (t454 + 2)) : Int).toNat : List (List (S83)))).bind fun y534 => (if y531.length + y534.length < 5864062014805 then (spec_l20Term.l1 k2 a2 (y531 ++ y534) x9_2 s0_0 bt516.2) else (none))) else (none)) else (none))) else (none))) else (none))) else (none))) else (none)))) else (none)) else (none)) else (none))) else (none)) else (none)) else (none)))) = some (r1, r2) := H
       have A30 := Aside0.mk A300
       clear A300
       by_cases c31 : x9_2 > 0
       ·rw [if_pos c31] at H
        have c31b0 : decide (0 < x9_2) = true := decide_eq_true c31
        clear c31
        replace H := Option.bind_eq_some_iff.mp H
        obtain ⟨⟨t456, t457⟩, A320, H⟩ := H
        replace H : (if t456 = 0 then ((some (([] : List (S83)) : List (S83))).bind fun y458 => (if 0 ≤ t454 then (if t454 < (x7_2.length : Int) then (if y458.length + (rd_L4 x7_2 t454).length < 8796093022208 then ((some (y458 ++ (rd_L4 x7_2 t454) : List (S83))).bind fun y462 => (if y462.length < 8796093022208 then (spec_l20Term.l1 k2 a2 (x7_2.set (t454 : Int).toNat (y462 ++ [(⟨2, 0⟩ : S83)])) (wrap64 (x9_2 - 1)) s0_0 t457) else (none))) else (none)) else (none)) else (none))) else ((some (([] : List (S83)) : List (S83))).bind fun y469 => (if 0 ≤ t454 then (if t454 < (x7_2.length : Int) then (if y469.length + (rd_L4 x7_2 t454).length < 8796093022208 then ((some (y469 ++ (rd_L4 x7_2 t454) : List (S83))).bind fun y473 => (if 0 ≤ (wrap64 (t454 + 1)) then (if (wrap64 (t454 + 1)) < (x7_2.length : Int) then (if y473.length + (rd_L4 x7_2 (wrap64 (t454 + 1))).length < 8796093022208 then ((some (y473 ++ (rd_L4 x7_2 (wrap64 (t454 + 1))) : List (S83))).bind fun y477 => ((spec_l20Rd_pick.f k2 s0_0 t457 3).bind fun bt480 => (if y477.length < 8796093022208 then ((some (([] : List (List (S83))) : List (List (S83)))).bind fun y485 => (if t454 ≤ (x7_2.length : Int) then ((some (x7_2.take (t454 : Int).toNat : List (List (S83)))).bind fun y488 => (if y485.length + y488.length < 5864062014805 then ((some (y485 ++ y488 : List (List (S83)))).bind fun y492 => (if y492.length < 5864062014805 then ((some (y492 ++ [(y477 ++ [(⟨wrap64 (3 + bt480.1), 0⟩ : S83)])] : List (List (S83)))).bind fun y495 => (if 0 ≤ (wrap64 (t454 + 2)) then (if (wrap64 (t454 + 2)) ≤ (x7_2.length : Int) then ((some (x7_2.drop ((wrap64 (t454 + 2)) : Int).toNat : List (List (S83)))).bind fun y498 => (if y495.length + y498.length < 5864062014805 then (spec_l20Term.l1 k2 a2 (y495 ++ y498) x9_2 s0_0 bt480.2) else (none))) else (none)) else (none))) else (none))) else (none))) else (none))) else (none)))) else (none)) else (none)) else (none))) else (none)) else (none)) else (none)))) = some (r1, r2) := H
        have A32 := Aside0.mk A320
        clear A320
        by_cases c33 : t456 = 0
        ·rw [if_pos c33] at H
         have c33b0 : (t456 == 0) = true := beq_iff_eq.mpr c33
         have c33b1 : (t456 != 0) = false := bne_eq_false_iff_eq.mpr c33
         clear c33
         obtain ⟨y458, hy458⟩ : ∃ y_ : List (S83), y_ = (([] : List (S83))) := ⟨_, rfl⟩
         replace H : (if 0 ≤ t454 then (if t454 < (x7_2.length : Int) then (if y458.length + (rd_L4 x7_2 t454).length < 8796093022208 then ((some (y458 ++ (rd_L4 x7_2 t454) : List (S83))).bind fun y462 => (if y462.length < 8796093022208 then (spec_l20Term.l1 k2 a2 (x7_2.set (t454 : Int).toNat (y462 ++ [(⟨2, 0⟩ : S83)])) (wrap64 (x9_2 - 1)) s0_0 t457) else (none))) else (none)) else (none)) else (none)) = some (r1, r2) := by first | (rw [hy458]; with_reducible exact H) | (have H2_ := (Option.bind_some _ _).symm.trans H; rw [hy458]; with_reducible exact H2_) | (have H2_ := (Option.bind_some _ _).symm.trans H; with_reducible exact H2_) | with_reducible exact H | (rw [hy458]; exact H) | exact H
         have Ny458 := Aside0.mk hy458
         clear hy458
         by_cases c34 : 0 ≤ t454
         ·rw [if_pos c34] at H
          have c34b0 : decide (0 ≤ t454) = true := decide_eq_true c34
          clear c34
          by_cases c35 : t454 < (x7_2.length : Int)
          ·rw [if_pos c35] at H
           have c35b0 : decide (t454 < (x7_2.length : Int)) = true := decide_eq_true c35
           clear c35
           by_cases c36 : y458.length + (rd_L4 x7_2 t454).length < 8796093022208
           ·rw [if_pos c36] at H
            have LMc36 := Aside0.mk c36
            clear c36
            obtain ⟨y462, hy462⟩ : ∃ y_ : List (S83), y_ = (y458 ++ (rd_L4 x7_2 t454)) := ⟨_, rfl⟩
            replace H : (if y462.length < 8796093022208 then (spec_l20Term.l1 k2 a2 (x7_2.set (t454 : Int).toNat (y462 ++ [(⟨2, 0⟩ : S83)])) (wrap64 (x9_2 - 1)) s0_0 t457) else (none)) = some (r1, r2) := by first | (rw [hy462]; with_reducible exact H) | (have H2_ := (Option.bind_some _ _).symm.trans H; rw [hy462]; with_reducible exact H2_) | (have H2_ := (Option.bind_some _ _).symm.trans H; with_reducible exact H2_) | with_reducible exact H | (rw [hy462]; exact H) | exact H
            have Ny462 := Aside0.mk hy462
            clear hy462
            by_cases c37 : y462.length < 8796093022208
            ·rw [if_pos c37] at H
             have LMc37 := Aside0.mk c37
             clear c37
             obtain ⟨y465, hy465⟩ : ∃ y_ : List (S83), y_ = (y462 ++ [(⟨2, 0⟩ : S83)]) := ⟨_, rfl⟩
             replace H : (spec_l20Term.l1 k2 a2 (x7_2.set (t454 : Int).toNat y465) (wrap64 (x9_2 - 1)) s0_0 t457) = some (r1, r2) := by first | (rw [hy465]; with_reducible exact H) | (have H2_ := (Option.bind_some _ _).symm.trans H; rw [hy465]; with_reducible exact H2_) | (have H2_ := (Option.bind_some _ _).symm.trans H; with_reducible exact H2_) | with_reducible exact H | (rw [hy465]; exact H) | exact H
             have Ny465 := Aside0.mk hy465
             clear hy465
             obtain ⟨y468, hy468⟩ : ∃ y_ : List (List (S83)), y_ = (x7_2.set (t454 : Int).toNat y465) := ⟨_, rfl⟩
             replace H : (spec_l20Term.l1 k2 a2 y468 (wrap64 (x9_2 - 1)) s0_0 t457) = some (r1, r2) := by first | (rw [hy468]; with_reducible exact H) | (have H2_ := (Option.bind_some _ _).symm.trans H; rw [hy468]; with_reducible exact H2_) | (have H2_ := (Option.bind_some _ _).symm.trans H; with_reducible exact H2_) | with_reducible exact H | (rw [hy468]; exact H) | exact H
             have Ny468 := Aside0.mk hy468
             clear hy468
             have H' := Aside0.mk H
             clear H
             obtain ⟨Ao39, co39, eo39⟩ := Kd.R_slice HO_7.out
             subst eo39
             go_wp2_with (first | ((with_reducible refine gate_callee (f := 64) rfl ?_); refine goesL_ (some 52) rfl rfl Try.func64 (by kernel_rfl) rfl #[.pointer (some ⟨g, 0, none⟩), .int .i64 (wrap64 ((x7_2.length : Int) - 1))] rfl (by (try simp only [List.map_toArray, List.map_cons, List.map_nil]); first | done | rfl | (simp only [List.length_drop, List.length_take]; rfl)) ?_; (with_reducible refine (spec_l20Rd_pick.calls k2 g s0_0 x1001_2 (wrap64 ((x7_2.length : Int) - 1)) t454 t455 w0 _ ?side1 ?side2 A30.out).mono ?_); (case side1 => repeat (first | (with_reducible first | exact HI0.out | apply IsS100.alloc | apply IsS100.drewN | apply IsS100.drew | apply IsS100.set_1) | exact HI0.out)); (case side2 => repeat (first | (with_reducible first | exact HB.out | apply below_alloc | apply pw_below_drewN | apply below_drew1 | refine below_set ?_ (IsS100.ge HI0.out)) | exact HB.out)); rintro e w40 ⟨rfl, hi, hb, hk⟩; refine ⟨_, rfl, ?_⟩; have n0_ := Aside0.mk (Kd.R_mono (Kd.R_keep (IsS100.apart (show IsS100 w0 _ g s0_0 x1001_2 from by repeat (first | (with_reducible first | exact HI0.out | apply IsS100.alloc | apply IsS100.drewN | apply IsS100.drew | apply IsS100.set_1) | exact HI0.out)) (by (with_reducible repeat (first | apply Kd.R_alloc | apply Kd.R_drewN | apply Kd.R_drew)); exact HO_7.out) (by decide)) hk (fun _ h => h.2)) (fun _ h => h.1)); have n1_ := Aside0.mk (KeepBut.trans (by repeat (first | (with_reducible first | exact HK.out | apply KeepBut.set_ | apply keep_drewN | apply keep_drew | apply keep_alloc) | exact HK.out)) hk (.inl rfl)); have n2_ := Aside0.mk (hb); have n3_ := Aside0.mk (hi); clear HO_7; clear HK; clear HB; clear HI0; have HO_7 := n0_; have HK := n1_; have HB := n2_; have HI0 := n3_; clear n0_ n1_ n2_ n3_; (try clear hb); (try clear hb2); (try clear hk); (try clear hi)) | (go_at_call 64; (with_reducible refine (spec_l20Rd_pick.calls k2 g s0_0 t455 4 t456 t457 w0 _ ?side1 ?side2 A32.out).mono ?_); (case side1 => repeat (first | (with_reducible first | exact HI0.out | apply IsS100.alloc | apply IsS100.drewN | apply IsS100.drew | apply IsS100.set_1) | exact HI0.out)); (case side2 => repeat (first | (with_reducible first | exact HB.out | apply below_alloc | apply pw_below_drewN | apply below_drew1 | refine below_set ?_ (IsS100.ge HI0.out)) | exact HB.out)); rintro e w41 ⟨rfl, hi, hb, hk⟩; have n0_ := Aside0.mk (Kd.R_mono (Kd.R_keep (IsS100.apart (show IsS100 w0 _ g s0_0 t455 from by repeat (first | (with_reducible first | exact HI0.out | apply IsS100.alloc | apply IsS100.drewN | apply IsS100.drew | apply IsS100.set_1) | exact HI0.out)) (by (with_reducible repeat (first | apply Kd.R_alloc | apply Kd.R_drewN | apply Kd.R_drew)); exact HO_7.out) (by decide)) hk (fun _ h => h.2)) (fun _ h => h.1)); have n1_ := Aside0.mk (KeepBut.trans (by repeat (first | (with_reducible first | exact HK.out | apply KeepBut.set_ | apply keep_drewN | apply keep_drew | apply keep_alloc) | exact HK.out)) hk (.inl rfl)); have n2_ := Aside0.mk (hb); have n3_ := Aside0.mk (hi); clear HO_7; clear HK; clear HB; clear HI0; have HO_7 := n0_; have HK := n1_; have HB := n2_; have HI0 := n3_; clear n0_ n1_ n2_ n3_; (try clear hb); (try clear hb2); (try clear hk); (try clear hi)) | ((with_reducible refine gate_dst (N := 64) rfl ?_); refine Kd.R_lit k83 _ 83 ?hg (N := 64) ?hd (xs := ([] : List (S83))) (inner := []) (ok := fun _ => True) (okp := fun _ => True) ?hr ?hp (fun _ hk => hk) trivial (Below.refl _ _) (Nat.le_refl _) (by simp) ?_; (case hd => rfl); (case hg => rfl); (case hr => first | (go_simp; done) | (go_simp; rfl)); (case hp => exact (Reps.none _ _)); intro v459 w42 ho43 hb hg_ hnew_; clear hg_ hnew_; (first | rw [← Ny458.out] at ho43 | (simp only [Int.reduceToNat] at ho43; rw [← Ny458.out] at ho43)); have n0_ := Aside0.mk (Kd.R_elder' (by (with_reducible repeat (first | apply Kd.R_alloc | apply Kd.R_drewN | apply Kd.R_drew)); exact HO_7.out) (Kd.R_base ho43) hb); have n1_ := Aside0.mk (Kd.R_lower ho43 (keep_size (w := w) (g := g) (row := none) (by repeat (first | (with_reducible first | exact HK.out | apply KeepBut.set_ | apply keep_drewN | apply keep_drew | apply keep_alloc) | exact HK.out)))); have n2_ := Aside0.mk (IsS100.below (by repeat (first | (with_reducible first | exact HI0.out | apply IsS100.alloc | apply IsS100.drewN | apply IsS100.drew | apply IsS100.set_1) | exact HI0.out)) hb); have n3_ := Aside0.mk (KeepBut.trans (by repeat (first | (with_reducible first | exact HK.out | apply KeepBut.set_ | apply keep_drewN | apply keep_drew | apply keep_alloc) | exact HK.out)) (KeepBut.of_below hb g none) (.inl rfl)); have n4_ := Aside0.mk (below_step (by repeat (first | (with_reducible first | exact HB.out | apply below_alloc | apply pw_below_drewN | apply below_drew1 | refine below_set ?_ (IsS100.ge HI0.out)) | exact HB.out)) hb); clear HO_7; clear HI0; clear HK; clear HB; have HO_7 := n0_; have HO460 := n1_; have HI0 := n2_; have HK := n3_; have HB := n4_; clear n0_ n1_ n2_ n3_ n4_; clear hb ho43; have p461 : 0 ≤ (t454 : Int) := of_decide_eq_true (by first | (with_reducible assumption) | assumption); have q461 : t454 < (x7_2.length : Int) := of_decide_eq_true (by first | (with_reducible assumption) | assumption); obtain ⟨ad461, A461_0, c461_0, e461, hx461_0, hl461_0, hi461_0⟩ := at_L4 (Kd.R_reads' HO_7.out).2.2 t454 p461 q461; cases e461; obtain ⟨ce461, hce461, hMe461, hcc461⟩ := Kd.R_get HO_7.out [] t454 p461 (by first | exact q461 | exact of_decide_eq_true (by first | (with_reducible assumption) | assumption) | (have e_ := (Kd.R_reads' HO_7.out).1; omega)); obtain ⟨ve461_0, rfl, ge461_0⟩ := hMe461; have hv461_0 := hcc461 0 _ rfl; rw [Nat.add_zero, show ((Kd.slice 83 k83)).sz = 1 from rfl, Nat.mul_one] at hv461_0; replace hv461_0 := Option.some.inj (hv461_0.symm.trans hx461_0); rw [hv461_0] at ge461_0; have HL461_0 := Aside0.mk (show Kd.R k83 83 _ _ _ _ (rd_L4 x7_2 t454) from ge461_0); clear hv461_0 ge461_0; clear hcc461 hce461; have HR461_0 := Aside0.mk hi461_0; have HC461_0 := Aside0.mk hl461_0; clear hi461_0 hl461_0; replace p461 := eq_true p461; replace q461 := eq_true q461) | ((with_reducible refine gate_builtin (b := .append) (xs := #[.tmp 64, .tmp 68]) rfl ?_); at_builtin; refine Kd.R_append_rows k83 w.heap.size rfl (.tmp 64) (.tmp 68) 35 83 (.agg #[(.int .i64 0), (.int .i64 0)]) 16 rfl Try.underlying35 info83 rfl (by decide) (by omega) v459 y458 (rd_L4 x7_2 t454) _ _ _ (fun _ => True) (fun _ => False) rfl rfl ?aO ?aR (fun _ _ h => h) (fun _ h => h.elim) ?aF (Below.refl _ _) ?aS ?aL ?_; (case aR => repeat (first | exact (by repeat (first | (with_reducible exact HR461_0.out) | (with_reducible refine Kd.C_alloc ?_ _) | (with_reducible refine Kd.C_drewN ?_ _) | (with_reducible refine Kd.C_drew ?_) | exact HR461_0.out)) | (with_reducible refine Kd.C_alloc ?_ _) | (with_reducible refine Kd.C_drewN ?_ _) | (with_reducible refine Kd.C_drew ?_))); (case aF => exact (fun _ _ => trivial)); (case aO => exact (by (with_reducible repeat (first | apply Kd.R_alloc | apply Kd.R_drewN | apply Kd.R_drew)); exact HO460.out)); (case aS => exact (keep_size (w := w) (g := g) (row := none) (by repeat (first | (with_reducible first | exact HK.out | apply KeepBut.set_ | apply keep_drewN | apply keep_drew | apply keep_alloc) | exact HK.out)))); (case aL => have := LMc36.out; omega); intro v463 w44 ho hb hg hat; rw [← Ny462.out] at ho; have n0_ := Aside0.mk (Kd.R_after (ok := (fun _ => True)) (by (with_reducible repeat (first | apply Kd.R_alloc | apply Kd.R_drewN | apply Kd.R_drew)); exact HO_7.out) hg hat); have n1_ := Aside0.mk (IsS100.grown (by repeat (first | (with_reducible first | exact HI0.out | apply IsS100.alloc | apply IsS100.drewN | apply IsS100.drew | apply IsS100.set_1) | exact HI0.out)) hg (IsS100.own_ne HI0.out HO460.out (by decide))); have n2_ := Aside0.mk (Kd.R_after (ok := (fun k_ => some k_ ≠ (.slice (some ad461) x7_2.length co39 : Value).ownBlock)) (by (with_reducible repeat (first | apply Kd.R_alloc | apply Kd.R_drewN | apply Kd.R_drew)); exact Kd.R_mono HL461_0.out (fun _ hk => ⟨hk.2, hk.1.2⟩)) hg hat); have n3_ := Aside0.mk (below_weaken (by repeat (first | (with_reducible first | exact HB.out | apply below_alloc | apply pw_below_drewN | apply below_drew1 | refine below_set ?_ (IsS100.ge HI0.out)) | exact HB.out)) HL.out hb); have n4_ := Aside0.mk (KeepBut.trans (by repeat (first | (with_reducible first | exact HK.out | apply KeepBut.set_ | apply keep_drewN | apply keep_drew | apply keep_alloc) | exact HK.out)) (KeepBut.of_grown hg g) (Kd.R_base2 HO460.out)); have n5_ := Aside0.mk (ho); clear HO_7; clear HI0; clear HL461_0; clear HB; clear HK; clear HO460; have HO_7 := n0_; have HI0 := n1_; have HL461_0 := n2_; have HB := n3_; have HK := n4_; have HO464 := n5_; clear n0_ n1_ n2_ n3_ n4_ n5_; clear ho hb hg hat) | ((with_reducible refine gate_builtin (b := .append) (xs := #[.tmp 69, .tmp 71]) rfl ?_); at_builtin; refine Kd.R_append k83 w.heap.size rfl (.tmp 69) (.tmp 71) 35 83 (.agg #[(.int .i64 0), (.int .i64 0)]) 16 rfl Try.underlying35 info83 rfl (by decide) (by omega) v463 y462 (⟨2, 0⟩ : S83) [.int .i64 2, .int .i64 0] (fun _ => True) (fun _ => False) rfl rfl ?aP (fun _ hk => hk.elim) ?aF ?aO (Below.refl _ _) ?aS ?aL ?_; (case aP => exact k83_mkM _ _ _ (⟨2, 0⟩ : S83)); (case aF => exact (fun _ _ => trivial)); (case aO => exact (by (with_reducible repeat (first | apply Kd.R_alloc | apply Kd.R_drewN | apply Kd.R_drew)); exact HO464.out)); (case aS => exact (keep_size (w := w) (g := g) (row := none) (by repeat (first | (with_reducible first | exact HK.out | apply KeepBut.set_ | apply keep_drewN | apply keep_drew | apply keep_alloc) | exact HK.out)))); (case aL => have := LMc37.out; omega); intro v466 w45 ho hb hg hat; rw [← Ny465.out] at ho; have n0_ := Aside0.mk (Kd.R_after (ok := (fun _ => True)) (by (with_reducible repeat (first | apply Kd.R_alloc | apply Kd.R_drewN | apply Kd.R_drew)); exact HO_7.out) hg hat); have n1_ := Aside0.mk (IsS100.grown (by repeat (first | (with_reducible first | exact HI0.out | apply IsS100.alloc | apply IsS100.drewN | apply IsS100.drew | apply IsS100.set_1) | exact HI0.out)) hg (IsS100.own_ne HI0.out HO464.out (by decide))); have n2_ := Aside0.mk (Kd.R_after (ok := (fun k_ => some k_ ≠ (.slice (some ad461) x7_2.length co39 : Value).ownBlock)) (by (with_reducible repeat (first | apply Kd.R_alloc | apply Kd.R_drewN | apply Kd.R_drew)); exact HL461_0.out) hg hat); have n3_ := Aside0.mk (below_weaken (by repeat (first | (with_reducible first | exact HB.out | apply below_alloc | apply pw_below_drewN | apply below_drew1 | refine below_set ?_ (IsS100.ge HI0.out)) | exact HB.out)) HL.out hb); have n4_ := Aside0.mk (KeepBut.trans (by repeat (first | (with_reducible first | exact HK.out | apply KeepBut.set_ | apply keep_drewN | apply keep_drew | apply keep_alloc) | exact HK.out)) (KeepBut.of_grown hg g) (Kd.R_base2 HO464.out)); have n5_ := Aside0.mk (ho); clear HO_7; clear HI0; clear HL461_0; clear HB; clear HK; clear HO464; have HO_7 := n0_; have HI0 := n1_; have HL461_0 := n2_; have HB := n3_; have HK := n4_; have HO467 := n5_; clear n0_ n1_ n2_ n3_ n4_ n5_; clear ho hb hg hat; have p38 : 0 ≤ (t454 : Int) := of_decide_eq_true (by first | (with_reducible assumption) | assumption); have q38 : (t454 : Int) < ((x7_2.length : Int) : Int) := of_decide_eq_true (by first | (with_reducible assumption) | assumption); obtain ⟨go38, co38, eo38, gb38, gl38, cl38, HG38⟩ := Kd.R_form HO_7.out (by omega); (first | cases eo38 | (injection eo38 with ea_ en_ ec_; (first | subst ea_ | (injection ea_ with ea_; subst ea_)); subst ec_; clear en_)); have GB38 := Aside0.mk gb38; have GG38 := Aside0.mk HG38; clear gb38 gl38 HG38; (first | simp only [add_plain] at hx461_0 | skip); obtain ⟨ce38, hcl38, hM38, hcc38, hfr38⟩ := Kd.R_elem HO_7.out [] (t454 : Int) p38 q38; obtain ⟨ve38_0, rfl, ge38_0⟩ := hM38; have hx38_0 := hcc38 0 _ rfl; have hf38_0 := hfr38 0; (try simp only [show ((Kd.slice 83 k83)).sz = 1 from rfl, Nat.mul_one, Nat.add_zero] at hx38_0); (try simp only [show ((Kd.slice 83 k83)).sz = 1 from rfl, Nat.mul_one, Nat.add_zero] at hf38_0); clear hcl38 hcc38 hfr38; (try clear hM38); replace p38 := eq_true p38; replace q38 := eq_true q38; have n_ := Aside0.mk (Kd.R_mono (ok' := (fun k_ => some k_ ≠ (v466 : Value).ownBlock)) HO_7.out (fun k_ hk => hk.2)); clear HO_7; have HO_7 := n_; clear n_; have HX46 := Aside0.mk (show Kd.R (Kd.slice 83 k83) 35 w45 w.heap.size (fun _ => True) (.slice (some ⟨go38, 0, none⟩) x7_2.length co39) x7_2 from (by (with_reducible repeat (first | apply Kd.R_alloc | apply Kd.R_drewN | apply Kd.R_drew)); exact Kd.R_mono HO_7.out (fun _ hk => trivial))); obtain ⟨ce46, hcl46, hM46, hcc46, hfr46⟩ := Kd.R_elem HX46.out [] (t454 : Int) (of_decide_eq_true (by first | (with_reducible assumption) | assumption)) (by have h_ : (t454 : Int) < ((x7_2.length : Int) : Int) := of_decide_eq_true (by first | (with_reducible assumption) | assumption); first | exact h_ | (have e_ := (Kd.R_reads' HO_7.out).1; omega) | simpa using h_); obtain ⟨ve46_0, rfl, ge46_0⟩ := hM46; have HP46 := Kd.R_seg HX46.out (t454 : Int) (of_decide_eq_true (by first | (with_reducible assumption) | assumption)) (by have h_ : (t454 : Int) < ((x7_2.length : Int) : Int) := of_decide_eq_true (by first | (with_reducible assumption) | assumption); first | exact h_ | (have e_ := (Kd.R_reads' HO_7.out).1; omega) | simpa using h_) (seg := [v466]) (j := 0) hcl46 hcc46 (show 1 ≤ 1 from by decide) (x' := y465) (Kd.M_row (Kd.R_mono (Kd.R_apart' (HO467.out) (Kd.R_typed HO_7.out) (by decide)) (fun k_ hk => ⟨trivial, fun e_ => (hk.2) (by rw [e_]; rfl)⟩))) (fun _ hk => hk); have hx46_0 := hcc46 0 _ rfl; (try simp only [show ((Kd.slice 83 k83)).sz = 1 from rfl, Nat.mul_one, Nat.add_zero] at hx46_0); have hf46_0 := hfr46 0; (try simp only [show ((Kd.slice 83 k83)).sz = 1 from rfl, Nat.mul_one, Nat.add_zero] at hf46_0); clear hcl46 hcc46 hfr46; (try clear hM46); (try simp only [show ((Kd.slice 83 k83)).sz = 1 from rfl, Nat.mul_one, Nat.add_zero] at HP46)) | ((with_reducible refine gate_store (t := 35) (p := 73) rfl ?_); refine store_event (t := 35) (p := 73) (v := ?vo_w47) (w1 := (w45.setCell ⟨go38, (t454 : Int).toNat, none⟩ (v466))) ?hg ?ho ?hn ?hr ?_; (case ho => rfl); (case hg => rfl); (case hn => rfl); (case hr => first | (go_simp; done) | (go_simp; rfl) | (obtain ⟨As_, cs_, es_⟩ := Kd.R_slice HO467.out; rw [es_]; first | (go_simp; done) | (go_simp; rfl))); intro w47 hw; have hg : w45.grownBy w47 (some go38) := (by rw [hw]; exact HP46.2); have hp_ : Kd.R (Kd.slice 83 k83) 35 w47 w.heap.size (fun _ => True) (.slice (some ⟨go38, 0, none⟩) x7_2.length co39) y468 := (by rw [hw, Ny468.out]; exact HP46.1); clear HP46; have n0_ := Aside0.mk (hp_); have n1_ := Aside0.mk (IsS100.grown (by repeat (first | (with_reducible first | exact HI0.out | apply IsS100.alloc | apply IsS100.drewN | apply IsS100.drew | apply IsS100.set_1) | exact HI0.out)) hg (IsS100.own_ne HI0.out HO_7.out (by decide))); have n2_ := Aside0.mk (Kd.R_after (v := (.slice (some ⟨go38, 0, none⟩) x7_2.length co39)) (v1 := (.slice (some ⟨go38, 0, none⟩) x7_2.length co39)) (ok := (fun k_ => some k_ ≠ (v466 : Value).ownBlock)) (by (with_reducible repeat (first | apply Kd.R_alloc | apply Kd.R_drewN | apply Kd.R_drew)); exact Kd.R_mono HL461_0.out (fun _ hk => ⟨hk.2, hk.1⟩)) hg (.inl rfl)); have n3_ := Aside0.mk ((by rw [hw]; exact below_set (HB.out) (Nat.le_trans HL.out GB38.out) : Below w0.heap.size w0 w47)); have n4_ := Aside0.mk (KeepBut.trans (by repeat (first | (with_reducible first | exact HK.out | apply KeepBut.set_ | apply keep_drewN | apply keep_drew | apply keep_alloc) | exact HK.out)) (KeepBut.of_grown hg g) (Kd.R_base2 HO_7.out)); clear HO_7; clear HI0; clear HL461_0; clear HB; clear HK; clear HO467; have HO_7 := n0_; have HI0 := n1_; have HL461_0 := n2_; have HB := n3_; have HK := n4_; clear n0_ n1_ n2_ n3_ n4_; clear hg hw hp_))
             go_roundg k2
             case measure => have := HK1.out; have := HK2.out; omega
             case rel => exact ⟨(y468), (wrap64 (x9_2 - 1)), (t457), (by first | rfl | (simp; done) | (simp [*]; done)), H', ⟨by have := HK1.out; have := HK2.out; omega⟩, ⟨by (with_reducible repeat (first | apply Kd.R_alloc | apply Kd.R_drewN | apply Kd.R_drew)); exact HO_7.out⟩, ⟨by repeat (first | (with_reducible first | exact HI0.out | apply IsS100.alloc | apply IsS100.drewN | apply IsS100.drew | apply IsS100.set_1) | exact HI0.out)⟩, ⟨by repeat (first | (with_reducible first | exact HK.out | apply KeepBut.set_ | apply keep_drewN | apply keep_drew | apply keep_alloc) | exact HK.out)⟩, ⟨by repeat (first | (with_reducible first | exact HB.out | apply below_alloc | apply pw_below_drewN | apply below_drew1 | refine below_set ?_ (IsS100.ge HI0.out)) | exact HB.out)⟩⟩
            ·rw [if_neg c37] at H
             exact absurd H (by simp)
           ·rw [if_neg c36] at H
            exact absurd H (by simp)
          ·rw [if_neg c35] at H
           exact absurd H (by simp)
         ·rw [if_neg c34] at H
          exact absurd H (by simp)
        ·rw [if_neg c33] at H
         have c33b0 : (t456 == 0) = false := beq_eq_false_iff_ne.mpr c33
         have c33b1 : (t456 != 0) = true := bne_iff_ne.mpr c33
         obtain ⟨y469, hy469⟩ : ∃ y_ : List (S83), y_ = (([] : List (S83))) := ⟨_, rfl⟩
         replace H : (if 0 ≤ t454 then (if t454 < (x7_2.length : Int) then (if y469.length + (rd_L4 x7_2 t454).length < 8796093022208 then ((some (y469 ++ (rd_L4 x7_2 t454) : List (S83))).bind fun y473 => (if 0 ≤ (wrap64 (t454 + 1)) then (if (wrap64 (t454 + 1)) < (x7_2.length : Int) then (if y473.length + (rd_L4 x7_2 (wrap64 (t454 + 1))).length < 8796093022208 then ((some (y473 ++ (rd_L4 x7_2 (wrap64 (t454 + 1))) : List (S83))).bind fun y477 => ((spec_l20Rd_pick.f k2 s0_0 t457 3).bind fun bt480 => (if y477.length < 8796093022208 then ((some (([] : List (List (S83))) : List (List (S83)))).bind fun y485 => (if t454 ≤ (x7_2.length : Int) then ((some (x7_2.take (t454 : Int).toNat : List (List (S83)))).bind fun y488 => (if y485.length + y488.length < 5864062014805 then ((some (y485 ++ y488 : List (List (S83)))).bind fun y492 => (if y492.length < 5864062014805 then ((some (y492 ++ [(y477 ++ [(⟨wrap64 (3 + bt480.1), 0⟩ : S83)])] : List (List (S83)))).bind fun y495 => (if 0 ≤ (wrap64 (t454 + 2)) then (if (wrap64 (t454 + 2)) ≤ (x7_2.length : Int) then ((some (x7_2.drop ((wrap64 (t454 + 2)) : Int).toNat : List (List (S83)))).bind fun y498 => (if y495.length + y498.length < 5864062014805 then (spec_l20Term.l1 k2 a2 (y495 ++ y498) x9_2 s0_0 bt480.2) else (none))) else (none)) else (none))) else (none))) else (none))) else (none))) else (none)))) else (none)) else (none)) else (none))) else (none)) else (none)) else (none)) = some (r1, r2) := by first | (rw [hy469]; with_reducible exact H) | (have H2_ := (Option.bind_some _ _).symm.trans H; rw [hy469]; with_reducible exact H2_) | (have H2_ := (Option.bind_some _ _).symm.trans H; with_reducible exact H2_) | with_reducible exact H | (rw [hy469]; exact H) | exact H
         have Ny469 := Aside0.mk hy469
         clear hy469
         by_cases c48 : 0 ≤ t454
         ·rw [if_pos c48] at H
          have c48b0 : decide (0 ≤ t454) = true := decide_eq_true c48
          clear c48
          by_cases c49 : t454 < (x7_2.length : Int)
          ·rw [if_pos c49] at H
           have c49b0 : decide (t454 < (x7_2.length : Int)) = true := decide_eq_true c49
           clear c49
           by_cases c50 : y469.length + (rd_L4 x7_2 t454).length < 8796093022208
           ·rw [if_pos c50] at H
            have LMc50 := Aside0.mk c50
            clear c50
            obtain ⟨y473, hy473⟩ : ∃ y_ : List (S83), y_ = (y469 ++ (rd_L4 x7_2 t454)) := ⟨_, rfl⟩
            replace H : (if 0 ≤ (wrap64 (t454 + 1)) then (if (wrap64 (t454 + 1)) < (x7_2.length : Int) then (if y473.length + (rd_L4 x7_2 (wrap64 (t454 + 1))).length < 8796093022208 then ((some (y473 ++ (rd_L4 x7_2 (wrap64 (t454 + 1))) : List (S83))).bind fun y477 => ((spec_l20Rd_pick.f k2 s0_0 t457 3).bind fun bt480 => (if y477.length < 8796093022208 then ((some (([] : List (List (S83))) : List (List (S83)))).bind fun y485 => (if t454 ≤ (x7_2.length : Int) then ((some (x7_2.take (t454 : Int).toNat : List (List (S83)))).bind fun y488 => (if y485.length + y488.length < 5864062014805 then ((some (y485 ++ y488 : List (List (S83)))).bind fun y492 => (if y492.length < 5864062014805 then ((some (y492 ++ [(y477 ++ [(⟨wrap64 (3 + bt480.1), 0⟩ : S83)])] : List (List (S83)))).bind fun y495 => (if 0 ≤ (wrap64 (t454 + 2)) then (if (wrap64 (t454 + 2)) ≤ (x7_2.length : Int) then ((some (x7_2.drop ((wrap64 (t454 + 2)) : Int).toNat : List (List (S83)))).bind fun y498 => (if y495.length + y498.length < 5864062014805 then (spec_l20Term.l1 k2 a2 (y495 ++ y498) x9_2 s0_0 bt480.2) else (none))) else (none)) else (none))) else (none))) else (none))) else (none))) else (none)))) else (none)) else (none)) else (none)) = some (r1, r2) := by first | (rw [hy473]; with_reducible exact H) | (have H2_ := (Option.bind_some _ _).symm.trans H; rw [hy473]; with_reducible exact H2_) | (have H2_ := (Option.bind_some _ _).symm.trans H; with_reducible exact H2_) | with_reducible exact H | (rw [hy473]; exact H) | exact H
            have Ny473 := Aside0.mk hy473
            clear hy473
            obtain ⟨ji51, hji51⟩ : ∃ j_ : Int, (wrap64 (t454 + 1)) = j_ := ⟨_, rfl⟩
            replace H : (if 0 ≤ (ji51) then (if (ji51) < (x7_2.length : Int) then (if y473.length + (rd_L4 x7_2 (ji51)).length < 8796093022208 then ((some (y473 ++ (rd_L4 x7_2 (ji51)) : List (S83))).bind fun y477 => ((spec_l20Rd_pick.f k2 s0_0 t457 3).bind fun bt480 => (if y477.length < 8796093022208 then ((some (([] : List (List (S83))) : List (List (S83)))).bind fun y485 => (if t454 ≤ (x7_2.length : Int) then ((some (x7_2.take (t454 : Int).toNat : List (List (S83)))).bind fun y488 => (if y485.length + y488.length < 5864062014805 then ((some (y485 ++ y488 : List (List (S83)))).bind fun y492 => (if y492.length < 5864062014805 then ((some (y492 ++ [(y477 ++ [(⟨wrap64 (3 + bt480.1), 0⟩ : S83)])] : List (List (S83)))).bind fun y495 => (if 0 ≤ (wrap64 (t454 + 2)) then (if (wrap64 (t454 + 2)) ≤ (x7_2.length : Int) then ((some (x7_2.drop ((wrap64 (t454 + 2)) : Int).toNat : List (List (S83)))).bind fun y498 => (if y495.length + y498.length < 5864062014805 then (spec_l20Term.l1 k2 a2 (y495 ++ y498) x9_2 s0_0 bt480.2) else (none))) else (none)) else (none))) else (none))) else (none))) else (none))) else (none)))) else (none)) else (none)) else (none)) = some (r1, r2) := by first | (rw [hji51] at H; exact H) | (simp only [hji51] at H ⊢; exact H)
            (try rw [hji51] at A30)
            (try rw [hji51] at A32)
            have hji51w : (IntKind.i64.wrap (t454 + 1)) = ji51 := (i64_w _).trans hji51
            by_cases c52 : 0 ≤ (ji51)
            ·rw [if_pos c52] at H
             have c52b0 : decide (0 ≤ (ji51)) = true := decide_eq_true c52
             clear c52
             by_cases c53 : (ji51) < (x7_2.length : Int)
             ·rw [if_pos c53] at H
              have c53b0 : decide ((ji51) < (x7_2.length : Int)) = true := decide_eq_true c53
              clear c53
              by_cases c54 : y473.length + (rd_L4 x7_2 (ji51)).length < 8796093022208
              ·rw [if_pos c54] at H
               have LMc54 := Aside0.mk c54
               clear c54
               obtain ⟨y477, hy477⟩ : ∃ y_ : List (S83), y_ = (y473 ++ (rd_L4 x7_2 (ji51))) := ⟨_, rfl⟩
               replace H : ((spec_l20Rd_pick.f k2 s0_0 t457 3).bind fun bt480 => (if y477.length < 8796093022208 then ((some (([] : List (List (S83))) : List (List (S83)))).bind fun y485 => (if t454 ≤ (x7_2.length : Int) then ((some (x7_2.take (t454 : Int).toNat : List (List (S83)))).bind fun y488 => (if y485.length + y488.length < 5864062014805 then ((some (y485 ++ y488 : List (List (S83)))).bind fun y492 => (if y492.length < 5864062014805 then ((some (y492 ++ [(y477 ++ [(⟨wrap64 (3 + bt480.1), 0⟩ : S83)])] : List (List (S83)))).bind fun y495 => (if 0 ≤ (wrap64 (t454 + 2)) then (if (wrap64 (t454 + 2)) ≤ (x7_2.length : Int) then ((some (x7_2.drop ((wrap64 (t454 + 2)) : Int).toNat : List (List (S83)))).bind fun y498 => (if y495.length + y498.length < 5864062014805 then (spec_l20Term.l1 k2 a2 (y495 ++ y498) x9_2 s0_0 bt480.2) else (none))) else (none)) else (none))) else (none))) else (none))) else (none))) else (none))) = some (r1, r2) := by first | (rw [hy477]; with_reducible exact H) | (have H2_ := (Option.bind_some _ _).symm.trans H; rw [hy477]; with_reducible exact H2_) | (have H2_ := (Option.bind_some _ _).symm.trans H; with_reducible exact H2_) | with_reducible exact H | (rw [hy477]; exact H) | exact H
               have Ny477 := Aside0.mk hy477
               clear hy477
               replace H := Option.bind_eq_some_iff.mp H
               obtain ⟨⟨t480, t481⟩, A550, H⟩ := H
               replace H : (if y477.length < 8796093022208 then ((some (([] : List (List (S83))) : List (List (S83)))).bind fun y485 => (if t454 ≤ (x7_2.length : Int) then ((some (x7_2.take (t454 : Int).toNat : List (List (S83)))).bind fun y488 => (if y485.length + y488.length < 5864062014805 then ((some (y485 ++ y488 : List (List (S83)))).bind fun y492 => (if y492.length < 5864062014805 then ((some (y492 ++ [(y477 ++ [(⟨wrap64 (3 + t480), 0⟩ : S83)])] : List (List (S83)))).bind fun y495 => (if 0 ≤ (wrap64 (t454 + 2)) then (if (wrap64 (t454 + 2)) ≤ (x7_2.length : Int) then ((some (x7_2.drop ((wrap64 (t454 + 2)) : Int).toNat : List (List (S83)))).bind fun y498 => (if y495.length + y498.length < 5864062014805 then (spec_l20Term.l1 k2 a2 (y495 ++ y498) x9_2 s0_0 t481) else (none))) else (none)) else (none))) else (none))) else (none))) else (none))) else (none)) = some (r1, r2) := H
               have A55 := Aside0.mk A550
               clear A550
               by_cases c56 : y477.length < 8796093022208
               ·rw [if_pos c56] at H
                have LMc56 := Aside0.mk c56
                clear c56
                obtain ⟨y482, hy482⟩ : ∃ y_ : List (S83), y_ = (y477 ++ [(⟨wrap64 (3 + t480), 0⟩ : S83)]) := ⟨_, rfl⟩
                replace H : ((some (([] : List (List (S83))) : List (List (S83)))).bind fun y485 => (if t454 ≤ (x7_2.length : Int) then ((some (x7_2.take (t454 : Int).toNat : List (List (S83)))).bind fun y488 => (if y485.length + y488.length < 5864062014805 then ((some (y485 ++ y488 : List (List (S83)))).bind fun y492 => (if y492.length < 5864062014805 then ((some (y492 ++ [y482] : List (List (S83)))).bind fun y495 => (if 0 ≤ (wrap64 (t454 + 2)) then (if (wrap64 (t454 + 2)) ≤ (x7_2.length : Int) then ((some (x7_2.drop ((wrap64 (t454 + 2)) : Int).toNat : List (List (S83)))).bind fun y498 => (if y495.length + y498.length < 5864062014805 then (spec_l20Term.l1 k2 a2 (y495 ++ y498) x9_2 s0_0 t481) else (none))) else (none)) else (none))) else (none))) else (none))) else (none))) = some (r1, r2) := by first | (rw [hy482]; with_reducible exact H) | (have H2_ := (Option.bind_some _ _).symm.trans H; rw [hy482]; with_reducible exact H2_) | (have H2_ := (Option.bind_some _ _).symm.trans H; with_reducible exact H2_) | with_reducible exact H | (rw [hy482]; exact H) | exact H
                have Ny482 := Aside0.mk hy482
                clear hy482
                obtain ⟨y485, hy485⟩ : ∃ y_ : List (List (S83)), y_ = (([] : List (List (S83)))) := ⟨_, rfl⟩
                replace H : (if t454 ≤ (x7_2.length : Int) then ((some (x7_2.take (t454 : Int).toNat : List (List (S83)))).bind fun y488 => (if y485.length + y488.length < 5864062014805 then ((some (y485 ++ y488 : List (List (S83)))).bind fun y492 => (if y492.length < 5864062014805 then ((some (y492 ++ [y482] : List (List (S83)))).bind fun y495 => (if 0 ≤ (wrap64 (t454 + 2)) then (if (wrap64 (t454 + 2)) ≤ (x7_2.length : Int) then ((some (x7_2.drop ((wrap64 (t454 + 2)) : Int).toNat : List (List (S83)))).bind fun y498 => (if y495.length + y498.length < 5864062014805 then (spec_l20Term.l1 k2 a2 (y495 ++ y498) x9_2 s0_0 t481) else (none))) else (none)) else (none))) else (none))) else (none))) else (none)) = some (r1, r2) := by first | (rw [hy485]; with_reducible exact H) | (have H2_ := (Option.bind_some _ _).symm.trans H; rw [hy485]; with_reducible exact H2_) | (have H2_ := (Option.bind_some _ _).symm.trans H; with_reducible exact H2_) | with_reducible exact H | (rw [hy485]; exact H) | exact H
                have Ny485 := Aside0.mk hy485
                clear hy485
                have c57b0 := eq_true (of_decide_eq_true (by first | (with_reducible assumption) | assumption) : 0 ≤ t454)
                by_cases c58 : t454 ≤ (x7_2.length : Int)
                ·rw [if_pos c58] at H
                 have c58b0 := eq_true c58
                 have c58b1 : decide (t454 ≤ (x7_2.length : Int)) = true := decide_eq_true c58
                 clear c58
                 obtain ⟨y488, hy488⟩ : ∃ y_ : List (List (S83)), y_ = (x7_2.take (t454 : Int).toNat) := ⟨_, rfl⟩
                 replace H : (if y485.length + y488.length < 5864062014805 then ((some (y485 ++ y488 : List (List (S83)))).bind fun y492 => (if y492.length < 5864062014805 then ((some (y492 ++ [y482] : List (List (S83)))).bind fun y495 => (if 0 ≤ (wrap64 (t454 + 2)) then (if (wrap64 (t454 + 2)) ≤ (x7_2.length : Int) then ((some (x7_2.drop ((wrap64 (t454 + 2)) : Int).toNat : List (List (S83)))).bind fun y498 => (if y495.length + y498.length < 5864062014805 then (spec_l20Term.l1 k2 a2 (y495 ++ y498) x9_2 s0_0 t481) else (none))) else (none)) else (none))) else (none))) else (none)) = some (r1, r2) := by first | (rw [hy488]; with_reducible exact H) | (have H2_ := (Option.bind_some _ _).symm.trans H; rw [hy488]; with_reducible exact H2_) | (have H2_ := (Option.bind_some _ _).symm.trans H; with_reducible exact H2_) | with_reducible exact H | (rw [hy488]; exact H) | exact H
                 have Ny488 := Aside0.mk hy488
                 clear hy488
                 by_cases c59 : y485.length + y488.length < 5864062014805
                 ·rw [if_pos c59] at H
                  have LMc59 := Aside0.mk c59
                  clear c59
                  obtain ⟨y492, hy492⟩ : ∃ y_ : List (List (S83)), y_ = (y485 ++ y488) := ⟨_, rfl⟩
                  replace H : (if y492.length < 5864062014805 then ((some (y492 ++ [y482] : List (List (S83)))).bind fun y495 => (if 0 ≤ (wrap64 (t454 + 2)) then (if (wrap64 (t454 + 2)) ≤ (x7_2.length : Int) then ((some (x7_2.drop ((wrap64 (t454 + 2)) : Int).toNat : List (List (S83)))).bind fun y498 => (if y495.length + y498.length < 5864062014805 then (spec_l20Term.l1 k2 a2 (y495 ++ y498) x9_2 s0_0 t481) else (none))) else (none)) else (none))) else (none)) = some (r1, r2) := by first | (rw [hy492]; with_reducible exact H) | (have H2_ := (Option.bind_some _ _).symm.trans H; rw [hy492]; with_reducible exact H2_) | (have H2_ := (Option.bind_some _ _).symm.trans H; with_reducible exact H2_) | with_reducible exact H | (rw [hy492]; exact H) | exact H
                  have Ny492 := Aside0.mk hy492
                  clear hy492
                  by_cases c60 : y492.length < 5864062014805
                  ·rw [if_pos c60] at H
                   have LMc60 := Aside0.mk c60
                   clear c60
                   obtain ⟨y495, hy495⟩ : ∃ y_ : List (List (S83)), y_ = (y492 ++ [y482]) := ⟨_, rfl⟩
                   replace H : (if 0 ≤ (wrap64 (t454 + 2)) then (if (wrap64 (t454 + 2)) ≤ (x7_2.length : Int) then ((some (x7_2.drop ((wrap64 (t454 + 2)) : Int).toNat : List (List (S83)))).bind fun y498 => (if y495.length + y498.length < 5864062014805 then (spec_l20Term.l1 k2 a2 (y495 ++ y498) x9_2 s0_0 t481) else (none))) else (none)) else (none)) = some (r1, r2) := by first | (rw [hy495]; with_reducible exact H) | (have H2_ := (Option.bind_some _ _).symm.trans H; rw [hy495]; with_reducible exact H2_) | (have H2_ := (Option.bind_some _ _).symm.trans H; with_reducible exact H2_) | with_reducible exact H | (rw [hy495]; exact H) | exact H
                   have Ny495 := Aside0.mk hy495
                   clear hy495
                   obtain ⟨ji61, hji61⟩ : ∃ j_ : Int, (wrap64 (t454 + 2)) = j_ := ⟨_, rfl⟩
                   replace H : (if 0 ≤ (ji61) then (if (ji61) ≤ (x7_2.length : Int) then ((some (x7_2.drop ((ji61) : Int).toNat : List (List (S83)))).bind fun y498 => (if y495.length + y498.length < 5864062014805 then (spec_l20Term.l1 k2 a2 (y495 ++ y498) x9_2 s0_0 t481) else (none))) else (none)) else (none)) = some (r1, r2) := by first | (rw [hji61] at H; exact H) | (simp only [hji61] at H ⊢; exact H)
                   (try rw [hji61] at A30)
                   (try rw [hji61] at A32)
                   (try rw [hji61] at A55)
                   have hji61w : (IntKind.i64.wrap (t454 + 2)) = ji61 := (i64_w _).trans hji61
                   by_cases c62 : 0 ≤ (ji61)
                   ·rw [if_pos c62] at H
                    have c62b0 := eq_true c62
                    have c62b1 : decide (0 ≤ (ji61)) = true := decide_eq_true c62
                    clear c62
                    by_cases c63 : (ji61) ≤ (x7_2.length : Int)
                    ·rw [if_pos c63] at H
                     have c63b0 := eq_true c63
                     have c63b1 : decide ((ji61) ≤ (x7_2.length : Int)) = true := decide_eq_true c63
                     clear c63
                     obtain ⟨y498, hy498⟩ : ∃ y_ : List (List (S83)), y_ = (x7_2.drop ((ji61) : Int).toNat) := ⟨_, rfl⟩
                     replace H : (if y495.length + y498.length < 5864062014805 then (spec_l20Term.l1 k2 a2 (y495 ++ y498) x9_2 s0_0 t481) else (none)) = some (r1, r2) := by first | (rw [hy498]; with_reducible exact H) | (have H2_ := (Option.bind_some _ _).symm.trans H; rw [hy498]; with_reducible exact H2_) | (have H2_ := (Option.bind_some _ _).symm.trans H; with_reducible exact H2_) | with_reducible exact H | (rw [hy498]; exact H) | exact H
                     have Ny498 := Aside0.mk hy498
                     clear hy498
                     by_cases c64 : y495.length + y498.length < 5864062014805
                     ·rw [if_pos c64] at H
                      have LMc64 := Aside0.mk c64
                      clear c64
                      obtain ⟨y502, hy502⟩ : ∃ y_ : List (List (S83)), y_ = (y495 ++ y498) := ⟨_, rfl⟩
                      replace H : (spec_l20Term.l1 k2 a2 y502 x9_2 s0_0 t481) = some (r1, r2) := by first | (rw [hy502]; with_reducible exact H) | (have H2_ := (Option.bind_some _ _).symm.trans H; rw [hy502]; with_reducible exact H2_) | (have H2_ := (Option.bind_some _ _).symm.trans H; with_reducible exact H2_) | with_reducible exact H | (rw [hy502]; exact H) | exact H
                      have Ny502 := Aside0.mk hy502
                      clear hy502
                      have H' := Aside0.mk H
                      clear H
                      obtain ⟨Ao65, co65, eo65⟩ := Kd.R_slice HO_7.out
                      subst eo65
                      try go_wp2_with (first | ((with_reducible refine gate_callee (f := 64) rfl ?_); refine goesL_ (some 52) rfl rfl Try.func64 (by kernel_rfl) rfl #[.pointer (some ⟨g, 0, none⟩), .int .i64 (wrap64 ((x7_2.length : Int) - 1))] rfl (by (try simp only [List.map_toArray, List.map_cons, List.map_nil]); first | done | rfl | (simp only [List.length_drop, List.length_take]; rfl)) ?_; (with_reducible refine (spec_l20Rd_pick.calls k2 g s0_0 x1001_2 (wrap64 ((x7_2.length : Int) - 1)) t454 t455 w0 _ ?side1 ?side2 A30.out).mono ?_); (case side1 => repeat (first | (with_reducible first | exact HI0.out | apply IsS100.alloc | apply IsS100.drewN | apply IsS100.drew | apply IsS100.set_1) | exact HI0.out)); (case side2 => repeat (first | (with_reducible first | exact HB.out | apply below_alloc | apply pw_below_drewN | apply below_drew1 | refine below_set ?_ (IsS100.ge HI0.out)) | exact HB.out)); rintro e w66 ⟨rfl, hi, hb, hk⟩; refine ⟨_, rfl, ?_⟩; have n0_ := Aside0.mk (Kd.R_mono (Kd.R_keep (IsS100.apart (show IsS100 w0 _ g s0_0 x1001_2 from by repeat (first | (with_reducible first | exact HI0.out | apply IsS100.alloc | apply IsS100.drewN | apply IsS100.drew | apply IsS100.set_1) | exact HI0.out)) (by (with_reducible repeat (first | apply Kd.R_alloc | apply Kd.R_drewN | apply Kd.R_drew)); exact HO_7.out) (by decide)) hk (fun _ h => h.2)) (fun _ h => h.1)); have n1_ := Aside0.mk (KeepBut.trans (by repeat (first | (with_reducible first | exact HK.out | apply KeepBut.set_ | apply keep_drewN | apply keep_drew | apply keep_alloc) | exact HK.out)) hk (.inl rfl)); have n2_ := Aside0.mk (hb); have n3_ := Aside0.mk (hi); clear HO_7; clear HK; clear HB; clear HI0; have HO_7 := n0_; have HK := n1_; have HB := n2_; have HI0 := n3_; clear n0_ n1_ n2_ n3_; (try clear hb); (try clear hb2); (try clear hk); (try clear hi)) | (go_at_call 64; (with_reducible refine (spec_l20Rd_pick.calls k2 g s0_0 t455 4 t456 t457 w0 _ ?side1 ?side2 A32.out).mono ?_); (case side1 => repeat (first | (with_reducible first | exact HI0.out | apply IsS100.alloc | apply IsS100.drewN | apply IsS100.drew | apply IsS100.set_1) | exact HI0.out)); (case side2 => repeat (first | (with_reducible first | exact HB.out | apply below_alloc | apply pw_below_drewN | apply below_drew1 | refine below_set ?_ (IsS100.ge HI0.out)) | exact HB.out)); rintro e w67 ⟨rfl, hi, hb, hk⟩; have n0_ := Aside0.mk (Kd.R_mono (Kd.R_keep (IsS100.apart (show IsS100 w0 _ g s0_0 t455 from by repeat (first | (with_reducible first | exact HI0.out | apply IsS100.alloc | apply IsS100.drewN | apply IsS100.drew | apply IsS100.set_1) | exact HI0.out)) (by (with_reducible repeat (first | apply Kd.R_alloc | apply Kd.R_drewN | apply Kd.R_drew)); exact HO_7.out) (by decide)) hk (fun _ h => h.2)) (fun _ h => h.1)); have n1_ := Aside0.mk (KeepBut.trans (by repeat (first | (with_reducible first | exact HK.out | apply KeepBut.set_ | apply keep_drewN | apply keep_drew | apply keep_alloc) | exact HK.out)) hk (.inl rfl)); have n2_ := Aside0.mk (hb); have n3_ := Aside0.mk (hi); clear HO_7; clear HK; clear HB; clear HI0; have HO_7 := n0_; have HK := n1_; have HB := n2_; have HI0 := n3_; clear n0_ n1_ n2_ n3_; (try clear hb); (try clear hb2); (try clear hk); (try clear hi)))
                      have n0_ := Aside0.mk (Kd.R_drew HO_7.out)
                      have n1_ := Aside0.mk (IsS100.drew HI0.out)
                      have n2_ := Aside0.mk (keep_drew HK.out)
                      have n3_ := Aside0.mk (below_drew1 HB.out)
                      clear HO_7
                      clear HI0
                      clear HK
                      clear HB
                      have HO_7 := n0_
                      have HI0 := n1_
                      have HK := n2_
                      have HB := n3_
                      clear n0_ n1_ n2_ n3_
                      have p472 : 0 ≤ (t454 : Int) := of_decide_eq_true (by first | (with_reducible assumption) | assumption)
                      have q472 : t454 < (x7_2.length : Int) := of_decide_eq_true (by first | (with_reducible assumption) | assumption)
                      obtain ⟨ad472, A472_0, c472_0, e472, hx472_0, hl472_0, hi472_0⟩ := at_L4 (Kd.R_reads' HO_7.out).2.2 t454 p472 q472
                      cases e472
                      obtain ⟨ce472, hce472, hMe472, hcc472⟩ := Kd.R_get HO_7.out [] t454 p472 (by first | exact q472 | exact of_decide_eq_true (by first | (with_reducible assumption) | assumption) | (have e_ := (Kd.R_reads' HO_7.out).1; omega))
                      obtain ⟨ve472_0, rfl, ge472_0⟩ := hMe472
                      have hv472_0 := hcc472 0 _ rfl
                      rw [Nat.add_zero, show ((Kd.slice 83 k83)).sz = 1 from rfl, Nat.mul_one] at hv472_0
                      replace hv472_0 := Option.some.inj (hv472_0.symm.trans hx472_0)
                      rw [hv472_0] at ge472_0
                      have HL472_0 := Aside0.mk (show Kd.R k83 83 _ _ _ _ (rd_L4 x7_2 t454) from ge472_0)
                      clear hv472_0 ge472_0
                      clear hcc472 hce472
                      have HR472_0 := Aside0.mk hi472_0
                      have HC472_0 := Aside0.mk hl472_0
                      clear hi472_0 hl472_0
                      replace p472 := eq_true p472
                      replace q472 := eq_true q472
                      have p476 : 0 ≤ ((ji51) : Int) := of_decide_eq_true (by first | (with_reducible assumption) | assumption)
                      have q476 : (ji51) < (x7_2.length : Int) := of_decide_eq_true (by first | (with_reducible assumption) | assumption)
                      obtain ⟨ad476, A476_0, c476_0, e476, hx476_0, hl476_0, hi476_0⟩ := at_L4 (Kd.R_reads' HO_7.out).2.2 (ji51) p476 q476
                      obtain rfl : ad472 = ad476 := (by injection e476)
                      obtain ⟨ce476, hce476, hMe476, hcc476⟩ := Kd.R_get HO_7.out [] (ji51) p476 (by first | exact q476 | exact of_decide_eq_true (by first | (with_reducible assumption) | assumption) | (have e_ := (Kd.R_reads' HO_7.out).1; omega))
                      obtain ⟨ve476_0, rfl, ge476_0⟩ := hMe476
                      have hv476_0 := hcc476 0 _ rfl
                      rw [Nat.add_zero, show ((Kd.slice 83 k83)).sz = 1 from rfl, Nat.mul_one] at hv476_0
                      replace hv476_0 := Option.some.inj (hv476_0.symm.trans hx476_0)
                      rw [hv476_0] at ge476_0
                      have HL476_0 := Aside0.mk (show Kd.R k83 83 _ _ _ _ (rd_L4 x7_2 (ji51)) from ge476_0)
                      clear hv476_0 ge476_0
                      clear hcc476 hce476
                      have HR476_0 := Aside0.mk hi476_0
                      have HC476_0 := Aside0.mk hl476_0
                      clear hi476_0 hl476_0
                      replace p476 := eq_true p476
                      replace q476 := eq_true q476
                      refine start_ (n := 19) (S := fun w' => w'.cell? (ad472.add (t454).toNat) = some (.slice A472_0 (rd_L4 x7_2 t454).length c472_0) ∧ w'.cell? (ad472.add ((ji51)).toNat) = some (.slice A476_0 (rd_L4 x7_2 (ji51)).length c476_0)) (ds := [16, 17]) #[false, false, false, false, false, false, false, false, false, false, false, false, false, false, false, false, false, false, false] (by kernel_rfl) rfl rfl ⟨hx472_0, hx476_0⟩ (fun hHeld => ?_); refine with_tabW spec_l20Term.tab15 spec_l20Term.bits15 (fun HT_ HW_ => ?_)
                      generalize w67.drew = w68 at HO_7 HI0 HK HB HL472_0 HL476_0 HR472_0 HR476_0 hx472_0 hx476_0 hHeld ⊢
                      refine pure_ (i := 1) (N := some 75) (v := ?_) (a' := ?_) #[false, true, false, false, false, false, false, false, false, false, false, false, false, false, false, false, false, false, false] rfl rfl (any_of HT_.out (by kernel_rfl)) (fun _ _ _ h => h) (Or.inl ⟨by rfl, ?_⟩) ?_ ?_
                      rotate_left
                      ·intro w'
                       go_simp
                       with_reducible rfl
                      rotate_left
                      ·simp only [Act.put, List.setIfInBounds_toArray, List.set_cons_zero, List.set_cons_succ, i64_w, i32_w]
                       rfl
                      refine pure_ (i := 2) (N := some 76) (v := ?_) (a' := ?_) #[false, true, true, false, false, false, false, false, false, false, false, false, false, false, false, false, false, false, false] rfl rfl (any_of HT_.out (by kernel_rfl)) (fun _ _ _ h => h) (Or.inl ⟨by rfl, ?_⟩) ?_ ?_
                      rotate_left
                      ·intro w'
                       go_simp
                       with_reducible rfl
                      rotate_left
                      ·simp only [Act.put, List.setIfInBounds_toArray, List.set_cons_zero, List.set_cons_succ, i64_w, i32_w]
                       rfl
                      refine pure_ (i := 3) (N := some 77) (v := ?_) (a' := ?_) #[false, true, true, true, false, false, false, false, false, false, false, false, false, false, false, false, false, false, false] rfl rfl (any_of HT_.out (by kernel_rfl)) (fun _ _ _ h => h) (Or.inl ⟨by rfl, ?_⟩) ?_ ?_
                      rotate_left
                      ·intro w'
                       go_simp
                       with_reducible rfl
                      rotate_left
                      ·simp only [Act.put, List.setIfInBounds_toArray, List.set_cons_zero, List.set_cons_succ, i64_w, i32_w]
                       rfl
                      refine pure_ (i := 6) (N := some 80) (v := ?_) (a' := ?_) #[false, true, true, true, false, false, true, false, false, false, false, false, false, false, false, false, false, false, false] rfl rfl (any_of HT_.out (by kernel_rfl)) (fun _ _ _ h => h) (Or.inl ⟨by rfl, ?_⟩) ?_ ?_
                      rotate_left
                      ·intro w'
                       go_simp
                       with_reducible rfl
                      rotate_left
                      ·simp only [Act.put, List.setIfInBounds_toArray, List.set_cons_zero, List.set_cons_succ, i64_w, i32_w]
                       rfl
                      refine pure_ (i := 7) (N := some 81) (v := ?_) (a' := ?_) #[false, true, true, true, false, false, true, true, false, false, false, false, false, false, false, false, false, false, false] rfl rfl (any_of HT_.out (by kernel_rfl)) (fun _ _ _ h => h) (Or.inl ⟨by rfl, ?_⟩) ?_ ?_
                      rotate_left
                      ·intro w'
                       go_simp
                       with_reducible rfl
                      rotate_left
                      ·simp only [Act.put, List.setIfInBounds_toArray, List.set_cons_zero, List.set_cons_succ, i64_w, i32_w]
                       rfl
                      refine pure_ (i := 8) (N := some 82) (v := ?_) (a' := ?_) #[false, true, true, true, false, false, true, true, true, false, false, false, false, false, false, false, false, false, false] rfl rfl (any_of HT_.out (by kernel_rfl)) (fun _ _ _ h => h) (Or.inl ⟨by rfl, ?_⟩) ?_ ?_
                      rotate_left
                      ·intro w'
                       go_simp
                       with_reducible rfl
                      rotate_left
                      ·simp only [Act.put, List.setIfInBounds_toArray, List.set_cons_zero, List.set_cons_succ, i64_w, i32_w]
                       rfl
                      refine pure_ (i := 9) (N := some 83) (v := ?_) (a' := ?_) #[false, true, true, true, false, false, true, true, true, true, false, false, false, false, false, false, false, false, false] rfl rfl (any_of HT_.out (by kernel_rfl)) (fun _ _ _ h => h) (Or.inl ⟨by rfl, ?_⟩) ?_ ?_
                      rotate_left
                      ·intro w'
                       go_simp
                       with_reducible rfl
                      rotate_left
                      ·simp only [Act.put, List.setIfInBounds_toArray, List.set_cons_zero, List.set_cons_succ, i64_w, i32_w]
                       rfl
                      refine pure_ (i := 12) (N := some 86) (v := ?_) (a' := ?_) #[false, true, true, true, false, false, true, true, true, true, false, false, true, false, false, false, false, false, false] rfl rfl (any_of HT_.out (by kernel_rfl)) (fun _ _ _ h => h) (Or.inl ⟨by rfl, ?_⟩) ?_ ?_
                      rotate_left
                      ·intro w'
                       go_simp
                       with_reducible rfl
                      rotate_left
                      ·simp only [Act.put, List.setIfInBounds_toArray, List.set_cons_zero, List.set_cons_succ, i64_w, i32_w]
                       rfl
                      refine take_ (i := 4) (N := some 78) (v := ?_) (a' := ?_) #[false, true, true, true, true, false, true, true, true, true, false, false, true, false, false, false, false, false, false] rfl rfl (take_ofW HT_.out HW_.out (by kernel_rfl)) (fun _ _ _ h => h) (Or.inl ⟨by rfl, ?_⟩) hHeld ?_ ?_
                      rotate_left
                      ·rintro w' ⟨s0, s1⟩
                       go_simp
                       with_reducible rfl
                      rotate_left
                      ·simp only [Act.put, List.setIfInBounds_toArray, List.set_cons_zero, List.set_cons_succ, i64_w, i32_w]
                       rfl
                      refine take_ (i := 10) (N := some 84) (v := ?_) (a' := ?_) #[false, true, true, true, true, false, true, true, true, true, true, false, true, false, false, false, false, false, false] rfl rfl (take_ofW HT_.out HW_.out (by kernel_rfl)) (fun _ _ _ h => h) (Or.inl ⟨by rfl, ?_⟩) hHeld ?_ ?_
                      rotate_left
                      ·rintro w' ⟨s0, s1⟩
                       go_simp
                       with_reducible rfl
                      rotate_left
                      ·simp only [Act.put, List.setIfInBounds_toArray, List.set_cons_zero, List.set_cons_succ, i64_w, i32_w]
                       rfl
                      refine one_ (i := 0) (N := some 74) #[true, true, true, true, true, false, true, true, true, true, true, false, true, false, false, false, false, false, false] rfl rfl (one_of HT_.out (by kernel_rfl)) (by decide) (fun K hK => ?_)
                      refine Kd.R_lit_step k83 _ 83 ?hg (N := 74) ?hd (xs := ([] : List (S83))) (inner := []) (ok := fun _ => True) (okp := fun _ => True) ?hr ?hp (fun _ hk => hk) trivial (Below.refl _ _) (Nat.le_refl _) (by simp) ?_; (case hd => rfl); (case hg => rfl); (case hr => first | (go_simp; done) | (go_simp; rfl)); (case hp => exact (Reps.none _ _))
                      intro v470 w69 ho70 hb hg_ hnew_
                      have HS0_ := (hb.cell (World.block_lt_of_cell? _ _ (hHeld.1))).trans (hHeld.1)
                      have HS1_ := (hb.cell (World.block_lt_of_cell? _ _ (hHeld.2))).trans (hHeld.2)
                      clear hg_ hnew_
                      (first | rw [← Ny469.out] at ho70 | (simp only [Int.reduceToNat] at ho70; rw [← Ny469.out] at ho70))
                      have n0_ := Aside0.mk (Kd.R_elder' (by (with_reducible repeat (first | apply Kd.R_alloc | apply Kd.R_drewN | apply Kd.R_drew)); exact HO_7.out) (Kd.R_base ho70) hb)
                      have n1_ := Aside0.mk (Kd.R_elder' (by (with_reducible repeat (first | apply Kd.R_alloc | apply Kd.R_drewN | apply Kd.R_drew)); exact HL472_0.out) (Kd.R_base ho70) hb)
                      have n2_ := Aside0.mk (Kd.R_elder' (by (with_reducible repeat (first | apply Kd.R_alloc | apply Kd.R_drewN | apply Kd.R_drew)); exact HL476_0.out) (Kd.R_base ho70) hb)
                      have n3_ := Aside0.mk (Kd.R_lower (Kd.R_new' (Kd.R_new' ho70 (Kd.R_lt (by (with_reducible repeat (first | apply Kd.R_alloc | apply Kd.R_drewN | apply Kd.R_drew)); exact HL472_0.out))) (Kd.R_lt (by (with_reducible repeat (first | apply Kd.R_alloc | apply Kd.R_drewN | apply Kd.R_drew)); exact HL476_0.out))) (keep_size (w := w) (g := g) (row := none) (by repeat (first | (with_reducible first | exact HK.out | apply KeepBut.set_ | apply keep_drewN | apply keep_drew | apply keep_alloc) | exact HK.out))))
                      have n4_ := Aside0.mk (IsS100.below (by repeat (first | (with_reducible first | exact HI0.out | apply IsS100.alloc | apply IsS100.drewN | apply IsS100.drew | apply IsS100.set_1) | exact HI0.out)) hb)
                      have n5_ := Aside0.mk (Kd.C_below (by repeat (first | (with_reducible exact HR472_0.out) | (with_reducible refine Kd.C_alloc ?_ _) | (with_reducible refine Kd.C_drewN ?_ _) | (with_reducible refine Kd.C_drew ?_) | exact HR472_0.out)) hb)
                      have n6_ := Aside0.mk (Kd.C_below (by repeat (first | (with_reducible exact HR476_0.out) | (with_reducible refine Kd.C_alloc ?_ _) | (with_reducible refine Kd.C_drewN ?_ _) | (with_reducible refine Kd.C_drew ?_) | exact HR476_0.out)) hb)
                      have n7_ := Aside0.mk (KeepBut.trans (by repeat (first | (with_reducible first | exact HK.out | apply KeepBut.set_ | apply keep_drewN | apply keep_drew | apply keep_alloc) | exact HK.out)) (KeepBut.of_below hb g none) (.inl rfl))
                      have n8_ := Aside0.mk (below_step (by repeat (first | (with_reducible first | exact HB.out | apply below_alloc | apply pw_below_drewN | apply below_drew1 | refine below_set ?_ (IsS100.ge HI0.out)) | exact HB.out)) hb)
                      clear HO_7
                      clear HL472_0
                      clear HL476_0
                      clear HI0
                      clear HR472_0
                      clear HR476_0
                      clear HK
                      clear HB
                      have HO_7 := n0_
                      have HL472_0 := n1_
                      have HL476_0 := n2_
                      have HO471 := n3_
                      have HI0 := n4_
                      have HR472_0 := n5_
                      have HR476_0 := n6_
                      have HK := n7_
                      have HB := n8_
                      clear n0_ n1_ n2_ n3_ n4_ n5_ n6_ n7_ n8_
                      clear hb ho70
                      refine hK.out _ _ ⟨HS0_, HS1_⟩ (fun hHeld => ?_)
                      clear hK K
                      refine norm_ (a' := ?_) ?_ ?_
                      rotate_left
                      ·show Act.put _ (some 74) _ = _
                       simp only [Act.put, List.setIfInBounds_toArray, List.set_cons_zero, List.set_cons_succ, i64_w, i32_w]
                       rfl
                      refine one_ (i := 5) (N := some 79) #[true, true, true, true, true, true, true, true, true, true, true, false, true, false, false, false, false, false, false] rfl rfl (one_of HT_.out (by kernel_rfl)) (by decide) (fun K hK => ?_)
                      refine Kd.R_append_rows_step k83 w.heap.size (by rfl) (.tmp 74) (.tmp 78) 35 83 (.agg #[(.int .i64 0), (.int .i64 0)]) 16 rfl Try.underlying35 info83 rfl (by decide) (by omega) v470 y469 (rd_L4 x7_2 t454) _ _ _ (fun k_ => some k_ ≠ (.slice A472_0 (rd_L4 x7_2 t454).length c472_0 : Value).ownBlock ∧ some k_ ≠ (.slice A476_0 (rd_L4 x7_2 (ji51)).length c476_0 : Value).ownBlock) (fun _ => False) rfl rfl ?aO ?aR (fun _ _ h => h) (fun _ h => h.elim) ?aF (Below.refl _ _) ?aS ?aL ?_
                      (case aR => repeat (first | exact (by repeat (first | (with_reducible exact HR472_0.out) | (with_reducible refine Kd.C_alloc ?_ _) | (with_reducible refine Kd.C_drewN ?_ _) | (with_reducible refine Kd.C_drew ?_) | exact HR472_0.out)) | (with_reducible refine Kd.C_alloc ?_ _) | (with_reducible refine Kd.C_drewN ?_ _) | (with_reducible refine Kd.C_drew ?_)))
                      (case aF => exact (fun k_ hk => ⟨Kd.fresh' (Kd.R_lt (by (with_reducible repeat (first | apply Kd.R_alloc | apply Kd.R_drewN | apply Kd.R_drew)); exact HL472_0.out)) k_ hk, Kd.fresh' (Kd.R_lt (by (with_reducible repeat (first | apply Kd.R_alloc | apply Kd.R_drewN | apply Kd.R_drew)); exact HL476_0.out)) k_ hk⟩))
                      (case aO => exact (by (with_reducible repeat (first | apply Kd.R_alloc | apply Kd.R_drewN | apply Kd.R_drew)); exact Kd.R_mono HO471.out (fun _ hk => ⟨hk.1.2, hk.2⟩)))
                      (case aS => exact (keep_size (w := w) (g := g) (row := none) (by repeat (first | (with_reducible first | exact HK.out | apply KeepBut.set_ | apply keep_drewN | apply keep_drew | apply keep_alloc) | exact HK.out))))
                      (case aL => have := LMc50.out; omega)
                      intro v474 w71 ho hb hg hat
                      have HS0_ := cell_grown hg (hHeld.1) (by first | (rw [add_block]; exact row_ne HO_7.out HO471.out (by decide) _ rfl) | (show some (Addr.add _ _).block ≠ _; rw [add_block]; exact row_ne HO_7.out HO471.out (by decide) _ rfl) | exact row_ne HO_7.out HO471.out (by decide) _ rfl)
                      have HS1_ := cell_grown hg (hHeld.2) (by first | (rw [add_block]; exact row_ne HO_7.out HO471.out (by decide) _ rfl) | (show some (Addr.add _ _).block ≠ _; rw [add_block]; exact row_ne HO_7.out HO471.out (by decide) _ rfl) | exact row_ne HO_7.out HO471.out (by decide) _ rfl)
                      rw [← Ny473.out] at ho
                      have n0_ := Aside0.mk (Kd.R_after (ok := (fun _ => True)) (by (with_reducible repeat (first | apply Kd.R_alloc | apply Kd.R_drewN | apply Kd.R_drew)); exact HO_7.out) hg hat)
                      have n1_ := Aside0.mk (IsS100.grown (by repeat (first | (with_reducible first | exact HI0.out | apply IsS100.alloc | apply IsS100.drewN | apply IsS100.drew | apply IsS100.set_1) | exact HI0.out)) hg (IsS100.own_ne HI0.out HO471.out (by decide)))
                      have n2_ := Aside0.mk (Kd.R_after (ok := (fun k_ => some k_ ≠ (.slice (some ad472) x7_2.length co65 : Value).ownBlock)) (by (with_reducible repeat (first | apply Kd.R_alloc | apply Kd.R_drewN | apply Kd.R_drew)); exact Kd.R_mono HL472_0.out (fun _ hk => ⟨hk.1.2, hk.2⟩)) hg hat)
                      have n3_ := Aside0.mk (Kd.R_after (ok := (fun k_ => some k_ ≠ (.slice (some ad472) x7_2.length co65 : Value).ownBlock)) (by (with_reducible repeat (first | apply Kd.R_alloc | apply Kd.R_drewN | apply Kd.R_drew)); exact Kd.R_mono HL476_0.out (fun _ hk => ⟨hk.1.2, hk.2⟩)) hg hat)
                      have n4_ := Aside0.mk (below_weaken (by repeat (first | (with_reducible first | exact HB.out | apply below_alloc | apply pw_below_drewN | apply below_drew1 | refine below_set ?_ (IsS100.ge HI0.out)) | exact HB.out)) HL.out hb)
                      have n5_ := Aside0.mk (KeepBut.trans (by repeat (first | (with_reducible first | exact HK.out | apply KeepBut.set_ | apply keep_drewN | apply keep_drew | apply keep_alloc) | exact HK.out)) (KeepBut.of_grown hg g) (Kd.R_base2 HO471.out))
                      have n6_ := Aside0.mk (ho)
                      clear HO_7
                      clear HI0
                      clear HL472_0
                      clear HL476_0
                      clear HB
                      clear HK
                      clear HO471
                      have HO_7 := n0_
                      have HI0 := n1_
                      have HL472_0 := n2_
                      have HL476_0 := n3_
                      have HB := n4_
                      have HK := n5_
                      have HO475 := n6_
                      clear n0_ n1_ n2_ n3_ n4_ n5_ n6_
                      clear ho hb hg hat
                      refine hK.out _ _ ⟨HS0_, HS1_⟩ (fun hHeld => ?_)
                      clear hK K
                      refine norm_ (a' := ?_) ?_ ?_
                      rotate_left
                      ·show Act.put _ (some 79) _ = _
                       simp only [Act.put, List.setIfInBounds_toArray, List.set_cons_zero, List.set_cons_succ, i64_w, i32_w]
                       rfl
                      refine one_ (i := 11) (N := some 85) #[true, true, true, true, true, true, true, true, true, true, true, true, true, false, false, false, false, false, false] rfl rfl (one_of HT_.out (by kernel_rfl)) (by decide) (fun K hK => ?_)
                      refine Kd.R_append_rows_step k83 w.heap.size (by rfl) (.tmp 79) (.tmp 84) 35 83 (.agg #[(.int .i64 0), (.int .i64 0)]) 16 rfl Try.underlying35 info83 rfl (by decide) (by omega) v474 y473 (rd_L4 x7_2 (ji51)) _ _ _ (fun k_ => some k_ ≠ (.slice A472_0 (rd_L4 x7_2 t454).length c472_0 : Value).ownBlock ∧ some k_ ≠ (.slice A476_0 (rd_L4 x7_2 (ji51)).length c476_0 : Value).ownBlock) (fun _ => False) rfl rfl ?aO ?aR (fun _ _ h => h) (fun _ h => h.elim) ?aF (Below.refl _ _) ?aS ?aL ?_
                      (case aR => repeat (first | exact ((Kd.R_reads' (by (with_reducible repeat (first | apply Kd.R_alloc | apply Kd.R_drewN | apply Kd.R_drew)); exact HL476_0.out)).2.2) | (with_reducible refine Kd.C_alloc ?_ _) | (with_reducible refine Kd.C_drewN ?_ _) | (with_reducible refine Kd.C_drew ?_)))
                      (case aF => exact (fun k_ hk => ⟨Kd.fresh' (Kd.R_lt (by (with_reducible repeat (first | apply Kd.R_alloc | apply Kd.R_drewN | apply Kd.R_drew)); exact HL472_0.out)) k_ hk, Kd.fresh' (Kd.R_lt (by (with_reducible repeat (first | apply Kd.R_alloc | apply Kd.R_drewN | apply Kd.R_drew)); exact HL476_0.out)) k_ hk⟩))
                      (case aO => exact (by (with_reducible repeat (first | apply Kd.R_alloc | apply Kd.R_drewN | apply Kd.R_drew)); exact HO475.out))
                      (case aS => exact (keep_size (w := w) (g := g) (row := none) (by repeat (first | (with_reducible first | exact HK.out | apply KeepBut.set_ | apply keep_drewN | apply keep_drew | apply keep_alloc) | exact HK.out))))
                      (case aL => have := LMc54.out; omega)
                      intro v478 w72 ho hb hg hat
                      have HS0_ := cell_grown hg (hHeld.1) (by first | (rw [add_block]; exact row_ne HO_7.out HO475.out (by decide) _ rfl) | (show some (Addr.add _ _).block ≠ _; rw [add_block]; exact row_ne HO_7.out HO475.out (by decide) _ rfl) | exact row_ne HO_7.out HO475.out (by decide) _ rfl)
                      have HS1_ := cell_grown hg (hHeld.2) (by first | (rw [add_block]; exact row_ne HO_7.out HO475.out (by decide) _ rfl) | (show some (Addr.add _ _).block ≠ _; rw [add_block]; exact row_ne HO_7.out HO475.out (by decide) _ rfl) | exact row_ne HO_7.out HO475.out (by decide) _ rfl)
                      rw [← Ny477.out] at ho
                      have n0_ := Aside0.mk (Kd.R_after (ok := (fun _ => True)) (by (with_reducible repeat (first | apply Kd.R_alloc | apply Kd.R_drewN | apply Kd.R_drew)); exact HO_7.out) hg hat)
                      have n1_ := Aside0.mk (IsS100.grown (by repeat (first | (with_reducible first | exact HI0.out | apply IsS100.alloc | apply IsS100.drewN | apply IsS100.drew | apply IsS100.set_1) | exact HI0.out)) hg (IsS100.own_ne HI0.out HO475.out (by decide)))
                      have n2_ := Aside0.mk (Kd.R_after (ok := (fun k_ => some k_ ≠ (.slice (some ad472) x7_2.length co65 : Value).ownBlock)) (by (with_reducible repeat (first | apply Kd.R_alloc | apply Kd.R_drewN | apply Kd.R_drew)); exact HL472_0.out) hg hat)
                      have n3_ := Aside0.mk (Kd.R_after (ok := (fun k_ => some k_ ≠ (.slice (some ad472) x7_2.length co65 : Value).ownBlock)) (by (with_reducible repeat (first | apply Kd.R_alloc | apply Kd.R_drewN | apply Kd.R_drew)); exact HL476_0.out) hg hat)
                      have n4_ := Aside0.mk (below_weaken (by repeat (first | (with_reducible first | exact HB.out | apply below_alloc | apply pw_below_drewN | apply below_drew1 | refine below_set ?_ (IsS100.ge HI0.out)) | exact HB.out)) HL.out hb)
                      have n5_ := Aside0.mk (KeepBut.trans (by repeat (first | (with_reducible first | exact HK.out | apply KeepBut.set_ | apply keep_drewN | apply keep_drew | apply keep_alloc) | exact HK.out)) (KeepBut.of_grown hg g) (Kd.R_base2 HO475.out))
                      have n6_ := Aside0.mk (ho)
                      clear HO_7
                      clear HI0
                      clear HL472_0
                      clear HL476_0
                      clear HB
                      clear HK
                      clear HO475
                      have HO_7 := n0_
                      have HI0 := n1_
                      have HL472_0 := n2_
                      have HL476_0 := n3_
                      have HB := n4_
                      have HK := n5_
                      have HO479 := n6_
                      clear n0_ n1_ n2_ n3_ n4_ n5_ n6_
                      clear ho hb hg hat
                      refine hK.out _ _ ⟨HS0_, HS1_⟩ (fun hHeld => ?_)
                      clear hK K
                      refine norm_ (a' := ?_) ?_ ?_
                      rotate_left
                      ·show Act.put _ (some 85) _ = _
                       simp only [Act.put, List.setIfInBounds_toArray, List.set_cons_zero, List.set_cons_succ, i64_w, i32_w]
                       rfl
                      refine one_ (i := 13) (N := some 87) #[true, true, true, true, true, true, true, true, true, true, true, true, true, true, false, false, false, false, false] rfl rfl (one_of HT_.out (by kernel_rfl)) (by decide) (fun K hK => ?_)
                      refine goes_ Try.func64 (by kernel_rfl) rfl #[.pointer (some ⟨g, 0, none⟩), .int .i64 3] (by rfl) rfl rfl (by (try simp only [List.map_toArray, List.map_cons, List.map_nil]); first | done | rfl | (simp only [List.length_drop, List.length_take]; rfl)) ?_
                      with_reducible refine (spec_l20Rd_pick.calls k2 g s0_0 t457 3 t480 t481 w0 _ ?side1 ?side2 A55.out).mono ?_
                      (case side1 => repeat (first | (with_reducible first | exact HI0.out | apply IsS100.alloc | apply IsS100.drewN | apply IsS100.drew | apply IsS100.set_1) | exact HI0.out))
                      (case side2 => repeat (first | (with_reducible first | exact HB.out | apply below_alloc | apply pw_below_drewN | apply below_drew1 | refine below_set ?_ (IsS100.ge HI0.out)) | exact HB.out))
                      rintro e w73 ⟨rfl, hi, hb, hk⟩
                      have HS0_ := keep_cell hk (hHeld.1) (by first | (rw [add_block]; exact Kd.own_blk (IsS100.own_ne HI0.out HO_7.out (by decide))) | (show (Addr.add _ _).block ≠ _; rw [add_block]; exact Kd.own_blk (IsS100.own_ne HI0.out HO_7.out (by decide))) | exact Kd.own_blk (IsS100.own_ne HI0.out HO_7.out (by decide)))
                      have HS1_ := keep_cell hk (hHeld.2) (by first | (rw [add_block]; exact Kd.own_blk (IsS100.own_ne HI0.out HO_7.out (by decide))) | (show (Addr.add _ _).block ≠ _; rw [add_block]; exact Kd.own_blk (IsS100.own_ne HI0.out HO_7.out (by decide))) | exact Kd.own_blk (IsS100.own_ne HI0.out HO_7.out (by decide)))
                      refine ⟨_, rfl, ?_⟩
                      have n0_ := Aside0.mk (Kd.R_mono (Kd.R_keep (IsS100.apart (show IsS100 w0 _ g s0_0 t457 from by repeat (first | (with_reducible first | exact HI0.out | apply IsS100.alloc | apply IsS100.drewN | apply IsS100.drew | apply IsS100.set_1) | exact HI0.out)) (by (with_reducible repeat (first | apply Kd.R_alloc | apply Kd.R_drewN | apply Kd.R_drew)); exact HO_7.out) (by decide)) hk (fun _ h => h.2)) (fun _ h => h.1))
                      have n1_ := Aside0.mk (Kd.R_mono (Kd.R_keep (IsS100.apart (show IsS100 w0 _ g s0_0 t457 from by repeat (first | (with_reducible first | exact HI0.out | apply IsS100.alloc | apply IsS100.drewN | apply IsS100.drew | apply IsS100.set_1) | exact HI0.out)) (by (with_reducible repeat (first | apply Kd.R_alloc | apply Kd.R_drewN | apply Kd.R_drew)); exact HL472_0.out) (by decide)) hk (fun _ h => h.2)) (fun _ h => h.1))
                      have n2_ := Aside0.mk (Kd.R_mono (Kd.R_keep (IsS100.apart (show IsS100 w0 _ g s0_0 t457 from by repeat (first | (with_reducible first | exact HI0.out | apply IsS100.alloc | apply IsS100.drewN | apply IsS100.drew | apply IsS100.set_1) | exact HI0.out)) (by (with_reducible repeat (first | apply Kd.R_alloc | apply Kd.R_drewN | apply Kd.R_drew)); exact HL476_0.out) (by decide)) hk (fun _ h => h.2)) (fun _ h => h.1))
                      have n3_ := Aside0.mk (Kd.R_mono (Kd.R_keep (IsS100.apart (show IsS100 w0 _ g s0_0 t457 from by repeat (first | (with_reducible first | exact HI0.out | apply IsS100.alloc | apply IsS100.drewN | apply IsS100.drew | apply IsS100.set_1) | exact HI0.out)) (by (with_reducible repeat (first | apply Kd.R_alloc | apply Kd.R_drewN | apply Kd.R_drew)); exact HO479.out) (by decide)) hk (fun _ h => h.2)) (fun _ h => h.1))
                      have n4_ := Aside0.mk (KeepBut.trans (by repeat (first | (with_reducible first | exact HK.out | apply KeepBut.set_ | apply keep_drewN | apply keep_drew | apply keep_alloc) | exact HK.out)) hk (.inl rfl))
                      have n5_ := Aside0.mk (hb)
                      have n6_ := Aside0.mk (hi)
                      clear HO_7
                      clear HL472_0
                      clear HL476_0
                      clear HO479
                      clear HK
                      clear HB
                      clear HI0
                      have HO_7 := n0_
                      have HL472_0 := n1_
                      have HL476_0 := n2_
                      have HO479 := n3_
                      have HK := n4_
                      have HB := n5_
                      have HI0 := n6_
                      clear n0_ n1_ n2_ n3_ n4_ n5_ n6_
                      (try clear hb)
                      (try clear hb2)
                      (try clear hk)
                      (try clear hi)
                      refine hK.out _ _ ⟨HS0_, HS1_⟩ (fun hHeld => ?_)
                      clear hK K
                      refine norm_ (a' := ?_) ?_ ?_
                      rotate_left
                      ·show Act.put _ (some 87) _ = _
                       simp only [Act.put, List.setIfInBounds_toArray, List.set_cons_zero, List.set_cons_succ, i64_w, i32_w]
                       rfl
                      refine pure_ (i := 14) (N := some 88) (v := ?_) (a' := ?_) #[true, true, true, true, true, true, true, true, true, true, true, true, true, true, true, false, false, false, false] rfl rfl (any_of HT_.out (by kernel_rfl)) (fun _ _ _ h => h) (Or.inl ⟨by rfl, ?_⟩) ?_ ?_
                      rotate_left
                      ·intro w'
                       go_simp
                       with_reducible rfl
                      rotate_left
                      ·simp only [Act.put, List.setIfInBounds_toArray, List.set_cons_zero, List.set_cons_succ, i64_w, i32_w]
                       rfl
                      refine pure_ (i := 15) (N := some 89) (v := ?_) (a' := ?_) #[true, true, true, true, true, true, true, true, true, true, true, true, true, true, true, true, false, false, false] rfl rfl (any_of HT_.out (by kernel_rfl)) (fun _ _ _ h => h) (Or.inl ⟨by rfl, ?_⟩) ?_ ?_
                      rotate_left
                      ·intro w'
                       go_simp
                       with_reducible rfl
                      rotate_left
                      ·simp only [Act.put, List.setIfInBounds_toArray, List.set_cons_zero, List.set_cons_succ, i64_w, i32_w]
                       rfl
                      refine last_ (i := 16) (N := some 90) #[true, true, true, true, true, true, true, true, true, true, true, true, true, true, true, true, true, false, false] rfl rfl (one_of HT_.out (by kernel_rfl)) (by decide) (fun K hK => ?_)
                      refine value_ (w1 := ?_) (v := ?_) (by rfl) rfl ?_ ?_
                      rotate_left 2
                      ·go_simp
                       constructor
                       ·rfl
                       ·rfl
                      refine hK.out _ _ ?_
                      clear hK K
                      refine norm_ (a' := ?_) ?_ ?_
                      rotate_left
                      ·show Act.put _ (some 90) _ = _
                       simp only [Act.put, List.setIfInBounds_toArray, List.set_cons_zero, List.set_cons_succ, i64_w, i32_w]
                       rfl
                      refine last_ (i := 17) (N := some 91) #[true, true, true, true, true, true, true, true, true, true, true, true, true, true, true, true, true, true, false] rfl rfl (one_of HT_.out (by kernel_rfl)) (by decide) (fun K hK => ?_)
                      refine Kd.R_append_step k83 w.heap.size (by rfl) (.tmp 85) (.tmp 90) 35 83 (.agg #[(.int .i64 0), (.int .i64 0)]) 16 rfl Try.underlying35 info83 rfl (by decide) (by omega) v478 y477 (⟨wrap64 (3 + t480), 0⟩ : S83) [.int .i64 (wrap64 (3 + t480)), .int .i64 0] (fun k_ => some k_ ≠ (.slice A472_0 (rd_L4 x7_2 t454).length c472_0 : Value).ownBlock ∧ some k_ ≠ (.slice A476_0 (rd_L4 x7_2 (ji51)).length c476_0 : Value).ownBlock) (fun _ => False) rfl rfl ?aP (fun _ hk => hk.elim) ?aF ?aO (Below.refl _ _) ?aS ?aL ?_
                      (case aP => exact k83_mkM _ _ _ (⟨wrap64 (3 + t480), 0⟩ : S83))
                      (case aF => exact (fun k_ hk => ⟨Kd.fresh' (Kd.R_lt (by (with_reducible repeat (first | apply Kd.R_alloc | apply Kd.R_drewN | apply Kd.R_drew)); exact HL472_0.out)) k_ hk, Kd.fresh' (Kd.R_lt (by (with_reducible repeat (first | apply Kd.R_alloc | apply Kd.R_drewN | apply Kd.R_drew)); exact HL476_0.out)) k_ hk⟩))
                      (case aO => exact (by (with_reducible repeat (first | apply Kd.R_alloc | apply Kd.R_drewN | apply Kd.R_drew)); exact HO479.out))
                      (case aS => exact (keep_size (w := w) (g := g) (row := none) (by repeat (first | (with_reducible first | exact HK.out | apply KeepBut.set_ | apply keep_drewN | apply keep_drew | apply keep_alloc) | exact HK.out))))
                      (case aL => have := LMc56.out; omega)
                      intro v483 w74 ho hb hg hat
                      rw [← Ny482.out] at ho
                      have n0_ := Aside0.mk (Kd.R_after (ok := (fun _ => True)) (by (with_reducible repeat (first | apply Kd.R_alloc | apply Kd.R_drewN | apply Kd.R_drew)); exact HO_7.out) hg hat)
                      have n1_ := Aside0.mk (IsS100.grown (by repeat (first | (with_reducible first | exact HI0.out | apply IsS100.alloc | apply IsS100.drewN | apply IsS100.drew | apply IsS100.set_1) | exact HI0.out)) hg (IsS100.own_ne HI0.out HO479.out (by decide)))
                      have n2_ := Aside0.mk (Kd.R_after (ok := (fun k_ => some k_ ≠ (.slice (some ad472) x7_2.length co65 : Value).ownBlock)) (by (with_reducible repeat (first | apply Kd.R_alloc | apply Kd.R_drewN | apply Kd.R_drew)); exact HL472_0.out) hg hat)
                      have n3_ := Aside0.mk (Kd.R_after (ok := (fun k_ => some k_ ≠ (.slice (some ad472) x7_2.length co65 : Value).ownBlock)) (by (with_reducible repeat (first | apply Kd.R_alloc | apply Kd.R_drewN | apply Kd.R_drew)); exact HL476_0.out) hg hat)
                      have n4_ := Aside0.mk (below_weaken (by repeat (first | (with_reducible first | exact HB.out | apply below_alloc | apply pw_below_drewN | apply below_drew1 | refine below_set ?_ (IsS100.ge HI0.out)) | exact HB.out)) HL.out hb)
                      have n5_ := Aside0.mk (KeepBut.trans (by repeat (first | (with_reducible first | exact HK.out | apply KeepBut.set_ | apply keep_drewN | apply keep_drew | apply keep_alloc) | exact HK.out)) (KeepBut.of_grown hg g) (Kd.R_base2 HO479.out))
                      have n6_ := Aside0.mk (ho)
                      clear HO_7
                      clear HI0
                      clear HL472_0
                      clear HL476_0
                      clear HB
                      clear HK
                      clear HO479
                      have HO_7 := n0_
                      have HI0 := n1_
                      have HL472_0 := n2_
                      have HL476_0 := n3_
                      have HB := n4_
                      have HK := n5_
                      have HO484 := n6_
                      clear n0_ n1_ n2_ n3_ n4_ n5_ n6_
                      clear ho hb hg hat
                      refine hK.out _ _ ?_
                      clear hK K
                      refine norm_ (a' := ?_) ?_ ?_
                      rotate_left
                      ·show Act.put _ (some 91) _ = _
                       simp only [Act.put, List.setIfInBounds_toArray, List.set_cons_zero, List.set_cons_succ, i64_w, i32_w]
                       rfl
                      refine pure_ (i := 18) (N := some 11) (v := ?_) (a' := ?_) #[true, true, true, true, true, true, true, true, true, true, true, true, true, true, true, true, true, true, true] rfl rfl (any_of HT_.out (by kernel_rfl)) (fun _ _ _ h => h) (Or.inl ⟨by rfl, ?_⟩) ?_ ?_
                      rotate_left
                      ·intro w'
                       go_simp
                       with_reducible rfl
                      rotate_left
                      ·simp only [Act.put, List.setIfInBounds_toArray, List.set_cons_zero, List.set_cons_succ, i64_w, i32_w]
                       rfl
                      refine done_ (done_of HT_.out (by kernel_rfl)) ?_
                      try go_wp2_with (first | ((with_reducible refine gate_dst (N := 92) rfl ?_); refine Kd.R_lit (Kd.slice 83 k83) _ 35 ?hg (N := 92) ?hd (xs := ([] : List (List (S83)))) (inner := []) (ok := fun _ => True) (okp := fun _ => True) ?hr ?hp (fun _ hk => hk) trivial (Below.refl _ _) (Nat.le_refl _) (by simp) ?_; (case hd => rfl); (case hg => rfl); (case hr => first | (go_simp; done) | (go_simp; rfl)); (case hp => exact (Reps.none _ _)); intro v486 w75 ho76 hb hg_ hnew_; clear hg_ hnew_; (first | rw [← Ny485.out] at ho76 | (simp only [Int.reduceToNat] at ho76; rw [← Ny485.out] at ho76)); have n0_ := Aside0.mk (Kd.R_elder' (by (with_reducible repeat (first | apply Kd.R_alloc | apply Kd.R_drewN | apply Kd.R_drew)); exact HO_7.out) (Kd.R_base ho76) hb); have n1_ := Aside0.mk (Kd.R_below (by (with_reducible repeat (first | apply Kd.R_alloc | apply Kd.R_drewN | apply Kd.R_drew)); exact HL472_0.out) hb); have n2_ := Aside0.mk (Kd.R_below (by (with_reducible repeat (first | apply Kd.R_alloc | apply Kd.R_drewN | apply Kd.R_drew)); exact HL476_0.out) hb); have n3_ := Aside0.mk (Kd.R_below (by (with_reducible repeat (first | apply Kd.R_alloc | apply Kd.R_drewN | apply Kd.R_drew)); exact HO484.out) hb); have n4_ := Aside0.mk (Kd.R_lower (Kd.R_new' (Kd.R_new' (Kd.R_new' (Kd.R_new' ho76 (Kd.R_lt (by (with_reducible repeat (first | apply Kd.R_alloc | apply Kd.R_drewN | apply Kd.R_drew)); exact HO_7.out))) (Kd.R_lt (by (with_reducible repeat (first | apply Kd.R_alloc | apply Kd.R_drewN | apply Kd.R_drew)); exact HL472_0.out))) (Kd.R_lt (by (with_reducible repeat (first | apply Kd.R_alloc | apply Kd.R_drewN | apply Kd.R_drew)); exact HL476_0.out))) (Kd.R_lt (by (with_reducible repeat (first | apply Kd.R_alloc | apply Kd.R_drewN | apply Kd.R_drew)); exact HO484.out))) (keep_size (w := w) (g := g) (row := none) (by repeat (first | (with_reducible first | exact HK.out | apply KeepBut.set_ | apply keep_drewN | apply keep_drew | apply keep_alloc) | exact HK.out)))); have n5_ := Aside0.mk (IsS100.below (by repeat (first | (with_reducible first | exact HI0.out | apply IsS100.alloc | apply IsS100.drewN | apply IsS100.drew | apply IsS100.set_1) | exact HI0.out)) hb); have n6_ := Aside0.mk (KeepBut.trans (by repeat (first | (with_reducible first | exact HK.out | apply KeepBut.set_ | apply keep_drewN | apply keep_drew | apply keep_alloc) | exact HK.out)) (KeepBut.of_below hb g none) (.inl rfl)); have n7_ := Aside0.mk (below_step (by repeat (first | (with_reducible first | exact HB.out | apply below_alloc | apply pw_below_drewN | apply below_drew1 | refine below_set ?_ (IsS100.ge HI0.out)) | exact HB.out)) hb); clear HO_7; clear HL472_0; clear HL476_0; clear HO484; clear HI0; clear HK; clear HB; have HO_7 := n0_; have HL472_0 := n1_; have HL476_0 := n2_; have HO484 := n3_; have HO487 := n4_; have HI0 := n5_; have HK := n6_; have HB := n7_; clear n0_ n1_ n2_ n3_ n4_ n5_ n6_ n7_; clear hb ho76; have q77 : (t454 : Int) ≤ ((x7_2.length : Int) : Int) := of_decide_eq_true (by first | (with_reducible assumption) | assumption); obtain ⟨i077, hi077, _, hsz77, _⟩ := info_parts info35; have hroom77 : x7_2.length ≤ co65 := (Kd.R_reads' HO_7.out).2.1; have hC77 : Kd.C (Kd.slice 83 k83) _ (some ad472) x7_2.length x7_2 := (Kd.R_reads' HO_7.out).2.2; have hcut77 := cut_to (P := Try.prog) 106 35 .i64 Try.underlying106 hi077 (some ad472) x7_2.length co65 t454 (of_decide_eq_true (by first | (with_reducible assumption) | assumption)) q77 hroom77; have hr77 := Kd.C_take (m := (t454 : Int).toNat) hC77 (by omega); have hy77 : y488.length = (t454 : Int).toNat := (by rw [Ny488.out, List.length_take]; omega); rw [← Ny488.out] at hr77; rw [← hy77] at hcut77; have HR491 := Aside0.mk hr77; have HC491 := Aside0.mk (show y488.length ≤ co65 from by omega); clear hr77 hC77 hroom77 hi077 hsz77; have KY77 := Aside0.mk hy77; clear hy77; have KL77 := Aside0.mk (show (t454 : Int).toNat ≤ x7_2.length from by omega); replace q77 := eq_true q77) | ((with_reducible refine gate_builtin (b := .append) (xs := #[.tmp 92, .tmp 95]) rfl ?_); at_builtin; refine Kd.R_append_rows (Kd.slice 83 k83) w.heap.size rfl (.tmp 92) (.tmp 95) 106 35 (.slice none 0 0) 24 rfl Try.underlying106 info35 rfl (by decide) (by omega) v486 y485 y488 _ _ _ (fun k_ => some k_ ≠ (.slice (some ad472) x7_2.length co65 : Value).ownBlock ∧ some k_ ≠ (v483 : Value).ownBlock) (fun k_ => (((fun k_ => some k_ ≠ (v483 : Value).ownBlock)) k_ ∧ some k_ ≠ (.slice (some ad472) x7_2.length co65 : Value).ownBlock) ∧ some k_ ≠ (v486 : Value).ownBlock) rfl rfl ?aO ?aR (fun _ _ h_ => h_) (fun k_ hk => ⟨⟨hk.1.2, hk.1.1⟩, hk.2⟩) ?aF (Below.refl _ _) ?aS ?aL ?_; (case aR => exact (rowsTake (R_rowsT (Kd.R_mono (ok' := (fun k_ => some k_ ≠ (v483 : Value).ownBlock)) (HO_7.out) (fun k_ hk => hk.1.2)) (Kd.R_typed (by (with_reducible repeat (first | apply Kd.R_alloc | apply Kd.R_drewN | apply Kd.R_drew)); exact HO487.out)) (by decide)) Ny488.out)); (case aF => exact (fun k_ hk => ⟨Kd.fresh' (Kd.R_lt (by (with_reducible repeat (first | apply Kd.R_alloc | apply Kd.R_drewN | apply Kd.R_drew)); exact HO_7.out)) k_ hk, Kd.fresh' (Kd.R_lt (by (with_reducible repeat (first | apply Kd.R_alloc | apply Kd.R_drewN | apply Kd.R_drew)); exact HO484.out)) k_ hk⟩)); (case aO => exact (by (with_reducible repeat (first | apply Kd.R_alloc | apply Kd.R_drewN | apply Kd.R_drew)); exact Kd.R_mono HO487.out (fun _ hk => ⟨hk.1.1.1.2, hk.2⟩))); (case aS => exact (keep_size (w := w) (g := g) (row := none) (by repeat (first | (with_reducible first | exact HK.out | apply KeepBut.set_ | apply keep_drewN | apply keep_drew | apply keep_alloc) | exact HK.out)))); (case aL => have := LMc59.out; omega); intro v493 w78 ho hb hg hat; rw [← Ny492.out] at ho; have n0_ := Aside0.mk (Kd.R_after (ok := (fun k_ => some k_ ≠ (v483 : Value).ownBlock)) (by (with_reducible repeat (first | apply Kd.R_alloc | apply Kd.R_drewN | apply Kd.R_drew)); exact Kd.R_mono HO_7.out (fun _ hk => ⟨hk.1.2, hk.2⟩)) hg hat); have n1_ := Aside0.mk (IsS100.grown (by repeat (first | (with_reducible first | exact HI0.out | apply IsS100.alloc | apply IsS100.drewN | apply IsS100.drew | apply IsS100.set_1) | exact HI0.out)) hg (IsS100.own_ne HI0.out HO487.out (by decide))); have n2_ := Aside0.mk (Kd.R_over' (by (with_reducible repeat (first | apply Kd.R_alloc | apply Kd.R_drewN | apply Kd.R_drew)); exact HL472_0.out) (Kd.R_typed (by (with_reducible repeat (first | apply Kd.R_alloc | apply Kd.R_drewN | apply Kd.R_drew)); exact HO487.out)) (by decide) hg); have n3_ := Aside0.mk (Kd.R_over' (by (with_reducible repeat (first | apply Kd.R_alloc | apply Kd.R_drewN | apply Kd.R_drew)); exact HL476_0.out) (Kd.R_typed (by (with_reducible repeat (first | apply Kd.R_alloc | apply Kd.R_drewN | apply Kd.R_drew)); exact HO487.out)) (by decide) hg); have n4_ := Aside0.mk (Kd.R_over' (by (with_reducible repeat (first | apply Kd.R_alloc | apply Kd.R_drewN | apply Kd.R_drew)); exact HO484.out) (Kd.R_typed (by (with_reducible repeat (first | apply Kd.R_alloc | apply Kd.R_drewN | apply Kd.R_drew)); exact HO487.out)) (by decide) hg); have n5_ := Aside0.mk (below_weaken (by repeat (first | (with_reducible first | exact HB.out | apply below_alloc | apply pw_below_drewN | apply below_drew1 | refine below_set ?_ (IsS100.ge HI0.out)) | exact HB.out)) HL.out hb); have n6_ := Aside0.mk (KeepBut.trans (by repeat (first | (with_reducible first | exact HK.out | apply KeepBut.set_ | apply keep_drewN | apply keep_drew | apply keep_alloc) | exact HK.out)) (KeepBut.of_grown hg g) (Kd.R_base2 HO487.out)); have n7_ := Aside0.mk ((show Kd.C (Kd.slice 83 k83) w78 (some ad472) y488.length y488 from by rw [Ny488.out]; exact Kd.C_take (m := (t454 : Int).toNat) ((Kd.R_reads' (Kd.R_after (ok := (fun k_ => some k_ ≠ (v483 : Value).ownBlock)) (by (with_reducible repeat (first | apply Kd.R_alloc | apply Kd.R_drewN | apply Kd.R_drew)); exact Kd.R_mono HO_7.out (fun _ hk => ⟨hk.1.2, hk.2⟩)) hg hat)).2.2) KL77.out)); have n8_ := Aside0.mk (ho); clear HO_7; clear HI0; clear HL472_0; clear HL476_0; clear HO484; clear HB; clear HK; clear HR491; clear HO487; have HO_7 := n0_; have HI0 := n1_; have HL472_0 := n2_; have HL476_0 := n3_; have HO484 := n4_; have HB := n5_; have HK := n6_; have HR491 := n7_; have HO494 := n8_; clear n0_ n1_ n2_ n3_ n4_ n5_ n6_ n7_ n8_; clear ho hb hg hat; obtain ⟨Ao80, co80, eo80⟩ := Kd.R_slice HO484.out; subst eo80) | ((with_reducible refine gate_builtin (b := .append) (xs := #[.tmp 97, .tmp 99]) rfl ?_); at_builtin; refine Kd.R_append (Kd.slice 83 k83) w.heap.size rfl (.tmp 97) (.tmp 99) 106 35 (.slice none 0 0) 24 rfl Try.underlying106 info35 rfl (by decide) (by omega) v493 y492 y482 [.slice Ao80 y482.length co80] (fun k_ => some k_ ≠ (.slice (some ad472) x7_2.length co65 : Value).ownBlock) (fun k_ => ((fun k_ => some k_ ≠ (.slice (some ad472) x7_2.length co65 : Value).ownBlock)) k_ ∧ some k_ ≠ (v493 : Value).ownBlock) rfl rfl ?aP (fun _ hk => hk) ?aF ?aO (Below.refl _ _) ?aS ?aL ?_; (case aP => exact Kd.M_row (Kd.R_mono (Kd.R_apart' (Kd.R_apart' (HO484.out) (Kd.R_typed HO_7.out) (by decide)) (Kd.R_typed HO494.out) (by decide)) (fun k_ hk => ⟨hk.1.2, hk.2⟩))); (case aF => exact (fun k_ hk => Kd.fresh' (Kd.R_lt (by (with_reducible repeat (first | apply Kd.R_alloc | apply Kd.R_drewN | apply Kd.R_drew)); exact HO_7.out)) k_ hk)); (case aO => exact (by (with_reducible repeat (first | apply Kd.R_alloc | apply Kd.R_drewN | apply Kd.R_drew)); exact Kd.R_mono HO494.out (fun _ hk => hk.1))); (case aS => exact (keep_size (w := w) (g := g) (row := none) (by repeat (first | (with_reducible first | exact HK.out | apply KeepBut.set_ | apply keep_drewN | apply keep_drew | apply keep_alloc) | exact HK.out)))); (case aL => have := LMc60.out; omega); intro v496 w79 ho hb hg hat; rw [← Ny495.out] at ho; have n0_ := Aside0.mk (Kd.R_after (ok := (fun k_ => some k_ ≠ (.slice Ao80 y482.length co80 : Value).ownBlock)) (by (with_reducible repeat (first | apply Kd.R_alloc | apply Kd.R_drewN | apply Kd.R_drew)); exact HO_7.out) hg hat); have n1_ := Aside0.mk (IsS100.grown (by repeat (first | (with_reducible first | exact HI0.out | apply IsS100.alloc | apply IsS100.drewN | apply IsS100.drew | apply IsS100.set_1) | exact HI0.out)) hg (IsS100.own_ne HI0.out HO494.out (by decide))); have n2_ := Aside0.mk (Kd.R_over' (by (with_reducible repeat (first | apply Kd.R_alloc | apply Kd.R_drewN | apply Kd.R_drew)); exact HL472_0.out) (Kd.R_typed (by (with_reducible repeat (first | apply Kd.R_alloc | apply Kd.R_drewN | apply Kd.R_drew)); exact HO494.out)) (by decide) hg); have n3_ := Aside0.mk (Kd.R_over' (by (with_reducible repeat (first | apply Kd.R_alloc | apply Kd.R_drewN | apply Kd.R_drew)); exact HL476_0.out) (Kd.R_typed (by (with_reducible repeat (first | apply Kd.R_alloc | apply Kd.R_drewN | apply Kd.R_drew)); exact HO494.out)) (by decide) hg); have n4_ := Aside0.mk (below_weaken (by repeat (first | (with_reducible first | exact HB.out | apply below_alloc | apply pw_below_drewN | apply below_drew1 | refine below_set ?_ (IsS100.ge HI0.out)) | exact HB.out)) HL.out hb); have n5_ := Aside0.mk (KeepBut.trans (by repeat (first | (with_reducible first | exact HK.out | apply KeepBut.set_ | apply keep_drewN | apply keep_drew | apply keep_alloc) | exact HK.out)) (KeepBut.of_grown hg g) (Kd.R_base2 HO494.out)); have n6_ := Aside0.mk ((show Kd.C (Kd.slice 83 k83) w79 (some ad472) y488.length y488 from by rw [Ny488.out]; exact Kd.C_take (m := (t454 : Int).toNat) ((Kd.R_reads' (Kd.R_after (ok := (fun k_ => some k_ ≠ (.slice Ao80 y482.length co80 : Value).ownBlock)) (by (with_reducible repeat (first | apply Kd.R_alloc | apply Kd.R_drewN | apply Kd.R_drew)); exact HO_7.out) hg hat)).2.2) KL77.out)); have n7_ := Aside0.mk (ho); clear HO_7; clear HI0; clear HL472_0; clear HL476_0; clear HB; clear HK; clear HR491; clear HO494; clear HO484; have HO_7 := n0_; have HI0 := n1_; have HL472_0 := n2_; have HL476_0 := n3_; have HB := n4_; have HK := n5_; have HR491 := n6_; have HO497 := n7_; clear n0_ n1_ n2_ n3_ n4_ n5_ n6_ n7_; clear ho hb hg hat; have q81 : ((ji61) : Int) ≤ ((x7_2.length : Int) : Int) := of_decide_eq_true (by first | (with_reducible assumption) | assumption); obtain ⟨i081, hi081, _, hsz81, _⟩ := info_parts info35; have hroom81 : x7_2.length ≤ co65 := (Kd.R_reads' HO_7.out).2.1; have hC81 : Kd.C (Kd.slice 83 k83) _ (some ad472) x7_2.length x7_2 := (Kd.R_reads' HO_7.out).2.2; have q081 : (0 : Int) ≤ ((ji61) : Int) := of_decide_eq_true (by first | (with_reducible assumption) | assumption); have hcut81 := cut_from (P := Try.prog) 106 35 .i64 Try.underlying106 hi081 1 hsz81 (some ad472) x7_2.length co65 (ji61) q081 q81; have hr81 := Kd.C_drop (m := ((ji61) : Int).toNat) (c := co65) hC81 (by omega) hroom81; obtain ⟨A81, hA81⟩ : ∃ A1, A1 = (if co65 = ((ji61) : Int).toNat then (some ad472) else ((some ad472) : Option Addr).map (·.add (((ji61) : Int).toNat * 1))) := ⟨_, rfl⟩; obtain ⟨c81, hc81⟩ : ∃ c1, c1 = co65 - ((ji61) : Int).toNat := ⟨_, rfl⟩; have hy81 : y498.length = x7_2.length - ((ji61) : Int).toNat := (by rw [Ny498.out, List.length_drop] <;> omega); rw [show (x7_2).drop ((ji61) : Int).toNat = y498 from Ny498.out.symm] at hr81; replace hr81 : Kd.C (Kd.slice 83 k83) _ A81 y498.length y498 := (by rw [hA81]; exact hr81); rw [← hy81, ← hA81, ← hc81] at hcut81; have HR501 := Aside0.mk hr81; have HC501 := Aside0.mk (show y498.length ≤ c81 from by rw [hy81, hc81]; exact Nat.sub_le_sub_right hroom81 _); clear hr81 hC81 hroom81 hi081 hsz81 hc81; have KY81 := Aside0.mk hy81; have KA81 := Aside0.mk hA81; clear hy81 hA81; have KL81 := Aside0.mk (show ((ji61) : Int).toNat ≤ x7_2.length from by omega); replace q81 := eq_true q81) | ((with_reducible refine gate_builtin (b := .append) (xs := #[.tmp 101, .tmp 105]) rfl ?_); at_builtin; refine Kd.R_append_rows (Kd.slice 83 k83) w.heap.size rfl (.tmp 101) (.tmp 105) 106 35 (.slice none 0 0) 24 rfl Try.underlying106 info35 rfl (by decide) (by omega) v496 y495 y498 _ _ _ (fun k_ => some k_ ≠ (.slice (some ad472) x7_2.length co65 : Value).ownBlock) (fun k_ => (((fun _ => True)) k_ ∧ some k_ ≠ (.slice (some ad472) x7_2.length co65 : Value).ownBlock) ∧ some k_ ≠ (v496 : Value).ownBlock) rfl rfl ?aO ?aR (fun _ _ h_ => h_) (fun k_ hk => ⟨hk.1.2, hk.2⟩) ?aF (Below.refl _ _) ?aS ?aL ?_; (case aR => exact (rowsDrop (R_rowsT (Kd.R_mono (ok' := (fun _ => True)) (HO_7.out) (fun k_ hk => trivial)) (Kd.R_typed (by (with_reducible repeat (first | apply Kd.R_alloc | apply Kd.R_drewN | apply Kd.R_drew)); exact HO497.out)) (by decide)) (Kd.R_reads' (Kd.R_mono (ok' := (fun _ => True)) (HO_7.out) (fun k_ hk => trivial))).2.1 Ny498.out KA81.out)); (case aF => exact (fun k_ hk => Kd.fresh' (Kd.R_lt (by (with_reducible repeat (first | apply Kd.R_alloc | apply Kd.R_drewN | apply Kd.R_drew)); exact HO_7.out)) k_ hk)); (case aO => exact (by (with_reducible repeat (first | apply Kd.R_alloc | apply Kd.R_drewN | apply Kd.R_drew)); exact HO497.out)); (case aS => exact (keep_size (w := w) (g := g) (row := none) (by repeat (first | (with_reducible first | exact HK.out | apply KeepBut.set_ | apply keep_drewN | apply keep_drew | apply keep_alloc) | exact HK.out)))); (case aL => have := LMc64.out; omega); intro v503 w82 ho hb hg hat; rw [← Ny502.out] at ho; have n0_ := Aside0.mk (Kd.R_after (ok := (fun _ => True)) (by (with_reducible repeat (first | apply Kd.R_alloc | apply Kd.R_drewN | apply Kd.R_drew)); exact Kd.R_mono HO_7.out (fun _ hk => ⟨trivial, hk.2⟩)) hg hat); have n1_ := Aside0.mk (IsS100.grown (by repeat (first | (with_reducible first | exact HI0.out | apply IsS100.alloc | apply IsS100.drewN | apply IsS100.drew | apply IsS100.set_1) | exact HI0.out)) hg (IsS100.own_ne HI0.out HO497.out (by decide))); have n2_ := Aside0.mk (Kd.R_over' (by (with_reducible repeat (first | apply Kd.R_alloc | apply Kd.R_drewN | apply Kd.R_drew)); exact HL472_0.out) (Kd.R_typed (by (with_reducible repeat (first | apply Kd.R_alloc | apply Kd.R_drewN | apply Kd.R_drew)); exact HO497.out)) (by decide) hg); have n3_ := Aside0.mk (Kd.R_over' (by (with_reducible repeat (first | apply Kd.R_alloc | apply Kd.R_drewN | apply Kd.R_drew)); exact HL476_0.out) (Kd.R_typed (by (with_reducible repeat (first | apply Kd.R_alloc | apply Kd.R_drewN | apply Kd.R_drew)); exact HO497.out)) (by decide) hg); have n4_ := Aside0.mk (below_weaken (by repeat (first | (with_reducible first | exact HB.out | apply below_alloc | apply pw_below_drewN | apply below_drew1 | refine below_set ?_ (IsS100.ge HI0.out)) | exact HB.out)) HL.out hb); have n5_ := Aside0.mk (KeepBut.trans (by repeat (first | (with_reducible first | exact HK.out | apply KeepBut.set_ | apply keep_drewN | apply keep_drew | apply keep_alloc) | exact HK.out)) (KeepBut.of_grown hg g) (Kd.R_base2 HO497.out)); have n6_ := Aside0.mk ((show Kd.C (Kd.slice 83 k83) w82 (some ad472) y488.length y488 from by rw [Ny488.out]; exact Kd.C_take (m := (t454 : Int).toNat) ((Kd.R_reads' (Kd.R_after (ok := (fun _ => True)) (by (with_reducible repeat (first | apply Kd.R_alloc | apply Kd.R_drewN | apply Kd.R_drew)); exact Kd.R_mono HO_7.out (fun _ hk => ⟨trivial, hk.2⟩)) hg hat)).2.2) KL77.out)); have n7_ := Aside0.mk ((show Kd.C (Kd.slice 83 k83) w82 A81 y498.length y498 from by rw [Ny498.out, KA81.out]; exact Kd.C_drop (m := ((ji61) : Int).toNat) (c := co65) ((Kd.R_reads' (Kd.R_after (ok := (fun _ => True)) (by (with_reducible repeat (first | apply Kd.R_alloc | apply Kd.R_drewN | apply Kd.R_drew)); exact Kd.R_mono HO_7.out (fun _ hk => ⟨trivial, hk.2⟩)) hg hat)).2.2) KL81.out ((Kd.R_reads' (Kd.R_after (ok := (fun _ => True)) (by (with_reducible repeat (first | apply Kd.R_alloc | apply Kd.R_drewN | apply Kd.R_drew)); exact Kd.R_mono HO_7.out (fun _ hk => ⟨trivial, hk.2⟩)) hg hat)).2.1))); have n8_ := Aside0.mk (ho); clear HO_7; clear HI0; clear HL472_0; clear HL476_0; clear HB; clear HK; clear HR491; clear HR501; clear HO497; have HO_7 := n0_; have HI0 := n1_; have HL472_0 := n2_; have HL476_0 := n3_; have HB := n4_; have HK := n5_; have HR491 := n6_; have HR501 := n7_; have HO504 := n8_; clear n0_ n1_ n2_ n3_ n4_ n5_ n6_ n7_ n8_; clear ho hb hg hat))
                      go_roundg k2
                      case measure => have := HK1.out; have := HK2.out; omega
                      case rel => exact ⟨(y502), (x9_2), (t481), (by first | rfl | (simp; done) | (simp [*]; done)), H', ⟨by have := HK1.out; have := HK2.out; omega⟩, ⟨by (with_reducible repeat (first | apply Kd.R_alloc | apply Kd.R_drewN | apply Kd.R_drew)); exact Kd.R_mono HO504.out (fun _ hk => trivial)⟩, ⟨by repeat (first | (with_reducible first | exact HI0.out | apply IsS100.alloc | apply IsS100.drewN | apply IsS100.drew | apply IsS100.set_1) | exact HI0.out)⟩, ⟨by repeat (first | (with_reducible first | exact HK.out | apply KeepBut.set_ | apply keep_drewN | apply keep_drew | apply keep_alloc) | exact HK.out)⟩, ⟨by repeat (first | (with_reducible first | exact HB.out | apply below_alloc | apply pw_below_drewN | apply below_drew1 | refine below_set ?_ (IsS100.ge HI0.out)) | exact HB.out)⟩⟩
                     ·rw [if_neg c64] at H
                      exact absurd H (by simp)
                    ·rw [if_neg c63] at H
                     exact absurd H (by simp)
                   ·rw [if_neg c62] at H
                    exact absurd H (by simp)
                  ·rw [if_neg c60] at H
                   exact absurd H (by simp)
                 ·rw [if_neg c59] at H
                  exact absurd H (by simp)
                ·rw [if_neg c58] at H
                 exact absurd H (by simp)
               ·rw [if_neg c56] at H
                exact absurd H (by simp)
              ·rw [if_neg c54] at H
               exact absurd H (by simp)
             ·rw [if_neg c53] at H
              exact absurd H (by simp)
            ·rw [if_neg c52] at H
             exact absurd H (by simp)
           ·rw [if_neg c50] at H
            exact absurd H (by simp)
          ·rw [if_neg c49] at H
           exact absurd H (by simp)
         ·rw [if_neg c48] at H
          exact absurd H (by simp)
       ·rw [if_neg c31] at H
        have c31b0 : decide (0 < x9_2) = false := decide_eq_false c31
        clear c31
        obtain ⟨y505, hy505⟩ : ∃ y_ : List (S83), y_ = (([] : List (S83))) := ⟨_, rfl⟩
        replace H : (if 0 ≤ t454 then (if t454 < (x7_2.length : Int) then (if y505.length + (rd_L4 x7_2 t454).length < 8796093022208 then ((some (y505 ++ (rd_L4 x7_2 t454) : List (S83))).bind fun y509 => (if 0 ≤ (wrap64 (t454 + 1)) then (if (wrap64 (t454 + 1)) < (x7_2.length : Int) then (if y509.length + (rd_L4 x7_2 (wrap64 (t454 + 1))).length < 8796093022208 then ((some (y509 ++ (rd_L4 x7_2 (wrap64 (t454 + 1))) : List (S83))).bind fun y513 => ((spec_l20Rd_pick.f k2 s0_0 t455 3).bind fun bt516 => (if y513.length < 8796093022208 then ((some (([] : List (List (S83))) : List (List (S83)))).bind fun y521 => (if t454 ≤ (x7_2.length : Int) then ((some (x7_2.take (t454 : Int).toNat : List (List (S83)))).bind fun y524 => (if y521.length + y524.length < 5864062014805 then ((some (y521 ++ y524 : List (List (S83)))).bind fun y528 => (if y528.length < 5864062014805 then ((some (y528 ++ [(y513 ++ [(⟨wrap64 (3 + bt516.1), 0⟩ : S83)])] : List (List (S83)))).bind fun y531 => (if 0 ≤ (wrap64 (t454 + 2)) then (if (wrap64 (t454 + 2)) ≤ (x7_2.length : Int) then ((some (x7_2.drop ((wrap64 (t454 + 2)) : Int).toNat : List (List (S83)))).bind fun y534 => (if y531.length + y534.length < 5864062014805 then (spec_l20Term.l1 k2 a2 (y531 ++ y534) x9_2 s0_0 bt516.2) else (none))) else (none)) else (none))) else (none))) else (none))) else (none))) else (none)))) else (none)) else (none)) else (none))) else (none)) else (none)) else (none)) = some (r1, r2) := by first | (rw [hy505]; with_reducible exact H) | (have H2_ := (Option.bind_some _ _).symm.trans H; rw [hy505]; with_reducible exact H2_) | (have H2_ := (Option.bind_some _ _).symm.trans H; with_reducible exact H2_) | with_reducible exact H | (rw [hy505]; exact H) | exact H
        have Ny505 := Aside0.mk hy505
        clear hy505
        by_cases c83 : 0 ≤ t454
        ·rw [if_pos c83] at H
         have c83b0 : decide (0 ≤ t454) = true := decide_eq_true c83
         clear c83
         by_cases c84 : t454 < (x7_2.length : Int)
         ·rw [if_pos c84] at H
          have c84b0 : decide (t454 < (x7_2.length : Int)) = true := decide_eq_true c84
          clear c84
          by_cases c85 : y505.length + (rd_L4 x7_2 t454).length < 8796093022208
          ·rw [if_pos c85] at H
           have LMc85 := Aside0.mk c85
           clear c85
           obtain ⟨y509, hy509⟩ : ∃ y_ : List (S83), y_ = (y505 ++ (rd_L4 x7_2 t454)) := ⟨_, rfl⟩
           replace H : (if 0 ≤ (wrap64 (t454 + 1)) then (if (wrap64 (t454 + 1)) < (x7_2.length : Int) then (if y509.length + (rd_L4 x7_2 (wrap64 (t454 + 1))).length < 8796093022208 then ((some (y509 ++ (rd_L4 x7_2 (wrap64 (t454 + 1))) : List (S83))).bind fun y513 => ((spec_l20Rd_pick.f k2 s0_0 t455 3).bind fun bt516 => (if y513.length < 8796093022208 then ((some (([] : List (List (S83))) : List (List (S83)))).bind fun y521 => (if t454 ≤ (x7_2.length : Int) then ((some (x7_2.take (t454 : Int).toNat : List (List (S83)))).bind fun y524 => (if y521.length + y524.length < 5864062014805 then ((some (y521 ++ y524 : List (List (S83)))).bind fun y528 => (if y528.length < 5864062014805 then ((some (y528 ++ [(y513 ++ [(⟨wrap64 (3 + bt516.1), 0⟩ : S83)])] : List (List (S83)))).bind fun y531 => (if 0 ≤ (wrap64 (t454 + 2)) then (if (wrap64 (t454 + 2)) ≤ (x7_2.length : Int) then ((some (x7_2.drop ((wrap64 (t454 + 2)) : Int).toNat : List (List (S83)))).bind fun y534 => (if y531.length + y534.length < 5864062014805 then (spec_l20Term.l1 k2 a2 (y531 ++ y534) x9_2 s0_0 bt516.2) else (none))) else (none)) else (none))) else (none))) else (none))) else (none))) else (none)))) else (none)) else (none)) else (none)) = some (r1, r2) := by first | (rw [hy509]; with_reducible exact H) | (have H2_ := (Option.bind_some _ _).symm.trans H; rw [hy509]; with_reducible exact H2_) | (have H2_ := (Option.bind_some _ _).symm.trans H; with_reducible exact H2_) | with_reducible exact H | (rw [hy509]; exact H) | exact H
           have Ny509 := Aside0.mk hy509
           clear hy509
           obtain ⟨ji86, hji86⟩ : ∃ j_ : Int, (wrap64 (t454 + 1)) = j_ := ⟨_, rfl⟩
           replace H : (if 0 ≤ (ji86) then (if (ji86) < (x7_2.length : Int) then (if y509.length + (rd_L4 x7_2 (ji86)).length < 8796093022208 then ((some (y509 ++ (rd_L4 x7_2 (ji86)) : List (S83))).bind fun y513 => ((spec_l20Rd_pick.f k2 s0_0 t455 3).bind fun bt516 => (if y513.length < 8796093022208 then ((some (([] : List (List (S83))) : List (List (S83)))).bind fun y521 => (if t454 ≤ (x7_2.length : Int) then ((some (x7_2.take (t454 : Int).toNat : List (List (S83)))).bind fun y524 => (if y521.length + y524.length < 5864062014805 then ((some (y521 ++ y524 : List (List (S83)))).bind fun y528 => (if y528.length < 5864062014805 then ((some (y528 ++ [(y513 ++ [(⟨wrap64 (3 + bt516.1), 0⟩ : S83)])] : List (List (S83)))).bind fun y531 => (if 0 ≤ (wrap64 (t454 + 2)) then (if (wrap64 (t454 + 2)) ≤ (x7_2.length : Int) then ((some (x7_2.drop ((wrap64 (t454 + 2)) : Int).toNat : List (List (S83)))).bind fun y534 => (if y531.length + y534.length < 5864062014805 then (spec_l20Term.l1 k2 a2 (y531 ++ y534) x9_2 s0_0 bt516.2) else (none))) else (none)) else (none))) else (none))) else (none))) else (none))) else (none)))) else (none)) else (none)) else (none)) = some (r1, r2) := by first | (rw [hji86] at H; exact H) | (simp only [hji86] at H ⊢; exact H)
           (try rw [hji86] at A30)
           have hji86w : (IntKind.i64.wrap (t454 + 1)) = ji86 := (i64_w _).trans hji86
           by_cases c87 : 0 ≤ (ji86)
           ·rw [if_pos c87] at H
            have c87b0 : decide (0 ≤ (ji86)) = true := decide_eq_true c87
            clear c87
            by_cases c88 : (ji86) < (x7_2.length : Int)
            ·rw [if_pos c88] at H
             have c88b0 : decide ((ji86) < (x7_2.length : Int)) = true := decide_eq_true c88
             clear c88
             by_cases c89 : y509.length + (rd_L4 x7_2 (ji86)).length < 8796093022208
             ·rw [if_pos c89] at H
              have LMc89 := Aside0.mk c89
              clear c89
              obtain ⟨y513, hy513⟩ : ∃ y_ : List (S83), y_ = (y509 ++ (rd_L4 x7_2 (ji86))) := ⟨_, rfl⟩
              replace H : ((spec_l20Rd_pick.f k2 s0_0 t455 3).bind fun bt516 => (if y513.length < 8796093022208 then ((some (([] : List (List (S83))) : List (List (S83)))).bind fun y521 => (if t454 ≤ (x7_2.length : Int) then ((some (x7_2.take (t454 : Int).toNat : List (List (S83)))).bind fun y524 => (if y521.length + y524.length < 5864062014805 then ((some (y521 ++ y524 : List (List (S83)))).bind fun y528 => (if y528.length < 5864062014805 then ((some (y528 ++ [(y513 ++ [(⟨wrap64 (3 + bt516.1), 0⟩ : S83)])] : List (List (S83)))).bind fun y531 => (if 0 ≤ (wrap64 (t454 + 2)) then (if (wrap64 (t454 + 2)) ≤ (x7_2.length : Int) then ((some (x7_2.drop ((wrap64 (t454 + 2)) : Int).toNat : List (List (S83)))).bind fun y534 => (if y531.length + y534.length < 5864062014805 then (spec_l20Term.l1 k2 a2 (y531 ++ y534) x9_2 s0_0 bt516.2) else (none))) else (none)) else (none))) else (none))) else (none))) else (none))) else (none))) = some (r1, r2) := by first | (rw [hy513]; with_reducible exact H) | (have H2_ := (Option.bind_some _ _).symm.trans H; rw [hy513]; with_reducible exact H2_) | (have H2_ := (Option.bind_some _ _).symm.trans H; with_reducible exact H2_) | with_reducible exact H | (rw [hy513]; exact H) | exact H
              have Ny513 := Aside0.mk hy513
              clear hy513
              replace H := Option.bind_eq_some_iff.mp H
              obtain ⟨⟨t516, t517⟩, A900, H⟩ := H
              replace H : (if y513.length < 8796093022208 then ((some (([] : List (List (S83))) : List (List (S83)))).bind fun y521 => (if t454 ≤ (x7_2.length : Int) then ((some (x7_2.take (t454 : Int).toNat : List (List (S83)))).bind fun y524 => (if y521.length + y524.length < 5864062014805 then ((some (y521 ++ y524 : List (List (S83)))).bind fun y528 => (if y528.length < 5864062014805 then ((some (y528 ++ [(y513 ++ [(⟨wrap64 (3 + t516), 0⟩ : S83)])] : List (List (S83)))).bind fun y531 => (if 0 ≤ (wrap64 (t454 + 2)) then (if (wrap64 (t454 + 2)) ≤ (x7_2.length : Int) then ((some (x7_2.drop ((wrap64 (t454 + 2)) : Int).toNat : List (List (S83)))).bind fun y534 => (if y531.length + y534.length < 5864062014805 then (spec_l20Term.l1 k2 a2 (y531 ++ y534) x9_2 s0_0 t517) else (none))) else (none)) else (none))) else (none))) else (none))) else (none))) else (none)) = some (r1, r2) := H
              have A90 := Aside0.mk A900
              clear A900
              by_cases c91 : y513.length < 8796093022208
              ·rw [if_pos c91] at H
               have LMc91 := Aside0.mk c91
               clear c91
               obtain ⟨y518, hy518⟩ : ∃ y_ : List (S83), y_ = (y513 ++ [(⟨wrap64 (3 + t516), 0⟩ : S83)]) := ⟨_, rfl⟩
               replace H : ((some (([] : List (List (S83))) : List (List (S83)))).bind fun y521 => (if t454 ≤ (x7_2.length : Int) then ((some (x7_2.take (t454 : Int).toNat : List (List (S83)))).bind fun y524 => (if y521.length + y524.length < 5864062014805 then ((some (y521 ++ y524 : List (List (S83)))).bind fun y528 => (if y528.length < 5864062014805 then ((some (y528 ++ [y518] : List (List (S83)))).bind fun y531 => (if 0 ≤ (wrap64 (t454 + 2)) then (if (wrap64 (t454 + 2)) ≤ (x7_2.length : Int) then ((some (x7_2.drop ((wrap64 (t454 + 2)) : Int).toNat : List (List (S83)))).bind fun y534 => (if y531.length + y534.length < 5864062014805 then (spec_l20Term.l1 k2 a2 (y531 ++ y534) x9_2 s0_0 t517) else (none))) else (none)) else (none))) else (none))) else (none))) else (none))) = some (r1, r2) := by first | (rw [hy518]; with_reducible exact H) | (have H2_ := (Option.bind_some _ _).symm.trans H; rw [hy518]; with_reducible exact H2_) | (have H2_ := (Option.bind_some _ _).symm.trans H; with_reducible exact H2_) | with_reducible exact H | (rw [hy518]; exact H) | exact H
               have Ny518 := Aside0.mk hy518
               clear hy518
               obtain ⟨y521, hy521⟩ : ∃ y_ : List (List (S83)), y_ = (([] : List (List (S83)))) := ⟨_, rfl⟩
               replace H : (if t454 ≤ (x7_2.length : Int) then ((some (x7_2.take (t454 : Int).toNat : List (List (S83)))).bind fun y524 => (if y521.length + y524.length < 5864062014805 then ((some (y521 ++ y524 : List (List (S83)))).bind fun y528 => (if y528.length < 5864062014805 then ((some (y528 ++ [y518] : List (List (S83)))).bind fun y531 => (if 0 ≤ (wrap64 (t454 + 2)) then (if (wrap64 (t454 + 2)) ≤ (x7_2.length : Int) then ((some (x7_2.drop ((wrap64 (t454 + 2)) : Int).toNat : List (List (S83)))).bind fun y534 => (if y531.length + y534.length < 5864062014805 then (spec_l20Term.l1 k2 a2 (y531 ++ y534) x9_2 s0_0 t517) else (none))) else (none)) else (none))) else (none))) else (none))) else (none)) = some (r1, r2) := by first | (rw [hy521]; with_reducible exact H) | (have H2_ := (Option.bind_some _ _).symm.trans H; rw [hy521]; with_reducible exact H2_) | (have H2_ := (Option.bind_some _ _).symm.trans H; with_reducible exact H2_) | with_reducible exact H | (rw [hy521]; exact H) | exact H
               have Ny521 := Aside0.mk hy521
               clear hy521
               have c92b0 := eq_true (of_decide_eq_true (by first | (with_reducible assumption) | assumption) : 0 ≤ t454)
               by_cases c93 : t454 ≤ (x7_2.length : Int)
               ·rw [if_pos c93] at H
                have c93b0 := eq_true c93
                have c93b1 : decide (t454 ≤ (x7_2.length : Int)) = true := decide_eq_true c93
                clear c93
                obtain ⟨y524, hy524⟩ : ∃ y_ : List (List (S83)), y_ = (x7_2.take (t454 : Int).toNat) := ⟨_, rfl⟩
                replace H : (if y521.length + y524.length < 5864062014805 then ((some (y521 ++ y524 : List (List (S83)))).bind fun y528 => (if y528.length < 5864062014805 then ((some (y528 ++ [y518] : List (List (S83)))).bind fun y531 => (if 0 ≤ (wrap64 (t454 + 2)) then (if (wrap64 (t454 + 2)) ≤ (x7_2.length : Int) then ((some (x7_2.drop ((wrap64 (t454 + 2)) : Int).toNat : List (List (S83)))).bind fun y534 => (if y531.length + y534.length < 5864062014805 then (spec_l20Term.l1 k2 a2 (y531 ++ y534) x9_2 s0_0 t517) else (none))) else (none)) else (none))) else (none))) else (none)) = some (r1, r2) := by first | (rw [hy524]; with_reducible exact H) | (have H2_ := (Option.bind_some _ _).symm.trans H; rw [hy524]; with_reducible exact H2_) | (have H2_ := (Option.bind_some _ _).symm.trans H; with_reducible exact H2_) | with_reducible exact H | (rw [hy524]; exact H) | exact H
                have Ny524 := Aside0.mk hy524
                clear hy524
                by_cases c94 : y521.length + y524.length < 5864062014805
                ·rw [if_pos c94] at H
                 have LMc94 := Aside0.mk c94
                 clear c94
                 obtain ⟨y528, hy528⟩ : ∃ y_ : List (List (S83)), y_ = (y521 ++ y524) := ⟨_, rfl⟩
                 replace H : (if y528.length < 5864062014805 then ((some (y528 ++ [y518] : List (List (S83)))).bind fun y531 => (if 0 ≤ (wrap64 (t454 + 2)) then (if (wrap64 (t454 + 2)) ≤ (x7_2.length : Int) then ((some (x7_2.drop ((wrap64 (t454 + 2)) : Int).toNat : List (List (S83)))).bind fun y534 => (if y531.length + y534.length < 5864062014805 then (spec_l20Term.l1 k2 a2 (y531 ++ y534) x9_2 s0_0 t517) else (none))) else (none)) else (none))) else (none)) = some (r1, r2) := by first | (rw [hy528]; with_reducible exact H) | (have H2_ := (Option.bind_some _ _).symm.trans H; rw [hy528]; with_reducible exact H2_) | (have H2_ := (Option.bind_some _ _).symm.trans H; with_reducible exact H2_) | with_reducible exact H | (rw [hy528]; exact H) | exact H
                 have Ny528 := Aside0.mk hy528
                 clear hy528
                 by_cases c95 : y528.length < 5864062014805
                 ·rw [if_pos c95] at H
                  have LMc95 := Aside0.mk c95
                  clear c95
                  obtain ⟨y531, hy531⟩ : ∃ y_ : List (List (S83)), y_ = (y528 ++ [y518]) := ⟨_, rfl⟩
                  replace H : (if 0 ≤ (wrap64 (t454 + 2)) then (if (wrap64 (t454 + 2)) ≤ (x7_2.length : Int) then ((some (x7_2.drop ((wrap64 (t454 + 2)) : Int).toNat : List (List (S83)))).bind fun y534 => (if y531.length + y534.length < 5864062014805 then (spec_l20Term.l1 k2 a2 (y531 ++ y534) x9_2 s0_0 t517) else (none))) else (none)) else (none)) = some (r1, r2) := by first | (rw [hy531]; with_reducible exact H) | (have H2_ := (Option.bind_some _ _).symm.trans H; rw [hy531]; with_reducible exact H2_) | (have H2_ := (Option.bind_some _ _).symm.trans H; with_reducible exact H2_) | with_reducible exact H | (rw [hy531]; exact H) | exact H
                  have Ny531 := Aside0.mk hy531
                  clear hy531
                  obtain ⟨ji96, hji96⟩ : ∃ j_ : Int, (wrap64 (t454 + 2)) = j_ := ⟨_, rfl⟩
                  replace H : (if 0 ≤ (ji96) then (if (ji96) ≤ (x7_2.length : Int) then ((some (x7_2.drop ((ji96) : Int).toNat : List (List (S83)))).bind fun y534 => (if y531.length + y534.length < 5864062014805 then (spec_l20Term.l1 k2 a2 (y531 ++ y534) x9_2 s0_0 t517) else (none))) else (none)) else (none)) = some (r1, r2) := by first | (rw [hji96] at H; exact H) | (simp only [hji96] at H ⊢; exact H)
                  (try rw [hji96] at A30)
                  (try rw [hji96] at A90)
                  have hji96w : (IntKind.i64.wrap (t454 + 2)) = ji96 := (i64_w _).trans hji96
                  by_cases c97 : 0 ≤ (ji96)
                  ·rw [if_pos c97] at H
                   have c97b0 := eq_true c97
                   have c97b1 : decide (0 ≤ (ji96)) = true := decide_eq_true c97
                   clear c97
                   by_cases c98 : (ji96) ≤ (x7_2.length : Int)
                   ·rw [if_pos c98] at H
                    have c98b0 := eq_true c98
                    have c98b1 : decide ((ji96) ≤ (x7_2.length : Int)) = true := decide_eq_true c98
                    clear c98
                    obtain ⟨y534, hy534⟩ : ∃ y_ : List (List (S83)), y_ = (x7_2.drop ((ji96) : Int).toNat) := ⟨_, rfl⟩
                    replace H : (if y531.length + y534.length < 5864062014805 then (spec_l20Term.l1 k2 a2 (y531 ++ y534) x9_2 s0_0 t517) else (none)) = some (r1, r2) := by first | (rw [hy534]; with_reducible exact H) | (have H2_ := (Option.bind_some _ _).symm.trans H; rw [hy534]; with_reducible exact H2_) | (have H2_ := (Option.bind_some _ _).symm.trans H; with_reducible exact H2_) | with_reducible exact H | (rw [hy534]; exact H) | exact H
                    have Ny534 := Aside0.mk hy534
                    clear hy534
                    by_cases c99 : y531.length + y534.length < 5864062014805
                    ·rw [if_pos c99] at H
                     have LMc99 := Aside0.mk c99
                     clear c99
                     obtain ⟨y538, hy538⟩ : ∃ y_ : List (List (S83)), y_ = (y531 ++ y534) := ⟨_, rfl⟩
                     replace H : (spec_l20Term.l1 k2 a2 y538 x9_2 s0_0 t517) = some (r1, r2) := by first | (rw [hy538]; with_reducible exact H) | (have H2_ := (Option.bind_some _ _).symm.trans H; rw [hy538]; with_reducible exact H2_) | (have H2_ := (Option.bind_some _ _).symm.trans H; with_reducible exact H2_) | with_reducible exact H | (rw [hy538]; exact H) | exact H
                     have Ny538 := Aside0.mk hy538
                     clear hy538
                     have H' := Aside0.mk H
                     clear H
                     obtain ⟨Ao100, co100, eo100⟩ := Kd.R_slice HO_7.out
                     subst eo100
                     try go_wp2_with (first | ((with_reducible refine gate_callee (f := 64) rfl ?_); refine goesL_ (some 52) rfl rfl Try.func64 (by kernel_rfl) rfl #[.pointer (some ⟨g, 0, none⟩), .int .i64 (wrap64 ((x7_2.length : Int) - 1))] rfl (by (try simp only [List.map_toArray, List.map_cons, List.map_nil]); first | done | rfl | (simp only [List.length_drop, List.length_take]; rfl)) ?_; (with_reducible refine (spec_l20Rd_pick.calls k2 g s0_0 x1001_2 (wrap64 ((x7_2.length : Int) - 1)) t454 t455 w0 _ ?side1 ?side2 A30.out).mono ?_); (case side1 => repeat (first | (with_reducible first | exact HI0.out | apply IsS100.alloc | apply IsS100.drewN | apply IsS100.drew | apply IsS100.set_1) | exact HI0.out)); (case side2 => repeat (first | (with_reducible first | exact HB.out | apply below_alloc | apply pw_below_drewN | apply below_drew1 | refine below_set ?_ (IsS100.ge HI0.out)) | exact HB.out)); rintro e w101 ⟨rfl, hi, hb, hk⟩; refine ⟨_, rfl, ?_⟩; have n0_ := Aside0.mk (Kd.R_mono (Kd.R_keep (IsS100.apart (show IsS100 w0 _ g s0_0 x1001_2 from by repeat (first | (with_reducible first | exact HI0.out | apply IsS100.alloc | apply IsS100.drewN | apply IsS100.drew | apply IsS100.set_1) | exact HI0.out)) (by (with_reducible repeat (first | apply Kd.R_alloc | apply Kd.R_drewN | apply Kd.R_drew)); exact HO_7.out) (by decide)) hk (fun _ h => h.2)) (fun _ h => h.1)); have n1_ := Aside0.mk (KeepBut.trans (by repeat (first | (with_reducible first | exact HK.out | apply KeepBut.set_ | apply keep_drewN | apply keep_drew | apply keep_alloc) | exact HK.out)) hk (.inl rfl)); have n2_ := Aside0.mk (hb); have n3_ := Aside0.mk (hi); clear HO_7; clear HK; clear HB; clear HI0; have HO_7 := n0_; have HK := n1_; have HB := n2_; have HI0 := n3_; clear n0_ n1_ n2_ n3_; (try clear hb); (try clear hb2); (try clear hk); (try clear hi)))
                     have n0_ := Aside0.mk (Kd.R_drew HO_7.out)
                     have n1_ := Aside0.mk (IsS100.drew HI0.out)
                     have n2_ := Aside0.mk (keep_drew HK.out)
                     have n3_ := Aside0.mk (below_drew1 HB.out)
                     clear HO_7
                     clear HI0
                     clear HK
                     clear HB
                     have HO_7 := n0_
                     have HI0 := n1_
                     have HK := n2_
                     have HB := n3_
                     clear n0_ n1_ n2_ n3_
                     have p508 : 0 ≤ (t454 : Int) := of_decide_eq_true (by first | (with_reducible assumption) | assumption)
                     have q508 : t454 < (x7_2.length : Int) := of_decide_eq_true (by first | (with_reducible assumption) | assumption)
                     obtain ⟨ad508, A508_0, c508_0, e508, hx508_0, hl508_0, hi508_0⟩ := at_L4 (Kd.R_reads' HO_7.out).2.2 t454 p508 q508
                     cases e508
                     obtain ⟨ce508, hce508, hMe508, hcc508⟩ := Kd.R_get HO_7.out [] t454 p508 (by first | exact q508 | exact of_decide_eq_true (by first | (with_reducible assumption) | assumption) | (have e_ := (Kd.R_reads' HO_7.out).1; omega))
                     obtain ⟨ve508_0, rfl, ge508_0⟩ := hMe508
                     have hv508_0 := hcc508 0 _ rfl
                     rw [Nat.add_zero, show ((Kd.slice 83 k83)).sz = 1 from rfl, Nat.mul_one] at hv508_0
                     replace hv508_0 := Option.some.inj (hv508_0.symm.trans hx508_0)
                     rw [hv508_0] at ge508_0
                     have HL508_0 := Aside0.mk (show Kd.R k83 83 _ _ _ _ (rd_L4 x7_2 t454) from ge508_0)
                     clear hv508_0 ge508_0
                     clear hcc508 hce508
                     have HR508_0 := Aside0.mk hi508_0
                     have HC508_0 := Aside0.mk hl508_0
                     clear hi508_0 hl508_0
                     replace p508 := eq_true p508
                     replace q508 := eq_true q508
                     have p512 : 0 ≤ ((ji86) : Int) := of_decide_eq_true (by first | (with_reducible assumption) | assumption)
                     have q512 : (ji86) < (x7_2.length : Int) := of_decide_eq_true (by first | (with_reducible assumption) | assumption)
                     obtain ⟨ad512, A512_0, c512_0, e512, hx512_0, hl512_0, hi512_0⟩ := at_L4 (Kd.R_reads' HO_7.out).2.2 (ji86) p512 q512
                     obtain rfl : ad508 = ad512 := (by injection e512)
                     obtain ⟨ce512, hce512, hMe512, hcc512⟩ := Kd.R_get HO_7.out [] (ji86) p512 (by first | exact q512 | exact of_decide_eq_true (by first | (with_reducible assumption) | assumption) | (have e_ := (Kd.R_reads' HO_7.out).1; omega))
                     obtain ⟨ve512_0, rfl, ge512_0⟩ := hMe512
                     have hv512_0 := hcc512 0 _ rfl
                     rw [Nat.add_zero, show ((Kd.slice 83 k83)).sz = 1 from rfl, Nat.mul_one] at hv512_0
                     replace hv512_0 := Option.some.inj (hv512_0.symm.trans hx512_0)
                     rw [hv512_0] at ge512_0
                     have HL512_0 := Aside0.mk (show Kd.R k83 83 _ _ _ _ (rd_L4 x7_2 (ji86)) from ge512_0)
                     clear hv512_0 ge512_0
                     clear hcc512 hce512
                     have HR512_0 := Aside0.mk hi512_0
                     have HC512_0 := Aside0.mk hl512_0
                     clear hi512_0 hl512_0
                     replace p512 := eq_true p512
                     replace q512 := eq_true q512
                     refine start_ (n := 19) (S := fun w' => w'.cell? (ad508.add (t454).toNat) = some (.slice A508_0 (rd_L4 x7_2 t454).length c508_0) ∧ w'.cell? (ad508.add ((ji86)).toNat) = some (.slice A512_0 (rd_L4 x7_2 (ji86)).length c512_0)) (ds := [16, 17]) #[false, false, false, false, false, false, false, false, false, false, false, false, false, false, false, false, false, false, false] (by kernel_rfl) rfl rfl ⟨hx508_0, hx512_0⟩ (fun hHeld => ?_); refine with_tabW spec_l20Term.tab15 spec_l20Term.bits15 (fun HT_ HW_ => ?_)
                     generalize w101.drew = w102 at HO_7 HI0 HK HB HL508_0 HL512_0 HR508_0 HR512_0 hx508_0 hx512_0 hHeld ⊢
                     refine pure_ (i := 1) (N := some 75) (v := ?_) (a' := ?_) #[false, true, false, false, false, false, false, false, false, false, false, false, false, false, false, false, false, false, false] rfl rfl (any_of HT_.out (by kernel_rfl)) (fun _ _ _ h => h) (Or.inl ⟨by rfl, ?_⟩) ?_ ?_
                     rotate_left
                     ·intro w'
                      go_simp
                      with_reducible rfl
                     rotate_left
                     ·simp only [Act.put, List.setIfInBounds_toArray, List.set_cons_zero, List.set_cons_succ, i64_w, i32_w]
                      rfl
                     refine pure_ (i := 2) (N := some 76) (v := ?_) (a' := ?_) #[false, true, true, false, false, false, false, false, false, false, false, false, false, false, false, false, false, false, false] rfl rfl (any_of HT_.out (by kernel_rfl)) (fun _ _ _ h => h) (Or.inl ⟨by rfl, ?_⟩) ?_ ?_
                     rotate_left
                     ·intro w'
                      go_simp
                      with_reducible rfl
                     rotate_left
                     ·simp only [Act.put, List.setIfInBounds_toArray, List.set_cons_zero, List.set_cons_succ, i64_w, i32_w]
                      rfl
                     refine pure_ (i := 3) (N := some 77) (v := ?_) (a' := ?_) #[false, true, true, true, false, false, false, false, false, false, false, false, false, false, false, false, false, false, false] rfl rfl (any_of HT_.out (by kernel_rfl)) (fun _ _ _ h => h) (Or.inl ⟨by rfl, ?_⟩) ?_ ?_
                     rotate_left
                     ·intro w'
                      go_simp
                      with_reducible rfl
                     rotate_left
                     ·simp only [Act.put, List.setIfInBounds_toArray, List.set_cons_zero, List.set_cons_succ, i64_w, i32_w]
                      rfl
                     refine pure_ (i := 6) (N := some 80) (v := ?_) (a' := ?_) #[false, true, true, true, false, false, true, false, false, false, false, false, false, false, false, false, false, false, false] rfl rfl (any_of HT_.out (by kernel_rfl)) (fun _ _ _ h => h) (Or.inl ⟨by rfl, ?_⟩) ?_ ?_
                     rotate_left
                     ·intro w'
                      go_simp
                      with_reducible rfl
                     rotate_left
                     ·simp only [Act.put, List.setIfInBounds_toArray, List.set_cons_zero, List.set_cons_succ, i64_w, i32_w]
                      rfl
                     refine pure_ (i := 7) (N := some 81) (v := ?_) (a' := ?_) #[false, true, true, true, false, false, true, true, false, false, false, false, false, false, false, false, false, false, false] rfl rfl (any_of HT_.out (by kernel_rfl)) (fun _ _ _ h => h) (Or.inl ⟨by rfl, ?_⟩) ?_ ?_
                     rotate_left
                     ·intro w'
                      go_simp
                      with_reducible rfl
                     rotate_left
                     ·simp only [Act.put, List.setIfInBounds_toArray, List.set_cons_zero, List.set_cons_succ, i64_w, i32_w]
                      rfl
                     refine pure_ (i := 8) (N := some 82) (v := ?_) (a' := ?_) #[false, true, true, true, false, false, true, true, true, false, false, false, false, false, false, false, false, false, false] rfl rfl (any_of HT_.out (by kernel_rfl)) (fun _ _ _ h => h) (Or.inl ⟨by rfl, ?_⟩) ?_ ?_
                     rotate_left
                     ·intro w'
                      go_simp
                      with_reducible rfl
                     rotate_left
                     ·simp only [Act.put, List.setIfInBounds_toArray, List.set_cons_zero, List.set_cons_succ, i64_w, i32_w]
                      rfl
                     refine pure_ (i := 9) (N := some 83) (v := ?_) (a' := ?_) #[false, true, true, true, false, false, true, true, true, true, false, false, false, false, false, false, false, false, false] rfl rfl (any_of HT_.out (by kernel_rfl)) (fun _ _ _ h => h) (Or.inl ⟨by rfl, ?_⟩) ?_ ?_
                     rotate_left
                     ·intro w'
                      go_simp
                      with_reducible rfl
                     rotate_left
                     ·simp only [Act.put, List.setIfInBounds_toArray, List.set_cons_zero, List.set_cons_succ, i64_w, i32_w]
                      rfl
                     refine pure_ (i := 12) (N := some 86) (v := ?_) (a' := ?_) #[false, true, true, true, false, false, true, true, true, true, false, false, true, false, false, false, false, false, false] rfl rfl (any_of HT_.out (by kernel_rfl)) (fun _ _ _ h => h) (Or.inl ⟨by rfl, ?_⟩) ?_ ?_
                     rotate_left
                     ·intro w'
                      go_simp
                      with_reducible rfl
                     rotate_left
                     ·simp only [Act.put, List.setIfInBounds_toArray, List.set_cons_zero, List.set_cons_succ, i64_w, i32_w]
                      rfl
                     refine take_ (i := 4) (N := some 78) (v := ?_) (a' := ?_) #[false, true, true, true, true, false, true, true, true, true, false, false, true, false, false, false, false, false, false] rfl rfl (take_ofW HT_.out HW_.out (by kernel_rfl)) (fun _ _ _ h => h) (Or.inl ⟨by rfl, ?_⟩) hHeld ?_ ?_
                     rotate_left
                     ·rintro w' ⟨s0, s1⟩
                      go_simp
                      with_reducible rfl
                     rotate_left
                     ·simp only [Act.put, List.setIfInBounds_toArray, List.set_cons_zero, List.set_cons_succ, i64_w, i32_w]
                      rfl
                     refine take_ (i := 10) (N := some 84) (v := ?_) (a' := ?_) #[false, true, true, true, true, false, true, true, true, true, true, false, true, false, false, false, false, false, false] rfl rfl (take_ofW HT_.out HW_.out (by kernel_rfl)) (fun _ _ _ h => h) (Or.inl ⟨by rfl, ?_⟩) hHeld ?_ ?_
                     rotate_left
                     ·rintro w' ⟨s0, s1⟩
                      go_simp
                      with_reducible rfl
                     rotate_left
                     ·simp only [Act.put, List.setIfInBounds_toArray, List.set_cons_zero, List.set_cons_succ, i64_w, i32_w]
                      rfl
                     refine one_ (i := 0) (N := some 74) #[true, true, true, true, true, false, true, true, true, true, true, false, true, false, false, false, false, false, false] rfl rfl (one_of HT_.out (by kernel_rfl)) (by decide) (fun K hK => ?_)
                     refine Kd.R_lit_step k83 _ 83 ?hg (N := 74) ?hd (xs := ([] : List (S83))) (inner := []) (ok := fun _ => True) (okp := fun _ => True) ?hr ?hp (fun _ hk => hk) trivial (Below.refl _ _) (Nat.le_refl _) (by simp) ?_; (case hd => rfl); (case hg => rfl); (case hr => first | (go_simp; done) | (go_simp; rfl)); (case hp => exact (Reps.none _ _))
                     intro v506 w103 ho104 hb hg_ hnew_
                     have HS0_ := (hb.cell (World.block_lt_of_cell? _ _ (hHeld.1))).trans (hHeld.1)
                     have HS1_ := (hb.cell (World.block_lt_of_cell? _ _ (hHeld.2))).trans (hHeld.2)
                     clear hg_ hnew_
                     (first | rw [← Ny505.out] at ho104 | (simp only [Int.reduceToNat] at ho104; rw [← Ny505.out] at ho104))
                     have n0_ := Aside0.mk (Kd.R_elder' (by (with_reducible repeat (first | apply Kd.R_alloc | apply Kd.R_drewN | apply Kd.R_drew)); exact HO_7.out) (Kd.R_base ho104) hb)
                     have n1_ := Aside0.mk (Kd.R_elder' (by (with_reducible repeat (first | apply Kd.R_alloc | apply Kd.R_drewN | apply Kd.R_drew)); exact HL508_0.out) (Kd.R_base ho104) hb)
                     have n2_ := Aside0.mk (Kd.R_elder' (by (with_reducible repeat (first | apply Kd.R_alloc | apply Kd.R_drewN | apply Kd.R_drew)); exact HL512_0.out) (Kd.R_base ho104) hb)
                     have n3_ := Aside0.mk (Kd.R_lower (Kd.R_new' (Kd.R_new' ho104 (Kd.R_lt (by (with_reducible repeat (first | apply Kd.R_alloc | apply Kd.R_drewN | apply Kd.R_drew)); exact HL508_0.out))) (Kd.R_lt (by (with_reducible repeat (first | apply Kd.R_alloc | apply Kd.R_drewN | apply Kd.R_drew)); exact HL512_0.out))) (keep_size (w := w) (g := g) (row := none) (by repeat (first | (with_reducible first | exact HK.out | apply KeepBut.set_ | apply keep_drewN | apply keep_drew | apply keep_alloc) | exact HK.out))))
                     have n4_ := Aside0.mk (IsS100.below (by repeat (first | (with_reducible first | exact HI0.out | apply IsS100.alloc | apply IsS100.drewN | apply IsS100.drew | apply IsS100.set_1) | exact HI0.out)) hb)
                     have n5_ := Aside0.mk (Kd.C_below (by repeat (first | (with_reducible exact HR508_0.out) | (with_reducible refine Kd.C_alloc ?_ _) | (with_reducible refine Kd.C_drewN ?_ _) | (with_reducible refine Kd.C_drew ?_) | exact HR508_0.out)) hb)
                     have n6_ := Aside0.mk (Kd.C_below (by repeat (first | (with_reducible exact HR512_0.out) | (with_reducible refine Kd.C_alloc ?_ _) | (with_reducible refine Kd.C_drewN ?_ _) | (with_reducible refine Kd.C_drew ?_) | exact HR512_0.out)) hb)
                     have n7_ := Aside0.mk (KeepBut.trans (by repeat (first | (with_reducible first | exact HK.out | apply KeepBut.set_ | apply keep_drewN | apply keep_drew | apply keep_alloc) | exact HK.out)) (KeepBut.of_below hb g none) (.inl rfl))
                     have n8_ := Aside0.mk (below_step (by repeat (first | (with_reducible first | exact HB.out | apply below_alloc | apply pw_below_drewN | apply below_drew1 | refine below_set ?_ (IsS100.ge HI0.out)) | exact HB.out)) hb)
                     clear HO_7
                     clear HL508_0
                     clear HL512_0
                     clear HI0
                     clear HR508_0
                     clear HR512_0
                     clear HK
                     clear HB
                     have HO_7 := n0_
                     have HL508_0 := n1_
                     have HL512_0 := n2_
                     have HO507 := n3_
                     have HI0 := n4_
                     have HR508_0 := n5_
                     have HR512_0 := n6_
                     have HK := n7_
                     have HB := n8_
                     clear n0_ n1_ n2_ n3_ n4_ n5_ n6_ n7_ n8_
                     clear hb ho104
                     refine hK.out _ _ ⟨HS0_, HS1_⟩ (fun hHeld => ?_)
                     clear hK K
                     refine norm_ (a' := ?_) ?_ ?_
                     rotate_left
                     ·show Act.put _ (some 74) _ = _
                      simp only [Act.put, List.setIfInBounds_toArray, List.set_cons_zero, List.set_cons_succ, i64_w, i32_w]
                      rfl
                     refine one_ (i := 5) (N := some 79) #[true, true, true, true, true, true, true, true, true, true, true, false, true, false, false, false, false, false, false] rfl rfl (one_of HT_.out (by kernel_rfl)) (by decide) (fun K hK => ?_)
                     refine Kd.R_append_rows_step k83 w.heap.size (by rfl) (.tmp 74) (.tmp 78) 35 83 (.agg #[(.int .i64 0), (.int .i64 0)]) 16 rfl Try.underlying35 info83 rfl (by decide) (by omega) v506 y505 (rd_L4 x7_2 t454) _ _ _ (fun k_ => some k_ ≠ (.slice A508_0 (rd_L4 x7_2 t454).length c508_0 : Value).ownBlock ∧ some k_ ≠ (.slice A512_0 (rd_L4 x7_2 (ji86)).length c512_0 : Value).ownBlock) (fun _ => False) rfl rfl ?aO ?aR (fun _ _ h => h) (fun _ h => h.elim) ?aF (Below.refl _ _) ?aS ?aL ?_
                     (case aR => repeat (first | exact (by repeat (first | (with_reducible exact HR508_0.out) | (with_reducible refine Kd.C_alloc ?_ _) | (with_reducible refine Kd.C_drewN ?_ _) | (with_reducible refine Kd.C_drew ?_) | exact HR508_0.out)) | (with_reducible refine Kd.C_alloc ?_ _) | (with_reducible refine Kd.C_drewN ?_ _) | (with_reducible refine Kd.C_drew ?_)))
                     (case aF => exact (fun k_ hk => ⟨Kd.fresh' (Kd.R_lt (by (with_reducible repeat (first | apply Kd.R_alloc | apply Kd.R_drewN | apply Kd.R_drew)); exact HL508_0.out)) k_ hk, Kd.fresh' (Kd.R_lt (by (with_reducible repeat (first | apply Kd.R_alloc | apply Kd.R_drewN | apply Kd.R_drew)); exact HL512_0.out)) k_ hk⟩))
                     (case aO => exact (by (with_reducible repeat (first | apply Kd.R_alloc | apply Kd.R_drewN | apply Kd.R_drew)); exact Kd.R_mono HO507.out (fun _ hk => ⟨hk.1.2, hk.2⟩)))
                     (case aS => exact (keep_size (w := w) (g := g) (row := none) (by repeat (first | (with_reducible first | exact HK.out | apply KeepBut.set_ | apply keep_drewN | apply keep_drew | apply keep_alloc) | exact HK.out))))
                     (case aL => have := LMc85.out; omega)
                     intro v510 w105 ho hb hg hat
                     have HS0_ := cell_grown hg (hHeld.1) (by first | (rw [add_block]; exact row_ne HO_7.out HO507.out (by decide) _ rfl) | (show some (Addr.add _ _).block ≠ _; rw [add_block]; exact row_ne HO_7.out HO507.out (by decide) _ rfl) | exact row_ne HO_7.out HO507.out (by decide) _ rfl)
                     have HS1_ := cell_grown hg (hHeld.2) (by first | (rw [add_block]; exact row_ne HO_7.out HO507.out (by decide) _ rfl) | (show some (Addr.add _ _).block ≠ _; rw [add_block]; exact row_ne HO_7.out HO507.out (by decide) _ rfl) | exact row_ne HO_7.out HO507.out (by decide) _ rfl)
                     rw [← Ny509.out] at ho
                     have n0_ := Aside0.mk (Kd.R_after (ok := (fun _ => True)) (by (with_reducible repeat (first | apply Kd.R_alloc | apply Kd.R_drewN | apply Kd.R_drew)); exact HO_7.out) hg hat)
                     have n1_ := Aside0.mk (IsS100.grown (by repeat (first | (with_reducible first | exact HI0.out | apply IsS100.alloc | apply IsS100.drewN | apply IsS100.drew | apply IsS100.set_1) | exact HI0.out)) hg (IsS100.own_ne HI0.out HO507.out (by decide)))
                     have n2_ := Aside0.mk (Kd.R_after (ok := (fun k_ => some k_ ≠ (.slice (some ad508) x7_2.length co100 : Value).ownBlock)) (by (with_reducible repeat (first | apply Kd.R_alloc | apply Kd.R_drewN | apply Kd.R_drew)); exact Kd.R_mono HL508_0.out (fun _ hk => ⟨hk.1.2, hk.2⟩)) hg hat)
                     have n3_ := Aside0.mk (Kd.R_after (ok := (fun k_ => some k_ ≠ (.slice (some ad508) x7_2.length co100 : Value).ownBlock)) (by (with_reducible repeat (first | apply Kd.R_alloc | apply Kd.R_drewN | apply Kd.R_drew)); exact Kd.R_mono HL512_0.out (fun _ hk => ⟨hk.1.2, hk.2⟩)) hg hat)
                     have n4_ := Aside0.mk (below_weaken (by repeat (first | (with_reducible first | exact HB.out | apply below_alloc | apply pw_below_drewN | apply below_drew1 | refine below_set ?_ (IsS100.ge HI0.out)) | exact HB.out)) HL.out hb)
                     have n5_ := Aside0.mk (KeepBut.trans (by repeat (first | (with_reducible first | exact HK.out | apply KeepBut.set_ | apply keep_drewN | apply keep_drew | apply keep_alloc) | exact HK.out)) (KeepBut.of_grown hg g) (Kd.R_base2 HO507.out))
                     have n6_ := Aside0.mk (ho)
                     clear HO_7
                     clear HI0
                     clear HL508_0
                     clear HL512_0
                     clear HB
                     clear HK
                     clear HO507
                     have HO_7 := n0_
                     have HI0 := n1_
                     have HL508_0 := n2_
                     have HL512_0 := n3_
                     have HB := n4_
                     have HK := n5_
                     have HO511 := n6_
                     clear n0_ n1_ n2_ n3_ n4_ n5_ n6_
                     clear ho hb hg hat
                     refine hK.out _ _ ⟨HS0_, HS1_⟩ (fun hHeld => ?_)
                     clear hK K
                     refine norm_ (a' := ?_) ?_ ?_
                     rotate_left
                     ·show Act.put _ (some 79) _ = _
                      simp only [Act.put, List.setIfInBounds_toArray, List.set_cons_zero, List.set_cons_succ, i64_w, i32_w]
                      rfl
                     refine one_ (i := 11) (N := some 85) #[true, true, true, true, true, true, true, true, true, true, true, true, true, false, false, false, false, false, false] rfl rfl (one_of HT_.out (by kernel_rfl)) (by decide) (fun K hK => ?_)
                     refine Kd.R_append_rows_step k83 w.heap.size (by rfl) (.tmp 79) (.tmp 84) 35 83 (.agg #[(.int .i64 0), (.int .i64 0)]) 16 rfl Try.underlying35 info83 rfl (by decide) (by omega) v510 y509 (rd_L4 x7_2 (ji86)) _ _ _ (fun k_ => some k_ ≠ (.slice A508_0 (rd_L4 x7_2 t454).length c508_0 : Value).ownBlock ∧ some k_ ≠ (.slice A512_0 (rd_L4 x7_2 (ji86)).length c512_0 : Value).ownBlock) (fun _ => False) rfl rfl ?aO ?aR (fun _ _ h => h) (fun _ h => h.elim) ?aF (Below.refl _ _) ?aS ?aL ?_
                     (case aR => repeat (first | exact ((Kd.R_reads' (by (with_reducible repeat (first | apply Kd.R_alloc | apply Kd.R_drewN | apply Kd.R_drew)); exact HL512_0.out)).2.2) | (with_reducible refine Kd.C_alloc ?_ _) | (with_reducible refine Kd.C_drewN ?_ _) | (with_reducible refine Kd.C_drew ?_)))
                     (case aF => exact (fun k_ hk => ⟨Kd.fresh' (Kd.R_lt (by (with_reducible repeat (first | apply Kd.R_alloc | apply Kd.R_drewN | apply Kd.R_drew)); exact HL508_0.out)) k_ hk, Kd.fresh' (Kd.R_lt (by (with_reducible repeat (first | apply Kd.R_alloc | apply Kd.R_drewN | apply Kd.R_drew)); exact HL512_0.out)) k_ hk⟩))
                     (case aO => exact (by (with_reducible repeat (first | apply Kd.R_alloc | apply Kd.R_drewN | apply Kd.R_drew)); exact HO511.out))
                     (case aS => exact (keep_size (w := w) (g := g) (row := none) (by repeat (first | (with_reducible first | exact HK.out | apply KeepBut.set_ | apply keep_drewN | apply keep_drew | apply keep_alloc) | exact HK.out))))
                     (case aL => have := LMc89.out; omega)
                     intro v514 w106 ho hb hg hat
                     have HS0_ := cell_grown hg (hHeld.1) (by first | (rw [add_block]; exact row_ne HO_7.out HO511.out (by decide) _ rfl) | (show some (Addr.add _ _).block ≠ _; rw [add_block]; exact row_ne HO_7.out HO511.out (by decide) _ rfl) | exact row_ne HO_7.out HO511.out (by decide) _ rfl)
                     have HS1_ := cell_grown hg (hHeld.2) (by first | (rw [add_block]; exact row_ne HO_7.out HO511.out (by decide) _ rfl) | (show some (Addr.add _ _).block ≠ _; rw [add_block]; exact row_ne HO_7.out HO511.out (by decide) _ rfl) | exact row_ne HO_7.out HO511.out (by decide) _ rfl)
                     rw [← Ny513.out] at ho
                     have n0_ := Aside0.mk (Kd.R_after (ok := (fun _ => True)) (by (with_reducible repeat (first | apply Kd.R_alloc | apply Kd.R_drewN | apply Kd.R_drew)); exact HO_7.out) hg hat)
                     have n1_ := Aside0.mk (IsS100.grown (by repeat (first | (with_reducible first | exact HI0.out | apply IsS100.alloc | apply IsS100.drewN | apply IsS100.drew | apply IsS100.set_1) | exact HI0.out)) hg (IsS100.own_ne HI0.out HO511.out (by decide)))
                     have n2_ := Aside0.mk (Kd.R_after (ok := (fun k_ => some k_ ≠ (.slice (some ad508) x7_2.length co100 : Value).ownBlock)) (by (with_reducible repeat (first | apply Kd.R_alloc | apply Kd.R_drewN | apply Kd.R_drew)); exact HL508_0.out) hg hat)
                     have n3_ := Aside0.mk (Kd.R_after (ok := (fun k_ => some k_ ≠ (.slice (some ad508) x7_2.length co100 : Value).ownBlock)) (by (with_reducible repeat (first | apply Kd.R_alloc | apply Kd.R_drewN | apply Kd.R_drew)); exact HL512_0.out) hg hat)
                     have n4_ := Aside0.mk (below_weaken (by repeat (first | (with_reducible first | exact HB.out | apply below_alloc | apply pw_below_drewN | apply below_drew1 | refine below_set ?_ (IsS100.ge HI0.out)) | exact HB.out)) HL.out hb)
                     have n5_ := Aside0.mk (KeepBut.trans (by repeat (first | (with_reducible first | exact HK.out | apply KeepBut.set_ | apply keep_drewN | apply keep_drew | apply keep_alloc) | exact HK.out)) (KeepBut.of_grown hg g) (Kd.R_base2 HO511.out))
                     have n6_ := Aside0.mk (ho)
                     clear HO_7
                     clear HI0
                     clear HL508_0
                     clear HL512_0
                     clear HB
                     clear HK
                     clear HO511
                     have HO_7 := n0_
                     have HI0 := n1_
                     have HL508_0 := n2_
                     have HL512_0 := n3_
                     have HB := n4_
                     have HK := n5_
                     have HO515 := n6_
                     clear n0_ n1_ n2_ n3_ n4_ n5_ n6_
                     clear ho hb hg hat
                     refine hK.out _ _ ⟨HS0_, HS1_⟩ (fun hHeld => ?_)
                     clear hK K
                     refine norm_ (a' := ?_) ?_ ?_
                     rotate_left
                     ·show Act.put _ (some 85) _ = _
                      simp only [Act.put, List.setIfInBounds_toArray, List.set_cons_zero, List.set_cons_succ, i64_w, i32_w]
                      rfl
                     refine one_ (i := 13) (N := some 87) #[true, true, true, true, true, true, true, true, true, true, true, true, true, true, false, false, false, false, false] rfl rfl (one_of HT_.out (by kernel_rfl)) (by decide) (fun K hK => ?_)
                     refine goes_ Try.func64 (by kernel_rfl) rfl #[.pointer (some ⟨g, 0, none⟩), .int .i64 3] (by rfl) rfl rfl (by (try simp only [List.map_toArray, List.map_cons, List.map_nil]); first | done | rfl | (simp only [List.length_drop, List.length_take]; rfl)) ?_
                     with_reducible refine (spec_l20Rd_pick.calls k2 g s0_0 t455 3 t516 t517 w0 _ ?side1 ?side2 A90.out).mono ?_
                     (case side1 => repeat (first | (with_reducible first | exact HI0.out | apply IsS100.alloc | apply IsS100.drewN | apply IsS100.drew | apply IsS100.set_1) | exact HI0.out))
                     (case side2 => repeat (first | (with_reducible first | exact HB.out | apply below_alloc | apply pw_below_drewN | apply below_drew1 | refine below_set ?_ (IsS100.ge HI0.out)) | exact HB.out))
                     rintro e w107 ⟨rfl, hi, hb, hk⟩
                     have HS0_ := keep_cell hk (hHeld.1) (by first | (rw [add_block]; exact Kd.own_blk (IsS100.own_ne HI0.out HO_7.out (by decide))) | (show (Addr.add _ _).block ≠ _; rw [add_block]; exact Kd.own_blk (IsS100.own_ne HI0.out HO_7.out (by decide))) | exact Kd.own_blk (IsS100.own_ne HI0.out HO_7.out (by decide)))
                     have HS1_ := keep_cell hk (hHeld.2) (by first | (rw [add_block]; exact Kd.own_blk (IsS100.own_ne HI0.out HO_7.out (by decide))) | (show (Addr.add _ _).block ≠ _; rw [add_block]; exact Kd.own_blk (IsS100.own_ne HI0.out HO_7.out (by decide))) | exact Kd.own_blk (IsS100.own_ne HI0.out HO_7.out (by decide)))
                     refine ⟨_, rfl, ?_⟩
                     have n0_ := Aside0.mk (Kd.R_mono (Kd.R_keep (IsS100.apart (show IsS100 w0 _ g s0_0 t455 from by repeat (first | (with_reducible first | exact HI0.out | apply IsS100.alloc | apply IsS100.drewN | apply IsS100.drew | apply IsS100.set_1) | exact HI0.out)) (by (with_reducible repeat (first | apply Kd.R_alloc | apply Kd.R_drewN | apply Kd.R_drew)); exact HO_7.out) (by decide)) hk (fun _ h => h.2)) (fun _ h => h.1))
                     have n1_ := Aside0.mk (Kd.R_mono (Kd.R_keep (IsS100.apart (show IsS100 w0 _ g s0_0 t455 from by repeat (first | (with_reducible first | exact HI0.out | apply IsS100.alloc | apply IsS100.drewN | apply IsS100.drew | apply IsS100.set_1) | exact HI0.out)) (by (with_reducible repeat (first | apply Kd.R_alloc | apply Kd.R_drewN | apply Kd.R_drew)); exact HL508_0.out) (by decide)) hk (fun _ h => h.2)) (fun _ h => h.1))
                     have n2_ := Aside0.mk (Kd.R_mono (Kd.R_keep (IsS100.apart (show IsS100 w0 _ g s0_0 t455 from by repeat (first | (with_reducible first | exact HI0.out | apply IsS100.alloc | apply IsS100.drewN | apply IsS100.drew | apply IsS100.set_1) | exact HI0.out)) (by (with_reducible repeat (first | apply Kd.R_alloc | apply Kd.R_drewN | apply Kd.R_drew)); exact HL512_0.out) (by decide)) hk (fun _ h => h.2)) (fun _ h => h.1))
                     have n3_ := Aside0.mk (Kd.R_mono (Kd.R_keep (IsS100.apart (show IsS100 w0 _ g s0_0 t455 from by repeat (first | (with_reducible first | exact HI0.out | apply IsS100.alloc | apply IsS100.drewN | apply IsS100.drew | apply IsS100.set_1) | exact HI0.out)) (by (with_reducible repeat (first | apply Kd.R_alloc | apply Kd.R_drewN | apply Kd.R_drew)); exact HO515.out) (by decide)) hk (fun _ h => h.2)) (fun _ h => h.1))
                     have n4_ := Aside0.mk (KeepBut.trans (by repeat (first | (with_reducible first | exact HK.out | apply KeepBut.set_ | apply keep_drewN | apply keep_drew | apply keep_alloc) | exact HK.out)) hk (.inl rfl))
                     have n5_ := Aside0.mk (hb)
                     have n6_ := Aside0.mk (hi)
                     clear HO_7
                     clear HL508_0
                     clear HL512_0
                     clear HO515
                     clear HK
                     clear HB
                     clear HI0
                     have HO_7 := n0_
                     have HL508_0 := n1_
                     have HL512_0 := n2_
                     have HO515 := n3_
                     have HK := n4_
                     have HB := n5_
                     have HI0 := n6_
                     clear n0_ n1_ n2_ n3_ n4_ n5_ n6_
                     (try clear hb)
                     (try clear hb2)
                     (try clear hk)
                     (try clear hi)
                     refine hK.out _ _ ⟨HS0_, HS1_⟩ (fun hHeld => ?_)
                     clear hK K
                     refine norm_ (a' := ?_) ?_ ?_
                     rotate_left
                     ·show Act.put _ (some 87) _ = _
                      simp only [Act.put, List.setIfInBounds_toArray, List.set_cons_zero, List.set_cons_succ, i64_w, i32_w]
                      rfl
                     refine pure_ (i := 14) (N := some 88) (v := ?_) (a' := ?_) #[true, true, true, true, true, true, true, true, true, true, true, true, true, true, true, false, false, false, false] rfl rfl (any_of HT_.out (by kernel_rfl)) (fun _ _ _ h => h) (Or.inl ⟨by rfl, ?_⟩) ?_ ?_
                     rotate_left
                     ·intro w'
                      go_simp
                      with_reducible rfl
                     rotate_left
                     ·simp only [Act.put, List.setIfInBounds_toArray, List.set_cons_zero, List.set_cons_succ, i64_w, i32_w]
                      rfl
                     refine pure_ (i := 15) (N := some 89) (v := ?_) (a' := ?_) #[true, true, true, true, true, true, true, true, true, true, true, true, true, true, true, true, false, false, false] rfl rfl (any_of HT_.out (by kernel_rfl)) (fun _ _ _ h => h) (Or.inl ⟨by rfl, ?_⟩) ?_ ?_
                     rotate_left
                     ·intro w'
                      go_simp
                      with_reducible rfl
                     rotate_left
                     ·simp only [Act.put, List.setIfInBounds_toArray, List.set_cons_zero, List.set_cons_succ, i64_w, i32_w]
                      rfl
                     refine last_ (i := 16) (N := some 90) #[true, true, true, true, true, true, true, true, true, true, true, true, true, true, true, true, true, false, false] rfl rfl (one_of HT_.out (by kernel_rfl)) (by decide) (fun K hK => ?_)
                     refine value_ (w1 := ?_) (v := ?_) (by rfl) rfl ?_ ?_
                     rotate_left 2
                     ·go_simp
                      constructor
                      ·rfl
                      ·rfl
                     refine hK.out _ _ ?_
                     clear hK K
                     refine norm_ (a' := ?_) ?_ ?_
                     rotate_left
                     ·show Act.put _ (some 90) _ = _
                      simp only [Act.put, List.setIfInBounds_toArray, List.set_cons_zero, List.set_cons_succ, i64_w, i32_w]
                      rfl
                     refine last_ (i := 17) (N := some 91) #[true, true, true, true, true, true, true, true, true, true, true, true, true, true, true, true, true, true, false] rfl rfl (one_of HT_.out (by kernel_rfl)) (by decide) (fun K hK => ?_)
                     refine Kd.R_append_step k83 w.heap.size (by rfl) (.tmp 85) (.tmp 90) 35 83 (.agg #[(.int .i64 0), (.int .i64 0)]) 16 rfl Try.underlying35 info83 rfl (by decide) (by omega) v514 y513 (⟨wrap64 (3 + t516), 0⟩ : S83) [.int .i64 (wrap64 (3 + t516)), .int .i64 0] (fun k_ => some k_ ≠ (.slice A508_0 (rd_L4 x7_2 t454).length c508_0 : Value).ownBlock ∧ some k_ ≠ (.slice A512_0 (rd_L4 x7_2 (ji86)).length c512_0 : Value).ownBlock) (fun _ => False) rfl rfl ?aP (fun _ hk => hk.elim) ?aF ?aO (Below.refl _ _) ?aS ?aL ?_
                     (case aP => exact k83_mkM _ _ _ (⟨wrap64 (3 + t516), 0⟩ : S83))
                     (case aF => exact (fun k_ hk => ⟨Kd.fresh' (Kd.R_lt (by (with_reducible repeat (first | apply Kd.R_alloc | apply Kd.R_drewN | apply Kd.R_drew)); exact HL508_0.out)) k_ hk, Kd.fresh' (Kd.R_lt (by (with_reducible repeat (first | apply Kd.R_alloc | apply Kd.R_drewN | apply Kd.R_drew)); exact HL512_0.out)) k_ hk⟩))
                     (case aO => exact (by (with_reducible repeat (first | apply Kd.R_alloc | apply Kd.R_drewN | apply Kd.R_drew)); exact HO515.out))
                     (case aS => exact (keep_size (w := w) (g := g) (row := none) (by repeat (first | (with_reducible first | exact HK.out | apply KeepBut.set_ | apply keep_drewN | apply keep_drew | apply keep_alloc) | exact HK.out))))
                     (case aL => have := LMc91.out; omega)
                     intro v519 w108 ho hb hg hat
                     rw [← Ny518.out] at ho
                     have n0_ := Aside0.mk (Kd.R_after (ok := (fun _ => True)) (by (with_reducible repeat (first | apply Kd.R_alloc | apply Kd.R_drewN | apply Kd.R_drew)); exact HO_7.out) hg hat)
                     have n1_ := Aside0.mk (IsS100.grown (by repeat (first | (with_reducible first | exact HI0.out | apply IsS100.alloc | apply IsS100.drewN | apply IsS100.drew | apply IsS100.set_1) | exact HI0.out)) hg (IsS100.own_ne HI0.out HO515.out (by decide)))
                     have n2_ := Aside0.mk (Kd.R_after (ok := (fun k_ => some k_ ≠ (.slice (some ad508) x7_2.length co100 : Value).ownBlock)) (by (with_reducible repeat (first | apply Kd.R_alloc | apply Kd.R_drewN | apply Kd.R_drew)); exact HL508_0.out) hg hat)
                     have n3_ := Aside0.mk (Kd.R_after (ok := (fun k_ => some k_ ≠ (.slice (some ad508) x7_2.length co100 : Value).ownBlock)) (by (with_reducible repeat (first | apply Kd.R_alloc | apply Kd.R_drewN | apply Kd.R_drew)); exact HL512_0.out) hg hat)
                     have n4_ := Aside0.mk (below_weaken (by repeat (first | (with_reducible first | exact HB.out | apply below_alloc | apply pw_below_drewN | apply below_drew1 | refine below_set ?_ (IsS100.ge HI0.out)) | exact HB.out)) HL.out hb)
                     have n5_ := Aside0.mk (KeepBut.trans (by repeat (first | (with_reducible first | exact HK.out | apply KeepBut.set_ | apply keep_drewN | apply keep_drew | apply keep_alloc) | exact HK.out)) (KeepBut.of_grown hg g) (Kd.R_base2 HO515.out))
                     have n6_ := Aside0.mk (ho)
                     clear HO_7
                     clear HI0
                     clear HL508_0
                     clear HL512_0
                     clear HB
                     clear HK
                     clear HO515
                     have HO_7 := n0_
                     have HI0 := n1_
                     have HL508_0 := n2_
                     have HL512_0 := n3_
                     have HB := n4_
                     have HK := n5_
                     have HO520 := n6_
                     clear n0_ n1_ n2_ n3_ n4_ n5_ n6_
                     clear ho hb hg hat
                     refine hK.out _ _ ?_
                     clear hK K
                     refine norm_ (a' := ?_) ?_ ?_
                     rotate_left
                     ·show Act.put _ (some 91) _ = _
                      simp only [Act.put, List.setIfInBounds_toArray, List.set_cons_zero, List.set_cons_succ, i64_w, i32_w]
                      rfl
                     refine pure_ (i := 18) (N := some 11) (v := ?_) (a' := ?_) #[true, true, true, true, true, true, true, true, true, true, true, true, true, true, true, true, true, true, true] rfl rfl (any_of HT_.out (by kernel_rfl)) (fun _ _ _ h => h) (Or.inl ⟨by rfl, ?_⟩) ?_ ?_
                     rotate_left
                     ·intro w'
                      go_simp
                      with_reducible rfl
                     rotate_left
                     ·simp only [Act.put, List.setIfInBounds_toArray, List.set_cons_zero, List.set_cons_succ, i64_w, i32_w]
                      rfl
                     refine done_ (done_of HT_.out (by kernel_rfl)) ?_
                     try go_wp2_with (first | ((with_reducible refine gate_dst (N := 92) rfl ?_); refine Kd.R_lit (Kd.slice 83 k83) _ 35 ?hg (N := 92) ?hd (xs := ([] : List (List (S83)))) (inner := []) (ok := fun _ => True) (okp := fun _ => True) ?hr ?hp (fun _ hk => hk) trivial (Below.refl _ _) (Nat.le_refl _) (by simp) ?_; (case hd => rfl); (case hg => rfl); (case hr => first | (go_simp; done) | (go_simp; rfl)); (case hp => exact (Reps.none _ _)); intro v522 w109 ho110 hb hg_ hnew_; clear hg_ hnew_; (first | rw [← Ny521.out] at ho110 | (simp only [Int.reduceToNat] at ho110; rw [← Ny521.out] at ho110)); have n0_ := Aside0.mk (Kd.R_elder' (by (with_reducible repeat (first | apply Kd.R_alloc | apply Kd.R_drewN | apply Kd.R_drew)); exact HO_7.out) (Kd.R_base ho110) hb); have n1_ := Aside0.mk (Kd.R_below (by (with_reducible repeat (first | apply Kd.R_alloc | apply Kd.R_drewN | apply Kd.R_drew)); exact HL508_0.out) hb); have n2_ := Aside0.mk (Kd.R_below (by (with_reducible repeat (first | apply Kd.R_alloc | apply Kd.R_drewN | apply Kd.R_drew)); exact HL512_0.out) hb); have n3_ := Aside0.mk (Kd.R_below (by (with_reducible repeat (first | apply Kd.R_alloc | apply Kd.R_drewN | apply Kd.R_drew)); exact HO520.out) hb); have n4_ := Aside0.mk (Kd.R_lower (Kd.R_new' (Kd.R_new' (Kd.R_new' (Kd.R_new' ho110 (Kd.R_lt (by (with_reducible repeat (first | apply Kd.R_alloc | apply Kd.R_drewN | apply Kd.R_drew)); exact HO_7.out))) (Kd.R_lt (by (with_reducible repeat (first | apply Kd.R_alloc | apply Kd.R_drewN | apply Kd.R_drew)); exact HL508_0.out))) (Kd.R_lt (by (with_reducible repeat (first | apply Kd.R_alloc | apply Kd.R_drewN | apply Kd.R_drew)); exact HL512_0.out))) (Kd.R_lt (by (with_reducible repeat (first | apply Kd.R_alloc | apply Kd.R_drewN | apply Kd.R_drew)); exact HO520.out))) (keep_size (w := w) (g := g) (row := none) (by repeat (first | (with_reducible first | exact HK.out | apply KeepBut.set_ | apply keep_drewN | apply keep_drew | apply keep_alloc) | exact HK.out)))); have n5_ := Aside0.mk (IsS100.below (by repeat (first | (with_reducible first | exact HI0.out | apply IsS100.alloc | apply IsS100.drewN | apply IsS100.drew | apply IsS100.set_1) | exact HI0.out)) hb); have n6_ := Aside0.mk (KeepBut.trans (by repeat (first | (with_reducible first | exact HK.out | apply KeepBut.set_ | apply keep_drewN | apply keep_drew | apply keep_alloc) | exact HK.out)) (KeepBut.of_below hb g none) (.inl rfl)); have n7_ := Aside0.mk (below_step (by repeat (first | (with_reducible first | exact HB.out | apply below_alloc | apply pw_below_drewN | apply below_drew1 | refine below_set ?_ (IsS100.ge HI0.out)) | exact HB.out)) hb); clear HO_7; clear HL508_0; clear HL512_0; clear HO520; clear HI0; clear HK; clear HB; have HO_7 := n0_; have HL508_0 := n1_; have HL512_0 := n2_; have HO520 := n3_; have HO523 := n4_; have HI0 := n5_; have HK := n6_; have HB := n7_; clear n0_ n1_ n2_ n3_ n4_ n5_ n6_ n7_; clear hb ho110; have q111 : (t454 : Int) ≤ ((x7_2.length : Int) : Int) := of_decide_eq_true (by first | (with_reducible assumption) | assumption); obtain ⟨i0111, hi0111, _, hsz111, _⟩ := info_parts info35; have hroom111 : x7_2.length ≤ co100 := (Kd.R_reads' HO_7.out).2.1; have hC111 : Kd.C (Kd.slice 83 k83) _ (some ad508) x7_2.length x7_2 := (Kd.R_reads' HO_7.out).2.2; have hcut111 := cut_to (P := Try.prog) 106 35 .i64 Try.underlying106 hi0111 (some ad508) x7_2.length co100 t454 (of_decide_eq_true (by first | (with_reducible assumption) | assumption)) q111 hroom111; have hr111 := Kd.C_take (m := (t454 : Int).toNat) hC111 (by omega); have hy111 : y524.length = (t454 : Int).toNat := (by rw [Ny524.out, List.length_take]; omega); rw [← Ny524.out] at hr111; rw [← hy111] at hcut111; have HR527 := Aside0.mk hr111; have HC527 := Aside0.mk (show y524.length ≤ co100 from by omega); clear hr111 hC111 hroom111 hi0111 hsz111; have KY111 := Aside0.mk hy111; clear hy111; have KL111 := Aside0.mk (show (t454 : Int).toNat ≤ x7_2.length from by omega); replace q111 := eq_true q111) | ((with_reducible refine gate_builtin (b := .append) (xs := #[.tmp 92, .tmp 95]) rfl ?_); at_builtin; refine Kd.R_append_rows (Kd.slice 83 k83) w.heap.size rfl (.tmp 92) (.tmp 95) 106 35 (.slice none 0 0) 24 rfl Try.underlying106 info35 rfl (by decide) (by omega) v522 y521 y524 _ _ _ (fun k_ => some k_ ≠ (.slice (some ad508) x7_2.length co100 : Value).ownBlock ∧ some k_ ≠ (v519 : Value).ownBlock) (fun k_ => (((fun k_ => some k_ ≠ (v519 : Value).ownBlock)) k_ ∧ some k_ ≠ (.slice (some ad508) x7_2.length co100 : Value).ownBlock) ∧ some k_ ≠ (v522 : Value).ownBlock) rfl rfl ?aO ?aR (fun _ _ h_ => h_) (fun k_ hk => ⟨⟨hk.1.2, hk.1.1⟩, hk.2⟩) ?aF (Below.refl _ _) ?aS ?aL ?_; (case aR => exact (rowsTake (R_rowsT (Kd.R_mono (ok' := (fun k_ => some k_ ≠ (v519 : Value).ownBlock)) (HO_7.out) (fun k_ hk => hk.1.2)) (Kd.R_typed (by (with_reducible repeat (first | apply Kd.R_alloc | apply Kd.R_drewN | apply Kd.R_drew)); exact HO523.out)) (by decide)) Ny524.out)); (case aF => exact (fun k_ hk => ⟨Kd.fresh' (Kd.R_lt (by (with_reducible repeat (first | apply Kd.R_alloc | apply Kd.R_drewN | apply Kd.R_drew)); exact HO_7.out)) k_ hk, Kd.fresh' (Kd.R_lt (by (with_reducible repeat (first | apply Kd.R_alloc | apply Kd.R_drewN | apply Kd.R_drew)); exact HO520.out)) k_ hk⟩)); (case aO => exact (by (with_reducible repeat (first | apply Kd.R_alloc | apply Kd.R_drewN | apply Kd.R_drew)); exact Kd.R_mono HO523.out (fun _ hk => ⟨hk.1.1.1.2, hk.2⟩))); (case aS => exact (keep_size (w := w) (g := g) (row := none) (by repeat (first | (with_reducible first | exact HK.out | apply KeepBut.set_ | apply keep_drewN | apply keep_drew | apply keep_alloc) | exact HK.out)))); (case aL => have := LMc94.out; omega); intro v529 w112 ho hb hg hat; rw [← Ny528.out] at ho; have n0_ := Aside0.mk (Kd.R_after (ok := (fun k_ => some k_ ≠ (v519 : Value).ownBlock)) (by (with_reducible repeat (first | apply Kd.R_alloc | apply Kd.R_drewN | apply Kd.R_drew)); exact Kd.R_mono HO_7.out (fun _ hk => ⟨hk.1.2, hk.2⟩)) hg hat); have n1_ := Aside0.mk (IsS100.grown (by repeat (first | (with_reducible first | exact HI0.out | apply IsS100.alloc | apply IsS100.drewN | apply IsS100.drew | apply IsS100.set_1) | exact HI0.out)) hg (IsS100.own_ne HI0.out HO523.out (by decide))); have n2_ := Aside0.mk (Kd.R_over' (by (with_reducible repeat (first | apply Kd.R_alloc | apply Kd.R_drewN | apply Kd.R_drew)); exact HL508_0.out) (Kd.R_typed (by (with_reducible repeat (first | apply Kd.R_alloc | apply Kd.R_drewN | apply Kd.R_drew)); exact HO523.out)) (by decide) hg); have n3_ := Aside0.mk (Kd.R_over' (by (with_reducible repeat (first | apply Kd.R_alloc | apply Kd.R_drewN | apply Kd.R_drew)); exact HL512_0.out) (Kd.R_typed (by (with_reducible repeat (first | apply Kd.R_alloc | apply Kd.R_drewN | apply Kd.R_drew)); exact HO523.out)) (by decide) hg); have n4_ := Aside0.mk (Kd.R_over' (by (with_reducible repeat (first | apply Kd.R_alloc | apply Kd.R_drewN | apply Kd.R_drew)); exact HO520.out) (Kd.R_typed (by (with_reducible repeat (first | apply Kd.R_alloc | apply Kd.R_drewN | apply Kd.R_drew)); exact HO523.out)) (by decide) hg); have n5_ := Aside0.mk (below_weaken (by repeat (first | (with_reducible first | exact HB.out | apply below_alloc | apply pw_below_drewN | apply below_drew1 | refine below_set ?_ (IsS100.ge HI0.out)) | exact HB.out)) HL.out hb); have n6_ := Aside0.mk (KeepBut.trans (by repeat (first | (with_reducible first | exact HK.out | apply KeepBut.set_ | apply keep_drewN | apply keep_drew | apply keep_alloc) | exact HK.out)) (KeepBut.of_grown hg g) (Kd.R_base2 HO523.out)); have n7_ := Aside0.mk ((show Kd.C (Kd.slice 83 k83) w112 (some ad508) y524.length y524 from by rw [Ny524.out]; exact Kd.C_take (m := (t454 : Int).toNat) ((Kd.R_reads' (Kd.R_after (ok := (fun k_ => some k_ ≠ (v519 : Value).ownBlock)) (by (with_reducible repeat (first | apply Kd.R_alloc | apply Kd.R_drewN | apply Kd.R_drew)); exact Kd.R_mono HO_7.out (fun _ hk => ⟨hk.1.2, hk.2⟩)) hg hat)).2.2) KL111.out)); have n8_ := Aside0.mk (ho); clear HO_7; clear HI0; clear HL508_0; clear HL512_0; clear HO520; clear HB; clear HK; clear HR527; clear HO523; have HO_7 := n0_; have HI0 := n1_; have HL508_0 := n2_; have HL512_0 := n3_; have HO520 := n4_; have HB := n5_; have HK := n6_; have HR527 := n7_; have HO530 := n8_; clear n0_ n1_ n2_ n3_ n4_ n5_ n6_ n7_ n8_; clear ho hb hg hat; obtain ⟨Ao114, co114, eo114⟩ := Kd.R_slice HO520.out; subst eo114) | ((with_reducible refine gate_builtin (b := .append) (xs := #[.tmp 97, .tmp 99]) rfl ?_); at_builtin; refine Kd.R_append (Kd.slice 83 k83) w.heap.size rfl (.tmp 97) (.tmp 99) 106 35 (.slice none 0 0) 24 rfl Try.underlying106 info35 rfl (by decide) (by omega) v529 y528 y518 [.slice Ao114 y518.length co114] (fun k_ => some k_ ≠ (.slice (some ad508) x7_2.length co100 : Value).ownBlock) (fun k_ => ((fun k_ => some k_ ≠ (.slice (some ad508) x7_2.length co100 : Value).ownBlock)) k_ ∧ some k_ ≠ (v529 : Value).ownBlock) rfl rfl ?aP (fun _ hk => hk) ?aF ?aO (Below.refl _ _) ?aS ?aL ?_; (case aP => exact Kd.M_row (Kd.R_mono (Kd.R_apart' (Kd.R_apart' (HO520.out) (Kd.R_typed HO_7.out) (by decide)) (Kd.R_typed HO530.out) (by decide)) (fun k_ hk => ⟨hk.1.2, hk.2⟩))); (case aF => exact (fun k_ hk => Kd.fresh' (Kd.R_lt (by (with_reducible repeat (first | apply Kd.R_alloc | apply Kd.R_drewN | apply Kd.R_drew)); exact HO_7.out)) k_ hk)); (case aO => exact (by (with_reducible repeat (first | apply Kd.R_alloc | apply Kd.R_drewN | apply Kd.R_drew)); exact Kd.R_mono HO530.out (fun _ hk => hk.1))); (case aS => exact (keep_size (w := w) (g := g) (row := none) (by repeat (first | (with_reducible first | exact HK.out | apply KeepBut.set_ | apply keep_drewN | apply keep_drew | apply keep_alloc) | exact HK.out)))); (case aL => have := LMc95.out; omega); intro v532 w113 ho hb hg hat; rw [← Ny531.out] at ho; have n0_ := Aside0.mk (Kd.R_after (ok := (fun k_ => some k_ ≠ (.slice Ao114 y518.length co114 : Value).ownBlock)) (by (with_reducible repeat (first | apply Kd.R_alloc | apply Kd.R_drewN | apply Kd.R_drew)); exact HO_7.out) hg hat); have n1_ := Aside0.mk (IsS100.grown (by repeat (first | (with_reducible first | exact HI0.out | apply IsS100.alloc | apply IsS100.drewN | apply IsS100.drew | apply IsS100.set_1) | exact HI0.out)) hg (IsS100.own_ne HI0.out HO530.out (by decide))); have n2_ := Aside0.mk (Kd.R_over' (by (with_reducible repeat (first | apply Kd.R_alloc | apply Kd.R_drewN | apply Kd.R_drew)); exact HL508_0.out) (Kd.R_typed (by (with_reducible repeat (first | apply Kd.R_alloc | apply Kd.R_drewN | apply Kd.R_drew)); exact HO530.out)) (by decide) hg); have n3_ := Aside0.mk (Kd.R_over' (by (with_reducible repeat (first | apply Kd.R_alloc | apply Kd.R_drewN | apply Kd.R_drew)); exact HL512_0.out) (Kd.R_typed (by (with_reducible repeat (first | apply Kd.R_alloc | apply Kd.R_drewN | apply Kd.R_drew)); exact HO530.out)) (by decide) hg); have n4_ := Aside0.mk (below_weaken (by repeat (first | (with_reducible first | exact HB.out | apply below_alloc | apply pw_below_drewN | apply below_drew1 | refine below_set ?_ (IsS100.ge HI0.out)) | exact HB.out)) HL.out hb); have n5_ := Aside0.mk (KeepBut.trans (by repeat (first | (with_reducible first | exact HK.out | apply KeepBut.set_ | apply keep_drewN | apply keep_drew | apply keep_alloc) | exact HK.out)) (KeepBut.of_grown hg g) (Kd.R_base2 HO530.out)); have n6_ := Aside0.mk ((show Kd.C (Kd.slice 83 k83) w113 (some ad508) y524.length y524 from by rw [Ny524.out]; exact Kd.C_take (m := (t454 : Int).toNat) ((Kd.R_reads' (Kd.R_after (ok := (fun k_ => some k_ ≠ (.slice Ao114 y518.length co114 : Value).ownBlock)) (by (with_reducible repeat (first | apply Kd.R_alloc | apply Kd.R_drewN | apply Kd.R_drew)); exact HO_7.out) hg hat)).2.2) KL111.out)); have n7_ := Aside0.mk (ho); clear HO_7; clear HI0; clear HL508_0; clear HL512_0; clear HB; clear HK; clear HR527; clear HO530; clear HO520; have HO_7 := n0_; have HI0 := n1_; have HL508_0 := n2_; have HL512_0 := n3_; have HB := n4_; have HK := n5_; have HR527 := n6_; have HO533 := n7_; clear n0_ n1_ n2_ n3_ n4_ n5_ n6_ n7_; clear ho hb hg hat; have q115 : ((ji96) : Int) ≤ ((x7_2.length : Int) : Int) := of_decide_eq_true (by first | (with_reducible assumption) | assumption); obtain ⟨i0115, hi0115, _, hsz115, _⟩ := info_parts info35; have hroom115 : x7_2.length ≤ co100 := (Kd.R_reads' HO_7.out).2.1; have hC115 : Kd.C (Kd.slice 83 k83) _ (some ad508) x7_2.length x7_2 := (Kd.R_reads' HO_7.out).2.2; have q0115 : (0 : Int) ≤ ((ji96) : Int) := of_decide_eq_true (by first | (with_reducible assumption) | assumption); have hcut115 := cut_from (P := Try.prog) 106 35 .i64 Try.underlying106 hi0115 1 hsz115 (some ad508) x7_2.length co100 (ji96) q0115 q115; have hr115 := Kd.C_drop (m := ((ji96) : Int).toNat) (c := co100) hC115 (by omega) hroom115; obtain ⟨A115, hA115⟩ : ∃ A1, A1 = (if co100 = ((ji96) : Int).toNat then (some ad508) else ((some ad508) : Option Addr).map (·.add (((ji96) : Int).toNat * 1))) := ⟨_, rfl⟩; obtain ⟨c115, hc115⟩ : ∃ c1, c1 = co100 - ((ji96) : Int).toNat := ⟨_, rfl⟩; have hy115 : y534.length = x7_2.length - ((ji96) : Int).toNat := (by rw [Ny534.out, List.length_drop] <;> omega); rw [show (x7_2).drop ((ji96) : Int).toNat = y534 from Ny534.out.symm] at hr115; replace hr115 : Kd.C (Kd.slice 83 k83) _ A115 y534.length y534 := (by rw [hA115]; exact hr115); rw [← hy115, ← hA115, ← hc115] at hcut115; have HR537 := Aside0.mk hr115; have HC537 := Aside0.mk (show y534.length ≤ c115 from by rw [hy115, hc115]; exact Nat.sub_le_sub_right hroom115 _); clear hr115 hC115 hroom115 hi0115 hsz115 hc115; have KY115 := Aside0.mk hy115; have KA115 := Aside0.mk hA115; clear hy115 hA115; have KL115 := Aside0.mk (show ((ji96) : Int).toNat ≤ x7_2.length from by omega); replace q115 := eq_true q115) | ((with_reducible refine gate_builtin (b := .append) (xs := #[.tmp 101, .tmp 105]) rfl ?_); at_builtin; refine Kd.R_append_rows (Kd.slice 83 k83) w.heap.size rfl (.tmp 101) (.tmp 105) 106 35 (.slice none 0 0) 24 rfl Try.underlying106 info35 rfl (by decide) (by omega) v532 y531 y534 _ _ _ (fun k_ => some k_ ≠ (.slice (some ad508) x7_2.length co100 : Value).ownBlock) (fun k_ => (((fun _ => True)) k_ ∧ some k_ ≠ (.slice (some ad508) x7_2.length co100 : Value).ownBlock) ∧ some k_ ≠ (v532 : Value).ownBlock) rfl rfl ?aO ?aR (fun _ _ h_ => h_) (fun k_ hk => ⟨hk.1.2, hk.2⟩) ?aF (Below.refl _ _) ?aS ?aL ?_; (case aR => exact (rowsDrop (R_rowsT (Kd.R_mono (ok' := (fun _ => True)) (HO_7.out) (fun k_ hk => trivial)) (Kd.R_typed (by (with_reducible repeat (first | apply Kd.R_alloc | apply Kd.R_drewN | apply Kd.R_drew)); exact HO533.out)) (by decide)) (Kd.R_reads' (Kd.R_mono (ok' := (fun _ => True)) (HO_7.out) (fun k_ hk => trivial))).2.1 Ny534.out KA115.out)); (case aF => exact (fun k_ hk => Kd.fresh' (Kd.R_lt (by (with_reducible repeat (first | apply Kd.R_alloc | apply Kd.R_drewN | apply Kd.R_drew)); exact HO_7.out)) k_ hk)); (case aO => exact (by (with_reducible repeat (first | apply Kd.R_alloc | apply Kd.R_drewN | apply Kd.R_drew)); exact HO533.out)); (case aS => exact (keep_size (w := w) (g := g) (row := none) (by repeat (first | (with_reducible first | exact HK.out | apply KeepBut.set_ | apply keep_drewN | apply keep_drew | apply keep_alloc) | exact HK.out)))); (case aL => have := LMc99.out; omega); intro v539 w116 ho hb hg hat; rw [← Ny538.out] at ho; have n0_ := Aside0.mk (Kd.R_after (ok := (fun _ => True)) (by (with_reducible repeat (first | apply Kd.R_alloc | apply Kd.R_drewN | apply Kd.R_drew)); exact Kd.R_mono HO_7.out (fun _ hk => ⟨trivial, hk.2⟩)) hg hat); have n1_ := Aside0.mk (IsS100.grown (by repeat (first | (with_reducible first | exact HI0.out | apply IsS100.alloc | apply IsS100.drewN | apply IsS100.drew | apply IsS100.set_1) | exact HI0.out)) hg (IsS100.own_ne HI0.out HO533.out (by decide))); have n2_ := Aside0.mk (Kd.R_over' (by (with_reducible repeat (first | apply Kd.R_alloc | apply Kd.R_drewN | apply Kd.R_drew)); exact HL508_0.out) (Kd.R_typed (by (with_reducible repeat (first | apply Kd.R_alloc | apply Kd.R_drewN | apply Kd.R_drew)); exact HO533.out)) (by decide) hg); have n3_ := Aside0.mk (Kd.R_over' (by (with_reducible repeat (first | apply Kd.R_alloc | apply Kd.R_drewN | apply Kd.R_drew)); exact HL512_0.out) (Kd.R_typed (by (with_reducible repeat (first | apply Kd.R_alloc | apply Kd.R_drewN | apply Kd.R_drew)); exact HO533.out)) (by decide) hg); have n4_ := Aside0.mk (below_weaken (by repeat (first | (with_reducible first | exact HB.out | apply below_alloc | apply pw_below_drewN | apply below_drew1 | refine below_set ?_ (IsS100.ge HI0.out)) | exact HB.out)) HL.out hb); have n5_ := Aside0.mk (KeepBut.trans (by repeat (first | (with_reducible first | exact HK.out | apply KeepBut.set_ | apply keep_drewN | apply keep_drew | apply keep_alloc) | exact HK.out)) (KeepBut.of_grown hg g) (Kd.R_base2 HO533.out)); have n6_ := Aside0.mk ((show Kd.C (Kd.slice 83 k83) w116 (some ad508) y524.length y524 from by rw [Ny524.out]; exact Kd.C_take (m := (t454 : Int).toNat) ((Kd.R_reads' (Kd.R_after (ok := (fun _ => True)) (by (with_reducible repeat (first | apply Kd.R_alloc | apply Kd.R_drewN | apply Kd.R_drew)); exact Kd.R_mono HO_7.out (fun _ hk => ⟨trivial, hk.2⟩)) hg hat)).2.2) KL111.out)); have n7_ := Aside0.mk ((show Kd.C (Kd.slice 83 k83) w116 A115 y534.length y534 from by rw [Ny534.out, KA115.out]; exact Kd.C_drop (m := ((ji96) : Int).toNat) (c := co100) ((Kd.R_reads' (Kd.R_after (ok := (fun _ => True)) (by (with_reducible repeat (first | apply Kd.R_alloc | apply Kd.R_drewN | apply Kd.R_drew)); exact Kd.R_mono HO_7.out (fun _ hk => ⟨trivial, hk.2⟩)) hg hat)).2.2) KL115.out ((Kd.R_reads' (Kd.R_after (ok := (fun _ => True)) (by (with_reducible repeat (first | apply Kd.R_alloc | apply Kd.R_drewN | apply Kd.R_drew)); exact Kd.R_mono HO_7.out (fun _ hk => ⟨trivial, hk.2⟩)) hg hat)).2.1))); have n8_ := Aside0.mk (ho); clear HO_7; clear HI0; clear HL508_0; clear HL512_0; clear HB; clear HK; clear HR527; clear HR537; clear HO533; have HO_7 := n0_; have HI0 := n1_; have HL508_0 := n2_; have HL512_0 := n3_; have HB := n4_; have HK := n5_; have HR527 := n6_; have HR537 := n7_; have HO540 := n8_; clear n0_ n1_ n2_ n3_ n4_ n5_ n6_ n7_ n8_; clear ho hb hg hat))
                     go_roundg k2
                     case measure => have := HK1.out; have := HK2.out; omega
                     case rel => exact ⟨(y538), (x9_2), (t517), (by first | rfl | (simp; done) | (simp [*]; done)), H', ⟨by have := HK1.out; have := HK2.out; omega⟩, ⟨by (with_reducible repeat (first | apply Kd.R_alloc | apply Kd.R_drewN | apply Kd.R_drew)); exact Kd.R_mono HO540.out (fun _ hk => trivial)⟩, ⟨by repeat (first | (with_reducible first | exact HI0.out | apply IsS100.alloc | apply IsS100.drewN | apply IsS100.drew | apply IsS100.set_1) | exact HI0.out)⟩, ⟨by repeat (first | (with_reducible first | exact HK.out | apply KeepBut.set_ | apply keep_drewN | apply keep_drew | apply keep_alloc) | exact HK.out)⟩, ⟨by repeat (first | (with_reducible first | exact HB.out | apply below_alloc | apply pw_below_drewN | apply below_drew1 | refine below_set ?_ (IsS100.ge HI0.out)) | exact HB.out)⟩⟩
                    ·rw [if_neg c99] at H
                     exact absurd H (by simp)
                   ·rw [if_neg c98] at H
                    exact absurd H (by simp)
                  ·rw [if_neg c97] at H
                   exact absurd H (by simp)
                 ·rw [if_neg c95] at H
                  exact absurd H (by simp)
                ·rw [if_neg c94] at H
                 exact absurd H (by simp)
               ·rw [if_neg c93] at H
                exact absurd H (by simp)
              ·rw [if_neg c91] at H
               exact absurd H (by simp)
             ·rw [if_neg c89] at H
              exact absurd H (by simp)
            ·rw [if_neg c88] at H
             exact absurd H (by simp)
           ·rw [if_neg c87] at H
            exact absurd H (by simp)
          ·rw [if_neg c85] at H
           exact absurd H (by simp)
         ·rw [if_neg c84] at H
          exact absurd H (by simp)
        ·rw [if_neg c83] at H
         exact absurd H (by simp)
      ·rw [if_neg c29] at H
       have c29b0 : decide (1 < (x7_2.length : Int)) = false := decide_eq_false c29
       have c29b1 : decide (1 < x7_2.length) = false := decide_eq_false (by omega)
       clear c29
       by_cases c117 : 0 < (x7_2.length : Int)
       ·rw [if_pos c117] at H
        have c117b0 : decide (0 < (x7_2.length : Int)) = true := decide_eq_true c117
        have c117b1 : decide (0 < x7_2.length) = true := decide_eq_true (by omega)
        clear c117
        replace H := Option.bind_eq_some_iff.mp H
        obtain ⟨⟨t543, t544⟩, A1180, H⟩ := H
        replace H : (if t543 = 0 then (if (rd_L4 x7_2 0).length < 8796093022208 then (spec_l20Term.j2 k2 a2 ((rd_L4 x7_2 0) ++ [(⟨2, 0⟩ : S83)]) s0_0 t544) else (none)) else (spec_l20Term.j2 k2 a2 (rd_L4 x7_2 0) s0_0 t544)) = some (r1, r2) := H
        have A118 := Aside0.mk A1180
        clear A1180
        have HC119 := Aside0.mk H
        clear H
        obtain ⟨Ao120, co120, eo120⟩ := Kd.R_slice HO_7.out
        subst eo120
        have p541 : 0 ≤ (0 : Int) := (by omega)
        have q541 : 0 < (x7_2.length : Int) := of_decide_eq_true (by first | (with_reducible assumption) | assumption)
        obtain ⟨ad541, A541_0, c541_0, e541, hx541_0, hl541_0, hi541_0⟩ := at_L4 (Kd.R_reads' HO_7.out).2.2 0 p541 q541
        cases e541
        obtain ⟨ce541, hce541, hMe541, hcc541⟩ := Kd.R_get HO_7.out [] 0 p541 (by first | exact q541 | exact of_decide_eq_true (by first | (with_reducible assumption) | assumption) | (have e_ := (Kd.R_reads' HO_7.out).1; omega))
        obtain ⟨ve541_0, rfl, ge541_0⟩ := hMe541
        have hv541_0 := hcc541 0 _ rfl
        rw [Nat.add_zero, show ((Kd.slice 83 k83)).sz = 1 from rfl, Nat.mul_one] at hv541_0
        replace hv541_0 := Option.some.inj (hv541_0.symm.trans hx541_0)
        rw [hv541_0] at ge541_0
        have HL541_0 := Aside0.mk (show Kd.R k83 83 _ _ _ _ (rd_L4 x7_2 0) from ge541_0)
        clear hv541_0 ge541_0
        clear hcc541 hce541
        have qi541 : (0 < x7_2.length) = True := eq_true (by omega)
        (try rw [show ((0 : Int)).toNat = 0 from rfl] at hx541_0)
        (try rw [Addr.add_zero'] at hx541_0)
        have HR541_0 := Aside0.mk hi541_0
        have HC541_0 := Aside0.mk hl541_0
        clear hi541_0 hl541_0
        replace p541 := eq_true p541
        replace q541 := eq_true q541
        have HO542 := Aside0.mk (Kd.R_mono (ok' := (fun _ => True)) HL541_0.out (fun k_ hk => trivial))
        clear HO_7
        go_upto_if 112 with (first | ((with_reducible refine gate_callee (f := 64) rfl ?_); refine goesL_ (some 111) rfl rfl Try.func64 (by kernel_rfl) rfl #[.pointer (some ⟨g, 0, none⟩), .int .i64 5] rfl (by (try simp only [List.map_toArray, List.map_cons, List.map_nil]); first | done | rfl | (simp only [List.length_drop, List.length_take]; rfl)) ?_; (with_reducible refine (spec_l20Rd_pick.calls k2 g s0_0 x1001_2 5 t543 t544 w0 _ ?side1 ?side2 A118.out).mono ?_); (case side1 => repeat (first | (with_reducible first | exact HI0.out | apply IsS100.alloc | apply IsS100.drewN | apply IsS100.drew | apply IsS100.set_1) | exact HI0.out)); (case side2 => repeat (first | (with_reducible first | exact HB.out | apply below_alloc | apply pw_below_drewN | apply below_drew1 | refine below_set ?_ (IsS100.ge HI0.out)) | exact HB.out)); rintro e w121 ⟨rfl, hi, hb, hk⟩; refine ⟨_, rfl, ?_⟩; have n0_ := Aside0.mk (Kd.R_mono (Kd.R_keep (IsS100.apart (show IsS100 w0 _ g s0_0 x1001_2 from by repeat (first | (with_reducible first | exact HI0.out | apply IsS100.alloc | apply IsS100.drewN | apply IsS100.drew | apply IsS100.set_1) | exact HI0.out)) (by (with_reducible repeat (first | apply Kd.R_alloc | apply Kd.R_drewN | apply Kd.R_drew)); exact HO542.out) (by decide)) hk (fun _ h => h.2)) (fun _ h => h.1)); have n1_ := Aside0.mk (KeepBut.trans (by repeat (first | (with_reducible first | exact HK.out | apply KeepBut.set_ | apply keep_drewN | apply keep_drew | apply keep_alloc) | exact HK.out)) hk (.inl rfl)); have n2_ := Aside0.mk (hb); have n3_ := Aside0.mk (hi); clear HO542; clear HK; clear HB; clear HI0; have HO542 := n0_; have HK := n1_; have HB := n2_; have HI0 := n3_; clear n0_ n1_ n2_ n3_; (try clear hb); (try clear hb2); (try clear hk); (try clear hi)))
        (try simp only [Act.put, List.setIfInBounds_toArray, List.set_cons_zero, List.set_cons_succ])
        go_cut [13] (fun v13 wc => ∃ (kq : Nat) (x13_118 : List (S83)), Aside0 (spec_l20Term.j2 kq a2 x13_118 s0_0 t544 = some (r1, r2)) ∧ Aside0 (kq ≤ k2) ∧ Aside0 (Kd.R k83 83 wc w.heap.size (fun _ => True) v13 x13_118) ∧ Aside0 (IsS100 w0 wc g s0_0 t544) ∧ Aside0 (KeepBut w wc g none) ∧ Aside0 (Below w0.heap.size w0 wc))
        case first =>
         have H := HC119.out
         clear HC119
         by_cases c122 : t543 = 0
         ·rw [if_pos c122] at H
          have c122b0 : (t543 == 0) = true := beq_iff_eq.mpr c122
          have c122b1 : (t543 != 0) = false := bne_eq_false_iff_eq.mpr c122
          clear c122
          (first | rw [c122b0] | (simp only [i64_w, i32_w]; rw [c122b0]) | skip)
          by_cases c123 : (rd_L4 x7_2 0).length < 8796093022208
          ·rw [if_pos c123] at H
           have LMc123 := Aside0.mk c123
           clear c123
           obtain ⟨y545, hy545⟩ : ∃ y_ : List (S83), y_ = ((rd_L4 x7_2 0) ++ [(⟨2, 0⟩ : S83)]) := ⟨_, rfl⟩
           replace H : (spec_l20Term.j2 k2 a2 y545 s0_0 t544) = some (r1, r2) := by first | (rw [hy545]; with_reducible exact H) | (have H2_ := (Option.bind_some _ _).symm.trans H; rw [hy545]; with_reducible exact H2_) | (have H2_ := (Option.bind_some _ _).symm.trans H; with_reducible exact H2_) | with_reducible exact H | (rw [hy545]; exact H) | exact H
           have Ny545 := Aside0.mk hy545
           clear hy545
           have H' := Aside0.mk H
           clear H
           go_wp2_with (first | ((with_reducible refine gate_builtin (b := .append) (xs := #[.tmp 113, .tmp 115]) rfl ?_); at_builtin; refine Kd.R_append k83 w.heap.size rfl (.tmp 113) (.tmp 115) 35 83 (.agg #[(.int .i64 0), (.int .i64 0)]) 16 rfl Try.underlying35 info83 rfl (by decide) (by omega) (.slice A541_0 (rd_L4 x7_2 0).length c541_0) (rd_L4 x7_2 0) (⟨2, 0⟩ : S83) [.int .i64 2, .int .i64 0] (fun _ => True) (fun _ => False) rfl rfl ?aP (fun _ hk => hk.elim) ?aF ?aO (Below.refl _ _) ?aS ?aL ?_; (case aP => exact k83_mkM _ _ _ (⟨2, 0⟩ : S83)); (case aF => exact (fun _ _ => trivial)); (case aO => exact (by (with_reducible repeat (first | apply Kd.R_alloc | apply Kd.R_drewN | apply Kd.R_drew)); exact HO542.out)); (case aS => exact (keep_size (w := w) (g := g) (row := none) (by repeat (first | (with_reducible first | exact HK.out | apply KeepBut.set_ | apply keep_drewN | apply keep_drew | apply keep_alloc) | exact HK.out)))); (case aL => have := LMc123.out; omega); intro v546 w124 ho hb hg hat; rw [← Ny545.out] at ho; have n0_ := Aside0.mk (IsS100.grown (by repeat (first | (with_reducible first | exact HI0.out | apply IsS100.alloc | apply IsS100.drewN | apply IsS100.drew | apply IsS100.set_1) | exact HI0.out)) hg (IsS100.own_ne HI0.out HO542.out (by decide))); have n1_ := Aside0.mk (below_weaken (by repeat (first | (with_reducible first | exact HB.out | apply below_alloc | apply pw_below_drewN | apply below_drew1 | refine below_set ?_ (IsS100.ge HI0.out)) | exact HB.out)) HL.out hb); have n2_ := Aside0.mk (KeepBut.trans (by repeat (first | (with_reducible first | exact HK.out | apply KeepBut.set_ | apply keep_drewN | apply keep_drew | apply keep_alloc) | exact HK.out)) (KeepBut.of_grown hg g) (Kd.R_base2 HO542.out)); have n3_ := Aside0.mk (ho); clear HI0; clear HB; clear HK; clear HO542; have HI0 := n0_; have HB := n1_; have HK := n2_; have HO547 := n3_; clear n0_ n1_ n2_ n3_; clear ho hb hg hat))
           go_meet
           case rel => exact ⟨_, (y545), H', ⟨by have := HK1.out; have := HK2.out; first | omega | exact Nat.le_refl _⟩, ⟨by (with_reducible repeat (first | apply Kd.R_alloc | apply Kd.R_drewN | apply Kd.R_drew)); exact HO547.out⟩, ⟨by repeat (first | (with_reducible first | exact HI0.out | apply IsS100.alloc | apply IsS100.drewN | apply IsS100.drew | apply IsS100.set_1) | exact HI0.out)⟩, ⟨by repeat (first | (with_reducible first | exact HK.out | apply KeepBut.set_ | apply keep_drewN | apply keep_drew | apply keep_alloc) | exact HK.out)⟩, ⟨by repeat (first | (with_reducible first | exact HB.out | apply below_alloc | apply pw_below_drewN | apply below_drew1 | refine below_set ?_ (IsS100.ge HI0.out)) | exact HB.out)⟩⟩
          ·rw [if_neg c123] at H
           exact absurd H (by simp)
         ·rw [if_neg c122] at H
          have c122b0 : (t543 == 0) = false := beq_eq_false_iff_ne.mpr c122
          have c122b1 : (t543 != 0) = true := bne_iff_ne.mpr c122
          (first | rw [c122b0] | (simp only [i64_w, i32_w]; rw [c122b0]) | skip)
          have H' := Aside0.mk H
          clear H
          go_wp2
          go_meet
          case rel => exact ⟨_, (rd_L4 x7_2 0), H', ⟨by have := HK1.out; have := HK2.out; first | omega | exact Nat.le_refl _⟩, ⟨by (with_reducible repeat (first | apply Kd.R_alloc | apply Kd.R_drewN | apply Kd.R_drew)); exact HO542.out⟩, ⟨by repeat (first | (with_reducible first | exact HI0.out | apply IsS100.alloc | apply IsS100.drewN | apply IsS100.drew | apply IsS100.set_1) | exact HI0.out)⟩, ⟨by repeat (first | (with_reducible first | exact HK.out | apply KeepBut.set_ | apply keep_drewN | apply keep_drew | apply keep_alloc) | exact HK.out)⟩, ⟨by repeat (first | (with_reducible first | exact HB.out | apply below_alloc | apply pw_below_drewN | apply below_drew1 | refine below_set ?_ (IsS100.ge HI0.out)) | exact HB.out)⟩⟩
        case rest =>
         clear HC119
         try clear c1
         try clear q1
         try clear c2
         try clear p2
         try clear c3
         try clear c5
         try clear p5
         try clear q5
         try clear hx5
         try clear qi5
         try clear c6
         try clear p6
         try clear c8
         try clear c9
         try clear c11
         try clear q11
         try clear c12
         try clear c29
         try clear c29b0
         try clear c29b1
         try clear c31
         try clear c50
         try clear p50
         try clear q50
         try clear hx50
         try clear c51
         try clear p51
         try clear q51
         try clear hx51
         try clear c54
         try clear p54
         try clear q54
         try clear hx54
         try clear qi54
         try clear c64
         try clear p64
         try clear c83
         try clear c83b0
         try clear c84
         try clear c84b0
         try clear c85
         try clear c87
         try clear c87b0
         try clear c88
         try clear c88b0
         try clear c89
         try clear c91
         try clear c92
         try clear c92b0
         try clear c93
         try clear c93b0
         try clear c93b1
         try clear c94
         try clear c95
         try clear c97
         try clear c97b0
         try clear c97b1
         try clear c98
         try clear c98b0
         try clear c98b1
         try clear c99
         try clear q111
         try clear c115
         try clear q115
         try clear c117
         try clear c117b0
         try clear c117b1
         try clear c122
         try clear c122b0
         try clear c122b1
         try clear c123
         try clear hx508_0
         try clear hx512_0
         try clear hx541_0
         try clear p508
         try clear p512
         try clear p541
         try clear q0115
         try clear q111
         try clear q115
         try clear q508
         try clear q512
         try clear q541
         obtain ⟨kq, x13_118, HA, HJ118, HO_13, HI0, HK, HB⟩ := hcut
         cases kq with
         | zero => exact absurd HA.out (by simp [spec_l20Term.j2])
         | succ kj118 =>
          have H := HA.out
          clear HA
          simp only [spec_l20Term.j2] at H
          replace H := Option.bind_eq_some_iff.mp H
          obtain ⟨⟨t548, t549⟩, A1250, H⟩ := H
          replace H : (if t548 = true then ((spec_l20Rd_pick.f kj118 s0_0 t549 3).bind fun bt550 => (if bt550.1 = 0 then (some ((([] : List (S83))), bt550.2)) else (if bt550.1 = 1 then (if x13_118.length < 8796093022208 then (some ((x13_118 ++ [(⟨5, 0⟩ : S83)]), bt550.2)) else (none)) else ((spec_l20Rd_pick.f kj118 s0_0 bt550.2 2).bind fun bt558 => (if 0 < (x13_118.length : Int) then (some ((x13_118.set (0 : Int).toNat (⟨bt558.1, 6⟩ : S83)), bt558.2)) else (none)))))) else (some (x13_118, t549))) = some (r1, r2) := H
          have A125 := Aside0.mk A1250
          clear A1250
          by_cases c126 : t548 = true
          ·subst c126
           have H1 : ((spec_l20Rd_pick.f kj118 s0_0 t549 3).bind fun bt550 => (if bt550.1 = 0 then (some ((([] : List (S83))), bt550.2)) else (if bt550.1 = 1 then (if x13_118.length < 8796093022208 then (some ((x13_118 ++ [(⟨5, 0⟩ : S83)]), bt550.2)) else (none)) else ((spec_l20Rd_pick.f kj118 s0_0 bt550.2 2).bind fun bt558 => (if 0 < (x13_118.length : Int) then (some ((x13_118.set (0 : Int).toNat (⟨bt558.1, 6⟩ : S83)), bt558.2)) else (none)))))) = some (r1, r2) := by rw [if_pos rfl] at H; exact H
           clear H
           have H := H1
           clear H1
           replace H := Option.bind_eq_some_iff.mp H
           obtain ⟨⟨t550, t551⟩, A1270, H⟩ := H
           replace H : (if t550 = 0 then (some ((([] : List (S83))), t551)) else (if t550 = 1 then (if x13_118.length < 8796093022208 then (some ((x13_118 ++ [(⟨5, 0⟩ : S83)]), t551)) else (none)) else ((spec_l20Rd_pick.f kj118 s0_0 t551 2).bind fun bt558 => (if 0 < (x13_118.length : Int) then (some ((x13_118.set (0 : Int).toNat (⟨bt558.1, 6⟩ : S83)), bt558.2)) else (none))))) = some (r1, r2) := H
           have A127 := Aside0.mk A1270
           clear A1270
           by_cases c128 : t550 = 0
           ·rw [if_pos c128] at H
            have c128b0 : (t550 == 0) = true := beq_iff_eq.mpr c128
            have c128b1 : (t550 != 0) = false := bne_eq_false_iff_eq.mpr c128
            clear c128
            obtain ⟨y552, hy552⟩ : ∃ y_ : List (S83), y_ = (([] : List (S83))) := ⟨_, rfl⟩
            replace H : (some (y552, t551)) = some (r1, r2) := by first | (rw [hy552]; with_reducible exact H) | (have H2_ := (Option.bind_some _ _).symm.trans H; rw [hy552]; with_reducible exact H2_) | (have H2_ := (Option.bind_some _ _).symm.trans H; with_reducible exact H2_) | with_reducible exact H | (rw [hy552]; exact H) | exact H
            have Ny552 := Aside0.mk hy552
            clear hy552
            simp only [Option.some.injEq, Prod.mk.injEq] at H
            obtain ⟨rfl, rfl⟩ := H
            go_wp2_with (first | ((with_reducible refine gate_callee (f := 91) rfl ?_); refine goesL_ (some 119) rfl rfl Try.func91 (by kernel_rfl) rfl #[.pointer (some ⟨g, 0, none⟩), .int .i64 a2] rfl (by (try simp only [List.map_toArray, List.map_cons, List.map_nil]); first | done | rfl | (simp only [List.length_drop, List.length_take]; rfl)) ?_; (with_reducible refine (spec_l20Rd_odd.calls kj118 g s0_0 t544 a2 true t549 w0 _ ?side1 ?side2 A125.out).mono ?_); (case side1 => repeat (first | (with_reducible first | exact HI0.out | apply IsS100.alloc | apply IsS100.drewN | apply IsS100.drew | apply IsS100.set_1) | exact HI0.out)); (case side2 => repeat (first | (with_reducible first | exact HB.out | apply below_alloc | apply pw_below_drewN | apply below_drew1 | refine below_set ?_ (IsS100.ge HI0.out)) | exact HB.out)); rintro e w129 ⟨rfl, hi, hb, hk⟩; refine ⟨_, rfl, ?_⟩; have n0_ := Aside0.mk (Kd.R_mono (Kd.R_keep (IsS100.apart (show IsS100 w0 _ g s0_0 t544 from by repeat (first | (with_reducible first | exact HI0.out | apply IsS100.alloc | apply IsS100.drewN | apply IsS100.drew | apply IsS100.set_1) | exact HI0.out)) (by (with_reducible repeat (first | apply Kd.R_alloc | apply Kd.R_drewN | apply Kd.R_drew)); exact HO_13.out) (by decide)) hk (fun _ h => h.2)) (fun _ h => h.1)); have n1_ := Aside0.mk (KeepBut.trans (by repeat (first | (with_reducible first | exact HK.out | apply KeepBut.set_ | apply keep_drewN | apply keep_drew | apply keep_alloc) | exact HK.out)) hk (.inl rfl)); have n2_ := Aside0.mk (hb); have n3_ := Aside0.mk (hi); clear HO_13; clear HK; clear HB; clear HI0; have HO_13 := n0_; have HK := n1_; have HB := n2_; have HI0 := n3_; clear n0_ n1_ n2_ n3_; (try clear hb); (try clear hb2); (try clear hk); (try clear hi)) | ((with_reducible refine gate_callee (f := 64) rfl ?_); refine goesL_ (some 121) rfl rfl Try.func64 (by kernel_rfl) rfl #[.pointer (some ⟨g, 0, none⟩), .int .i64 3] rfl (by (try simp only [List.map_toArray, List.map_cons, List.map_nil]); first | done | rfl | (simp only [List.length_drop, List.length_take]; rfl)) ?_; (with_reducible refine (spec_l20Rd_pick.calls kj118 g s0_0 t549 3 t550 t551 w0 _ ?side1 ?side2 A127.out).mono ?_); (case side1 => repeat (first | (with_reducible first | exact HI0.out | apply IsS100.alloc | apply IsS100.drewN | apply IsS100.drew | apply IsS100.set_1) | exact HI0.out)); (case side2 => repeat (first | (with_reducible first | exact HB.out | apply below_alloc | apply pw_below_drewN | apply below_drew1 | refine below_set ?_ (IsS100.ge HI0.out)) | exact HB.out)); rintro e w130 ⟨rfl, hi, hb, hk⟩; refine ⟨_, rfl, ?_⟩; have n0_ := Aside0.mk (Kd.R_mono (Kd.R_keep (IsS100.apart (show IsS100 w0 _ g s0_0 t549 from by repeat (first | (with_reducible first | exact HI0.out | apply IsS100.alloc | apply IsS100.drewN | apply IsS100.drew | apply IsS100.set_1) | exact HI0.out)) (by (with_reducible repeat (first | apply Kd.R_alloc | apply Kd.R_drewN | apply Kd.R_drew)); exact HO_13.out) (by decide)) hk (fun _ h => h.2)) (fun _ h => h.1)); have n1_ := Aside0.mk (KeepBut.trans (by repeat (first | (with_reducible first | exact HK.out | apply KeepBut.set_ | apply keep_drewN | apply keep_drew | apply keep_alloc) | exact HK.out)) hk (.inl rfl)); have n2_ := Aside0.mk (hb); have n3_ := Aside0.mk (hi); clear HO_13; clear HK; clear HB; clear HI0; have HO_13 := n0_; have HK := n1_; have HB := n2_; have HI0 := n3_; clear n0_ n1_ n2_ n3_; (try clear hb); (try clear hb2); (try clear hk); (try clear hi)) | ((with_reducible refine gate_dst (N := 129) rfl ?_); refine Kd.R_lit k83 _ 83 ?hg (N := 129) ?hd (xs := ([] : List (S83))) (inner := []) (ok := fun _ => True) (okp := fun _ => True) ?hr ?hp (fun _ hk => hk) trivial (Below.refl _ _) (Nat.le_refl _) (by simp) ?_; (case hd => rfl); (case hg => rfl); (case hr => first | (go_simp; done) | (go_simp; rfl)); (case hp => exact (Reps.none _ _)); intro v553 w131 ho132 hb hg_ hnew_; clear hg_ hnew_; (first | rw [← Ny552.out] at ho132 | (simp only [Int.reduceToNat] at ho132; rw [← Ny552.out] at ho132)); have n0_ := Aside0.mk (Kd.R_elder' (by (with_reducible repeat (first | apply Kd.R_alloc | apply Kd.R_drewN | apply Kd.R_drew)); exact HO_13.out) (Kd.R_base ho132) hb); have n1_ := Aside0.mk (Kd.R_lower (Kd.R_new' ho132 (Kd.R_lt (by (with_reducible repeat (first | apply Kd.R_alloc | apply Kd.R_drewN | apply Kd.R_drew)); exact HO_13.out))) (keep_size (w := w) (g := g) (row := none) (by repeat (first | (with_reducible first | exact HK.out | apply KeepBut.set_ | apply keep_drewN | apply keep_drew | apply keep_alloc) | exact HK.out)))); have n2_ := Aside0.mk (IsS100.below (by repeat (first | (with_reducible first | exact HI0.out | apply IsS100.alloc | apply IsS100.drewN | apply IsS100.drew | apply IsS100.set_1) | exact HI0.out)) hb); have n3_ := Aside0.mk (KeepBut.trans (by repeat (first | (with_reducible first | exact HK.out | apply KeepBut.set_ | apply keep_drewN | apply keep_drew | apply keep_alloc) | exact HK.out)) (KeepBut.of_below hb g none) (.inl rfl)); have n4_ := Aside0.mk (below_step (by repeat (first | (with_reducible first | exact HB.out | apply below_alloc | apply pw_below_drewN | apply below_drew1 | refine below_set ?_ (IsS100.ge HI0.out)) | exact HB.out)) hb); clear HO_13; clear HI0; clear HK; clear HB; have HO_13 := n0_; have HO554 := n1_; have HI0 := n2_; have HK := n3_; have HB := n4_; clear n0_ n1_ n2_ n3_ n4_; clear hb ho132))
            go_ret
            exact ⟨_, by first | rfl | (simp [errW_none, errW_some] <;> rfl) | (simp only [← hji4, ← hji5]; first | rfl | (simp [errW_none, errW_some] <;> rfl)) | (simp [*, errW_none, errW_some] <;> rfl), by (with_reducible repeat (first | apply Kd.R_alloc | apply Kd.R_drewN | apply Kd.R_drew)); exact Kd.R_mono HO554.out (fun _ hk => trivial), by repeat (first | (with_reducible first | exact HI0.out | apply IsS100.alloc | apply IsS100.drewN | apply IsS100.drew | apply IsS100.set_1) | exact HI0.out), by repeat (first | (with_reducible first | exact HB.out | apply below_alloc | apply pw_below_drewN | apply below_drew1 | refine below_set ?_ (IsS100.ge HI0.out)) | exact HB.out), by repeat (first | (with_reducible first | exact HK.out | apply KeepBut.set_ | apply keep_drewN | apply keep_drew | apply keep_alloc) | exact HK.out)⟩
           ·rw [if_neg c128] at H
            have c128b0 : (t550 == 0) = false := beq_eq_false_iff_ne.mpr c128
            have c128b1 : (t550 != 0) = true := bne_iff_ne.mpr c128
            by_cases c133 : t550 = 1
            ·rw [if_pos c133] at H
             have c133b0 : (t550 == 1) = true := beq_iff_eq.mpr c133
             have c133b1 : (t550 != 1) = false := bne_eq_false_iff_eq.mpr c133
             clear c133
             by_cases c134 : x13_118.length < 8796093022208
             ·rw [if_pos c134] at H
              have LMc134 := Aside0.mk c134
              clear c134
              obtain ⟨y555, hy555⟩ : ∃ y_ : List (S83), y_ = (x13_118 ++ [(⟨5, 0⟩ : S83)]) := ⟨_, rfl⟩
              replace H : (some (y555, t551)) = some (r1, r2) := by first | (rw [hy555]; with_reducible exact H) | (have H2_ := (Option.bind_some _ _).symm.trans H; rw [hy555]; with_reducible exact H2_) | (have H2_ := (Option.bind_some _ _).symm.trans H; with_reducible exact H2_) | with_reducible exact H | (rw [hy555]; exact H) | exact H
              have Ny555 := Aside0.mk hy555
              clear hy555
              simp only [Option.some.injEq, Prod.mk.injEq] at H
              obtain ⟨rfl, rfl⟩ := H
              go_wp2_with (first | ((with_reducible refine gate_callee (f := 91) rfl ?_); refine goesL_ (some 119) rfl rfl Try.func91 (by kernel_rfl) rfl #[.pointer (some ⟨g, 0, none⟩), .int .i64 a2] rfl (by (try simp only [List.map_toArray, List.map_cons, List.map_nil]); first | done | rfl | (simp only [List.length_drop, List.length_take]; rfl)) ?_; (with_reducible refine (spec_l20Rd_odd.calls kj118 g s0_0 t544 a2 true t549 w0 _ ?side1 ?side2 A125.out).mono ?_); (case side1 => repeat (first | (with_reducible first | exact HI0.out | apply IsS100.alloc | apply IsS100.drewN | apply IsS100.drew | apply IsS100.set_1) | exact HI0.out)); (case side2 => repeat (first | (with_reducible first | exact HB.out | apply below_alloc | apply pw_below_drewN | apply below_drew1 | refine below_set ?_ (IsS100.ge HI0.out)) | exact HB.out)); rintro e w135 ⟨rfl, hi, hb, hk⟩; refine ⟨_, rfl, ?_⟩; have n0_ := Aside0.mk (Kd.R_mono (Kd.R_keep (IsS100.apart (show IsS100 w0 _ g s0_0 t544 from by repeat (first | (with_reducible first | exact HI0.out | apply IsS100.alloc | apply IsS100.drewN | apply IsS100.drew | apply IsS100.set_1) | exact HI0.out)) (by (with_reducible repeat (first | apply Kd.R_alloc | apply Kd.R_drewN | apply Kd.R_drew)); exact HO_13.out) (by decide)) hk (fun _ h => h.2)) (fun _ h => h.1)); have n1_ := Aside0.mk (KeepBut.trans (by repeat (first | (with_reducible first | exact HK.out | apply KeepBut.set_ | apply keep_drewN | apply keep_drew | apply keep_alloc) | exact HK.out)) hk (.inl rfl)); have n2_ := Aside0.mk (hb); have n3_ := Aside0.mk (hi); clear HO_13; clear HK; clear HB; clear HI0; have HO_13 := n0_; have HK := n1_; have HB := n2_; have HI0 := n3_; clear n0_ n1_ n2_ n3_; (try clear hb); (try clear hb2); (try clear hk); (try clear hi)) | ((with_reducible refine gate_callee (f := 64) rfl ?_); refine goesL_ (some 121) rfl rfl Try.func64 (by kernel_rfl) rfl #[.pointer (some ⟨g, 0, none⟩), .int .i64 3] rfl (by (try simp only [List.map_toArray, List.map_cons, List.map_nil]); first | done | rfl | (simp only [List.length_drop, List.length_take]; rfl)) ?_; (with_reducible refine (spec_l20Rd_pick.calls kj118 g s0_0 t549 3 t550 t551 w0 _ ?side1 ?side2 A127.out).mono ?_); (case side1 => repeat (first | (with_reducible first | exact HI0.out | apply IsS100.alloc | apply IsS100.drewN | apply IsS100.drew | apply IsS100.set_1) | exact HI0.out)); (case side2 => repeat (first | (with_reducible first | exact HB.out | apply below_alloc | apply pw_below_drewN | apply below_drew1 | refine below_set ?_ (IsS100.ge HI0.out)) | exact HB.out)); rintro e w136 ⟨rfl, hi, hb, hk⟩; refine ⟨_, rfl, ?_⟩; have n0_ := Aside0.mk (Kd.R_mono (Kd.R_keep (IsS100.apart (show IsS100 w0 _ g s0_0 t549 from by repeat (first | (with_reducible first | exact HI0.out | apply IsS100.alloc | apply IsS100.drewN | apply IsS100.drew | apply IsS100.set_1) | exact HI0.out)) (by (with_reducible repeat (first | apply Kd.R_alloc | apply Kd.R_drewN | apply Kd.R_drew)); exact HO_13.out) (by decide)) hk (fun _ h => h.2)) (fun _ h => h.1)); have n1_ := Aside0.mk (KeepBut.trans (by repeat (first | (with_reducible first | exact HK.out | apply KeepBut.set_ | apply keep_drewN | apply keep_drew | apply keep_alloc) | exact HK.out)) hk (.inl rfl)); have n2_ := Aside0.mk (hb); have n3_ := Aside0.mk (hi); clear HO_13; clear HK; clear HB; clear HI0; have HO_13 := n0_; have HK := n1_; have HB := n2_; have HI0 := n3_; clear n0_ n1_ n2_ n3_; (try clear hb); (try clear hb2); (try clear hk); (try clear hi)) | ((with_reducible refine gate_builtin (b := .append) (xs := #[.tmp 132, .tmp 134]) rfl ?_); at_builtin; refine Kd.R_append k83 w.heap.size rfl (.tmp 132) (.tmp 134) 35 83 (.agg #[(.int .i64 0), (.int .i64 0)]) 16 rfl Try.underlying35 info83 rfl (by decide) (by omega) u13 x13_118 (⟨5, 0⟩ : S83) [.int .i64 5, .int .i64 0] (fun _ => True) (fun _ => False) rfl rfl ?aP (fun _ hk => hk.elim) ?aF ?aO (Below.refl _ _) ?aS ?aL ?_; (case aP => exact k83_mkM _ _ _ (⟨5, 0⟩ : S83)); (case aF => exact (fun _ _ => trivial)); (case aO => exact (by (with_reducible repeat (first | apply Kd.R_alloc | apply Kd.R_drewN | apply Kd.R_drew)); exact HO_13.out)); (case aS => exact (keep_size (w := w) (g := g) (row := none) (by repeat (first | (with_reducible first | exact HK.out | apply KeepBut.set_ | apply keep_drewN | apply keep_drew | apply keep_alloc) | exact HK.out)))); (case aL => have := LMc134.out; omega); intro v556 w137 ho hb hg hat; rw [← Ny555.out] at ho; have n0_ := Aside0.mk (IsS100.grown (by repeat (first | (with_reducible first | exact HI0.out | apply IsS100.alloc | apply IsS100.drewN | apply IsS100.drew | apply IsS100.set_1) | exact HI0.out)) hg (IsS100.own_ne HI0.out HO_13.out (by decide))); have n1_ := Aside0.mk (below_weaken (by repeat (first | (with_reducible first | exact HB.out | apply below_alloc | apply pw_below_drewN | apply below_drew1 | refine below_set ?_ (IsS100.ge HI0.out)) | exact HB.out)) HL.out hb); have n2_ := Aside0.mk (KeepBut.trans (by repeat (first | (with_reducible first | exact HK.out | apply KeepBut.set_ | apply keep_drewN | apply keep_drew | apply keep_alloc) | exact HK.out)) (KeepBut.of_grown hg g) (Kd.R_base2 HO_13.out)); have n3_ := Aside0.mk (ho); clear HI0; clear HB; clear HK; clear HO_13; have HI0 := n0_; have HB := n1_; have HK := n2_; have HO557 := n3_; clear n0_ n1_ n2_ n3_; clear ho hb hg hat))
              go_ret
              exact ⟨_, by first | rfl | (simp [errW_none, errW_some] <;> rfl) | (simp only [← hji4, ← hji5]; first | rfl | (simp [errW_none, errW_some] <;> rfl)) | (simp [*, errW_none, errW_some] <;> rfl), by (with_reducible repeat (first | apply Kd.R_alloc | apply Kd.R_drewN | apply Kd.R_drew)); exact HO557.out, by repeat (first | (with_reducible first | exact HI0.out | apply IsS100.alloc | apply IsS100.drewN | apply IsS100.drew | apply IsS100.set_1) | exact HI0.out), by repeat (first | (with_reducible first | exact HB.out | apply below_alloc | apply pw_below_drewN | apply below_drew1 | refine below_set ?_ (IsS100.ge HI0.out)) | exact HB.out), by repeat (first | (with_reducible first | exact HK.out | apply KeepBut.set_ | apply keep_drewN | apply keep_drew | apply keep_alloc) | exact HK.out)⟩
             ·rw [if_neg c134] at H
              exact absurd H (by simp)
            ·rw [if_neg c133] at H
             have c133b0 : (t550 == 1) = false := beq_eq_false_iff_ne.mpr c133
             have c133b1 : (t550 != 1) = true := bne_iff_ne.mpr c133
             replace H := Option.bind_eq_some_iff.mp H
             obtain ⟨⟨t558, t559⟩, A1380, H⟩ := H
             replace H : (if 0 < (x13_118.length : Int) then (some ((x13_118.set (0 : Int).toNat (⟨t558, 6⟩ : S83)), t559)) else (none)) = some (r1, r2) := H
             have A138 := Aside0.mk A1380
             clear A1380
             by_cases c139 : 0 < (x13_118.length : Int)
             ·rw [if_pos c139] at H
              have c139b0 : decide (0 < (x13_118.length : Int)) = true := decide_eq_true c139
              have c139b1 : decide (0 < x13_118.length) = true := decide_eq_true (by omega)
              clear c139
              obtain ⟨y560, hy560⟩ : ∃ y_ : List (S83), y_ = (x13_118.set (0 : Int).toNat (⟨t558, 6⟩ : S83)) := ⟨_, rfl⟩
              replace H : (some (y560, t559)) = some (r1, r2) := by first | (rw [hy560]; with_reducible exact H) | (have H2_ := (Option.bind_some _ _).symm.trans H; rw [hy560]; with_reducible exact H2_) | (have H2_ := (Option.bind_some _ _).symm.trans H; with_reducible exact H2_) | with_reducible exact H | (rw [hy560]; exact H) | exact H
              have Ny560 := Aside0.mk hy560
              clear hy560
              simp only [Option.some.injEq, Prod.mk.injEq] at H
              obtain ⟨rfl, rfl⟩ := H
              go_wp2_with (first | ((with_reducible refine gate_callee (f := 91) rfl ?_); refine goesL_ (some 119) rfl rfl Try.func91 (by kernel_rfl) rfl #[.pointer (some ⟨g, 0, none⟩), .int .i64 a2] rfl (by (try simp only [List.map_toArray, List.map_cons, List.map_nil]); first | done | rfl | (simp only [List.length_drop, List.length_take]; rfl)) ?_; (with_reducible refine (spec_l20Rd_odd.calls kj118 g s0_0 t544 a2 true t549 w0 _ ?side1 ?side2 A125.out).mono ?_); (case side1 => repeat (first | (with_reducible first | exact HI0.out | apply IsS100.alloc | apply IsS100.drewN | apply IsS100.drew | apply IsS100.set_1) | exact HI0.out)); (case side2 => repeat (first | (with_reducible first | exact HB.out | apply below_alloc | apply pw_below_drewN | apply below_drew1 | refine below_set ?_ (IsS100.ge HI0.out)) | exact HB.out)); rintro e w141 ⟨rfl, hi, hb, hk⟩; refine ⟨_, rfl, ?_⟩; have n0_ := Aside0.mk (Kd.R_mono (Kd.R_keep (IsS100.apart (show IsS100 w0 _ g s0_0 t544 from by repeat (first | (with_reducible first | exact HI0.out | apply IsS100.alloc | apply IsS100.drewN | apply IsS100.drew | apply IsS100.set_1) | exact HI0.out)) (by (with_reducible repeat (first | apply Kd.R_alloc | apply Kd.R_drewN | apply Kd.R_drew)); exact HO_13.out) (by decide)) hk (fun _ h => h.2)) (fun _ h => h.1)); have n1_ := Aside0.mk (KeepBut.trans (by repeat (first | (with_reducible first | exact HK.out | apply KeepBut.set_ | apply keep_drewN | apply keep_drew | apply keep_alloc) | exact HK.out)) hk (.inl rfl)); have n2_ := Aside0.mk (hb); have n3_ := Aside0.mk (hi); clear HO_13; clear HK; clear HB; clear HI0; have HO_13 := n0_; have HK := n1_; have HB := n2_; have HI0 := n3_; clear n0_ n1_ n2_ n3_; (try clear hb); (try clear hb2); (try clear hk); (try clear hi)) | ((with_reducible refine gate_callee (f := 64) rfl ?_); refine goesL_ (some 121) rfl rfl Try.func64 (by kernel_rfl) rfl #[.pointer (some ⟨g, 0, none⟩), .int .i64 3] rfl (by (try simp only [List.map_toArray, List.map_cons, List.map_nil]); first | done | rfl | (simp only [List.length_drop, List.length_take]; rfl)) ?_; (with_reducible refine (spec_l20Rd_pick.calls kj118 g s0_0 t549 3 t550 t551 w0 _ ?side1 ?side2 A127.out).mono ?_); (case side1 => repeat (first | (with_reducible first | exact HI0.out | apply IsS100.alloc | apply IsS100.drewN | apply IsS100.drew | apply IsS100.set_1) | exact HI0.out)); (case side2 => repeat (first | (with_reducible first | exact HB.out | apply below_alloc | apply pw_below_drewN | apply below_drew1 | refine below_set ?_ (IsS100.ge HI0.out)) | exact HB.out)); rintro e w142 ⟨rfl, hi, hb, hk⟩; refine ⟨_, rfl, ?_⟩; have n0_ := Aside0.mk (Kd.R_mono (Kd.R_keep (IsS100.apart (show IsS100 w0 _ g s0_0 t549 from by repeat (first | (with_reducible first | exact HI0.out | apply IsS100.alloc | apply IsS100.drewN | apply IsS100.drew | apply IsS100.set_1) | exact HI0.out)) (by (with_reducible repeat (first | apply Kd.R_alloc | apply Kd.R_drewN | apply Kd.R_drew)); exact HO_13.out) (by decide)) hk (fun _ h => h.2)) (fun _ h => h.1)); have n1_ := Aside0.mk (KeepBut.trans (by repeat (first | (with_reducible first | exact HK.out | apply KeepBut.set_ | apply keep_drewN | apply keep_drew | apply keep_alloc) | exact HK.out)) hk (.inl rfl)); have n2_ := Aside0.mk (hb); have n3_ := Aside0.mk (hi); clear HO_13; clear HK; clear HB; clear HI0; have HO_13 := n0_; have HK := n1_; have HB := n2_; have HI0 := n3_; clear n0_ n1_ n2_ n3_; (try clear hb); (try clear hb2); (try clear hk); (try clear hi)) | ((with_reducible refine gate_callee (f := 64) rfl ?_); refine goesL_ (some 124) rfl rfl Try.func64 (by kernel_rfl) rfl #[.pointer (some ⟨g, 0, none⟩), .int .i64 2] rfl (by (try simp only [List.map_toArray, List.map_cons, List.map_nil]); first | done | rfl | (simp only [List.length_drop, List.length_take]; rfl)) ?_; (with_reducible refine (spec_l20Rd_pick.calls kj118 g s0_0 t551 2 t558 t559 w0 _ ?side1 ?side2 A138.out).mono ?_); (case side1 => repeat (first | (with_reducible first | exact HI0.out | apply IsS100.alloc | apply IsS100.drewN | apply IsS100.drew | apply IsS100.set_1) | exact HI0.out)); (case side2 => repeat (first | (with_reducible first | exact HB.out | apply below_alloc | apply pw_below_drewN | apply below_drew1 | refine below_set ?_ (IsS100.ge HI0.out)) | exact HB.out)); rintro e w143 ⟨rfl, hi, hb, hk⟩; refine ⟨_, rfl, ?_⟩; have n0_ := Aside0.mk (Kd.R_mono (Kd.R_keep (IsS100.apart (show IsS100 w0 _ g s0_0 t551 from by repeat (first | (with_reducible first | exact HI0.out | apply IsS100.alloc | apply IsS100.drewN | apply IsS100.drew | apply IsS100.set_1) | exact HI0.out)) (by (with_reducible repeat (first | apply Kd.R_alloc | apply Kd.R_drewN | apply Kd.R_drew)); exact HO_13.out) (by decide)) hk (fun _ h => h.2)) (fun _ h => h.1)); have n1_ := Aside0.mk (KeepBut.trans (by repeat (first | (with_reducible first | exact HK.out | apply KeepBut.set_ | apply keep_drewN | apply keep_drew | apply keep_alloc) | exact HK.out)) hk (.inl rfl)); have n2_ := Aside0.mk (hb); have n3_ := Aside0.mk (hi); clear HO_13; clear HK; clear HB; clear HI0; have HO_13 := n0_; have HK := n1_; have HB := n2_; have HI0 := n3_; clear n0_ n1_ n2_ n3_; (try clear hb); (try clear hb2); (try clear hk); (try clear hi); have p140 : 0 ≤ (0 : Int) := (by omega); have q140 : (0 : Int) < ((x13_118.length : Int) : Int) := of_decide_eq_true (by first | (with_reducible assumption) | assumption); have qi140 : (0 < x13_118.length) = True := eq_true (by omega); obtain ⟨go140, co140, eo140, gb140, gl140, cl140, HG140⟩ := Kd.R_form HO_13.out (by omega); (first | cases eo140 | (injection eo140 with ea_ en_ ec_; (first | subst ea_ | (injection ea_ with ea_; subst ea_)); subst ec_; clear en_)); have GB140 := Aside0.mk gb140; have GG140 := Aside0.mk HG140; clear gb140 gl140 HG140; obtain ⟨ce140, hcl140, hM140, hcc140, hfr140⟩ := Kd.R_elem HO_13.out z83 (0 : Int) p140 q140; obtain rfl := k83_openM hM140; have hx140_0 : w143.cell? ⟨go140, (0 : Int).toNat * 2, none⟩ = some (.int .i64 ((rd_T83 x13_118 0).f0)) := hcc140 0 _ rfl; have hx140_1 : w143.cell? ⟨go140, (0 : Int).toNat * 2 + 1, none⟩ = some (.int .i64 ((rd_T83 x13_118 0).f1)) := hcc140 1 _ rfl; have hf140_0 : w143.frozen? ⟨go140, (0 : Int).toNat * 2, none⟩ = false := hfr140 0; have hf140_1 : w143.frozen? ⟨go140, (0 : Int).toNat * 2 + 1, none⟩ = false := hfr140 1; clear hcl140 hcc140 hfr140; (try clear hM140); (try rw [show ((0 : Int)).toNat = 0 from rfl] at hx140_0); (try simp only [Nat.reduceMul, Nat.zero_mul, Nat.zero_add, Nat.reduceAdd] at hx140_0); (try rw [show ((0 : Int)).toNat = 0 from rfl] at hf140_0); (try simp only [Nat.reduceMul, Nat.zero_mul, Nat.zero_add, Nat.reduceAdd] at hf140_0); (try rw [show ((0 : Int)).toNat = 0 from rfl] at hx140_1); (try simp only [Nat.reduceMul, Nat.zero_mul, Nat.zero_add, Nat.reduceAdd] at hx140_1); (try rw [show ((0 : Int)).toNat = 0 from rfl] at hf140_1); (try simp only [Nat.reduceMul, Nat.zero_mul, Nat.zero_add, Nat.reduceAdd] at hf140_1); replace p140 := eq_true p140; replace q140 := eq_true q140; have HX144 := Aside0.mk (show Kd.R k83 83 w143 w.heap.size (fun _ => True) (.slice (some ⟨go140, 0, none⟩) x13_118.length co140) x13_118 from (by (with_reducible repeat (first | apply Kd.R_alloc | apply Kd.R_drewN | apply Kd.R_drew)); exact HO_13.out)); obtain ⟨ce144, hcl144, hM144, hcc144, hfr144⟩ := Kd.R_elem HX144.out z83 (0 : Int) (by omega) (by have h_ : (0 : Int) < ((x13_118.length : Int) : Int) := of_decide_eq_true (by first | (with_reducible assumption) | assumption); first | exact h_ | (have e_ := (Kd.R_reads' HO_13.out).1; omega) | simpa using h_); obtain rfl := k83_openM hM144; have HP144 := Kd.R_seg HX144.out (0 : Int) (by omega) (by have h_ : (0 : Int) < ((x13_118.length : Int) : Int) := of_decide_eq_true (by first | (with_reducible assumption) | assumption); first | exact h_ | (have e_ := (Kd.R_reads' HO_13.out).1; omega) | simpa using h_) (seg := [.int .i64 t558, .int .i64 6]) (j := 0) hcl144 hcc144 (show 2 ≤ 2 from by decide) (x' := (⟨t558, 6⟩ : S83)) (k83_mkM _ _ _ (⟨t558, 6⟩ : S83) ) (fun _ hk => hk); have hx144_0 := hcc144 0 _ rfl; (try simp only [show (k83).sz = 2 from rfl, Nat.mul_one, Nat.add_zero] at hx144_0); (try rw [show ((0 : Int)).toNat = 0 from rfl] at hx144_0); (try simp only [Nat.reduceMul, Nat.zero_mul, Nat.zero_add, Nat.reduceAdd] at hx144_0); have hf144_0 := hfr144 0; (try simp only [show (k83).sz = 2 from rfl, Nat.mul_one, Nat.add_zero] at hf144_0); (try rw [show ((0 : Int)).toNat = 0 from rfl] at hf144_0); (try simp only [Nat.reduceMul, Nat.zero_mul, Nat.zero_add, Nat.reduceAdd] at hf144_0); have hx144_1 := hcc144 1 _ rfl; (try simp only [show (k83).sz = 2 from rfl, Nat.mul_one, Nat.add_zero] at hx144_1); (try rw [show ((0 : Int)).toNat = 0 from rfl] at hx144_1); (try simp only [Nat.reduceMul, Nat.zero_mul, Nat.zero_add, Nat.reduceAdd] at hx144_1); have hf144_1 := hfr144 1; (try simp only [show (k83).sz = 2 from rfl, Nat.mul_one, Nat.add_zero] at hf144_1); (try rw [show ((0 : Int)).toNat = 0 from rfl] at hf144_1); (try simp only [Nat.reduceMul, Nat.zero_mul, Nat.zero_add, Nat.reduceAdd] at hf144_1); clear hcl144 hcc144 hfr144; (try clear hM144)) | ((with_reducible refine gate_store (t := 83) (p := 126) rfl ?_); refine store_event (t := 83) (p := 126) (v := ?vo_w145) (w1 := ((w143.setCell ⟨go140, 0, none⟩ (.int .i64 t558)).setCell ⟨go140, 1, none⟩ (.int .i64 6))) ?hg ?ho ?hn ?hr ?_; (case ho => rfl); (case hg => rfl); (case hn => rfl); (case hr => first | (go_simp; done) | (go_simp; rfl)); intro w145 hw; have hg : w143.grownBy w145 (some go140) := (by rw [hw]; exact HP144.2); have hp_ : Kd.R k83 83 w145 w.heap.size (fun _ => True) (.slice (some ⟨go140, 0, none⟩) x13_118.length co140) y560 := (by rw [hw, Ny560.out]; exact HP144.1); clear HP144; have n0_ := Aside0.mk (hp_); have n1_ := Aside0.mk (IsS100.grown (by repeat (first | (with_reducible first | exact HI0.out | apply IsS100.alloc | apply IsS100.drewN | apply IsS100.drew | apply IsS100.set_1) | exact HI0.out)) hg (IsS100.own_ne HI0.out HO_13.out (by decide))); have n2_ := Aside0.mk ((by rw [hw]; exact below_set (below_set (HB.out) (Nat.le_trans HL.out GB140.out)) (Nat.le_trans HL.out GB140.out) : Below w0.heap.size w0 w145)); have n3_ := Aside0.mk (KeepBut.trans (by repeat (first | (with_reducible first | exact HK.out | apply KeepBut.set_ | apply keep_drewN | apply keep_drew | apply keep_alloc) | exact HK.out)) (KeepBut.of_grown hg g) (Kd.R_base2 HO_13.out)); clear HO_13; clear HI0; clear HB; clear HK; have HO_13 := n0_; have HI0 := n1_; have HB := n2_; have HK := n3_; clear n0_ n1_ n2_ n3_; clear hg hw hp_))
              go_ret
              exact ⟨_, by first | rfl | (simp [errW_none, errW_some] <;> rfl) | (simp only [← hji4, ← hji5]; first | rfl | (simp [errW_none, errW_some] <;> rfl)) | (simp [*, errW_none, errW_some] <;> rfl), by (with_reducible repeat (first | apply Kd.R_alloc | apply Kd.R_drewN | apply Kd.R_drew)); exact HO_13.out, by repeat (first | (with_reducible first | exact HI0.out | apply IsS100.alloc | apply IsS100.drewN | apply IsS100.drew | apply IsS100.set_1) | exact HI0.out), by repeat (first | (with_reducible first | exact HB.out | apply below_alloc | apply pw_below_drewN | apply below_drew1 | refine below_set ?_ (IsS100.ge HI0.out)) | exact HB.out), by repeat (first | (with_reducible first | exact HK.out | apply KeepBut.set_ | apply keep_drewN | apply keep_drew | apply keep_alloc) | exact HK.out)⟩
             ·rw [if_neg c139] at H
              exact absurd H (by simp)
          ·replace c126 := Bool.eq_false_iff.mpr c126
           subst c126
           have H1 : (some (x13_118, t549)) = some (r1, r2) := by rw [if_neg (show ¬ (false = true) by decide)] at H; exact H
           clear H
           have H := H1
           clear H1
           simp only [Option.some.injEq, Prod.mk.injEq] at H
           obtain ⟨rfl, rfl⟩ := H
           go_wp2_with (first | ((with_reducible refine gate_callee (f := 91) rfl ?_); refine goesL_ (some 119) rfl rfl Try.func91 (by kernel_rfl) rfl #[.pointer (some ⟨g, 0, none⟩), .int .i64 a2] rfl (by (try simp only [List.map_toArray, List.map_cons, List.map_nil]); first | done | rfl | (simp only [List.length_drop, List.length_take]; rfl)) ?_; (with_reducible refine (spec_l20Rd_odd.calls kj118 g s0_0 t544 a2 false t549 w0 _ ?side1 ?side2 A125.out).mono ?_); (case side1 => repeat (first | (with_reducible first | exact HI0.out | apply IsS100.alloc | apply IsS100.drewN | apply IsS100.drew | apply IsS100.set_1) | exact HI0.out)); (case side2 => repeat (first | (with_reducible first | exact HB.out | apply below_alloc | apply pw_below_drewN | apply below_drew1 | refine below_set ?_ (IsS100.ge HI0.out)) | exact HB.out)); rintro e w146 ⟨rfl, hi, hb, hk⟩; refine ⟨_, rfl, ?_⟩; have n0_ := Aside0.mk (Kd.R_mono (Kd.R_keep (IsS100.apart (show IsS100 w0 _ g s0_0 t544 from by repeat (first | (with_reducible first | exact HI0.out | apply IsS100.alloc | apply IsS100.drewN | apply IsS100.drew | apply IsS100.set_1) | exact HI0.out)) (by (with_reducible repeat (first | apply Kd.R_alloc | apply Kd.R_drewN | apply Kd.R_drew)); exact HO_13.out) (by decide)) hk (fun _ h => h.2)) (fun _ h => h.1)); have n1_ := Aside0.mk (KeepBut.trans (by repeat (first | (with_reducible first | exact HK.out | apply KeepBut.set_ | apply keep_drewN | apply keep_drew | apply keep_alloc) | exact HK.out)) hk (.inl rfl)); have n2_ := Aside0.mk (hb); have n3_ := Aside0.mk (hi); clear HO_13; clear HK; clear HB; clear HI0; have HO_13 := n0_; have HK := n1_; have HB := n2_; have HI0 := n3_; clear n0_ n1_ n2_ n3_; (try clear hb); (try clear hb2); (try clear hk); (try clear hi)))
           go_ret
           exact ⟨_, by first | rfl | (simp [errW_none, errW_some] <;> rfl) | (simp only [← hji4, ← hji5]; first | rfl | (simp [errW_none, errW_some] <;> rfl)) | (simp [*, errW_none, errW_some] <;> rfl), by (with_reducible repeat (first | apply Kd.R_alloc | apply Kd.R_drewN | apply Kd.R_drew)); exact HO_13.out, by repeat (first | (with_reducible first | exact HI0.out | apply IsS100.alloc | apply IsS100.drewN | apply IsS100.drew | apply IsS100.set_1) | exact HI0.out), by repeat (first | (with_reducible first | exact HB.out | apply below_alloc | apply pw_below_drewN | apply below_drew1 | refine below_set ?_ (IsS100.ge HI0.out)) | exact HB.out), by repeat (first | (with_reducible first | exact HK.out | apply KeepBut.set_ | apply keep_drewN | apply keep_drew | apply keep_alloc) | exact HK.out)⟩
       ·rw [if_neg c117] at H
        exact absurd H (by simp)

end Go.Proofs.Ytofcmhpoebbnoaa.X
