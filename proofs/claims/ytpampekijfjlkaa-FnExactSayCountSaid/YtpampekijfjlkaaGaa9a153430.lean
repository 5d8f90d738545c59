/- Joined by a program of this session's: X124, LH, LTB, LTY, LO, LCB, LSM, LCBS, LSC, LSY, X42, X44, LM, LME, LMD. -/
import Derived.Test.YtpampekijfjlkaaGbc0d3b9f88
import Derived.Test.YtpampekijfjlkaaGeedc9b6cd5
import Derived.Test.YtpampekijfjlkaaGb1fff2d5b5
import Derived.Test.YtpampekijfjlkaaG1f813325e1
import Derived.Laws.BitsLemmas
import Derived.Test.YtpampekijfjlkaaGeaa87e4850
import Derived.Test.YtpampekijfjlkaaG8e5600f9a2
import Derived.Test.YtpampekijfjlkaaGfcb207736f
import Derived.Lib.EndianBits

-- printed by a program of this session's (xprint)
namespace Go.Proofs.Ytpampekijfjlkaa.X
open Go.RowKit Go.Proofs.YtpampekijfjlkaaW.PrintWords Go.Proofs.YtpampekijfjlkaaW.PrintLast Go.Proofs.YtpampekijfjlkaaW.PrintMore
attribute [local go_sem] max2_int min2_int max_two min_two max_three min_three max_four min_four   -- for this text's walks alone
set_option linter.unusedVariables false
set_option linter.unusedSimpArgs false

/-! ### laws_FnExactSayCount: function 19 -/
def laws_FnExactSayCount.f (k : Nat) (a0 : Int) (a1_0 : Int) (l1_1 : List (S92)) : Option (Bool) := (laws_szClaim.f a1_0 l1_1 1048576).bind fun t1206 => (if t1206 < 0 then (some true) else ((laws_toClaim.f k a1_0 l1_1).bind fun bt1207 => ((spec_SayCount.f k a0 bt1207.1 bt1207.2).bind fun t1211 => ((laws_toClaim.f k a1_0 l1_1).bind fun bt1212 => ((impl_SayCount.f k a0 bt1212.1 bt1212.2).bind fun t1217 => (if t1217 = t1211 then ((laws_toClaim.f k a1_0 l1_1).bind fun bt1218 => ((laws_eqClaim.f k bt1212.1 bt1212.2 bt1218.1 bt1218.2).bind fun t1222 => (if t1222 = true then (some true) else (some false)))) else (some false)))))))
theorem laws_FnExactSayCount.mono : ∀ a0 a1 a2 k, LeO (laws_FnExactSayCount.f k a0 a1 a2) (laws_FnExactSayCount.f (k + 1) a0 a1 a2) := by
  intro a0 a1 a2 k
  unfold laws_FnExactSayCount.f
  repeat' first
      | (with_reducible exact impl_SayCount.mono _ _ _ _)
      | (with_reducible exact laws_eqClaim.mono _ _ _ _ _)
      | (with_reducible exact laws_toClaim.mono _ _ _)
      | (with_reducible exact spec_SayCount.mono _ _ _ _)
      | (with_reducible exact LeO.refl _)
      | (with_reducible exact LeO.none _)
      | (with_reducible refine LeO.ite ?_ ?_)
      | (with_reducible refine LeO.bind ?_ (fun _ => ?_))
      | exact impl_SayCount.mono _ _ _ _
      | exact laws_eqClaim.mono _ _ _ _ _
      | exact laws_toClaim.mono _ _ _
      | exact spec_SayCount.mono _ _ _ _
      | exact LeO.none _
      | refine LeO.ite ?_ ?_
      | refine LeO.bind ?_ (fun _ => ?_)
set_option maxHeartbeats 8000000 in
set_option maxRecDepth 100000 in
theorem laws_FnExactSayCount.calls (k : Nat) (a0 : Int) (a1_0 : Int) (A1_1 : Option Addr) (c1_1 : Nat) (l1_1 : List (S92)) (r : Bool) (w : World) (hr1_1 : Kd.C k92 w A1_1 l1_1.length l1_1) (hc1_1 : l1_1.length ≤ c1_1) (h : laws_FnExactSayCount.f k a0 a1_0 l1_1 = some r) :
    Calls Try.prog 19 #[.int .i64 a0, .agg #[.int .i64 a1_0, .slice A1_1 l1_1.length c1_1]] w fun e w' => e = .returned (.bool r) ∧ Below w.heap.size w w' := by
  have hu68 := Try.underlying68
  have hu50 := Try.underlying50
  have HR1_1 := Aside0.mk hr1_1
  have HC1_1 := Aside0.mk hc1_1
  clear hr1_1 hc1_1
  have HB := Aside0.mk (Below.refl w.heap.size w)
  have H : ((laws_szClaim.f a1_0 l1_1 1048576).bind fun t1206 => (if t1206 < 0 then (some true) else ((laws_toClaim.f k a1_0 l1_1).bind fun bt1207 => ((spec_SayCount.f k a0 bt1207.1 bt1207.2).bind fun t1211 => ((laws_toClaim.f k a1_0 l1_1).bind fun bt1212 => ((impl_SayCount.f k a0 bt1212.1 bt1212.2).bind fun t1217 => (if t1217 = t1211 then ((laws_toClaim.f k a1_0 l1_1).bind fun bt1218 => ((laws_eqClaim.f k bt1212.1 bt1212.2 bt1218.1 bt1218.2).bind fun t1222 => (if t1222 = true then (some true) else (some false)))) else (some false)))))))) = some r := h
  clear h
  replace H := Option.bind_eq_some_iff.mp H
  obtain ⟨t1206, A30, H⟩ := H
  replace H : (if t1206 < 0 then (some true) else ((laws_toClaim.f k a1_0 l1_1).bind fun bt1207 => ((spec_SayCount.f k a0 bt1207.1 bt1207.2).bind fun t1211 => ((laws_toClaim.f k a1_0 l1_1).bind fun bt1212 => ((impl_SayCount.f k a0 bt1212.1 bt1212.2).bind fun t1217 => (if t1217 = t1211 then ((laws_toClaim.f k a1_0 l1_1).bind fun bt1218 => ((laws_eqClaim.f k bt1212.1 bt1212.2 bt1218.1 bt1218.2).bind fun t1222 => (if t1222 = true then (some true) else (some false)))) else (some false))))))) = some r := H
  have A3 := Aside0.mk A30
  clear A30
  by_cases c4 : t1206 < 0
  · rw [if_pos c4] at H
    have c4b0 : decide (t1206 < 0) = true := decide_eq_true c4
    clear c4
    obtain rfl := Option.some.inj H
    go_enter Try.func19, Try.ntmps19
    go_wp2_with (first | ((with_reducible refine gate_dst (N := 3) rfl ?_); refine box_event ?hg (N := 3) ?hd (cs := #[.int .i64 a1_0, .slice A1_1 l1_1.length c1_1]) (t := 68) ?hr ?_; (case hd => rfl); (case hg => rfl); (case hr => first | (go_simp; done) | (go_simp; rfl)); intro gb1205 hg w5 hbox hb; have n0_ := Aside0.mk (below_step (by repeat (first | (with_reducible first | exact HB.out | apply below_alloc | apply pw_below_drewN | apply below_drew1) | exact HB.out)) hb); have n1_ := Aside0.mk (hbox); have n2_ := Aside0.mk ((by rw [hg]; exact (below_size (by repeat (first | (with_reducible first | exact HB.out | apply below_alloc | apply pw_below_drewN | apply below_drew1) | exact HB.out))) : w.heap.size ≤ gb1205)); have n3_ := Aside0.mk ((by rw [hg]; exact (below_size (by repeat (first | (with_reducible first | exact HB.out | apply below_alloc | apply pw_below_drewN | apply below_drew1) | exact HB.out))) : w.heap.size ≤ gb1205)); clear HB; have HB := n0_; have BK1205 := n1_; have GW1205 := n2_; have GE1205 := n3_; clear n0_ n1_ n2_ n3_; clear hb hbox hg; have hcz6_0 : w5.cell? ⟨gb1205, 0, none⟩ = some (.int .i64 a1_0) := (blk_cell BK1205.out 0).trans rfl; have hcz6_1 : w5.cell? ⟨gb1205, 1, none⟩ = some (.slice A1_1 l1_1.length c1_1) := (blk_cell BK1205.out 1).trans rfl; have hfz6_0 := blk_frozen BK1205.out 0; have hfz6_1 := blk_frozen BK1205.out 1) | ((with_reducible refine gate_callee (f := 65) rfl ?_); refine goesL_ (some 11) rfl rfl Try.func65 (by kernel_rfl) rfl #[.agg #[.int .i64 a1_0, .slice A1_1 l1_1.length c1_1], .int .i64 1048576] rfl (by (try simp only [List.map_toArray, List.map_cons, List.map_nil]); first | done | rfl | (simp only [List.length_drop, List.length_take]; rfl)) ?_; (with_reducible refine (laws_szClaim.calls a1_0 _ _ l1_1 1048576 t1206 _ ?side1 ?side2 A3.out).mono ?_); (case side1 => repeat (first | exact (Kd.C_below HR1_1.out HB.out) | (with_reducible refine Kd.C_alloc ?_ _) | (with_reducible refine Kd.C_drewN ?_ _) | (with_reducible refine Kd.C_drew ?_))); (case side2 => exact HC1_1.out); rintro e w7 ⟨rfl, hb⟩; refine ⟨_, rfl, ?_⟩; have n0_ := Aside0.mk (blk_below (g := gb1205) (o := .cells #[.int .i64 a1_0, .slice A1_1 l1_1.length c1_1] 68 (0, 0)) (by (with_reducible repeat (first | refine blk_drewN ?_ _ | refine blk_drew ?_ | refine blk_alloc ?_ _)); exact BK1205.out) hb); have n1_ := Aside0.mk (below_step (by repeat (first | (with_reducible first | exact HB.out | apply below_alloc | apply pw_below_drewN | apply below_drew1 | refine below_set ?_ GE1205.out) | exact HB.out)) hb); clear BK1205; clear HB; have BK1205 := n0_; have HB := n1_; clear n0_ n1_; (try clear hb); (try clear hb2); (try clear hk); (try clear hi)))
    go_ret
    exact ⟨by first | rfl | (simp [errW_none, errW_some] <;> rfl) | (simp [*, errW_none, errW_some] <;> rfl), by repeat (first | (with_reducible first | exact HB.out | apply below_alloc | apply pw_below_drewN | apply below_drew1 | refine below_set ?_ GE1205.out) | exact HB.out)⟩
  · rw [if_neg c4] at H
    have c4b0 : decide (t1206 < 0) = false := decide_eq_false c4
    clear c4
    replace H := Option.bind_eq_some_iff.mp H
    obtain ⟨⟨t1207, t1208⟩, A80, H⟩ := H
    replace H : ((spec_SayCount.f k a0 t1207 t1208).bind fun t1211 => ((laws_toClaim.f k a1_0 l1_1).bind fun bt1212 => ((impl_SayCount.f k a0 bt1212.1 bt1212.2).bind fun t1217 => (if t1217 = t1211 then ((laws_toClaim.f k a1_0 l1_1).bind fun bt1218 => ((laws_eqClaim.f k bt1212.1 bt1212.2 bt1218.1 bt1218.2).bind fun t1222 => (if t1222 = true then (some true) else (some false)))) else (some false))))) = some r := H
    have A8 := Aside0.mk A80
    clear A80
    replace H := Option.bind_eq_some_iff.mp H
    obtain ⟨t1211, A90, H⟩ := H
    replace H : ((laws_toClaim.f k a1_0 l1_1).bind fun bt1212 => ((impl_SayCount.f k a0 bt1212.1 bt1212.2).bind fun t1217 => (if t1217 = t1211 then ((laws_toClaim.f k a1_0 l1_1).bind fun bt1218 => ((laws_eqClaim.f k bt1212.1 bt1212.2 bt1218.1 bt1218.2).bind fun t1222 => (if t1222 = true then (some true) else (some false)))) else (some false)))) = some r := H
    have A9 := Aside0.mk A90
    clear A90
    replace H := Option.bind_eq_some_iff.mp H
    obtain ⟨⟨t1212, t1213⟩, A100, H⟩ := H
    replace H : ((impl_SayCount.f k a0 t1212 t1213).bind fun t1217 => (if t1217 = t1211 then ((laws_toClaim.f k a1_0 l1_1).bind fun bt1218 => ((laws_eqClaim.f k t1212 t1213 bt1218.1 bt1218.2).bind fun t1222 => (if t1222 = true then (some true) else (some false)))) else (some false))) = some r := H
    have A10 := Aside0.mk A100
    clear A100
    replace H := Option.bind_eq_some_iff.mp H
    obtain ⟨t1217, A110, H⟩ := H
    replace H : (if t1217 = t1211 then ((laws_toClaim.f k a1_0 l1_1).bind fun bt1218 => ((laws_eqClaim.f k t1212 t1213 bt1218.1 bt1218.2).bind fun t1222 => (if t1222 = true then (some true) else (some false)))) else (some false)) = some r := H
    have A11 := Aside0.mk A110
    clear A110
    by_cases c12 : t1217 = t1211
    · rw [if_pos c12] at H
      have c12b0 : (t1217 == t1211) = true := beq_iff_eq.mpr c12
      have c12b1 : (t1217 != t1211) = false := bne_eq_false_iff_eq.mpr c12
      clear c12
      replace H := Option.bind_eq_some_iff.mp H
      obtain ⟨⟨t1218, t1219⟩, A130, H⟩ := H
      replace H : ((laws_eqClaim.f k t1212 t1213 t1218 t1219).bind fun t1222 => (if t1222 = true then (some true) else (some false))) = some r := H
      have A13 := Aside0.mk A130
      clear A130
      replace H := Option.bind_eq_some_iff.mp H
      obtain ⟨t1222, A140, H⟩ := H
      replace H : (if t1222 = true then (some true) else (some false)) = some r := H
      have A14 := Aside0.mk A140
      clear A140
      by_cases c15 : t1222 = true
      · subst c15
        have H1 : (some true) = some r := by rw [if_pos rfl] at H; exact H
        clear H
        have H := H1
        clear H1
        obtain rfl := Option.some.inj H
        go_enter Try.func19, Try.ntmps19
        try go_wp2_with (first | ((with_reducible refine gate_dst (N := 3) rfl ?_); refine box_event ?hg (N := 3) ?hd (cs := #[.int .i64 a1_0, .slice A1_1 l1_1.length c1_1]) (t := 68) ?hr ?_; (case hd => rfl); (case hg => rfl); (case hr => first | (go_simp; done) | (go_simp; rfl)); intro gb1205 hg w16 hbox hb; have n0_ := Aside0.mk (below_step (by repeat (first | (with_reducible first | exact HB.out | apply below_alloc | apply pw_below_drewN | apply below_drew1) | exact HB.out)) hb); have n1_ := Aside0.mk (hbox); have n2_ := Aside0.mk ((by rw [hg]; exact (below_size (by repeat (first | (with_reducible first | exact HB.out | apply below_alloc | apply pw_below_drewN | apply below_drew1) | exact HB.out))) : w.heap.size ≤ gb1205)); have n3_ := Aside0.mk ((by rw [hg]; exact (below_size (by repeat (first | (with_reducible first | exact HB.out | apply below_alloc | apply pw_below_drewN | apply below_drew1) | exact HB.out))) : w.heap.size ≤ gb1205)); clear HB; have HB := n0_; have BK1205 := n1_; have GW1205 := n2_; have GE1205 := n3_; clear n0_ n1_ n2_ n3_; clear hb hbox hg; have hcz17_0 : w16.cell? ⟨gb1205, 0, none⟩ = some (.int .i64 a1_0) := (blk_cell BK1205.out 0).trans rfl; have hcz17_1 : w16.cell? ⟨gb1205, 1, none⟩ = some (.slice A1_1 l1_1.length c1_1) := (blk_cell BK1205.out 1).trans rfl; have hfz17_0 := blk_frozen BK1205.out 0; have hfz17_1 := blk_frozen BK1205.out 1) | ((with_reducible refine gate_callee (f := 65) rfl ?_); refine goesL_ (some 11) rfl rfl Try.func65 (by kernel_rfl) rfl #[.agg #[.int .i64 a1_0, .slice A1_1 l1_1.length c1_1], .int .i64 1048576] rfl (by (try simp only [List.map_toArray, List.map_cons, List.map_nil]); first | done | rfl | (simp only [List.length_drop, List.length_take]; rfl)) ?_; (with_reducible refine (laws_szClaim.calls a1_0 _ _ l1_1 1048576 t1206 _ ?side1 ?side2 A3.out).mono ?_); (case side1 => repeat (first | exact (Kd.C_below HR1_1.out HB.out) | (with_reducible refine Kd.C_alloc ?_ _) | (with_reducible refine Kd.C_drewN ?_ _) | (with_reducible refine Kd.C_drew ?_))); (case side2 => exact HC1_1.out); rintro e w18 ⟨rfl, hb⟩; refine ⟨_, rfl, ?_⟩; have n0_ := Aside0.mk (blk_below (g := gb1205) (o := .cells #[.int .i64 a1_0, .slice A1_1 l1_1.length c1_1] 68 (0, 0)) (by (with_reducible repeat (first | refine blk_drewN ?_ _ | refine blk_drew ?_ | refine blk_alloc ?_ _)); exact BK1205.out) hb); have n1_ := Aside0.mk (below_step (by repeat (first | (with_reducible first | exact HB.out | apply below_alloc | apply pw_below_drewN | apply below_drew1 | refine below_set ?_ GE1205.out) | exact HB.out)) hb); clear BK1205; clear HB; have BK1205 := n0_; have HB := n1_; clear n0_ n1_; (try clear hb); (try clear hb2); (try clear hk); (try clear hi); have hcz19_0 : w18.cell? ⟨gb1205, 0, none⟩ = some (.int .i64 a1_0) := (blk_cell BK1205.out 0).trans rfl; have hcz19_1 : w18.cell? ⟨gb1205, 1, none⟩ = some (.slice A1_1 l1_1.length c1_1) := (blk_cell BK1205.out 1).trans rfl; have hfz19_0 := blk_frozen BK1205.out 0; have hfz19_1 := blk_frozen BK1205.out 1) | ((with_reducible refine gate_callee (f := 67) rfl ?_); refine goesL_ (some 16) rfl rfl Try.func67 (by kernel_rfl) rfl #[.agg #[.int .i64 a1_0, .slice A1_1 l1_1.length c1_1]] rfl (by (try simp only [List.map_toArray, List.map_cons, List.map_nil]); first | done | rfl | (simp only [List.length_drop, List.length_take]; rfl)) ?_; (with_reducible refine (laws_toClaim.calls k a1_0 _ _ l1_1 t1207 t1208 _ ?side1 ?side2 A8.out).mono ?_); (case side1 => repeat (first | exact (Kd.C_below HR1_1.out HB.out) | (with_reducible refine Kd.C_alloc ?_ _) | (with_reducible refine Kd.C_drewN ?_ _) | (with_reducible refine Kd.C_drew ?_))); (case side2 => exact HC1_1.out); rintro e w20 ⟨v1209, rfl, ho0, hb⟩; refine ⟨_, rfl, ?_⟩; have n0_ := Aside0.mk (Kd.R_lower ho0 (below_size (by repeat (first | (with_reducible first | exact HB.out | apply below_alloc | apply pw_below_drewN | apply below_drew1 | refine below_set ?_ GE1205.out) | exact HB.out)))); have n1_ := Aside0.mk (blk_below (g := gb1205) (o := .cells #[.int .i64 a1_0, .slice A1_1 l1_1.length c1_1] 68 (0, 0)) (by (with_reducible repeat (first | refine blk_drewN ?_ _ | refine blk_drew ?_ | refine blk_alloc ?_ _)); exact BK1205.out) hb); have n2_ := Aside0.mk (below_step (by repeat (first | (with_reducible first | exact HB.out | apply below_alloc | apply pw_below_drewN | apply below_drew1 | refine below_set ?_ GE1205.out) | exact HB.out)) hb); clear BK1205; clear HB; have HO1210 := n0_; have BK1205 := n1_; have HB := n2_; clear n0_ n1_ n2_; (try clear hb); (try clear hb2); (try clear hk); (try clear hi); (try clear ho0); obtain ⟨Ao21, co21, eo21⟩ := Kd.R_slice HO1210.out; subst eo21) | ((with_reducible refine gate_callee (f := 82) rfl ?_); refine goesL_ (some 17) rfl rfl Try.func82 (by kernel_rfl) rfl #[.int .i64 a0, .agg #[.int .i64 t1207, .slice Ao21 t1208.length co21]] rfl (by (try simp only [List.map_toArray, List.map_cons, List.map_nil]); first | done | rfl | (simp only [List.length_drop, List.length_take]; rfl)) ?_; (with_reducible refine (spec_SayCount.calls k a0 t1207 _ _ t1208 t1211 _ ?side1 ?side2 A9.out).mono ?_); (case side1 => repeat (first | exact (Kd.R_reads' HO1210.out).2.2 | (with_reducible refine Kd.C_alloc ?_ _) | (with_reducible refine Kd.C_drewN ?_ _) | (with_reducible refine Kd.C_drew ?_))); (case side2 => exact (Kd.R_reads' HO1210.out).2.1); rintro e w22 ⟨rfl, hb⟩; refine ⟨_, rfl, ?_⟩; have n0_ := Aside0.mk (Kd.R_below (by (with_reducible repeat (first | apply Kd.R_alloc | apply Kd.R_drewN | apply Kd.R_drew)); exact HO1210.out) hb); have n1_ := Aside0.mk (blk_below (g := gb1205) (o := .cells #[.int .i64 a1_0, .slice A1_1 l1_1.length c1_1] 68 (0, 0)) (by (with_reducible repeat (first | refine blk_drewN ?_ _ | refine blk_drew ?_ | refine blk_alloc ?_ _)); exact BK1205.out) hb); have n2_ := Aside0.mk (below_step (by repeat (first | (with_reducible first | exact HB.out | apply below_alloc | apply pw_below_drewN | apply below_drew1 | refine below_set ?_ GE1205.out) | exact HB.out)) hb); clear HO1210; clear BK1205; clear HB; have HO1210 := n0_; have BK1205 := n1_; have HB := n2_; clear n0_ n1_ n2_; (try clear hb); (try clear hb2); (try clear hk); (try clear hi); have hcz23_0 : w22.cell? ⟨gb1205, 0, none⟩ = some (.int .i64 a1_0) := (blk_cell BK1205.out 0).trans rfl; have hcz23_1 : w22.cell? ⟨gb1205, 1, none⟩ = some (.slice A1_1 l1_1.length c1_1) := (blk_cell BK1205.out 1).trans rfl; have hfz23_0 := blk_frozen BK1205.out 0; have hfz23_1 := blk_frozen BK1205.out 1) | ((with_reducible refine gate_callee (f := 67) rfl ?_); refine goesL_ (some 19) rfl rfl Try.func67 (by kernel_rfl) rfl #[.agg #[.int .i64 a1_0, .slice A1_1 l1_1.length c1_1]] rfl (by (try simp only [List.map_toArray, List.map_cons, List.map_nil]); first | done | rfl | (simp only [List.length_drop, List.length_take]; rfl)) ?_; (with_reducible refine (laws_toClaim.calls k a1_0 _ _ l1_1 t1212 t1213 _ ?side1 ?side2 A10.out).mono ?_); (case side1 => repeat (first | exact (Kd.C_below HR1_1.out HB.out) | (with_reducible refine Kd.C_alloc ?_ _) | (with_reducible refine Kd.C_drewN ?_ _) | (with_reducible refine Kd.C_drew ?_))); (case side2 => exact HC1_1.out); rintro e w24 ⟨v1214, rfl, ho0, hb⟩; refine ⟨_, rfl, ?_⟩; have n0_ := Aside0.mk (Kd.R_elder' (by (with_reducible repeat (first | apply Kd.R_alloc | apply Kd.R_drewN | apply Kd.R_drew)); exact HO1210.out) (Kd.R_base ho0) hb); have n1_ := Aside0.mk (Kd.R_lower (Kd.R_new' ho0 (Kd.R_lt (by (with_reducible repeat (first | apply Kd.R_alloc | apply Kd.R_drewN | apply Kd.R_drew)); exact HO1210.out))) (below_size (by repeat (first | (with_reducible first | exact HB.out | apply below_alloc | apply pw_below_drewN | apply below_drew1 | refine below_set ?_ GE1205.out) | exact HB.out)))); have n2_ := Aside0.mk (blk_below (g := gb1205) (o := .cells #[.int .i64 a1_0, .slice A1_1 l1_1.length c1_1] 68 (0, 0)) (by (with_reducible repeat (first | refine blk_drewN ?_ _ | refine blk_drew ?_ | refine blk_alloc ?_ _)); exact BK1205.out) hb); have n3_ := Aside0.mk (below_step (by repeat (first | (with_reducible first | exact HB.out | apply below_alloc | apply pw_below_drewN | apply below_drew1 | refine below_set ?_ GE1205.out) | exact HB.out)) hb); clear HO1210; clear BK1205; clear HB; have HO1210 := n0_; have HO1215 := n1_; have BK1205 := n2_; have HB := n3_; clear n0_ n1_ n2_ n3_; (try clear hb); (try clear hb2); (try clear hk); (try clear hi); (try clear ho0)) | ((with_reducible refine gate_dst (N := 7) rfl ?_); refine box_event ?hg (N := 7) ?hd (cs := #[.int .i64 0, .slice none 0 0]) (t := 50) ?hr ?_; (case hd => rfl); (case hg => rfl); (case hr => first | (go_simp; done) | (go_simp; rfl)); intro gb1216 hg w25 hbox hb; have n0_ := Aside0.mk (Kd.R_below (by (with_reducible repeat (first | apply Kd.R_alloc | apply Kd.R_drewN | apply Kd.R_drew)); exact HO1210.out) hb); have n1_ := Aside0.mk (Kd.R_below (by (with_reducible repeat (first | apply Kd.R_alloc | apply Kd.R_drewN | apply Kd.R_drew)); exact HO1215.out) hb); have n2_ := Aside0.mk (blk_below (g := gb1205) (o := .cells #[.int .i64 a1_0, .slice A1_1 l1_1.length c1_1] 68 (0, 0)) (by (with_reducible repeat (first | refine blk_drewN ?_ _ | refine blk_drew ?_ | refine blk_alloc ?_ _)); exact BK1205.out) hb); have n3_ := Aside0.mk (below_step (by repeat (first | (with_reducible first | exact HB.out | apply below_alloc | apply pw_below_drewN | apply below_drew1 | refine below_set ?_ GE1205.out) | exact HB.out)) hb); have n4_ := Aside0.mk (hbox); have n5_ := Aside0.mk ((by rw [hg]; exact (below_size (by repeat (first | (with_reducible first | exact HB.out | apply below_alloc | apply pw_below_drewN | apply below_drew1 | refine below_set ?_ GE1205.out) | exact HB.out))) : w.heap.size ≤ gb1216)); have n6_ := Aside0.mk ((by rw [hg]; exact (below_size (by repeat (first | (with_reducible first | exact HB.out | apply below_alloc | apply pw_below_drewN | apply below_drew1 | refine below_set ?_ GE1205.out) | exact HB.out))) : w.heap.size ≤ gb1216)); have n7_ := Aside0.mk ((by rw [hg]; exact Nat.ne_of_lt (blk_lt (g := gb1205) (o := .cells #[.int .i64 a1_0, .slice A1_1 l1_1.length c1_1] 68 (0, 0)) (by (with_reducible repeat (first | refine blk_drewN ?_ _ | refine blk_drew ?_ | refine blk_alloc ?_ _)); exact BK1205.out)) : gb1205 ≠ gb1216)); have n8_ := Aside0.mk ((by rw [hg]; exact Nat.ne_of_gt (blk_lt (g := gb1205) (o := .cells #[.int .i64 a1_0, .slice A1_1 l1_1.length c1_1] 68 (0, 0)) (by (with_reducible repeat (first | refine blk_drewN ?_ _ | refine blk_drew ?_ | refine blk_alloc ?_ _)); exact BK1205.out)) : gb1216 ≠ gb1205)); clear HO1210; clear HO1215; clear BK1205; clear HB; have HO1210 := n0_; have HO1215 := n1_; have BK1205 := n2_; have HB := n3_; have BK1216 := n4_; have GW1216 := n5_; have GE1216 := n6_; have NB1205_1216 := n7_; have NB1216_1205 := n8_; clear n0_ n1_ n2_ n3_ n4_ n5_ n6_ n7_ n8_; clear hb hbox hg; have hnb26 := NB1216_1205.out; have hnc26 := NB1205_1216.out; have hcz27_0 : w25.cell? ⟨gb1216, 0, none⟩ = some (.int .i64 0) := (blk_cell BK1216.out 0).trans rfl; have hcz27_1 : w25.cell? ⟨gb1216, 1, none⟩ = some (.slice none 0 0) := (blk_cell BK1216.out 1).trans rfl; have hfz27_0 := blk_frozen BK1216.out 0; have hfz27_1 := blk_frozen BK1216.out 1; obtain ⟨Ao28, co28, eo28⟩ := Kd.R_slice HO1215.out; subst eo28) | ((with_reducible refine gate_callee (f := 83) rfl ?_); refine goesL_ (some 22) rfl rfl Try.func83 (by kernel_rfl) rfl #[.int .i64 a0, .agg #[.int .i64 t1212, .slice Ao28 t1213.length co28]] rfl (by (try simp only [List.map_toArray, List.map_cons, List.map_nil]); first | done | rfl | (simp only [List.length_drop, List.length_take]; rfl)) ?_; (with_reducible refine (impl_SayCount.calls k a0 t1212 _ _ t1213 t1217 _ ?side1 ?side2 A11.out).mono ?_); (case side1 => refine (Kd.R_reads' (e := 52) (base := w.heap.size) (ok := fun k_ => (True ∧ some k_ ≠ (.slice Ao21 t1208.length co21 : Value).ownBlock)) (n := t1213.length) (c := co28) ?_).2.2; exact (by (with_reducible repeat (first | apply Kd.R_alloc | apply Kd.R_drewN | apply Kd.R_drew)); exact (Kd.R_mono (Kd.R_far (p := ⟨gb1216, 1, none⟩) (Kd.R_far (p := ⟨gb1216, 0, none⟩) (Kd.R_types HO1215.out BK1216.out (by decide)) (fun _ hk => hk.2) (.int .i64 t1212)) (fun _ hk => hk.2) (.slice Ao28 t1213.length co28)) (fun _ h_ => h_.1)))); (case side2 => exact (Kd.R_reads' HO1215.out).2.1); rintro e w29 ⟨rfl, hb⟩; refine ⟨_, rfl, ?_⟩; have n0_ := Aside0.mk (Kd.R_below (by (with_reducible repeat (first | apply Kd.R_alloc | apply Kd.R_drewN | apply Kd.R_drew)); exact (Kd.R_mono (Kd.R_far (p := ⟨gb1216, 1, none⟩) (Kd.R_far (p := ⟨gb1216, 0, none⟩) (Kd.R_types HO1210.out BK1216.out (by decide)) (fun _ hk => hk.2) (.int .i64 t1212)) (fun _ hk => hk.2) (.slice Ao28 t1213.length co28)) (fun _ h_ => h_.1))) hb); have n1_ := Aside0.mk (Kd.R_below (by (with_reducible repeat (first | apply Kd.R_alloc | apply Kd.R_drewN | apply Kd.R_drew)); exact (Kd.R_mono (Kd.R_far (p := ⟨gb1216, 1, none⟩) (Kd.R_far (p := ⟨gb1216, 0, none⟩) (Kd.R_types HO1215.out BK1216.out (by decide)) (fun _ hk => hk.2) (.int .i64 t1212)) (fun _ hk => hk.2) (.slice Ao28 t1213.length co28)) (fun _ h_ => h_.1))) hb); have n2_ := Aside0.mk (blk_below (g := gb1205) (o := .cells #[.int .i64 a1_0, .slice A1_1 l1_1.length c1_1] 68 (0, 0)) (by (with_reducible repeat (first | refine blk_drewN ?_ _ | refine blk_drew ?_ | refine blk_alloc ?_ _)); refine blk_far ?_ NB1205_1216.out _; (with_reducible repeat (first | refine blk_drewN ?_ _ | refine blk_drew ?_ | refine blk_alloc ?_ _)); refine blk_far ?_ NB1205_1216.out _; (with_reducible repeat (first | refine blk_drewN ?_ _ | refine blk_drew ?_ | refine blk_alloc ?_ _)); exact BK1205.out) hb); have n3_ := Aside0.mk (blk_below (g := gb1216) (o := .cells #[.int .i64 t1212, .slice Ao28 t1213.length co28] 50 (0, 0)) (by (with_reducible repeat (first | refine blk_drewN ?_ _ | refine blk_drew ?_ | refine blk_alloc ?_ _)); refine blk_put (cs := #[.int .i64 t1212, .slice none 0 0]) ?_ 1 _ rfl; (with_reducible repeat (first | refine blk_drewN ?_ _ | refine blk_drew ?_ | refine blk_alloc ?_ _)); refine blk_put (cs := #[.int .i64 0, .slice none 0 0]) ?_ 0 _ rfl; (with_reducible repeat (first | refine blk_drewN ?_ _ | refine blk_drew ?_ | refine blk_alloc ?_ _)); exact BK1216.out) hb); have n4_ := Aside0.mk (below_step (by repeat (first | (with_reducible first | exact HB.out | apply below_alloc | apply pw_below_drewN | apply below_drew1 | refine below_set ?_ GE1205.out | refine below_set ?_ GE1216.out) | exact HB.out)) hb); clear HO1210; clear HO1215; clear BK1205; clear BK1216; clear HB; have HO1210 := n0_; have HO1215 := n1_; have BK1205 := n2_; have BK1216 := n3_; have HB := n4_; clear n0_ n1_ n2_ n3_ n4_; (try clear hb); (try clear hb2); (try clear hk); (try clear hi)))
        have n0_ := Aside0.mk (Kd.R_drew HO1210.out)
        have n1_ := Aside0.mk (Kd.R_drew HO1215.out)
        have n2_ := Aside0.mk (blk_drew BK1205.out)
        have n3_ := Aside0.mk (blk_drew BK1216.out)
        have n4_ := Aside0.mk (below_drew1 HB.out)
        clear HO1210
        clear HO1215
        clear BK1205
        clear BK1216
        clear HB
        have HO1210 := n0_
        have HO1215 := n1_
        have BK1205 := n2_
        have BK1216 := n3_
        have HB := n4_
        clear n0_ n1_ n2_ n3_ n4_
        refine start_ (n := 5) (S := fun w' => w'.cell? ⟨gb1216, 0, none⟩ = some (.int .i64 t1212) ∧ w'.cell? ⟨gb1216, 1, none⟩ = some (.slice Ao28 t1213.length co28) ∧ w'.cell? ⟨gb1205, 0, none⟩ = some (.int .i64 a1_0) ∧ w'.cell? ⟨gb1205, 1, none⟩ = some (.slice A1_1 l1_1.length c1_1)) (ds := []) #[false, false, false, false, false] (by kernel_rfl) rfl rfl ⟨(blk_cell BK1216.out 0).trans rfl, (blk_cell BK1216.out 1).trans rfl, (blk_cell BK1205.out 0).trans rfl, (blk_cell BK1205.out 1).trans rfl⟩ (fun hHeld => ?_)
        generalize w29.drew = w30 at HO1210 HO1215 BK1205 BK1216 HB hHeld ⊢
        refine take_ (i := 0) (N := some 26) (v := ?_) (a' := ?_) #[true, false, false, false, false] rfl rfl (by kernel_rfl) (fun _ _ _ h => h) (Or.inl ⟨by rfl, ?_⟩) hHeld ?_ ?_
        rotate_left
        · rintro w' ⟨s0, s1, s2, s3⟩
          go_simp
          with_reducible rfl
        rotate_left
        · simp only [Act.put, List.setIfInBounds_toArray, List.set_cons_zero, List.set_cons_succ, i64_w, i32_w]
          rfl
        refine take_ (i := 1) (N := some 27) (v := ?_) (a' := ?_) #[true, true, false, false, false] rfl rfl (by kernel_rfl) (fun _ _ _ h => h) (Or.inl ⟨by rfl, ?_⟩) hHeld ?_ ?_
        rotate_left
        · rintro w' ⟨s0, s1, s2, s3⟩
          go_simp
          with_reducible rfl
        rotate_left
        · simp only [Act.put, List.setIfInBounds_toArray, List.set_cons_zero, List.set_cons_succ, i64_w, i32_w]
          rfl
        refine one_ (i := 2) (N := some 28) #[true, true, true, false, false] rfl rfl (by kernel_rfl) (by decide) (fun K hK => ?_)
        refine goes_ Try.func67 (by kernel_rfl) rfl #[.agg #[.int .i64 a1_0, .slice A1_1 l1_1.length c1_1]] (by rfl) rfl rfl (by (try simp only [List.map_toArray, List.map_cons, List.map_nil]); first | done | rfl | (simp only [List.length_drop, List.length_take]; rfl)) ?_
        with_reducible refine (laws_toClaim.calls k a1_0 _ _ l1_1 t1218 t1219 _ ?side1 ?side2 A13.out).mono ?_
        (case side1 => repeat (first | exact (Kd.C_below HR1_1.out HB.out) | (with_reducible refine Kd.C_alloc ?_ _) | (with_reducible refine Kd.C_drewN ?_ _) | (with_reducible refine Kd.C_drew ?_)))
        (case side2 => exact HC1_1.out)
        rintro e w31 ⟨v1220, rfl, ho0, hb⟩
        refine ⟨_, rfl, ?_⟩
        have n0_ := Aside0.mk (Kd.R_elder' (by (with_reducible repeat (first | apply Kd.R_alloc | apply Kd.R_drewN | apply Kd.R_drew)); exact HO1210.out) (Kd.R_base ho0) hb)
        have n1_ := Aside0.mk (Kd.R_elder' (by (with_reducible repeat (first | apply Kd.R_alloc | apply Kd.R_drewN | apply Kd.R_drew)); exact HO1215.out) (Kd.R_base ho0) hb)
        have n2_ := Aside0.mk (Kd.R_lower (Kd.R_new' (Kd.R_new' ho0 (Kd.R_lt (by (with_reducible repeat (first | apply Kd.R_alloc | apply Kd.R_drewN | apply Kd.R_drew)); exact HO1210.out))) (Kd.R_lt (by (with_reducible repeat (first | apply Kd.R_alloc | apply Kd.R_drewN | apply Kd.R_drew)); exact HO1215.out))) (below_size (by repeat (first | (with_reducible first | exact HB.out | apply below_alloc | apply pw_below_drewN | apply below_drew1 | refine below_set ?_ GE1205.out | refine below_set ?_ GE1216.out) | exact HB.out))))
        have n3_ := Aside0.mk (blk_below (g := gb1205) (o := .cells #[.int .i64 a1_0, .slice A1_1 l1_1.length c1_1] 68 (0, 0)) (by (with_reducible repeat (first | refine blk_drewN ?_ _ | refine blk_drew ?_ | refine blk_alloc ?_ _)); exact BK1205.out) hb)
        have n4_ := Aside0.mk (blk_below (g := gb1216) (o := .cells #[.int .i64 t1212, .slice Ao28 t1213.length co28] 50 (0, 0)) (by (with_reducible repeat (first | refine blk_drewN ?_ _ | refine blk_drew ?_ | refine blk_alloc ?_ _)); exact BK1216.out) hb)
        have n5_ := Aside0.mk (below_step (by repeat (first | (with_reducible first | exact HB.out | apply below_alloc | apply pw_below_drewN | apply below_drew1 | refine below_set ?_ GE1205.out | refine below_set ?_ GE1216.out) | exact HB.out)) hb)
        clear HO1210
        clear HO1215
        clear BK1205
        clear BK1216
        clear HB
        have HO1210 := n0_
        have HO1215 := n1_
        have HO1221 := n2_
        have BK1205 := n3_
        have BK1216 := n4_
        have HB := n5_
        clear n0_ n1_ n2_ n3_ n4_ n5_
        (try clear hb)
        (try clear hb2)
        (try clear hk)
        (try clear hi)
        (try clear ho0)
        obtain ⟨Ao32, co32, eo32⟩ := Kd.R_slice HO1221.out
        (first | subst eo32 | (injection eo32 with f1_ f2_ f3_; have f4_ := f1_.symm; have f5_ := f3_.symm; clear f1_ f2_ f3_; subst f4_; subst f5_))
        refine hK.out _ _ ⟨(blk_cell BK1216.out 0).trans rfl, (blk_cell BK1216.out 1).trans rfl, (blk_cell BK1205.out 0).trans rfl, (blk_cell BK1205.out 1).trans rfl⟩ (fun hHeld => ?_)
        clear hK K
        refine norm_ (a' := ?_) ?_ ?_
        rotate_left
        · show Act.put _ (some 28) _ = _
          simp only [Act.put, List.setIfInBounds_toArray, List.set_cons_zero, List.set_cons_succ, i64_w, i32_w]
          rfl
        refine one_ (i := 3) (N := some 29) #[true, true, true, true, false] rfl rfl (by kernel_rfl) (by decide) (fun K hK => ?_)
        refine goes_ Try.func68 (by kernel_rfl) rfl #[.agg #[.int .i64 t1212, .slice Ao28 t1213.length co28], .agg #[.int .i64 t1218, .slice Ao32 t1219.length co32]] (by rfl) rfl rfl (by (try simp only [List.map_toArray, List.map_cons, List.map_nil]); first | done | rfl | (simp only [List.length_drop, List.length_take]; rfl)) ?_
        with_reducible refine (laws_eqClaim.calls k t1212 _ _ t1213 t1218 _ _ t1219 true _ ?side1 ?side2 ?side3 ?side4 A14.out).mono ?_
        (case side1 => repeat (first | exact (Kd.R_reads' HO1215.out).2.2 | (with_reducible refine Kd.C_alloc ?_ _) | (with_reducible refine Kd.C_drewN ?_ _) | (with_reducible refine Kd.C_drew ?_)))
        (case side2 => exact (Kd.R_reads' HO1215.out).2.1)
        (case side3 => repeat (first | exact (Kd.R_reads' HO1221.out).2.2 | (with_reducible refine Kd.C_alloc ?_ _) | (with_reducible refine Kd.C_drewN ?_ _) | (with_reducible refine Kd.C_drew ?_)))
        (case side4 => exact (Kd.R_reads' HO1221.out).2.1)
        rintro e w33 ⟨rfl, hb⟩
        refine ⟨_, rfl, ?_⟩
        have n0_ := Aside0.mk (Kd.R_below (by (with_reducible repeat (first | apply Kd.R_alloc | apply Kd.R_drewN | apply Kd.R_drew)); exact HO1210.out) hb)
        have n1_ := Aside0.mk (Kd.R_below (by (with_reducible repeat (first | apply Kd.R_alloc | apply Kd.R_drewN | apply Kd.R_drew)); exact HO1215.out) hb)
        have n2_ := Aside0.mk (Kd.R_below (by (with_reducible repeat (first | apply Kd.R_alloc | apply Kd.R_drewN | apply Kd.R_drew)); exact HO1221.out) hb)
        have n3_ := Aside0.mk (blk_below (g := gb1205) (o := .cells #[.int .i64 a1_0, .slice A1_1 l1_1.length c1_1] 68 (0, 0)) (by (with_reducible repeat (first | refine blk_drewN ?_ _ | refine blk_drew ?_ | refine blk_alloc ?_ _)); exact BK1205.out) hb)
        have n4_ := Aside0.mk (blk_below (g := gb1216) (o := .cells #[.int .i64 t1212, .slice Ao28 t1213.length co28] 50 (0, 0)) (by (with_reducible repeat (first | refine blk_drewN ?_ _ | refine blk_drew ?_ | refine blk_alloc ?_ _)); exact BK1216.out) hb)
        have n5_ := Aside0.mk (below_step (by repeat (first | (with_reducible first | exact HB.out | apply below_alloc | apply pw_below_drewN | apply below_drew1 | refine below_set ?_ GE1205.out | refine below_set ?_ GE1216.out) | exact HB.out)) hb)
        clear HO1210
        clear HO1215
        clear HO1221
        clear BK1205
        clear BK1216
        clear HB
        have HO1210 := n0_
        have HO1215 := n1_
        have HO1221 := n2_
        have BK1205 := n3_
        have BK1216 := n4_
        have HB := n5_
        clear n0_ n1_ n2_ n3_ n4_ n5_
        (try clear hb)
        (try clear hb2)
        (try clear hk)
        (try clear hi)
        refine hK.out _ _ ⟨(blk_cell BK1216.out 0).trans rfl, (blk_cell BK1216.out 1).trans rfl, (blk_cell BK1205.out 0).trans rfl, (blk_cell BK1205.out 1).trans rfl⟩ (fun hHeld => ?_)
        clear hK K
        refine norm_ (a' := ?_) ?_ ?_
        rotate_left
        · show Act.put _ (some 29) _ = _
          simp only [Act.put, List.setIfInBounds_toArray, List.set_cons_zero, List.set_cons_succ, i64_w, i32_w]
          rfl
        refine pure_ (i := 4) (N := some 30) (v := ?_) (a' := ?_) #[true, true, true, true, true] rfl rfl (by kernel_rfl) (fun _ _ _ h => h) (Or.inl ⟨by rfl, ?_⟩) ?_ ?_
        rotate_left
        · intro w'
          go_simp
          with_reducible rfl
        rotate_left
        · simp only [Act.put, List.setIfInBounds_toArray, List.set_cons_zero, List.set_cons_succ, i64_w, i32_w]
          rfl
        refine done_ (by kernel_rfl) ?_
        try go_wp2
        go_ret
        exact ⟨by first | rfl | (simp [errW_none, errW_some] <;> rfl) | (simp [*, errW_none, errW_some] <;> rfl), by repeat (first | (with_reducible first | exact HB.out | apply below_alloc | apply pw_below_drewN | apply below_drew1 | refine below_set ?_ GE1205.out | refine below_set ?_ GE1216.out) | exact HB.out)⟩
      · replace c15 := Bool.eq_false_iff.mpr c15
        subst c15
        have H1 : (some false) = some r := by rw [if_neg (show ¬ (false = true) by decide)] at H; exact H
        clear H
        have H := H1
        clear H1
        obtain rfl := Option.some.inj H
        go_enter Try.func19, Try.ntmps19
        try go_wp2_with (first | ((with_reducible refine gate_dst (N := 3) rfl ?_); refine box_event ?hg (N := 3) ?hd (cs := #[.int .i64 a1_0, .slice A1_1 l1_1.length c1_1]) (t := 68) ?hr ?_; (case hd => rfl); (case hg => rfl); (case hr => first | (go_simp; done) | (go_simp; rfl)); intro gb1205 hg w34 hbox hb; have n0_ := Aside0.mk (below_step (by repeat (first | (with_reducible first | exact HB.out | apply below_alloc | apply pw_below_drewN | apply below_drew1) | exact HB.out)) hb); have n1_ := Aside0.mk (hbox); have n2_ := Aside0.mk ((by rw [hg]; exact (below_size (by repeat (first | (with_reducible first | exact HB.out | apply below_alloc | apply pw_below_drewN | apply below_drew1) | exact HB.out))) : w.heap.size ≤ gb1205)); have n3_ := Aside0.mk ((by rw [hg]; exact (below_size (by repeat (first | (with_reducible first | exact HB.out | apply below_alloc | apply pw_below_drewN | apply below_drew1) | exact HB.out))) : w.heap.size ≤ gb1205)); clear HB; have HB := n0_; have BK1205 := n1_; have GW1205 := n2_; have GE1205 := n3_; clear n0_ n1_ n2_ n3_; clear hb hbox hg; have hcz35_0 : w34.cell? ⟨gb1205, 0, none⟩ = some (.int .i64 a1_0) := (blk_cell BK1205.out 0).trans rfl; have hcz35_1 : w34.cell? ⟨gb1205, 1, none⟩ = some (.slice A1_1 l1_1.length c1_1) := (blk_cell BK1205.out 1).trans rfl; have hfz35_0 := blk_frozen BK1205.out 0; have hfz35_1 := blk_frozen BK1205.out 1) | ((with_reducible refine gate_callee (f := 65) rfl ?_); refine goesL_ (some 11) rfl rfl Try.func65 (by kernel_rfl) rfl #[.agg #[.int .i64 a1_0, .slice A1_1 l1_1.length c1_1], .int .i64 1048576] rfl (by (try simp only [List.map_toArray, List.map_cons, List.map_nil]); first | done | rfl | (simp only [List.length_drop, List.length_take]; rfl)) ?_; (with_reducible refine (laws_szClaim.calls a1_0 _ _ l1_1 1048576 t1206 _ ?side1 ?side2 A3.out).mono ?_); (case side1 => repeat (first | exact (Kd.C_below HR1_1.out HB.out) | (with_reducible refine Kd.C_alloc ?_ _) | (with_reducible refine Kd.C_drewN ?_ _) | (with_reducible refine Kd.C_drew ?_))); (case side2 => exact HC1_1.out); rintro e w36 ⟨rfl, hb⟩; refine ⟨_, rfl, ?_⟩; have n0_ := Aside0.mk (blk_below (g := gb1205) (o := .cells #[.int .i64 a1_0, .slice A1_1 l1_1.length c1_1] 68 (0, 0)) (by (with_reducible repeat (first | refine blk_drewN ?_ _ | refine blk_drew ?_ | refine blk_alloc ?_ _)); exact BK1205.out) hb); have n1_ := Aside0.mk (below_step (by repeat (first | (with_reducible first | exact HB.out | apply below_alloc | apply pw_below_drewN | apply below_drew1 | refine below_set ?_ GE1205.out) | exact HB.out)) hb); clear BK1205; clear HB; have BK1205 := n0_; have HB := n1_; clear n0_ n1_; (try clear hb); (try clear hb2); (try clear hk); (try clear hi); have hcz37_0 : w36.cell? ⟨gb1205, 0, none⟩ = some (.int .i64 a1_0) := (blk_cell BK1205.out 0).trans rfl; have hcz37_1 : w36.cell? ⟨gb1205, 1, none⟩ = some (.slice A1_1 l1_1.length c1_1) := (blk_cell BK1205.out 1).trans rfl; have hfz37_0 := blk_frozen BK1205.out 0; have hfz37_1 := blk_frozen BK1205.out 1) | ((with_reducible refine gate_callee (f := 67) rfl ?_); refine goesL_ (some 16) rfl rfl Try.func67 (by kernel_rfl) rfl #[.agg #[.int .i64 a1_0, .slice A1_1 l1_1.length c1_1]] rfl (by (try simp only [List.map_toArray, List.map_cons, List.map_nil]); first | done | rfl | (simp only [List.length_drop, List.length_take]; rfl)) ?_; (with_reducible refine (laws_toClaim.calls k a1_0 _ _ l1_1 t1207 t1208 _ ?side1 ?side2 A8.out).mono ?_); (case side1 => repeat (first | exact (Kd.C_below HR1_1.out HB.out) | (with_reducible refine Kd.C_alloc ?_ _) | (with_reducible refine Kd.C_drewN ?_ _) | (with_reducible refine Kd.C_drew ?_))); (case side2 => exact HC1_1.out); rintro e w38 ⟨v1209, rfl, ho0, hb⟩; refine ⟨_, rfl, ?_⟩; have n0_ := Aside0.mk (Kd.R_lower ho0 (below_size (by repeat (first | (with_reducible first | exact HB.out | apply below_alloc | apply pw_below_drewN | apply below_drew1 | refine below_set ?_ GE1205.out) | exact HB.out)))); have n1_ := Aside0.mk (blk_below (g := gb1205) (o := .cells #[.int .i64 a1_0, .slice A1_1 l1_1.length c1_1] 68 (0, 0)) (by (with_reducible repeat (first | refine blk_drewN ?_ _ | refine blk_drew ?_ | refine blk_alloc ?_ _)); exact BK1205.out) hb); have n2_ := Aside0.mk (below_step (by repeat (first | (with_reducible first | exact HB.out | apply below_alloc | apply pw_below_drewN | apply below_drew1 | refine below_set ?_ GE1205.out) | exact HB.out)) hb); clear BK1205; clear HB; have HO1210 := n0_; have BK1205 := n1_; have HB := n2_; clear n0_ n1_ n2_; (try clear hb); (try clear hb2); (try clear hk); (try clear hi); (try clear ho0); obtain ⟨Ao39, co39, eo39⟩ := Kd.R_slice HO1210.out; subst eo39) | ((with_reducible refine gate_callee (f := 82) rfl ?_); refine goesL_ (some 17) rfl rfl Try.func82 (by kernel_rfl) rfl #[.int .i64 a0, .agg #[.int .i64 t1207, .slice Ao39 t1208.length co39]] rfl (by (try simp only [List.map_toArray, List.map_cons, List.map_nil]); first | done | rfl | (simp only [List.length_drop, List.length_take]; rfl)) ?_; (with_reducible refine (spec_SayCount.calls k a0 t1207 _ _ t1208 t1211 _ ?side1 ?side2 A9.out).mono ?_); (case side1 => repeat (first | exact (Kd.R_reads' HO1210.out).2.2 | (with_reducible refine Kd.C_alloc ?_ _) | (with_reducible refine Kd.C_drewN ?_ _) | (with_reducible refine Kd.C_drew ?_))); (case side2 => exact (Kd.R_reads' HO1210.out).2.1); rintro e w40 ⟨rfl, hb⟩; refine ⟨_, rfl, ?_⟩; have n0_ := Aside0.mk (Kd.R_below (by (with_reducible repeat (first | apply Kd.R_alloc | apply Kd.R_drewN | apply Kd.R_drew)); exact HO1210.out) hb); have n1_ := Aside0.mk (blk_below (g := gb1205) (o := .cells #[.int .i64 a1_0, .slice A1_1 l1_1.length c1_1] 68 (0, 0)) (by (with_reducible repeat (first | refine blk_drewN ?_ _ | refine blk_drew ?_ | refine blk_alloc ?_ _)); exact BK1205.out) hb); have n2_ := Aside0.mk (below_step (by repeat (first | (with_reducible first | exact HB.out | apply below_alloc | apply pw_below_drewN | apply below_drew1 | refine below_set ?_ GE1205.out) | exact HB.out)) hb); clear HO1210; clear BK1205; clear HB; have HO1210 := n0_; have BK1205 := n1_; have HB := n2_; clear n0_ n1_ n2_; (try clear hb); (try clear hb2); (try clear hk); (try clear hi); have hcz41_0 : w40.cell? ⟨gb1205, 0, none⟩ = some (.int .i64 a1_0) := (blk_cell BK1205.out 0).trans rfl; have hcz41_1 : w40.cell? ⟨gb1205, 1, none⟩ = some (.slice A1_1 l1_1.length c1_1) := (blk_cell BK1205.out 1).trans rfl; have hfz41_0 := blk_frozen BK1205.out 0; have hfz41_1 := blk_frozen BK1205.out 1) | ((with_reducible refine gate_callee (f := 67) rfl ?_); refine goesL_ (some 19) rfl rfl Try.func67 (by kernel_rfl) rfl #[.agg #[.int .i64 a1_0, .slice A1_1 l1_1.length c1_1]] rfl (by (try simp only [List.map_toArray, List.map_cons, List.map_nil]); first | done | rfl | (simp only [List.length_drop, List.length_take]; rfl)) ?_; (with_reducible refine (laws_toClaim.calls k a1_0 _ _ l1_1 t1212 t1213 _ ?side1 ?side2 A10.out).mono ?_); (case side1 => repeat (first | exact (Kd.C_below HR1_1.out HB.out) | (with_reducible refine Kd.C_alloc ?_ _) | (with_reducible refine Kd.C_drewN ?_ _) | (with_reducible refine Kd.C_drew ?_))); (case side2 => exact HC1_1.out); rintro e w42 ⟨v1214, rfl, ho0, hb⟩; refine ⟨_, rfl, ?_⟩; have n0_ := Aside0.mk (Kd.R_elder' (by (with_reducible repeat (first | apply Kd.R_alloc | apply Kd.R_drewN | apply Kd.R_drew)); exact HO1210.out) (Kd.R_base ho0) hb); have n1_ := Aside0.mk (Kd.R_lower (Kd.R_new' ho0 (Kd.R_lt (by (with_reducible repeat (first | apply Kd.R_alloc | apply Kd.R_drewN | apply Kd.R_drew)); exact HO1210.out))) (below_size (by repeat (first | (with_reducible first | exact HB.out | apply below_alloc | apply pw_below_drewN | apply below_drew1 | refine below_set ?_ GE1205.out) | exact HB.out)))); have n2_ := Aside0.mk (blk_below (g := gb1205) (o := .cells #[.int .i64 a1_0, .slice A1_1 l1_1.length c1_1] 68 (0, 0)) (by (with_reducible repeat (first | refine blk_drewN ?_ _ | refine blk_drew ?_ | refine blk_alloc ?_ _)); exact BK1205.out) hb); have n3_ := Aside0.mk (below_step (by repeat (first | (with_reducible first | exact HB.out | apply below_alloc | apply pw_below_drewN | apply below_drew1 | refine below_set ?_ GE1205.out) | exact HB.out)) hb); clear HO1210; clear BK1205; clear HB; have HO1210 := n0_; have HO1215 := n1_; have BK1205 := n2_; have HB := n3_; clear n0_ n1_ n2_ n3_; (try clear hb); (try clear hb2); (try clear hk); (try clear hi); (try clear ho0)) | ((with_reducible refine gate_dst (N := 7) rfl ?_); refine box_event ?hg (N := 7) ?hd (cs := #[.int .i64 0, .slice none 0 0]) (t := 50) ?hr ?_; (case hd => rfl); (case hg => rfl); (case hr => first | (go_simp; done) | (go_simp; rfl)); intro gb1216 hg w43 hbox hb; have n0_ := Aside0.mk (Kd.R_below (by (with_reducible repeat (first | apply Kd.R_alloc | apply Kd.R_drewN | apply Kd.R_drew)); exact HO1210.out) hb); have n1_ := Aside0.mk (Kd.R_below (by (with_reducible repeat (first | apply Kd.R_alloc | apply Kd.R_drewN | apply Kd.R_drew)); exact HO1215.out) hb); have n2_ := Aside0.mk (blk_below (g := gb1205) (o := .cells #[.int .i64 a1_0, .slice A1_1 l1_1.length c1_1] 68 (0, 0)) (by (with_reducible repeat (first | refine blk_drewN ?_ _ | refine blk_drew ?_ | refine blk_alloc ?_ _)); exact BK1205.out) hb); have n3_ := Aside0.mk (below_step (by repeat (first | (with_reducible first | exact HB.out | apply below_alloc | apply pw_below_drewN | apply below_drew1 | refine below_set ?_ GE1205.out) | exact HB.out)) hb); have n4_ := Aside0.mk (hbox); have n5_ := Aside0.mk ((by rw [hg]; exact (below_size (by repeat (first | (with_reducible first | exact HB.out | apply below_alloc | apply pw_below_drewN | apply below_drew1 | refine below_set ?_ GE1205.out) | exact HB.out))) : w.heap.size ≤ gb1216)); have n6_ := Aside0.mk ((by rw [hg]; exact (below_size (by repeat (first | (with_reducible first | exact HB.out | apply below_alloc | apply pw_below_drewN | apply below_drew1 | refine below_set ?_ GE1205.out) | exact HB.out))) : w.heap.size ≤ gb1216)); have n7_ := Aside0.mk ((by rw [hg]; exact Nat.ne_of_lt (blk_lt (g := gb1205) (o := .cells #[.int .i64 a1_0, .slice A1_1 l1_1.length c1_1] 68 (0, 0)) (by (with_reducible repeat (first | refine blk_drewN ?_ _ | refine blk_drew ?_ | refine blk_alloc ?_ _)); exact BK1205.out)) : gb1205 ≠ gb1216)); have n8_ := Aside0.mk ((by rw [hg]; exact Nat.ne_of_gt (blk_lt (g := gb1205) (o := .cells #[.int .i64 a1_0, .slice A1_1 l1_1.length c1_1] 68 (0, 0)) (by (with_reducible repeat (first | refine blk_drewN ?_ _ | refine blk_drew ?_ | refine blk_alloc ?_ _)); exact BK1205.out)) : gb1216 ≠ gb1205)); clear HO1210; clear HO1215; clear BK1205; clear HB; have HO1210 := n0_; have HO1215 := n1_; have BK1205 := n2_; have HB := n3_; have BK1216 := n4_; have GW1216 := n5_; have GE1216 := n6_; have NB1205_1216 := n7_; have NB1216_1205 := n8_; clear n0_ n1_ n2_ n3_ n4_ n5_ n6_ n7_ n8_; clear hb hbox hg; have hnb44 := NB1216_1205.out; have hnc44 := NB1205_1216.out; have hcz45_0 : w43.cell? ⟨gb1216, 0, none⟩ = some (.int .i64 0) := (blk_cell BK1216.out 0).trans rfl; have hcz45_1 : w43.cell? ⟨gb1216, 1, none⟩ = some (.slice none 0 0) := (blk_cell BK1216.out 1).trans rfl; have hfz45_0 := blk_frozen BK1216.out 0; have hfz45_1 := blk_frozen BK1216.out 1; obtain ⟨Ao46, co46, eo46⟩ := Kd.R_slice HO1215.out; subst eo46) | ((with_reducible refine gate_callee (f := 83) rfl ?_); refine goesL_ (some 22) rfl rfl Try.func83 (by kernel_rfl) rfl #[.int .i64 a0, .agg #[.int .i64 t1212, .slice Ao46 t1213.length co46]] rfl (by (try simp only [List.map_toArray, List.map_cons, List.map_nil]); first | done | rfl | (simp only [List.length_drop, List.length_take]; rfl)) ?_; (with_reducible refine (impl_SayCount.calls k a0 t1212 _ _ t1213 t1217 _ ?side1 ?side2 A11.out).mono ?_); (case side1 => refine (Kd.R_reads' (e := 52) (base := w.heap.size) (ok := fun k_ => (True ∧ some k_ ≠ (.slice Ao39 t1208.length co39 : Value).ownBlock)) (n := t1213.length) (c := co46) ?_).2.2; exact (by (with_reducible repeat (first | apply Kd.R_alloc | apply Kd.R_drewN | apply Kd.R_drew)); exact (Kd.R_mono (Kd.R_far (p := ⟨gb1216, 1, none⟩) (Kd.R_far (p := ⟨gb1216, 0, none⟩) (Kd.R_types HO1215.out BK1216.out (by decide)) (fun _ hk => hk.2) (.int .i64 t1212)) (fun _ hk => hk.2) (.slice Ao46 t1213.length co46)) (fun _ h_ => h_.1)))); (case side2 => exact (Kd.R_reads' HO1215.out).2.1); rintro e w47 ⟨rfl, hb⟩; refine ⟨_, rfl, ?_⟩; have n0_ := Aside0.mk (Kd.R_below (by (with_reducible repeat (first | apply Kd.R_alloc | apply Kd.R_drewN | apply Kd.R_drew)); exact (Kd.R_mono (Kd.R_far (p := ⟨gb1216, 1, none⟩) (Kd.R_far (p := ⟨gb1216, 0, none⟩) (Kd.R_types HO1210.out BK1216.out (by decide)) (fun _ hk => hk.2) (.int .i64 t1212)) (fun _ hk => hk.2) (.slice Ao46 t1213.length co46)) (fun _ h_ => h_.1))) hb); have n1_ := Aside0.mk (Kd.R_below (by (with_reducible repeat (first | apply Kd.R_alloc | apply Kd.R_drewN | apply Kd.R_drew)); exact (Kd.R_mono (Kd.R_far (p := ⟨gb1216, 1, none⟩) (Kd.R_far (p := ⟨gb1216, 0, none⟩) (Kd.R_types HO1215.out BK1216.out (by decide)) (fun _ hk => hk.2) (.int .i64 t1212)) (fun _ hk => hk.2) (.slice Ao46 t1213.length co46)) (fun _ h_ => h_.1))) hb); have n2_ := Aside0.mk (blk_below (g := gb1205) (o := .cells #[.int .i64 a1_0, .slice A1_1 l1_1.length c1_1] 68 (0, 0)) (by (with_reducible repeat (first | refine blk_drewN ?_ _ | refine blk_drew ?_ | refine blk_alloc ?_ _)); refine blk_far ?_ NB1205_1216.out _; (with_reducible repeat (first | refine blk_drewN ?_ _ | refine blk_drew ?_ | refine blk_alloc ?_ _)); refine blk_far ?_ NB1205_1216.out _; (with_reducible repeat (first | refine blk_drewN ?_ _ | refine blk_drew ?_ | refine blk_alloc ?_ _)); exact BK1205.out) hb); have n3_ := Aside0.mk (blk_below (g := gb1216) (o := .cells #[.int .i64 t1212, .slice Ao46 t1213.length co46] 50 (0, 0)) (by (with_reducible repeat (first | refine blk_drewN ?_ _ | refine blk_drew ?_ | refine blk_alloc ?_ _)); refine blk_put (cs := #[.int .i64 t1212, .slice none 0 0]) ?_ 1 _ rfl; (with_reducible repeat (first | refine blk_drewN ?_ _ | refine blk_drew ?_ | refine blk_alloc ?_ _)); refine blk_put (cs := #[.int .i64 0, .slice none 0 0]) ?_ 0 _ rfl; (with_reducible repeat (first | refine blk_drewN ?_ _ | refine blk_drew ?_ | refine blk_alloc ?_ _)); exact BK1216.out) hb); have n4_ := Aside0.mk (below_step (by repeat (first | (with_reducible first | exact HB.out | apply below_alloc | apply pw_below_drewN | apply below_drew1 | refine below_set ?_ GE1205.out | refine below_set ?_ GE1216.out) | exact HB.out)) hb); clear HO1210; clear HO1215; clear BK1205; clear BK1216; clear HB; have HO1210 := n0_; have HO1215 := n1_; have BK1205 := n2_; have BK1216 := n3_; have HB := n4_; clear n0_ n1_ n2_ n3_ n4_; (try clear hb); (try clear hb2); (try clear hk); (try clear hi)))
        have n0_ := Aside0.mk (Kd.R_drew HO1210.out)
        have n1_ := Aside0.mk (Kd.R_drew HO1215.out)
        have n2_ := Aside0.mk (blk_drew BK1205.out)
        have n3_ := Aside0.mk (blk_drew BK1216.out)
        have n4_ := Aside0.mk (below_drew1 HB.out)
        clear HO1210
        clear HO1215
        clear BK1205
        clear BK1216
        clear HB
        have HO1210 := n0_
        have HO1215 := n1_
        have BK1205 := n2_
        have BK1216 := n3_
        have HB := n4_
        clear n0_ n1_ n2_ n3_ n4_
        refine start_ (n := 5) (S := fun w' => w'.cell? ⟨gb1216, 0, none⟩ = some (.int .i64 t1212) ∧ w'.cell? ⟨gb1216, 1, none⟩ = some (.slice Ao46 t1213.length co46) ∧ w'.cell? ⟨gb1205, 0, none⟩ = some (.int .i64 a1_0) ∧ w'.cell? ⟨gb1205, 1, none⟩ = some (.slice A1_1 l1_1.length c1_1)) (ds := []) #[false, false, false, false, false] (by kernel_rfl) rfl rfl ⟨(blk_cell BK1216.out 0).trans rfl, (blk_cell BK1216.out 1).trans rfl, (blk_cell BK1205.out 0).trans rfl, (blk_cell BK1205.out 1).trans rfl⟩ (fun hHeld => ?_)
        generalize w47.drew = w48 at HO1210 HO1215 BK1205 BK1216 HB hHeld ⊢
        refine take_ (i := 0) (N := some 26) (v := ?_) (a' := ?_) #[true, false, false, false, false] rfl rfl (by kernel_rfl) (fun _ _ _ h => h) (Or.inl ⟨by rfl, ?_⟩) hHeld ?_ ?_
        rotate_left
        · rintro w' ⟨s0, s1, s2, s3⟩
          go_simp
          with_reducible rfl
        rotate_left
        · simp only [Act.put, List.setIfInBounds_toArray, List.set_cons_zero, List.set_cons_succ, i64_w, i32_w]
          rfl
        refine take_ (i := 1) (N := some 27) (v := ?_) (a' := ?_) #[true, true, false, false, false] rfl rfl (by kernel_rfl) (fun _ _ _ h => h) (Or.inl ⟨by rfl, ?_⟩) hHeld ?_ ?_
        rotate_left
        · rintro w' ⟨s0, s1, s2, s3⟩
          go_simp
          with_reducible rfl
        rotate_left
        · simp only [Act.put, List.setIfInBounds_toArray, List.set_cons_zero, List.set_cons_succ, i64_w, i32_w]
          rfl
        refine one_ (i := 2) (N := some 28) #[true, true, true, false, false] rfl rfl (by kernel_rfl) (by decide) (fun K hK => ?_)
        refine goes_ Try.func67 (by kernel_rfl) rfl #[.agg #[.int .i64 a1_0, .slice A1_1 l1_1.length c1_1]] (by rfl) rfl rfl (by (try simp only [List.map_toArray, List.map_cons, List.map_nil]); first | done | rfl | (simp only [List.length_drop, List.length_take]; rfl)) ?_
        with_reducible refine (laws_toClaim.calls k a1_0 _ _ l1_1 t1218 t1219 _ ?side1 ?side2 A13.out).mono ?_
        (case side1 => repeat (first | exact (Kd.C_below HR1_1.out HB.out) | (with_reducible refine Kd.C_alloc ?_ _) | (with_reducible refine Kd.C_drewN ?_ _) | (with_reducible refine Kd.C_drew ?_)))
        (case side2 => exact HC1_1.out)
        rintro e w49 ⟨v1220, rfl, ho0, hb⟩
        refine ⟨_, rfl, ?_⟩
        have n0_ := Aside0.mk (Kd.R_elder' (by (with_reducible repeat (first | apply Kd.R_alloc | apply Kd.R_drewN | apply Kd.R_drew)); exact HO1210.out) (Kd.R_base ho0) hb)
        have n1_ := Aside0.mk (Kd.R_elder' (by (with_reducible repeat (first | apply Kd.R_alloc | apply Kd.R_drewN | apply Kd.R_drew)); exact HO1215.out) (Kd.R_base ho0) hb)
        have n2_ := Aside0.mk (Kd.R_lower (Kd.R_new' (Kd.R_new' ho0 (Kd.R_lt (by (with_reducible repeat (first | apply Kd.R_alloc | apply Kd.R_drewN | apply Kd.R_drew)); exact HO1210.out))) (Kd.R_lt (by (with_reducible repeat (first | apply Kd.R_alloc | apply Kd.R_drewN | apply Kd.R_drew)); exact HO1215.out))) (below_size (by repeat (first | (with_reducible first | exact HB.out | apply below_alloc | apply pw_below_drewN | apply below_drew1 | refine below_set ?_ GE1205.out | refine below_set ?_ GE1216.out) | exact HB.out))))
        have n3_ := Aside0.mk (blk_below (g := gb1205) (o := .cells #[.int .i64 a1_0, .slice A1_1 l1_1.length c1_1] 68 (0, 0)) (by (with_reducible repeat (first | refine blk_drewN ?_ _ | refine blk_drew ?_ | refine blk_alloc ?_ _)); exact BK1205.out) hb)
        have n4_ := Aside0.mk (blk_below (g := gb1216) (o := .cells #[.int .i64 t1212, .slice Ao46 t1213.length co46] 50 (0, 0)) (by (with_reducible repeat (first | refine blk_drewN ?_ _ | refine blk_drew ?_ | refine blk_alloc ?_ _)); exact BK1216.out) hb)
        have n5_ := Aside0.mk (below_step (by repeat (first | (with_reducible first | exact HB.out | apply below_alloc | apply pw_below_drewN | apply below_drew1 | refine below_set ?_ GE1205.out | refine below_set ?_ GE1216.out) | exact HB.out)) hb)
        clear HO1210
        clear HO1215
        clear BK1205
        clear BK1216
        clear HB
        have HO1210 := n0_
        have HO1215 := n1_
        have HO1221 := n2_
        have BK1205 := n3_
        have BK1216 := n4_
        have HB := n5_
        clear n0_ n1_ n2_ n3_ n4_ n5_
        (try clear hb)
        (try clear hb2)
        (try clear hk)
        (try clear hi)
        (try clear ho0)
        obtain ⟨Ao50, co50, eo50⟩ := Kd.R_slice HO1221.out
        (first | subst eo50 | (injection eo50 with f1_ f2_ f3_; have f4_ := f1_.symm; have f5_ := f3_.symm; clear f1_ f2_ f3_; subst f4_; subst f5_))
        refine hK.out _ _ ⟨(blk_cell BK1216.out 0).trans rfl, (blk_cell BK1216.out 1).trans rfl, (blk_cell BK1205.out 0).trans rfl, (blk_cell BK1205.out 1).trans rfl⟩ (fun hHeld => ?_)
        clear hK K
        refine norm_ (a' := ?_) ?_ ?_
        rotate_left
        · show Act.put _ (some 28) _ = _
          simp only [Act.put, List.setIfInBounds_toArray, List.set_cons_zero, List.set_cons_succ, i64_w, i32_w]
          rfl
        refine one_ (i := 3) (N := some 29) #[true, true, true, true, false] rfl rfl (by kernel_rfl) (by decide) (fun K hK => ?_)
        refine goes_ Try.func68 (by kernel_rfl) rfl #[.agg #[.int .i64 t1212, .slice Ao46 t1213.length co46], .agg #[.int .i64 t1218, .slice Ao50 t1219.length co50]] (by rfl) rfl rfl (by (try simp only [List.map_toArray, List.map_cons, List.map_nil]); first | done | rfl | (simp only [List.length_drop, List.length_take]; rfl)) ?_
        with_reducible refine (laws_eqClaim.calls k t1212 _ _ t1213 t1218 _ _ t1219 false _ ?side1 ?side2 ?side3 ?side4 A14.out).mono ?_
        (case side1 => repeat (first | exact (Kd.R_reads' HO1215.out).2.2 | (with_reducible refine Kd.C_alloc ?_ _) | (with_reducible refine Kd.C_drewN ?_ _) | (with_reducible refine Kd.C_drew ?_)))
        (case side2 => exact (Kd.R_reads' HO1215.out).2.1)
        (case side3 => repeat (first | exact (Kd.R_reads' HO1221.out).2.2 | (with_reducible refine Kd.C_alloc ?_ _) | (with_reducible refine Kd.C_drewN ?_ _) | (with_reducible refine Kd.C_drew ?_)))
        (case side4 => exact (Kd.R_reads' HO1221.out).2.1)
        rintro e w51 ⟨rfl, hb⟩
        refine ⟨_, rfl, ?_⟩
        have n0_ := Aside0.mk (Kd.R_below (by (with_reducible repeat (first | apply Kd.R_alloc | apply Kd.R_drewN | apply Kd.R_drew)); exact HO1210.out) hb)
        have n1_ := Aside0.mk (Kd.R_below (by (with_reducible repeat (first | apply Kd.R_alloc | apply Kd.R_drewN | apply Kd.R_drew)); exact HO1215.out) hb)
        have n2_ := Aside0.mk (Kd.R_below (by (with_reducible repeat (first | apply Kd.R_alloc | apply Kd.R_drewN | apply Kd.R_drew)); exact HO1221.out) hb)
        have n3_ := Aside0.mk (blk_below (g := gb1205) (o := .cells #[.int .i64 a1_0, .slice A1_1 l1_1.length c1_1] 68 (0, 0)) (by (with_reducible repeat (first | refine blk_drewN ?_ _ | refine blk_drew ?_ | refine blk_alloc ?_ _)); exact BK1205.out) hb)
        have n4_ := Aside0.mk (blk_below (g := gb1216) (o := .cells #[.int .i64 t1212, .slice Ao46 t1213.length co46] 50 (0, 0)) (by (with_reducible repeat (first | refine blk_drewN ?_ _ | refine blk_drew ?_ | refine blk_alloc ?_ _)); exact BK1216.out) hb)
        have n5_ := Aside0.mk (below_step (by repeat (first | (with_reducible first | exact HB.out | apply below_alloc | apply pw_below_drewN | apply below_drew1 | refine below_set ?_ GE1205.out | refine below_set ?_ GE1216.out) | exact HB.out)) hb)
        clear HO1210
        clear HO1215
        clear HO1221
        clear BK1205
        clear BK1216
        clear HB
        have HO1210 := n0_
        have HO1215 := n1_
        have HO1221 := n2_
        have BK1205 := n3_
        have BK1216 := n4_
        have HB := n5_
        clear n0_ n1_ n2_ n3_ n4_ n5_
        (try clear hb)
        (try clear hb2)
        (try clear hk)
        (try clear hi)
        refine hK.out _ _ ⟨(blk_cell BK1216.out 0).trans rfl, (blk_cell BK1216.out 1).trans rfl, (blk_cell BK1205.out 0).trans rfl, (blk_cell BK1205.out 1).trans rfl⟩ (fun hHeld => ?_)
        clear hK K
        refine norm_ (a' := ?_) ?_ ?_
        rotate_left
        · show Act.put _ (some 29) _ = _
          simp only [Act.put, List.setIfInBounds_toArray, List.set_cons_zero, List.set_cons_succ, i64_w, i32_w]
          rfl
        refine pure_ (i := 4) (N := some 30) (v := ?_) (a' := ?_) #[true, true, true, true, true] rfl rfl (by kernel_rfl) (fun _ _ _ h => h) (Or.inl ⟨by rfl, ?_⟩) ?_ ?_
        rotate_left
        · intro w'
          go_simp
          with_reducible rfl
        rotate_left
        · simp only [Act.put, List.setIfInBounds_toArray, List.set_cons_zero, List.set_cons_succ, i64_w, i32_w]
          rfl
        refine done_ (by kernel_rfl) ?_
        try go_wp2
        go_ret
        exact ⟨by first | rfl | (simp [errW_none, errW_some] <;> rfl) | (simp [*, errW_none, errW_some] <;> rfl), by repeat (first | (with_reducible first | exact HB.out | apply below_alloc | apply pw_below_drewN | apply below_drew1 | refine below_set ?_ GE1205.out | refine below_set ?_ GE1216.out) | exact HB.out)⟩
    · rw [if_neg c12] at H
      have c12b0 : (t1217 == t1211) = false := beq_eq_false_iff_ne.mpr c12
      have c12b1 : (t1217 != t1211) = true := bne_iff_ne.mpr c12
      obtain rfl := Option.some.inj H
      go_enter Try.func19, Try.ntmps19
      go_wp2_with (first | ((with_reducible refine gate_dst (N := 3) rfl ?_); refine box_event ?hg (N := 3) ?hd (cs := #[.int .i64 a1_0, .slice A1_1 l1_1.length c1_1]) (t := 68) ?hr ?_; (case hd => rfl); (case hg => rfl); (case hr => first | (go_simp; done) | (go_simp; rfl)); intro gb1205 hg w52 hbox hb; have n0_ := Aside0.mk (below_step (by repeat (first | (with_reducible first | exact HB.out | apply below_alloc | apply pw_below_drewN | apply below_drew1) | exact HB.out)) hb); have n1_ := Aside0.mk (hbox); have n2_ := Aside0.mk ((by rw [hg]; exact (below_size (by repeat (first | (with_reducible first | exact HB.out | apply below_alloc | apply pw_below_drewN | apply below_drew1) | exact HB.out))) : w.heap.size ≤ gb1205)); have n3_ := Aside0.mk ((by rw [hg]; exact (below_size (by repeat (first | (with_reducible first | exact HB.out | apply below_alloc | apply pw_below_drewN | apply below_drew1) | exact HB.out))) : w.heap.size ≤ gb1205)); clear HB; have HB := n0_; have BK1205 := n1_; have GW1205 := n2_; have GE1205 := n3_; clear n0_ n1_ n2_ n3_; clear hb hbox hg; have hcz53_0 : w52.cell? ⟨gb1205, 0, none⟩ = some (.int .i64 a1_0) := (blk_cell BK1205.out 0).trans rfl; have hcz53_1 : w52.cell? ⟨gb1205, 1, none⟩ = some (.slice A1_1 l1_1.length c1_1) := (blk_cell BK1205.out 1).trans rfl; have hfz53_0 := blk_frozen BK1205.out 0; have hfz53_1 := blk_frozen BK1205.out 1) | ((with_reducible refine gate_callee (f := 65) rfl ?_); refine goesL_ (some 11) rfl rfl Try.func65 (by kernel_rfl) rfl #[.agg #[.int .i64 a1_0, .slice A1_1 l1_1.length c1_1], .int .i64 1048576] rfl (by (try simp only [List.map_toArray, List.map_cons, List.map_nil]); first | done | rfl | (simp only [List.length_drop, List.length_take]; rfl)) ?_; (with_reducible refine (laws_szClaim.calls a1_0 _ _ l1_1 1048576 t1206 _ ?side1 ?side2 A3.out).mono ?_); (case side1 => repeat (first | exact (Kd.C_below HR1_1.out HB.out) | (with_reducible refine Kd.C_alloc ?_ _) | (with_reducible refine Kd.C_drewN ?_ _) | (with_reducible refine Kd.C_drew ?_))); (case side2 => exact HC1_1.out); rintro e w54 ⟨rfl, hb⟩; refine ⟨_, rfl, ?_⟩; have n0_ := Aside0.mk (blk_below (g := gb1205) (o := .cells #[.int .i64 a1_0, .slice A1_1 l1_1.length c1_1] 68 (0, 0)) (by (with_reducible repeat (first | refine blk_drewN ?_ _ | refine blk_drew ?_ | refine blk_alloc ?_ _)); exact BK1205.out) hb); have n1_ := Aside0.mk (below_step (by repeat (first | (with_reducible first | exact HB.out | apply below_alloc | apply pw_below_drewN | apply below_drew1 | refine below_set ?_ GE1205.out) | exact HB.out)) hb); clear BK1205; clear HB; have BK1205 := n0_; have HB := n1_; clear n0_ n1_; (try clear hb); (try clear hb2); (try clear hk); (try clear hi); have hcz55_0 : w54.cell? ⟨gb1205, 0, none⟩ = some (.int .i64 a1_0) := (blk_cell BK1205.out 0).trans rfl; have hcz55_1 : w54.cell? ⟨gb1205, 1, none⟩ = some (.slice A1_1 l1_1.length c1_1) := (blk_cell BK1205.out 1).trans rfl; have hfz55_0 := blk_frozen BK1205.out 0; have hfz55_1 := blk_frozen BK1205.out 1) | ((with_reducible refine gate_callee (f := 67) rfl ?_); refine goesL_ (some 16) rfl rfl Try.func67 (by kernel_rfl) rfl #[.agg #[.int .i64 a1_0, .slice A1_1 l1_1.length c1_1]] rfl (by (try simp only [List.map_toArray, List.map_cons, List.map_nil]); first | done | rfl | (simp only [List.length_drop, List.length_take]; rfl)) ?_; (with_reducible refine (laws_toClaim.calls k a1_0 _ _ l1_1 t1207 t1208 _ ?side1 ?side2 A8.out).mono ?_); (case side1 => repeat (first | exact (Kd.C_below HR1_1.out HB.out) | (with_reducible refine Kd.C_alloc ?_ _) | (with_reducible refine Kd.C_drewN ?_ _) | (with_reducible refine Kd.C_drew ?_))); (case side2 => exact HC1_1.out); rintro e w56 ⟨v1209, rfl, ho0, hb⟩; refine ⟨_, rfl, ?_⟩; have n0_ := Aside0.mk (Kd.R_lower ho0 (below_size (by repeat (first | (with_reducible first | exact HB.out | apply below_alloc | apply pw_below_drewN | apply below_drew1 | refine below_set ?_ GE1205.out) | exact HB.out)))); have n1_ := Aside0.mk (blk_below (g := gb1205) (o := .cells #[.int .i64 a1_0, .slice A1_1 l1_1.length c1_1] 68 (0, 0)) (by (with_reducible repeat (first | refine blk_drewN ?_ _ | refine blk_drew ?_ | refine blk_alloc ?_ _)); exact BK1205.out) hb); have n2_ := Aside0.mk (below_step (by repeat (first | (with_reducible first | exact HB.out | apply below_alloc | apply pw_below_drewN | apply below_drew1 | refine below_set ?_ GE1205.out) | exact HB.out)) hb); clear BK1205; clear HB; have HO1210 := n0_; have BK1205 := n1_; have HB := n2_; clear n0_ n1_ n2_; (try clear hb); (try clear hb2); (try clear hk); (try clear hi); (try clear ho0); obtain ⟨Ao57, co57, eo57⟩ := Kd.R_slice HO1210.out; subst eo57) | ((with_reducible refine gate_callee (f := 82) rfl ?_); refine goesL_ (some 17) rfl rfl Try.func82 (by kernel_rfl) rfl #[.int .i64 a0, .agg #[.int .i64 t1207, .slice Ao57 t1208.length co57]] rfl (by (try simp only [List.map_toArray, List.map_cons, List.map_nil]); first | done | rfl | (simp only [List.length_drop, List.length_take]; rfl)) ?_; (with_reducible refine (spec_SayCount.calls k a0 t1207 _ _ t1208 t1211 _ ?side1 ?side2 A9.out).mono ?_); (case side1 => repeat (first | exact (Kd.R_reads' HO1210.out).2.2 | (with_reducible refine Kd.C_alloc ?_ _) | (with_reducible refine Kd.C_drewN ?_ _) | (with_reducible refine Kd.C_drew ?_))); (case side2 => exact (Kd.R_reads' HO1210.out).2.1); rintro e w58 ⟨rfl, hb⟩; refine ⟨_, rfl, ?_⟩; have n0_ := Aside0.mk (Kd.R_below (by (with_reducible repeat (first | apply Kd.R_alloc | apply Kd.R_drewN | apply Kd.R_drew)); exact HO1210.out) hb); have n1_ := Aside0.mk (blk_below (g := gb1205) (o := .cells #[.int .i64 a1_0, .slice A1_1 l1_1.length c1_1] 68 (0, 0)) (by (with_reducible repeat (first | refine blk_drewN ?_ _ | refine blk_drew ?_ | refine blk_alloc ?_ _)); exact BK1205.out) hb); have n2_ := Aside0.mk (below_step (by repeat (first | (with_reducible first | exact HB.out | apply below_alloc | apply pw_below_drewN | apply below_drew1 | refine below_set ?_ GE1205.out) | exact HB.out)) hb); clear HO1210; clear BK1205; clear HB; have HO1210 := n0_; have BK1205 := n1_; have HB := n2_; clear n0_ n1_ n2_; (try clear hb); (try clear hb2); (try clear hk); (try clear hi); have hcz59_0 : w58.cell? ⟨gb1205, 0, none⟩ = some (.int .i64 a1_0) := (blk_cell BK1205.out 0).trans rfl; have hcz59_1 : w58.cell? ⟨gb1205, 1, none⟩ = some (.slice A1_1 l1_1.length c1_1) := (blk_cell BK1205.out 1).trans rfl; have hfz59_0 := blk_frozen BK1205.out 0; have hfz59_1 := blk_frozen BK1205.out 1) | ((with_reducible refine gate_callee (f := 67) rfl ?_); refine goesL_ (some 19) rfl rfl Try.func67 (by kernel_rfl) rfl #[.agg #[.int .i64 a1_0, .slice A1_1 l1_1.length c1_1]] rfl (by (try simp only [List.map_toArray, List.map_cons, List.map_nil]); first | done | rfl | (simp only [List.length_drop, List.length_take]; rfl)) ?_; (with_reducible refine (laws_toClaim.calls k a1_0 _ _ l1_1 t1212 t1213 _ ?side1 ?side2 A10.out).mono ?_); (case side1 => repeat (first | exact (Kd.C_below HR1_1.out HB.out) | (with_reducible refine Kd.C_alloc ?_ _) | (with_reducible refine Kd.C_drewN ?_ _) | (with_reducible refine Kd.C_drew ?_))); (case side2 => exact HC1_1.out); rintro e w60 ⟨v1214, rfl, ho0, hb⟩; refine ⟨_, rfl, ?_⟩; have n0_ := Aside0.mk (Kd.R_elder' (by (with_reducible repeat (first | apply Kd.R_alloc | apply Kd.R_drewN | apply Kd.R_drew)); exact HO1210.out) (Kd.R_base ho0) hb); have n1_ := Aside0.mk (Kd.R_lower (Kd.R_new' ho0 (Kd.R_lt (by (with_reducible repeat (first | apply Kd.R_alloc | apply Kd.R_drewN | apply Kd.R_drew)); exact HO1210.out))) (below_size (by repeat (first | (with_reducible first | exact HB.out | apply below_alloc | apply pw_below_drewN | apply below_drew1 | refine below_set ?_ GE1205.out) | exact HB.out)))); have n2_ := Aside0.mk (blk_below (g := gb1205) (o := .cells #[.int .i64 a1_0, .slice A1_1 l1_1.length c1_1] 68 (0, 0)) (by (with_reducible repeat (first | refine blk_drewN ?_ _ | refine blk_drew ?_ | refine blk_alloc ?_ _)); exact BK1205.out) hb); have n3_ := Aside0.mk (below_step (by repeat (first | (with_reducible first | exact HB.out | apply below_alloc | apply pw_below_drewN | apply below_drew1 | refine below_set ?_ GE1205.out) | exact HB.out)) hb); clear HO1210; clear BK1205; clear HB; have HO1210 := n0_; have HO1215 := n1_; have BK1205 := n2_; have HB := n3_; clear n0_ n1_ n2_ n3_; (try clear hb); (try clear hb2); (try clear hk); (try clear hi); (try clear ho0)) | ((with_reducible refine gate_dst (N := 7) rfl ?_); refine box_event ?hg (N := 7) ?hd (cs := #[.int .i64 0, .slice none 0 0]) (t := 50) ?hr ?_; (case hd => rfl); (case hg => rfl); (case hr => first | (go_simp; done) | (go_simp; rfl)); intro gb1216 hg w61 hbox hb; have n0_ := Aside0.mk (Kd.R_below (by (with_reducible repeat (first | apply Kd.R_alloc | apply Kd.R_drewN | apply Kd.R_drew)); exact HO1210.out) hb); have n1_ := Aside0.mk (Kd.R_below (by (with_reducible repeat (first | apply Kd.R_alloc | apply Kd.R_drewN | apply Kd.R_drew)); exact HO1215.out) hb); have n2_ := Aside0.mk (blk_below (g := gb1205) (o := .cells #[.int .i64 a1_0, .slice A1_1 l1_1.length c1_1] 68 (0, 0)) (by (with_reducible repeat (first | refine blk_drewN ?_ _ | refine blk_drew ?_ | refine blk_alloc ?_ _)); exact BK1205.out) hb); have n3_ := Aside0.mk (below_step (by repeat (first | (with_reducible first | exact HB.out | apply below_alloc | apply pw_below_drewN | apply below_drew1 | refine below_set ?_ GE1205.out) | exact HB.out)) hb); have n4_ := Aside0.mk (hbox); have n5_ := Aside0.mk ((by rw [hg]; exact (below_size (by repeat (first | (with_reducible first | exact HB.out | apply below_alloc | apply pw_below_drewN | apply below_drew1 | refine below_set ?_ GE1205.out) | exact HB.out))) : w.heap.size ≤ gb1216)); have n6_ := Aside0.mk ((by rw [hg]; exact (below_size (by repeat (first | (with_reducible first | exact HB.out | apply below_alloc | apply pw_below_drewN | apply below_drew1 | refine below_set ?_ GE1205.out) | exact HB.out))) : w.heap.size ≤ gb1216)); have n7_ := Aside0.mk ((by rw [hg]; exact Nat.ne_of_lt (blk_lt (g := gb1205) (o := .cells #[.int .i64 a1_0, .slice A1_1 l1_1.length c1_1] 68 (0, 0)) (by (with_reducible repeat (first | refine blk_drewN ?_ _ | refine blk_drew ?_ | refine blk_alloc ?_ _)); exact BK1205.out)) : gb1205 ≠ gb1216)); have n8_ := Aside0.mk ((by rw [hg]; exact Nat.ne_of_gt (blk_lt (g := gb1205) (o := .cells #[.int .i64 a1_0, .slice A1_1 l1_1.length c1_1] 68 (0, 0)) (by (with_reducible repeat (first | refine blk_drewN ?_ _ | refine blk_drew ?_ | refine blk_alloc ?_ _)); exact BK1205.out)) : gb1216 ≠ gb1205)); clear HO1210; clear HO1215; clear BK1205; clear HB; have HO1210 := n0_; have HO1215 := n1_; have BK1205 := n2_; have HB := n3_; have BK1216 := n4_; have GW1216 := n5_; have GE1216 := n6_; have NB1205_1216 := n7_; have NB1216_1205 := n8_; clear n0_ n1_ n2_ n3_ n4_ n5_ n6_ n7_ n8_; clear hb hbox hg; have hnb62 := NB1216_1205.out; have hnc62 := NB1205_1216.out; have hcz63_0 : w61.cell? ⟨gb1216, 0, none⟩ = some (.int .i64 0) := (blk_cell BK1216.out 0).trans rfl; have hcz63_1 : w61.cell? ⟨gb1216, 1, none⟩ = some (.slice none 0 0) := (blk_cell BK1216.out 1).trans rfl; have hfz63_0 := blk_frozen BK1216.out 0; have hfz63_1 := blk_frozen BK1216.out 1; obtain ⟨Ao64, co64, eo64⟩ := Kd.R_slice HO1215.out; subst eo64) | ((with_reducible refine gate_callee (f := 83) rfl ?_); refine goesL_ (some 22) rfl rfl Try.func83 (by kernel_rfl) rfl #[.int .i64 a0, .agg #[.int .i64 t1212, .slice Ao64 t1213.length co64]] rfl (by (try simp only [List.map_toArray, List.map_cons, List.map_nil]); first | done | rfl | (simp only [List.length_drop, List.length_take]; rfl)) ?_; (with_reducible refine (impl_SayCount.calls k a0 t1212 _ _ t1213 t1217 _ ?side1 ?side2 A11.out).mono ?_); (case side1 => refine (Kd.R_reads' (e := 52) (base := w.heap.size) (ok := fun k_ => (True ∧ some k_ ≠ (.slice Ao57 t1208.length co57 : Value).ownBlock)) (n := t1213.length) (c := co64) ?_).2.2; exact (by (with_reducible repeat (first | apply Kd.R_alloc | apply Kd.R_drewN | apply Kd.R_drew)); exact (Kd.R_mono (Kd.R_far (p := ⟨gb1216, 1, none⟩) (Kd.R_far (p := ⟨gb1216, 0, none⟩) (Kd.R_types HO1215.out BK1216.out (by decide)) (fun _ hk => hk.2) (.int .i64 t1212)) (fun _ hk => hk.2) (.slice Ao64 t1213.length co64)) (fun _ h_ => h_.1)))); (case side2 => exact (Kd.R_reads' HO1215.out).2.1); rintro e w65 ⟨rfl, hb⟩; refine ⟨_, rfl, ?_⟩; have n0_ := Aside0.mk (Kd.R_below (by (with_reducible repeat (first | apply Kd.R_alloc | apply Kd.R_drewN | apply Kd.R_drew)); exact (Kd.R_mono (Kd.R_far (p := ⟨gb1216, 1, none⟩) (Kd.R_far (p := ⟨gb1216, 0, none⟩) (Kd.R_types HO1210.out BK1216.out (by decide)) (fun _ hk => hk.2) (.int .i64 t1212)) (fun _ hk => hk.2) (.slice Ao64 t1213.length co64)) (fun _ h_ => h_.1))) hb); have n1_ := Aside0.mk (Kd.R_below (by (with_reducible repeat (first | apply Kd.R_alloc | apply Kd.R_drewN | apply Kd.R_drew)); exact (Kd.R_mono (Kd.R_far (p := ⟨gb1216, 1, none⟩) (Kd.R_far (p := ⟨gb1216, 0, none⟩) (Kd.R_types HO1215.out BK1216.out (by decide)) (fun _ hk => hk.2) (.int .i64 t1212)) (fun _ hk => hk.2) (.slice Ao64 t1213.length co64)) (fun _ h_ => h_.1))) hb); have n2_ := Aside0.mk (blk_below (g := gb1205) (o := .cells #[.int .i64 a1_0, .slice A1_1 l1_1.length c1_1] 68 (0, 0)) (by (with_reducible repeat (first | refine blk_drewN ?_ _ | refine blk_drew ?_ | refine blk_alloc ?_ _)); refine blk_far ?_ NB1205_1216.out _; (with_reducible repeat (first | refine blk_drewN ?_ _ | refine blk_drew ?_ | refine blk_alloc ?_ _)); refine blk_far ?_ NB1205_1216.out _; (with_reducible repeat (first | refine blk_drewN ?_ _ | refine blk_drew ?_ | refine blk_alloc ?_ _)); exact BK1205.out) hb); have n3_ := Aside0.mk (blk_below (g := gb1216) (o := .cells #[.int .i64 t1212, .slice Ao64 t1213.length co64] 50 (0, 0)) (by (with_reducible repeat (first | refine blk_drewN ?_ _ | refine blk_drew ?_ | refine blk_alloc ?_ _)); refine blk_put (cs := #[.int .i64 t1212, .slice none 0 0]) ?_ 1 _ rfl; (with_reducible repeat (first | refine blk_drewN ?_ _ | refine blk_drew ?_ | refine blk_alloc ?_ _)); refine blk_put (cs := #[.int .i64 0, .slice none 0 0]) ?_ 0 _ rfl; (with_reducible repeat (first | refine blk_drewN ?_ _ | refine blk_drew ?_ | refine blk_alloc ?_ _)); exact BK1216.out) hb); have n4_ := Aside0.mk (below_step (by repeat (first | (with_reducible first | exact HB.out | apply below_alloc | apply pw_below_drewN | apply below_drew1 | refine below_set ?_ GE1205.out | refine below_set ?_ GE1216.out) | exact HB.out)) hb); clear HO1210; clear HO1215; clear BK1205; clear BK1216; clear HB; have HO1210 := n0_; have HO1215 := n1_; have BK1205 := n2_; have BK1216 := n3_; have HB := n4_; clear n0_ n1_ n2_ n3_ n4_; (try clear hb); (try clear hb2); (try clear hk); (try clear hi)))
      go_ret
      exact ⟨by first | rfl | (simp [errW_none, errW_some] <;> rfl) | (simp [*, errW_none, errW_some] <;> rfl), by repeat (first | (with_reducible first | exact HB.out | apply below_alloc | apply pw_below_drewN | apply below_drew1 | refine below_set ?_ GE1205.out | refine below_set ?_ GE1216.out) | exact HB.out)⟩

/-- THE ONE PURE STATEMENT of laws_FnExactSayCount: this session's. -/
def laws_FnExactSayCount.Pure : Prop := ∀ (a0 : Int) (a1_0 : Int) (l1_1 : List (S92)), (Lit.int .i64 a0).wf = true → (Lit.int .i64 a1_0).wf = true → l1_1.length ≤ 9223372036854775807 → (∀ y ∈ l1_1, wf92 y) → ∃ k, laws_FnExactSayCount.f k a0 a1_0 l1_1 = some true
theorem laws_FnExactSayCount.walk (P : laws_FnExactSayCount.Pure) (a0 : Int) (a1_0 : Int) (A1_1 : Option Addr) (c1_1 : Nat) (l1_1 : List (S92)) (w : World) (hw0 : (Lit.int .i64 a0).wf = true) (hw1_0 : (Lit.int .i64 a1_0).wf = true) (hr1_1 : Kd.C k92 w A1_1 l1_1.length l1_1) (hc1_1 : l1_1.length ≤ c1_1) (hw1_1 : (∀ y ∈ l1_1, wf92 y)) :
    Calls Try.prog 19 #[.int .i64 a0, .agg #[.int .i64 a1_0, .slice A1_1 l1_1.length c1_1]] w fun e w' => e = .returned (.bool true) ∧ Below w.heap.size w w' := by
  obtain ⟨k, h⟩ := P a0 a1_0 l1_1 hw0 hw1_0 hr1_1.2.1 hw1_1
  refine (laws_FnExactSayCount.calls k a0 a1_0 A1_1 c1_1 l1_1 true w hr1_1 hc1_1 h).mono ?_
  rintro e w' ⟨rfl, hd⟩
  exact ⟨rfl, hd⟩

end Go.Proofs.Ytpampekijfjlkaa.X

/- Plain laws of terms, third text: what a valid row of marks says in a world, as a function of the row alone. -/
namespace Go.Proofs.Ytpampekijfjlkaa.L
open Go.RowKit Go.Proofs.Ytpampekijfjlkaa.X Go.Proofs.YtpampekijfjlkaaW.PrintWords Go.Proofs.YtpampekijfjlkaaW.PrintLast Go.Proofs.YtpampekijfjlkaaW.PrintMore

theorem Tm.good_four {p : Int} (hp : p ≤ 4) : ∀ a : Tm, a.good p → a.good 4
  | .tell i, h => by have h' : (i : Int) < p := h; show (i : Int) < 4; omega
  | .cnt n, h => by have h' : (n : Int) ≤ p + 1 := h; show (n : Int) ≤ 4 + 1; omega
  | .neg a, h => good_four hp a h
  | .bin o a b, h => ⟨h.1, good_four hp a h.2.1, good_four hp b h.2.2⟩
open Classical in
/-- The tree of a row of marks. -/
noncomputable def tree (t : List M) : Tm := if h : ∃ a : Tm, a.good 4 ∧ t = a.post then Classical.choose h else .tell 0
theorem tree_post {a : Tm} (h : a.good 4) : (tree a.post).good 4 ∧ a.post = (tree a.post).post := by
  have h' : ∃ b : Tm, b.good 4 ∧ a.post = b.post := ⟨a, h, rfl⟩
  unfold tree
  rw [dif_pos h']
  exact Classical.choose_spec h'
/-- Whether a row of marks holds in a world. -/
noncomputable def hv (t : List M) (w : Nat) : Bool := (tree t).ev w
theorem hv_post {a : Tm} (h : a.good 4) (hl : a.post.length ≤ 500) {w : Nat} (hw : w < 16) : hv a.post w = a.ev w := by
  obtain ⟨h1, h2⟩ := tree_post h
  have e1 := impl_holds_ev (by decide) hw h hl
  have e2 := impl_holds_ev (by decide) hw h1 (by rw [← h2]; exact hl)
  rw [← h2] at e2
  exact Ev.uniq e2 e1
theorem tok_tree {p : Int} {t : List M} (h : tok p t = true) : ∃ a : Tm, a.good p ∧ t = a.post ∧ a.good 4 ∧ t.length ≤ 15 := by
  obtain ⟨a, h1, h2⟩ := parse h
  obtain ⟨_, h3, _, h4, _⟩ := tok_iff.1 h
  exact ⟨a, h1, h2, a.good_four h3 h1, h4⟩
theorem impl_holds_hv {p : Int} {t : List M} (h : tok p t = true) {w : Nat} (hw : w < 16) : Ev (fun k => impl_holds.f k t (w : Int)) (hv t w) := by
  obtain ⟨a, _, rfl, h4, hl⟩ := tok_tree h
  rw [hv_post h4 (by omega) hw]
  exact impl_holds_ev (by decide) hw h4 (by omega)
theorem spec_holds_hv {p : Int} {t : List M} (h : tok p t = true) {w : Nat} (hw : w < 16) : Ev (fun k => spec_l3Holds.f k t (w : Int)) (hv t w) := by
  obtain ⟨a, _, rfl, h4, hl⟩ := tok_tree h
  rw [hv_post h4 (by omega) hw]
  exact l3Holds_ev (by decide) hw a h4 (by omega)
/-- Whether a claim may be made in a world. -/
noncomputable def may (i : Int) (t : List M) (w : Nat) : Bool := hv t w == w.testBit i.toNat
/-- The trick: a person's mark ahead, and the mark of sameness behind. -/
def wrapT (i : Int) (t : List M) : List M := ⟨0, i⟩ :: (t ++ [⟨5, 0⟩])
theorem scan_app {p : Int} : ∀ (s t : List M) (n m : Nat), scan p s n = some m → scan p (s ++ t) n = scan p t m
  | [], t, n, m, h => by simp only [scan] at h; cases h; rfl
  | ⟨f0, f1⟩ :: s, t, n, m, h => by
    simp only [scan, List.cons_append] at h ⊢
    by_cases h0 : f0 = 0
    · rw [if_pos h0] at h ⊢
      by_cases h1 : 0 ≤ f1 ∧ f1 < p
      · rw [if_pos h1] at h ⊢; exact scan_app s t _ m h
      · rw [if_neg h1] at h; cases h
    rw [if_neg h0] at h ⊢
    by_cases h1 : f0 = 1
    · rw [if_pos h1] at h ⊢
      by_cases h2 : 0 ≤ f1 ∧ f1 ≤ p + 1
      · rw [if_pos h2] at h ⊢; exact scan_app s t _ m h
      · rw [if_neg h2] at h; cases h
    rw [if_neg h1] at h ⊢
    by_cases h2 : f0 = 2
    · rw [if_pos h2] at h ⊢
      by_cases h3 : f1 = 0 ∧ 1 ≤ n
      · rw [if_pos h3] at h ⊢; exact scan_app s t _ m h
      · rw [if_neg h3] at h; cases h
    rw [if_neg h2] at h ⊢
    by_cases h3 : f0 = 3 ∨ f0 = 4 ∨ f0 = 5
    · rw [if_pos h3] at h ⊢
      by_cases h4 : f1 = 0 ∧ 2 ≤ n
      · rw [if_pos h4] at h ⊢; exact scan_app s t _ m h
      · rw [if_neg h4] at h; cases h
    · rw [if_neg h3] at h; cases h
theorem scan_up {p : Int} : ∀ (s : List M) (n m d : Nat), scan p s n = some m → scan p s (n + d) = some (m + d)
  | [], n, m, d, h => by simp only [scan] at h ⊢; cases h; rfl
  | ⟨f0, f1⟩ :: s, n, m, d, h => by
    simp only [scan] at h ⊢
    by_cases h0 : f0 = 0
    · rw [if_pos h0] at h ⊢
      by_cases h1 : 0 ≤ f1 ∧ f1 < p
      · rw [if_pos h1] at h ⊢; rw [show n + d + 1 = n + 1 + d by omega]; exact scan_up s _ m d h
      · rw [if_neg h1] at h; cases h
    rw [if_neg h0] at h ⊢
    by_cases h1 : f0 = 1
    · rw [if_pos h1] at h ⊢
      by_cases h2 : 0 ≤ f1 ∧ f1 ≤ p + 1
      · rw [if_pos h2] at h ⊢; rw [show n + d + 1 = n + 1 + d by omega]; exact scan_up s _ m d h
      · rw [if_neg h2] at h; cases h
    rw [if_neg h1] at h ⊢
    by_cases h2 : f0 = 2
    · rw [if_pos h2] at h ⊢
      by_cases h3 : f1 = 0 ∧ 1 ≤ n
      · rw [if_pos h3] at h; rw [if_pos ⟨h3.1, by omega⟩]; exact scan_up s _ m d h
      · rw [if_neg h3] at h; cases h
    rw [if_neg h2] at h ⊢
    by_cases h3 : f0 = 3 ∨ f0 = 4 ∨ f0 = 5
    · rw [if_pos h3] at h ⊢
      by_cases h4 : f1 = 0 ∧ 2 ≤ n
      · rw [if_pos h4] at h; rw [if_pos ⟨h4.1, by omega⟩, show n + d - 1 = n - 1 + d by omega]; exact scan_up s _ m d h
      · rw [if_neg h4] at h; cases h
    · rw [if_neg h3] at h; cases h
end Go.Proofs.Ytpampekijfjlkaa.L

/- Plain laws of tables: the worlds in which something holds, as the bits of a number. -/
namespace Go.Proofs.Ytpampekijfjlkaa.L
open Go.RowKit Go.Proofs.Ytpampekijfjlkaa.X Go.Proofs.YtpampekijfjlkaaW.PrintWords Go.Proofs.YtpampekijfjlkaaW.PrintLast Go.Proofs.YtpampekijfjlkaaW.PrintMore

/-- The worlds below n in which P holds, as bits. -/
def tabL (P : Nat → Bool) : Nat → Nat
  | 0 => 0
  | n + 1 => tabL P n ||| (if P n = true then 2 ^ n else 0)
theorem tabL_bit (P : Nat → Bool) : ∀ n w, (tabL P n).testBit w = (decide (w < n) && P w)
  | 0, w => by simp [tabL]
  | n + 1, w => by
    rw [tabL, Nat.testBit_or, tabL_bit P n w]
    by_cases e : w = n
    · subst e
      by_cases h : P w = true
      · rw [if_pos h, Nat.testBit_two_pow_self, h]; simp
      · rw [if_neg h, Nat.zero_testBit]; simp at h; simp [h]
    · have h1 : (if P n = true then 2 ^ n else 0).testBit w = false := by
        by_cases h : P n = true
        · rw [if_pos h, Nat.testBit_two_pow]; simp; omega
        · rw [if_neg h, Nat.zero_testBit]
      rw [h1, Bool.or_false]
      congr 1
      exact decide_eq_decide.mpr (by omega)
theorem lt_of_bits {x n : Nat} (h : ∀ w, n ≤ w → x.testBit w = false) : x < 2 ^ n := Nat.lt_pow_two_of_testBit x (fun w hw => h w hw)
theorem tabL_lt (P : Nat → Bool) (n : Nat) : tabL P n < 2 ^ n := lt_of_bits (fun w hw => by rw [tabL_bit]; simp; omega)
theorem tabL_congr {P Q : Nat → Bool} {n : Nat} (h : ∀ w, w < n → P w = Q w) : tabL P n = tabL Q n := by
  apply Nat.eq_of_testBit_eq
  intro w
  rw [tabL_bit, tabL_bit]
  by_cases hw : w < n
  · rw [h w hw]
  · simp [hw]
theorem tabL_inj {P Q : Nat → Bool} {n : Nat} (h : tabL P n = tabL Q n) : ∀ w, w < n → P w = Q w := by
  intro w hw
  have := tabL_bit P n w
  rw [h, tabL_bit] at this
  simpa [hw] using this.symm
theorem tabL_mono {P : Nat → Bool} {n : Nat} (hn : n ≤ 16) : tabL P n < 65536 := by
  have := tabL_lt P n
  have h : (2 : Nat) ^ n ≤ 2 ^ 16 := Nat.pow_le_pow_right (by decide) hn
  omega
/-! ### The machine's words of bits -/
theorem wrap_i64_small (n : Int) (h0 : 0 ≤ n) (h1 : n < 2 ^ 32) : IntKind.i64.wrap n = n := by rw [IntKind.wrap_i64]; omega
theorem or_nat {a b : Nat} (ha : a < 2 ^ 32) (hb : b < 2 ^ 32) : Go.bits .or .i64 (a : Int) (b : Int) = ((a ||| b : Nat) : Int) := (bits_nat .i64 32 (by decide) wrap_i64_small a b ha hb).2
theorem and_nat {a b : Nat} (ha : a < 2 ^ 32) (hb : b < 2 ^ 32) : Go.bits .and .i64 (a : Int) (b : Int) = ((a &&& b : Nat) : Int) := (bits_nat .i64 32 (by decide) wrap_i64_small a b ha hb).1
theorem shl_fin : ∀ i : Fin 31, shl .i64 1 ((i.val : Nat) : Int) = ((2 ^ i.val : Nat) : Int) := by decide +kernel
theorem shl_nat {i : Nat} (hi : i < 31) : shl .i64 1 (i : Int) = ((2 ^ i : Nat) : Int) := shl_fin ⟨i, hi⟩
theorem shlu_fin : ∀ i : Fin 6, shl .u64 1 ((i.val : Nat) : Int) = ((2 ^ i.val : Nat) : Int) := by decide +kernel
theorem shlu_nat {i : Nat} (hi : i < 6) : shl .u64 1 (i : Int) = ((2 ^ i : Nat) : Int) := shlu_fin ⟨i, hi⟩
theorem or_step {P : Nat → Bool} {i : Nat} (hi : i < 16) (h : P i = true) : Go.bits .or .i64 ((tabL P i : Nat) : Int) (shl .i64 1 (i : Int)) = ((tabL P (i + 1) : Nat) : Int) := by
  have h1 := tabL_lt P i
  have h2 : (2 : Nat) ^ i < 2 ^ 16 := Nat.pow_lt_pow_right (by decide) hi
  rw [shl_nat (by omega), or_nat (by omega) (by omega), tabL, if_pos h]
theorem not_step {P : Nat → Bool} {i : Nat} (h : ¬ P i = true) : tabL P (i + 1) = tabL P i := by rw [tabL, if_neg h, Nat.or_zero]
theorem people_nat {p : Int} (h0 : 1 ≤ p) (h1 : p ≤ 4) : ∃ q : Nat, p = (q : Int) ∧ 1 ≤ q ∧ q ≤ 4 ∧ 2 ^ q ≤ 16 ∧ p.toNat = q := by
  obtain ⟨q, rfl⟩ := Int.eq_ofNat_of_zero_le (show 0 ≤ p by omega)
  refine ⟨q, rfl, by omega, by omega, ?_, by simp⟩
  have : (2 : Nat) ^ q ≤ 2 ^ 4 := Nat.pow_le_pow_right (by decide) (by omega)
  omega
end Go.Proofs.Ytpampekijfjlkaa.L

/- Plain law of the program's maker of tables. -/
namespace Go.Proofs.Ytpampekijfjlkaa.L
open Go.RowKit Go.Proofs.Ytpampekijfjlkaa.X Go.Proofs.YtpampekijfjlkaaW.PrintWords Go.Proofs.YtpampekijfjlkaaW.PrintLast Go.Proofs.YtpampekijfjlkaaW.PrintMore

theorem tableBy_l0 {F : Nat → Int → Option Bool} {P : Nat → Bool} {n : Nat} (hn : n ≤ 16) (hF : ∀ w : Nat, w < n → Ev (fun k => F k (w : Int)) (P w)) : ∀ d i, d + i = n →
    Ev (fun k => impl_tableBy.l0 F k ((tabL P i : Nat) : Int) (n : Int) (i : Int)) ((tabL P n : Nat) : Int) := by
  intro d
  induction d with
  | zero =>
    intro i hi
    rw [Nat.zero_add] at hi
    subst hi
    exact Ev.step (fun k => by simp only [impl_tableBy.l0]; rfl) (Ev.no (by omega) (Ev.some _))
  | succ d ih =>
    intro i hi
    refine Ev.step (fun k => by simp only [impl_tableBy.l0]; rfl) ?_
    refine Ev.yes (by omega) (Ev.bind (hF i (by omega)) ?_)
    rw [w64 (by omega) (by omega), show ((i : Int) + 1) = ((i + 1 : Nat) : Int) by omega]
    by_cases h : P i = true
    · refine Ev.yes h (Ev.yes (by omega) ?_)
      rw [or_step (by omega) h]
      exact ih (i + 1) (by omega)
    · refine Ev.no h ?_
      have := ih (i + 1) (by omega)
      rwa [not_step h] at this
theorem tableBy_ev {F : Nat → Int → Option Bool} {P : Nat → Bool} {q : Nat} (hq : q ≤ 4) (hF : ∀ w : Nat, w < 2 ^ q → Ev (fun k => F k (w : Int)) (P w)) : Ev (fun k => impl_tableBy.f F k (q : Int)) ((tabL P (2 ^ q) : Nat) : Int) := by
  unfold impl_tableBy.f
  refine Ev.yes (by omega) ?_
  rw [shl_nat (by omega)]
  have h16 : (2 : Nat) ^ q ≤ 2 ^ 4 := Nat.pow_le_pow_right (by decide) hq
  exact tableBy_l0 (by omega) hF (2 ^ q) 0 (by omega)
end Go.Proofs.Ytpampekijfjlkaa.L

/- Plain laws of claims: which are ones. -/
namespace Go.Proofs.Ytpampekijfjlkaa.L
open Go.RowKit Go.Proofs.Ytpampekijfjlkaa.X Go.Proofs.YtpampekijfjlkaaW.PrintWords Go.Proofs.YtpampekijfjlkaaW.PrintLast Go.Proofs.YtpampekijfjlkaaW.PrintMore

/-- A claim by one of so many people. -/
def clok (p i : Int) (t : List M) : Bool := decide (0 ≤ i ∧ i < p) && (tok p t && decide (t.length ≤ 13))
theorem clok_iff {p i : Int} {t : List M} : clok p i t = true ↔ 0 ≤ i ∧ i < p ∧ tok p t = true ∧ t.length ≤ 13 := by
  unfold clok
  simp only [Bool.and_eq_true, decide_eq_true_eq]
  exact ⟨fun h => ⟨h.1.1, h.1.2, h.2.1, h.2.2⟩, fun h => ⟨⟨h.1, h.2.1⟩, h.2.2.1, h.2.2.2⟩⟩
theorem clok_false {p i : Int} {t : List M} (h : ¬ (0 ≤ i ∧ i < p ∧ tok p t = true ∧ t.length ≤ 13)) : false = clok p i t := by
  cases e : clok p i t with
  | false => rfl
  | true => exact absurd (clok_iff.1 e) h
theorem impl_ClaimOk_ev (p i : Int) (t : List M) : Ev (fun k => impl_ClaimOk.f k p i t) (clok p i t) := by
  unfold impl_ClaimOk.f
  simp only [peopleOk_eq, Option.bind_some]
  by_cases h0 : 1 ≤ p ∧ p ≤ 4
  · refine Ev.yes (decide_eq_true h0) ?_
    by_cases h1 : i ≥ 0
    · refine Ev.yes h1 ?_
      by_cases h2 : i < p
      · refine Ev.yes h2 (Ev.bind (impl_TermOk_ev p t) ?_)
        by_cases h3 : tok p t = true
        · refine Ev.yes h3 (Ev.cast (Ev.some _) ?_)
          by_cases h4 : t.length ≤ 13
          · rw [clok_iff.2 ⟨h1, h2, h3, h4⟩]; exact decide_eq_true (by omega)
          · rw [← clok_false (fun h => h4 h.2.2.2)]; exact decide_eq_false (by omega)
        · exact Ev.no h3 (Ev.cast (Ev.some _) (clok_false (fun h => h3 h.2.2.1)))
      · exact Ev.no h2 (Ev.cast (Ev.some _) (clok_false (fun h => h2 h.2.1)))
    · exact Ev.no h1 (Ev.cast (Ev.some _) (clok_false (fun h => h1 h.1)))
  · refine Ev.no (by simpa using h0) (Ev.cast (Ev.some _) (clok_false (fun h => h0 ?_)))
    have := tok_iff.1 h.2.2.1
    omega
theorem spec_ClaimOk_ev (p i : Int) (t : List M) (hl : t.length ≤ 4611686018427387904) (hw : ∀ m ∈ t, m.f1 ≤ 9223372036854775807) : Ev (fun k => spec_ClaimOk.f k p i t) (clok p i t) := by
  unfold spec_ClaimOk.f
  by_cases h1 : i ≥ 0
  · refine Ev.yes h1 ?_
    by_cases h2 : i < p
    · refine Ev.yes h2 (Ev.bind (spec_TermOk_ev p t hl hw) ?_)
      by_cases h3 : tok p t = true
      · refine Ev.yes h3 (Ev.cast (Ev.some _) ?_)
        by_cases h4 : t.length ≤ 13
        · rw [clok_iff.2 ⟨h1, h2, h3, h4⟩]; exact decide_eq_true (by omega)
        · rw [← clok_false (fun h => h4 h.2.2.2)]; exact decide_eq_false (by omega)
      · exact Ev.no h3 (Ev.cast (Ev.some _) (clok_false (fun h => h3 h.2.2.1)))
    · exact Ev.no h2 (Ev.cast (Ev.some _) (clok_false (fun h => h2 h.2.1)))
  · exact Ev.no h1 (Ev.cast (Ev.some _) (clok_false (fun h => h1 h.1)))
/-- A claim, and whether it is one. -/
def claimR (p i : Int) (t : List M) : Int × List M × Bool := if clok p i t = true then (i, t, true) else (0, [], false)
theorem claimR_length {p i : Int} {t : List M} : (claimR p i t).2.1.length ≤ 13 := by
  unfold claimR
  split
  · rename_i h; exact (clok_iff.1 h).2.2.2
  · simp
end Go.Proofs.Ytpampekijfjlkaa.L

/- Plain laws of the tables of claims. -/
namespace Go.Proofs.Ytpampekijfjlkaa.L
open Go.RowKit Go.Proofs.Ytpampekijfjlkaa.X Go.Proofs.YtpampekijfjlkaaW.PrintWords Go.Proofs.YtpampekijfjlkaaW.PrintLast Go.Proofs.YtpampekijfjlkaaW.PrintMore

theorem impl_maySay_ev {p i : Int} {t : List M} (h : clok p i t = true) {w : Nat} (hw : w < 16) : Ev (fun k => impl_maySay.f k i t (w : Int)) (may i t w) := by
  obtain ⟨h0, h1, h2, _⟩ := clok_iff.1 h
  have h4 := (tok_iff.1 h2).2.1
  obtain ⟨j, rfl⟩ := Int.eq_ofNat_of_zero_le h0
  unfold impl_maySay.f
  refine Ev.bind (impl_holds_hv h2 hw) (Ev.yes h0 (Ev.cast (Ev.some _) ?_))
  rw [bit_and' hw (show j < 4 by omega)]
  rfl
/-- The table of a claim. -/
noncomputable def ctab (p i : Int) (t : List M) : Nat := tabL (may i t) (2 ^ p.toNat)
theorem impl_ClaimTable_ev (p i : Int) (t : List M) : Ev (fun k => impl_ClaimTable.f k p i t) (if clok p i t = true then ((ctab p i t : Nat) : Int) else -1) := by
  unfold impl_ClaimTable.f
  refine Ev.bind (impl_ClaimOk_ev p i t) ?_
  by_cases h : clok p i t = true
  · rw [if_pos h]
    refine Ev.yes h ?_
    obtain ⟨hp0, hp1, _⟩ := tok_iff.1 (clok_iff.1 h).2.2.1
    obtain ⟨q, rfl, _, hq, hq2, _⟩ := people_nat hp0 hp1
    exact tableBy_ev hq (fun w hw => impl_maySay_ev h (by omega))
  · rw [if_neg h]
    exact Ev.no h (Ev.some _)
end Go.Proofs.Ytpampekijfjlkaa.L

/- Plain law of the reference's test whether a claim may be made. -/
namespace Go.Proofs.Ytpampekijfjlkaa.L
open Go.RowKit Go.Proofs.Ytpampekijfjlkaa.X Go.Proofs.YtpampekijfjlkaaW.PrintWords Go.Proofs.YtpampekijfjlkaaW.PrintLast Go.Proofs.YtpampekijfjlkaaW.PrintMore

theorem spec_may_ev {p i : Int} {t : List M} (h2 : tok p t = true) (h0 : 0 ≤ i) (h1 : i < p) {w : Nat} (hw : w < 16) : Ev (fun k => spec_l4May.f k i t (w : Int)) (may i t w) := by
  have h4 := (tok_iff.1 h2).2.1
  obtain ⟨j, rfl⟩ := Int.eq_ofNat_of_zero_le h0
  unfold spec_l4May.f
  refine Ev.yes h0 (Ev.bind (spec_holds_hv h2 hw) (Ev.cast (Ev.some _) ?_))
  rw [bit_mod' hw (show j < 4 by omega)]
  unfold may
  exact Bool.beq_comm
end Go.Proofs.Ytpampekijfjlkaa.L

/- Plain laws of the reference's tables of claims. -/
namespace Go.Proofs.Ytpampekijfjlkaa.L
open Go.RowKit Go.Proofs.Ytpampekijfjlkaa.X Go.Proofs.YtpampekijfjlkaaW.PrintWords Go.Proofs.YtpampekijfjlkaaW.PrintLast Go.Proofs.YtpampekijfjlkaaW.PrintMore

theorem spec_l4May_ev {p i : Int} {t : List M} (h : clok p i t = true) {w : Nat} (hw : w < 16) : Ev (fun k => spec_l4May.f k i t (w : Int)) (may i t w) := by
  obtain ⟨h0, h1, h2, _⟩ := clok_iff.1 h
  exact spec_may_ev h2 h0 h1 hw
theorem l4Table_l0 {q : Nat} {i : Int} {t : List M} (hq : q ≤ 4) (hq2 : 2 ^ q ≤ 16) (h : clok (q : Int) i t = true) : ∀ d j, d + j = 2 ^ q →
    Ev (fun k => spec_l4Table.l0 k (q : Int) ((tabL (may i t) j : Nat) : Int) (j : Int) i t) ((tabL (may i t) (2 ^ q) : Nat) : Int) := by
  intro d
  induction d with
  | zero =>
    intro j hj
    rw [Nat.zero_add] at hj
    refine Ev.step (fun k => by simp only [spec_l4Table.l0]; rfl) ?_
    rw [shl_nat (by omega)]
    refine Ev.yes (by omega) (Ev.no (by omega) (Ev.cast (Ev.some _) ?_))
    rw [hj]
  | succ d ih =>
    intro j hj
    refine Ev.step (fun k => by simp only [spec_l4Table.l0]; rfl) ?_
    rw [shl_nat (by omega)]
    refine Ev.yes (by omega) (Ev.yes (by omega) (Ev.bind (spec_l4May_ev h (by omega)) ?_))
    rw [w64 (by omega) (by omega), show ((j : Int) + 1) = ((j + 1 : Nat) : Int) by omega]
    by_cases hb : may i t j = true
    · refine Ev.yes hb (Ev.yes (by omega) ?_)
      rw [or_step (by omega) hb]
      exact ih (j + 1) (by omega)
    · refine Ev.no hb ?_
      have := ih (j + 1) (by omega)
      rwa [not_step hb] at this
theorem spec_l4Table_ev {p i : Int} {t : List M} (h : clok p i t = true) : Ev (fun k => spec_l4Table.f k p i t) ((ctab p i t : Nat) : Int) := by
  unfold spec_l4Table.f
  obtain ⟨hp0, hp1, _⟩ := tok_iff.1 (clok_iff.1 h).2.2.1
  obtain ⟨q, rfl, _, hq, hq2, _⟩ := people_nat hp0 hp1
  exact l4Table_l0 hq hq2 h (2 ^ q) 0 (by omega)
end Go.Proofs.Ytpampekijfjlkaa.L

/- Plain law of counting the bits of a table: the library's way and the reference's way come to the same. -/
namespace Go.Proofs.Ytpampekijfjlkaa.L
open Go.RowKit Go.Proofs.Ytpampekijfjlkaa.X Go.Proofs.YtpampekijfjlkaaW.PrintWords Go.Proofs.YtpampekijfjlkaaW.PrintLast Go.Proofs.YtpampekijfjlkaaW.PrintMore

theorem wrap_u64_small (n : Int) (h0 : 0 ≤ n) (h1 : n < 2 ^ 64) : IntKind.u64.wrap n = n := u64_wrap_id n h0 (by omega)
theorem andA {a : Nat} (h : a < 2 ^ 64) : Go.bits .and .u64 (a : Int) 6148914691236517205 = ((a &&& 6148914691236517205 : Nat) : Int) := (bits_nat .u64 64 (by decide) wrap_u64_small a 6148914691236517205 h (by decide)).1
theorem andB {a : Nat} (h : a < 2 ^ 64) : Go.bits .and .u64 (a : Int) 3689348814741910323 = ((a &&& 3689348814741910323 : Nat) : Int) := (bits_nat .u64 64 (by decide) wrap_u64_small a 3689348814741910323 h (by decide)).1
theorem andC {a : Nat} (h : a < 2 ^ 64) : Go.bits .and .u64 (a : Int) 1085102592571150095 = ((a &&& 1085102592571150095 : Nat) : Int) := (bits_nat .u64 64 (by decide) wrap_u64_small a 1085102592571150095 h (by decide)).1
theorem andD {a : Nat} (h : a < 2 ^ 32) : Go.bits .and .i64 (a : Int) 127 = ((a &&& 127 : Nat) : Int) := and_nat h (by decide)
def o1 (n : Nat) : Nat := (n / 2 &&& 6148914691236517205) + (n &&& 6148914691236517205)
def o2 (n : Nat) : Nat := (o1 n / 4 &&& 3689348814741910323) + (o1 n &&& 3689348814741910323)
def o3 (n : Nat) : Nat := (o2 n / 16 + o2 n) &&& 1085102592571150095
def o4 (n : Nat) : Nat := o3 n + o3 n / 256
def o5 (n : Nat) : Nat := o4 n + o4 n / 65536
def o6 (n : Nat) : Nat := o5 n + o5 n / 4294967296
theorem o1_lt {n : Nat} (h : n < 65536) : o1 n < 131072 := by
  have h1 : (n / 2 &&& 6148914691236517205) ≤ n / 2 := Nat.and_le_left
  have h2 : (n &&& 6148914691236517205) ≤ n := Nat.and_le_left
  unfold o1; omega
theorem o2_lt {n : Nat} (h : n < 65536) : o2 n < 262144 := by
  have := o1_lt h
  have h1 : (o1 n / 4 &&& 3689348814741910323) ≤ o1 n / 4 := Nat.and_le_left
  have h2 : (o1 n &&& 3689348814741910323) ≤ o1 n := Nat.and_le_left
  unfold o2; omega
theorem o3_lt {n : Nat} (h : n < 65536) : o3 n < 524288 := by
  have := o2_lt h
  have h1 : ((o2 n / 16 + o2 n) &&& 1085102592571150095) ≤ o2 n / 16 + o2 n := Nat.and_le_left
  unfold o3; omega
theorem o4_lt {n : Nat} (h : n < 65536) : o4 n < 1048576 := by have := o3_lt h; unfold o4; omega
theorem o5_lt {n : Nat} (h : n < 65536) : o5 n < 2097152 := by have := o4_lt h; unfold o5; omega
theorem o6_lt {n : Nat} (h : n < 65536) : o6 n < 4194304 := by have := o5_lt h; unfold o6; omega
theorem e1 {n : Nat} (h : n < 65536) : IntKind.u64.wrap (Go.bits .and .u64 ((n : Int) / 2) 6148914691236517205 + Go.bits .and .u64 (n : Int) 6148914691236517205) = ((o1 n : Nat) : Int) := by
  have hl := o1_lt h
  rw [show ((n : Int) / 2) = ((n / 2 : Nat) : Int) by omega, andA (by omega), andA (by omega), show (((n / 2 &&& 6148914691236517205 : Nat) : Int) + ((n &&& 6148914691236517205 : Nat) : Int)) = ((o1 n : Nat) : Int) by unfold o1; omega]
  exact wrap_u64_small _ (by omega) (by omega)
theorem e2 {n : Nat} (h : n < 65536) : IntKind.u64.wrap (Go.bits .and .u64 ((o1 n : Int) / 4) 3689348814741910323 + Go.bits .and .u64 ((o1 n : Nat) : Int) 3689348814741910323) = ((o2 n : Nat) : Int) := by
  have hl := o2_lt h
  have hk := o1_lt h
  rw [show (((o1 n : Nat) : Int) / 4) = ((o1 n / 4 : Nat) : Int) by omega, andB (by omega), andB (by omega), show (((o1 n / 4 &&& 3689348814741910323 : Nat) : Int) + ((o1 n &&& 3689348814741910323 : Nat) : Int)) = ((o2 n : Nat) : Int) by unfold o2; omega]
  exact wrap_u64_small _ (by omega) (by omega)
theorem e3 {n : Nat} (h : n < 65536) : Go.bits .and .u64 (IntKind.u64.wrap (((o2 n : Nat) : Int) / 16 + ((o2 n : Nat) : Int))) 1085102592571150095 = ((o3 n : Nat) : Int) := by
  have hk := o2_lt h
  rw [show (((o2 n : Nat) : Int) / 16 + ((o2 n : Nat) : Int)) = ((o2 n / 16 + o2 n : Nat) : Int) by omega, wrap_u64_small _ (by omega) (by omega), andC (by omega)]
  rfl
theorem ones_eq {n : Nat} (h : n < 65536) : bits_OnesCount.f (IntKind.u64.wrap (n : Int)) = some ((o6 n &&& 127 : Nat) : Int) := by
  unfold bits_OnesCount.f bits_OnesCount64.f
  have h3 := o3_lt h
  have h4 := o4_lt h
  have h5 := o5_lt h
  have h6 := o6_lt h
  rw [wrap_u64_small (n : Int) (by omega) (by omega), e1 h, e2 h, e3 h]
  rw [show (((o3 n : Nat) : Int) + ((o3 n : Nat) : Int) / 256) = ((o4 n : Nat) : Int) by unfold o4; omega, wrap_u64_small ((o4 n : Nat) : Int) (by omega) (by omega)]
  rw [show (((o4 n : Nat) : Int) + ((o4 n : Nat) : Int) / 65536) = ((o5 n : Nat) : Int) by unfold o5; omega, wrap_u64_small ((o5 n : Nat) : Int) (by omega) (by omega)]
  rw [show (((o5 n : Nat) : Int) + ((o5 n : Nat) : Int) / 4294967296) = ((o6 n : Nat) : Int) by unfold o6; omega, wrap_u64_small ((o6 n : Nat) : Int) (by omega) (by omega)]
  rw [w64 (by omega) (by omega), andD (by omega)]
  rfl
/-- How many of so many lowest bits are 1. -/
def hd : Nat → Nat → Nat
  | 0, _ => 0
  | d + 1, n => n % 2 + hd d (n / 2)
theorem hd_le : ∀ d n, hd d n ≤ d
  | 0, _ => Nat.le_refl 0
  | d + 1, n => by have := hd_le d (n / 2); rw [hd]; omega
theorem hd_zero : ∀ d, hd d 0 = 0
  | 0 => rfl
  | d + 1 => by rw [hd]; simp [hd_zero d]
def sameFrom : Nat → Nat → Bool
  | 0, _ => true
  | d + 1, n => Nat.beq (o6 n &&& 127) (hd 16 n) && sameFrom d (n + 1)
theorem sameFrom_at : ∀ (d n m : Nat), sameFrom d n = true → n ≤ m → m < n + d → (o6 m &&& 127) = hd 16 m
  | 0, n, m, _, h1, h2 => by omega
  | d + 1, n, m, h, h1, h2 => by
    rw [sameFrom, Bool.and_eq_true] at h
    by_cases e : m = n
    · rw [e]; exact Nat.eq_of_beq_eq_true h.1
    · exact sameFrom_at d (n + 1) m h.2 (by omega) (by omega)
theorem same0 : sameFrom 8192 0 = true := by decide +kernel
theorem same1 : sameFrom 8192 8192 = true := by decide +kernel
theorem same2 : sameFrom 8192 16384 = true := by decide +kernel
theorem same3 : sameFrom 8192 24576 = true := by decide +kernel
theorem same4 : sameFrom 8192 32768 = true := by decide +kernel
theorem same5 : sameFrom 8192 40960 = true := by decide +kernel
theorem same6 : sameFrom 8192 49152 = true := by decide +kernel
theorem same7 : sameFrom 8192 57344 = true := by decide +kernel
theorem same_all {n : Nat} (h : n < 65536) : (o6 n &&& 127) = hd 16 n := by
  by_cases h0 : n < 8192
  · exact sameFrom_at 8192 0 n same0 (by omega) (by omega)
  by_cases h1 : n < 16384
  · exact sameFrom_at 8192 8192 n same1 (by omega) (by omega)
  by_cases h2 : n < 24576
  · exact sameFrom_at 8192 16384 n same2 (by omega) (by omega)
  by_cases h3 : n < 32768
  · exact sameFrom_at 8192 24576 n same3 (by omega) (by omega)
  by_cases h4 : n < 40960
  · exact sameFrom_at 8192 32768 n same4 (by omega) (by omega)
  by_cases h5 : n < 49152
  · exact sameFrom_at 8192 40960 n same5 (by omega) (by omega)
  by_cases h6 : n < 57344
  · exact sameFrom_at 8192 49152 n same6 (by omega) (by omega)
  exact sameFrom_at 8192 57344 n same7 (by omega) (by omega)
theorem ones_hd {n : Nat} (h : n < 65536) : bits_OnesCount.f (IntKind.u64.wrap (n : Int)) = some ((hd 16 n : Nat) : Int) := by rw [ones_eq h, same_all h]
theorem heads_l0' : ∀ (d n c : Nat), n < 2 ^ d → d ≤ 62 → d + c ≤ 1000 → Ev (fun k => spec_l1Heads.l0 k (n : Int) (c : Int)) ((c + hd d n : Nat) : Int) := by
  intro d
  induction d with
  | zero =>
    intro n c hn hd62 hc
    have : n = 0 := by simpa using hn
    subst this
    exact Ev.step (fun k => by simp only [spec_l1Heads.l0]; rfl) (Ev.no (by omega) (Ev.cast (Ev.some _) (by simp [hd])))
  | succ d ih =>
    intro n c hn hd62 hc
    refine Ev.step (fun k => by simp only [spec_l1Heads.l0]; rfl) ?_
    by_cases h0 : (n : Int) > 0
    · refine Ev.yes h0 ?_
      have e1 : Int.tdiv (n : Int) 2 = ((n / 2 : Nat) : Int) := rfl
      have e2 : Int.tmod (n : Int) 2 = ((n % 2 : Nat) : Int) := rfl
      rw [Nat.pow_succ] at hn
      rw [e1, e2]
      have hd2 : n / 2 < 2 ^ d := by omega
      have hd3 : (2 : Nat) ^ d ≤ 2 ^ 62 := Nat.pow_le_pow_right (by decide) (by omega)
      rw [w64 (by omega) (by omega), w64 (by omega) (by omega), show ((c : Int) + ((n % 2 : Nat) : Int)) = ((c + n % 2 : Nat) : Int) by omega]
      exact Ev.cast (ih (n / 2) (c + n % 2) hd2 (by omega) (by omega)) (by rw [hd]; omega)
    · have : n = 0 := by omega
      subst this
      exact Ev.no h0 (Ev.cast (Ev.some _) (by rw [hd_zero]; rfl))
theorem heads_hd {n : Nat} (h : n < 65536) : Ev (fun k => spec_l1Heads.f k (n : Int)) ((hd 16 n : Nat) : Int) := by
  unfold spec_l1Heads.f
  exact Ev.cast (heads_l0' 16 n 0 h (by omega) (by omega)) (by simp)
end Go.Proofs.Ytpampekijfjlkaa.L

/- Plain laws of how many worlds a claim has, and of claims that always or never may be made. -/
namespace Go.Proofs.Ytpampekijfjlkaa.L
open Go.RowKit Go.Proofs.Ytpampekijfjlkaa.X Go.Proofs.YtpampekijfjlkaaW.PrintWords Go.Proofs.YtpampekijfjlkaaW.PrintLast Go.Proofs.YtpampekijfjlkaaW.PrintMore

theorem ctab_lt {p i : Int} {t : List M} (h : clok p i t = true) : ctab p i t < 65536 := by
  obtain ⟨hp0, hp1, _⟩ := tok_iff.1 (clok_iff.1 h).2.2.1
  obtain ⟨q, rfl, _, hq, hq2, e⟩ := people_nat hp0 hp1
  unfold ctab
  rw [e]
  exact tabL_mono hq2
noncomputable def sayN (p i : Int) (t : List M) : Int := if clok p i t = true then ((hd 16 (ctab p i t) : Nat) : Int) else -1
theorem impl_SayCount_ev (p i : Int) (t : List M) : Ev (fun k => impl_SayCount.f k p i t) (sayN p i t) := by
  unfold impl_SayCount.f
  refine Ev.bind (impl_ClaimTable_ev p i t) ?_
  by_cases h : clok p i t = true
  · rw [if_pos h, ones_hd (ctab_lt h)]
    refine Ev.no (by omega) (Ev.cast (Ev.some _) ?_)
    exact (if_pos h).symm
  · rw [if_neg h]
    exact Ev.yes (by omega) (Ev.cast (Ev.some _) (if_neg h).symm)
theorem spec_SayCount_ev (p i : Int) (t : List M) (hl : t.length ≤ 4611686018427387904) (hw : ∀ m ∈ t, m.f1 ≤ 9223372036854775807) : Ev (fun k => spec_SayCount.f k p i t) (sayN p i t) := by
  unfold spec_SayCount.f
  refine Ev.bind (spec_ClaimOk_ev p i t hl hw) ?_
  by_cases h : clok p i t = true
  · exact Ev.yes h (Ev.bind (spec_l4Table_ev h) (Ev.bind (heads_hd (ctab_lt h)) (Ev.cast (Ev.some _) (if_pos h).symm)))
  · exact Ev.no h (Ev.cast (Ev.some _) (if_neg h).symm)
end Go.Proofs.Ytpampekijfjlkaa.L

-- printed by a program of this session's (xprint)
namespace Go.Proofs.Ytpampekijfjlkaa.X
open Go.RowKit Go.Proofs.YtpampekijfjlkaaW.PrintWords Go.Proofs.YtpampekijfjlkaaW.PrintLast Go.Proofs.YtpampekijfjlkaaW.PrintMore
attribute [local go_sem] max2_int min2_int max_two min_two max_three min_three max_four min_four   -- for this text's walks alone
set_option linter.unusedVariables false
set_option linter.unusedSimpArgs false

/-! ### laws_markMarkS: function 95 -/
def laws_markMarkS.l0 : Nat → List (S52) → Int → Int → Option (Int × (List (S52)))
  | 0, _, _, _ => none
  | k + 1, x0, x1, x5 => if x5 < (x0.length : Int) then (if 0 ≤ x5 then ((some (x0.set (x5 : Int).toNat (⟨x1, (rd_T52 x0 x5).f1⟩ : S52) : List (S52))).bind fun y321 => (laws_markMarkS.l0 k (y321.set (x5 : Int).toNat (⟨(rd_T52 y321 x5).f0, wrap64 (x1 + 1)⟩ : S52)) (wrap64 ((wrap64 (x1 + 1)) + 1)) (wrap64 (x5 + 1)))) else (none)) else (some (x1, x0))
def laws_markMarkS.f (k : Nat) (l0 : List (S52)) (a1 : Int) : Option (Int × (List (S52))) := laws_markMarkS.l0 k l0 a1 0
theorem laws_markMarkS.mono_l : ∀ k, (∀ y0 y1 y2, LeO (laws_markMarkS.l0 k y0 y1 y2) (laws_markMarkS.l0 (k + 1) y0 y1 y2))
  | 0 => fun _ _ _ r h => by simp [laws_markMarkS.l0] at h
  | k + 1 => by
    have ih0 := laws_markMarkS.mono_l k
    · intro y0 y1 y2
      unfold laws_markMarkS.l0
      repeat' first
      | (with_reducible exact ih0 _ _ _)
      | (with_reducible exact LeO.refl _)
      | (with_reducible exact LeO.none _)
      | (with_reducible refine LeO.ite ?_ ?_)
      | (with_reducible refine LeO.bind ?_ (fun _ => ?_))
      | exact ih0 _ _ _
      | exact LeO.none _
      | refine LeO.ite ?_ ?_
      | refine LeO.bind ?_ (fun _ => ?_)
theorem laws_markMarkS.mono : ∀ a0 a1 k, LeO (laws_markMarkS.f k a0 a1) (laws_markMarkS.f (k + 1) a0 a1) := by
  intro a0 a1 k
  have ih0 := laws_markMarkS.mono_l k
  unfold laws_markMarkS.f
  repeat' first
      | (with_reducible exact ih0 _ _ _)
      | (with_reducible exact LeO.refl _)
      | (with_reducible exact LeO.none _)
      | (with_reducible refine LeO.ite ?_ ?_)
      | (with_reducible refine LeO.bind ?_ (fun _ => ?_))
      | exact ih0 _ _ _
      | exact LeO.none _
      | refine LeO.ite ?_ ?_
      | refine LeO.bind ?_ (fun _ => ?_)
set_option maxHeartbeats 8000000 in
set_option maxRecDepth 100000 in
theorem laws_markMarkS.calls (k : Nat) (P0_ : Nat → Prop) (u9000_ : Value) (l0 : List (S52)) (a1 : Int) (r1 : Int) (r2 : List (S52)) (w0 w : World) (hB : Below w0.heap.size w0 w) (ho0 : Kd.R k52 52 w w0.heap.size P0_ u9000_ l0) (h : laws_markMarkS.f k l0 a1 = some (r1, r2)) :
    Calls Try.prog 95 #[u9000_, .int .i64 a1] w fun e w' => e = .returned (.int .i64 r1) ∧ Kd.R k52 52 w' w0.heap.size (fun k_ => (P0_ k_ ∨ w.heap.size ≤ k_)) u9000_ r2 ∧ Below w0.heap.size w0 w' ∧ Kept w w' (fun k_ => P0_ k_) := by
  have HO0 := Aside0.mk (show Kd.R k52 52 w w0.heap.size (fun k_ => (P0_ k_ ∨ w.heap.size ≤ k_)) u9000_ l0 from Kd.R_mono ho0 (fun k_ hk => (.inl hk)))
  have HK := Aside0.mk (Kept.refl w (fun k_ => P0_ k_))
  have HW0 := Aside0.mk hB.size
  have HB := Aside0.mk hB
  clear hB
  have H : (laws_markMarkS.l0 k l0 a1 0) = some (r1, r2) := h
  clear h
  have H' := Aside0.mk H
  clear H
  go_enter Try.func95, Try.ntmps95
  go_wp2
  go_loopg [1, 5] k (fun kq v1 v5 w' => ∃ (x0_1 : List (S52)) (x1_1 : Int) (x5_1 : Int), v1 = .int .i64 x1_1 ∧ v5 = .int .i64 x5_1 ∧ Aside0 (laws_markMarkS.l0 kq x0_1 x1_1 x5_1 = some (r1, r2)) ∧ Aside0 (kq ≤ k) ∧ Aside0 (Kd.R k52 52 w' w0.heap.size (fun k_ => (P0_ k_ ∨ w.heap.size ≤ k_)) u9000_ x0_1) ∧ Aside0 (Kept w w' (fun k_ => P0_ k_)) ∧ Aside0 (Below w0.heap.size w0 w'))
  case atStart => exact ⟨(l0), (a1), (0), (by first | rfl | (simp; done) | (simp [*]; done)), (by first | rfl | (simp; done) | (simp [*]; done)), H', ⟨Nat.le_refl _⟩, ⟨by (with_reducible repeat (first | apply Kd.R_alloc | apply Kd.R_drewN | apply Kd.R_drew)); exact HO0.out⟩, ⟨by repeat (first | (with_reducible first | exact HK.out | apply Kept.alloc | apply Kept.drewN | apply Kept.drew) | exact HK.out)⟩, ⟨by repeat (first | (with_reducible first | exact HB.out | apply below_alloc | apply pw_below_drewN | apply below_drew1) | exact HB.out)⟩⟩
  case round =>
    clear H'
    try clear p2
    obtain ⟨x0_1, x1_1, x5_1, rfl, rfl, HA, HK1, HO_0, HK, HB⟩ := hrel
    cases gk with
    | zero => exact absurd HA.out (by simp [laws_markMarkS.l0])
    | succ k1 =>
      have H := HA.out
      clear HA
      simp only [laws_markMarkS.l0] at H
      by_cases c3 : x5_1 < (x0_1.length : Int)
      · rw [if_pos c3] at H
        have c3b0 : decide (x5_1 < (x0_1.length : Int)) = true := decide_eq_true c3
        clear c3
        by_cases c4 : 0 ≤ x5_1
        · rw [if_pos c4] at H
          have c4b0 : decide (0 ≤ x5_1) = true := decide_eq_true c4
          clear c4
          obtain ⟨y321, hy321⟩ : ∃ y_ : List (S52), y_ = (x0_1.set (x5_1 : Int).toNat (⟨x1_1, (rd_T52 x0_1 x5_1).f1⟩ : S52)) := ⟨_, rfl⟩
          replace H : (laws_markMarkS.l0 k1 (y321.set (x5_1 : Int).toNat (⟨(rd_T52 y321 x5_1).f0, wrap64 (x1_1 + 1)⟩ : S52)) (wrap64 ((wrap64 (x1_1 + 1)) + 1)) (wrap64 (x5_1 + 1))) = some (r1, r2) := by first | (rw [hy321]; with_reducible exact H) | (have H2_ := (Option.bind_some _ _).symm.trans H; rw [hy321]; with_reducible exact H2_) | (have H2_ := (Option.bind_some _ _).symm.trans H; with_reducible exact H2_) | with_reducible exact H | (rw [hy321]; exact H) | exact H
          have Ny321 := Aside0.mk hy321
          clear hy321
          obtain ⟨y322, hy322⟩ : ∃ y_ : List (S52), y_ = (y321.set (x5_1 : Int).toNat (⟨(rd_T52 y321 x5_1).f0, wrap64 (x1_1 + 1)⟩ : S52)) := ⟨_, rfl⟩
          replace H : (laws_markMarkS.l0 k1 y322 (wrap64 ((wrap64 (x1_1 + 1)) + 1)) (wrap64 (x5_1 + 1))) = some (r1, r2) := by first | (rw [hy322]; with_reducible exact H) | (have H2_ := (Option.bind_some _ _).symm.trans H; rw [hy322]; with_reducible exact H2_) | (have H2_ := (Option.bind_some _ _).symm.trans H; with_reducible exact H2_) | with_reducible exact H | (rw [hy322]; exact H) | exact H
          have Ny322 := Aside0.mk hy322
          clear hy322
          have H' := Aside0.mk H
          clear H
          obtain ⟨Ao7, co7, eo7⟩ := Kd.R_slice HO_0.out
          subst eo7
          have p5 : 0 ≤ (x5_1 : Int) := of_decide_eq_true (by first | (with_reducible assumption) | assumption)
          have q5 : (x5_1 : Int) < ((x0_1.length : Int) : Int) := of_decide_eq_true (by first | (with_reducible assumption) | assumption)
          obtain ⟨go5, co5, eo5, gb5, gl5, cl5, HG5⟩ := Kd.R_form HO_0.out (by omega)
          (first | cases eo5 | (injection eo5 with ea_ en_ ec_; (first | subst ea_ | (injection ea_ with ea_; subst ea_)); subst ec_; clear en_))
          have GB5 := Aside0.mk gb5
          have GG5 := Aside0.mk HG5
          clear gb5 gl5 HG5
          have HMgo5 := Aside0.mk (show (P0_ go5 ∨ w.heap.size ≤ go5) from (HO_0.out.1 _ rfl))
          obtain ⟨ce5, hcl5, hM5, hcc5, hfr5⟩ := Kd.R_elem HO_0.out z52 (x5_1 : Int) p5 q5
          obtain rfl := k52_openM hM5
          have hx5_0 : wr.cell? ⟨go5, (x5_1 : Int).toNat * 2, none⟩ = some (.int .i64 ((rd_T52 x0_1 x5_1).f0)) := hcc5 0 _ rfl
          have hx5_1 : wr.cell? ⟨go5, (x5_1 : Int).toNat * 2 + 1, none⟩ = some (.int .i64 ((rd_T52 x0_1 x5_1).f1)) := hcc5 1 _ rfl
          have hf5_0 : wr.frozen? ⟨go5, (x5_1 : Int).toNat * 2, none⟩ = false := hfr5 0
          have hf5_1 : wr.frozen? ⟨go5, (x5_1 : Int).toNat * 2 + 1, none⟩ = false := hfr5 1
          clear hcl5 hcc5 hfr5 hM5
          replace p5 := eq_true p5
          replace q5 := eq_true q5
          have HX8 := Aside0.mk (show Kd.R k52 52 wr w0.heap.size (fun k_ => (P0_ k_ ∨ w.heap.size ≤ k_)) (.slice (some ⟨go5, 0, none⟩) x0_1.length co7) x0_1 from (by (with_reducible repeat (first | apply Kd.R_alloc | apply Kd.R_drewN | apply Kd.R_drew)); exact HO_0.out))
          obtain ⟨ce8, hcl8, hM8, hcc8, hfr8⟩ := Kd.R_elem HX8.out z52 (x5_1 : Int) (of_decide_eq_true (by first | (with_reducible assumption) | assumption)) (by have h_ : (x5_1 : Int) < ((x0_1.length : Int) : Int) := of_decide_eq_true (by first | (with_reducible assumption) | assumption); first | exact h_ | (have e_ := (Kd.R_reads' HO_0.out).1; omega) | simpa using h_)
          obtain rfl := k52_openM hM8
          have HP8 := Kd.R_seg HX8.out (x5_1 : Int) (of_decide_eq_true (by first | (with_reducible assumption) | assumption)) (by have h_ : (x5_1 : Int) < ((x0_1.length : Int) : Int) := of_decide_eq_true (by first | (with_reducible assumption) | assumption); first | exact h_ | (have e_ := (Kd.R_reads' HO_0.out).1; omega) | simpa using h_) (seg := [.int .i64 x1_1]) (j := 0) hcl8 hcc8 (show 1 ≤ 2 from by decide) (x' := (⟨x1_1, (rd_T52 x0_1 x5_1).f1⟩ : S52)) (k52_mkM _ _ _ (⟨x1_1, (rd_T52 x0_1 x5_1).f1⟩ : S52) ) (fun _ hk => hk)
          have hx8_0 := hcc8 0 _ rfl
          (try simp only [show (k52).sz = 2 from rfl, Nat.mul_one, Nat.add_zero] at hx8_0)
          have hf8_0 := hfr8 0
          (try simp only [show (k52).sz = 2 from rfl, Nat.mul_one, Nat.add_zero] at hf8_0)
          clear hcl8 hcc8 hfr8 hM8
          go_wp2_with (first | ((with_reducible refine gate_store (t := 3) (p := 16) rfl ?_); refine store_event (t := 3) (p := 16) (v := ?vo_w9) (w1 := (wr.setCell ⟨go5, (x5_1 : Int).toNat * 2, none⟩ (.int .i64 x1_1))) ?hg ?ho ?hn ?hr ?_; (case ho => rfl); (case hg => rfl); (case hn => rfl); (case hr => first | (go_simp; done) | (go_simp; rfl)); intro w9 hw; have hg : wr.grownBy w9 (some go5) := (by rw [hw]; exact HP8.2); have hp_ : Kd.R k52 52 w9 w0.heap.size (fun k_ => (P0_ k_ ∨ w.heap.size ≤ k_)) (.slice (some ⟨go5, 0, none⟩) x0_1.length co7) y321 := (by rw [hw, Ny321.out]; exact HP8.1); clear HP8; have n0_ := Aside0.mk (hp_); have n1_ := Aside0.mk ((by rw [hw]; exact below_set (HB.out) GB5.out : Below w0.heap.size w0 w9)); have n2_ := Aside0.mk (Kept.of_grown (S := (fun k_ => P0_ k_)) hg (by repeat (first | (with_reducible first | exact HK.out | apply Kept.alloc | apply Kept.drewN | apply Kept.drew) | exact HK.out)) (fun k_ e_ => (HO_0.out.1 k_ e_))); clear HO_0; clear HB; clear HK; have HO_0 := n0_; have HB := n1_; have HK := n2_; clear n0_ n1_ n2_; clear hg hw hp_; have p6 : 0 ≤ (x5_1 : Int) := of_decide_eq_true (by first | (with_reducible assumption) | assumption); have q6 : (x5_1 : Int) < ((x0_1.length : Int) : Int) := of_decide_eq_true (by first | (with_reducible assumption) | assumption); obtain ⟨ce6, hcl6, hM6, hcc6, hfr6⟩ := Kd.R_elem HO_0.out z52 (x5_1 : Int) p6 q6; obtain rfl := k52_openM hM6; have hx6_0 : w9.cell? ⟨go5, (x5_1 : Int).toNat * 2, none⟩ = some (.int .i64 ((rd_T52 y321 x5_1).f0)) := hcc6 0 _ rfl; have hx6_1 : w9.cell? ⟨go5, (x5_1 : Int).toNat * 2 + 1, none⟩ = some (.int .i64 ((rd_T52 y321 x5_1).f1)) := hcc6 1 _ rfl; have hf6_0 : w9.frozen? ⟨go5, (x5_1 : Int).toNat * 2, none⟩ = false := hfr6 0; have hf6_1 : w9.frozen? ⟨go5, (x5_1 : Int).toNat * 2 + 1, none⟩ = false := hfr6 1; clear hcl6 hcc6 hfr6 hM6; replace p6 := eq_true p6; replace q6 := eq_true q6; have HX10 := Aside0.mk (show Kd.R k52 52 w9 w0.heap.size (fun k_ => (P0_ k_ ∨ w.heap.size ≤ k_)) (.slice (some ⟨go5, 0, none⟩) x0_1.length co7) y321 from (by (with_reducible repeat (first | apply Kd.R_alloc | apply Kd.R_drewN | apply Kd.R_drew)); exact HO_0.out)); obtain ⟨ce10, hcl10, hM10, hcc10, hfr10⟩ := Kd.R_elem HX10.out z52 (x5_1 : Int) (of_decide_eq_true (by first | (with_reducible assumption) | assumption)) (by have h_ : (x5_1 : Int) < ((x0_1.length : Int) : Int) := of_decide_eq_true (by first | (with_reducible assumption) | assumption); first | exact h_ | (have e_ := (Kd.R_reads' HO_0.out).1; omega) | simpa using h_); obtain rfl := k52_openM hM10; have HP10 := Kd.R_seg HX10.out (x5_1 : Int) (of_decide_eq_true (by first | (with_reducible assumption) | assumption)) (by have h_ : (x5_1 : Int) < ((x0_1.length : Int) : Int) := of_decide_eq_true (by first | (with_reducible assumption) | assumption); first | exact h_ | (have e_ := (Kd.R_reads' HO_0.out).1; omega) | simpa using h_) (seg := [.int .i64 (wrap64 (x1_1 + 1))]) (j := 1) hcl10 hcc10 (show 2 ≤ 2 from by decide) (x' := (⟨(rd_T52 y321 x5_1).f0, wrap64 (x1_1 + 1)⟩ : S52)) (k52_mkM _ _ _ (⟨(rd_T52 y321 x5_1).f0, wrap64 (x1_1 + 1)⟩ : S52) ) (fun _ hk => hk); have hx10_1 := hcc10 1 _ rfl; (try simp only [show (k52).sz = 2 from rfl, Nat.mul_one, Nat.add_zero] at hx10_1); have hf10_1 := hfr10 1; (try simp only [show (k52).sz = 2 from rfl, Nat.mul_one, Nat.add_zero] at hf10_1); clear hcl10 hcc10 hfr10 hM10) | ((with_reducible refine gate_store (t := 3) (p := 23) rfl ?_); refine store_event (t := 3) (p := 23) (v := ?vo_w11) (w1 := (w9.setCell ⟨go5, (x5_1 : Int).toNat * 2 + 1, none⟩ (.int .i64 (wrap64 (x1_1 + 1))))) ?hg ?ho ?hn ?hr ?_; (case ho => rfl); (case hg => rfl); (case hn => rfl); (case hr => first | (go_simp; done) | (go_simp; rfl)); intro w11 hw; have hg : w9.grownBy w11 (some go5) := (by rw [hw]; exact HP10.2); have hp_ : Kd.R k52 52 w11 w0.heap.size (fun k_ => (P0_ k_ ∨ w.heap.size ≤ k_)) (.slice (some ⟨go5, 0, none⟩) x0_1.length co7) y322 := (by rw [hw, Ny322.out]; exact HP10.1); clear HP10; have n0_ := Aside0.mk (hp_); have n1_ := Aside0.mk ((by rw [hw]; exact below_set (HB.out) GB5.out : Below w0.heap.size w0 w11)); have n2_ := Aside0.mk (Kept.of_grown (S := (fun k_ => P0_ k_)) hg (by repeat (first | (with_reducible first | exact HK.out | apply Kept.alloc | apply Kept.drewN | apply Kept.drew) | exact HK.out)) (fun k_ e_ => (HO_0.out.1 k_ e_))); clear HO_0; clear HB; clear HK; have HO_0 := n0_; have HB := n1_; have HK := n2_; clear n0_ n1_ n2_; clear hg hw hp_))
          go_roundg k1
          case measure => have := HK1.out; omega
          case rel => exact ⟨(y322), (wrap64 ((wrap64 (x1_1 + 1)) + 1)), (wrap64 (x5_1 + 1)), (by first | rfl | (simp; done) | (simp [*]; done)), (by first | rfl | (simp; done) | (simp [*]; done)), H', ⟨by have := HK1.out; omega⟩, ⟨by (with_reducible repeat (first | apply Kd.R_alloc | apply Kd.R_drewN | apply Kd.R_drew)); exact HO_0.out⟩, ⟨by repeat (first | (with_reducible first | exact HK.out | apply Kept.alloc | apply Kept.drewN | apply Kept.drew) | exact HK.out)⟩, ⟨by repeat (first | (with_reducible first | exact HB.out | apply below_alloc | apply pw_below_drewN | apply below_drew1) | exact HB.out)⟩⟩
        · rw [if_neg c4] at H
          exact absurd H (by simp)
      · rw [if_neg c3] at H
        have c3b0 : decide (x5_1 < (x0_1.length : Int)) = false := decide_eq_false c3
        clear c3
        simp only [Option.some.injEq, Prod.mk.injEq] at H
        obtain ⟨rfl, rfl⟩ := H
        obtain ⟨Ao12, co12, eo12⟩ := Kd.R_slice HO_0.out
        subst eo12
        go_wp2
        go_ret
        exact ⟨by first | rfl | (simp [errW_none, errW_some] <;> rfl) | (simp [*, errW_none, errW_some] <;> rfl), by (with_reducible repeat (first | apply Kd.R_alloc | apply Kd.R_drewN | apply Kd.R_drew)); exact HO_0.out, by repeat (first | (with_reducible first | exact HB.out | apply below_alloc | apply pw_below_drewN | apply below_drew1) | exact HB.out), by repeat (first | (with_reducible first | exact HK.out | apply Kept.alloc | apply Kept.drewN | apply Kept.drew) | exact HK.out)⟩

end Go.Proofs.Ytpampekijfjlkaa.X

-- printed by a program of this session's (xprint)
namespace Go.Proofs.Ytpampekijfjlkaa.X
open Go.RowKit Go.Proofs.YtpampekijfjlkaaW.PrintWords Go.Proofs.YtpampekijfjlkaaW.PrintLast Go.Proofs.YtpampekijfjlkaaW.PrintMore
attribute [local go_sem] max2_int min2_int max_two min_two max_three min_three max_four min_four   -- for this text's walks alone
set_option linter.unusedVariables false
set_option linter.unusedSimpArgs false

/-! ### laws_heldMarkS: function 96 -/
def laws_heldMarkS.l0 : Nat → List (S52) → Int → Int → Option (Int)
  | 0, _, _, _ => none
  | k + 1, x0, x1, x5 => if x5 < (x0.length : Int) then (if 0 ≤ x5 then (if ((rd_T52 x0 x5).f0) = x1 then (if ((rd_T52 x0 x5).f1) = (wrap64 (x1 + 1)) then (laws_heldMarkS.l0 k x0 (wrap64 ((wrap64 (x1 + 1)) + 1)) (wrap64 (x5 + 1))) else (some (-1))) else (some (-1))) else (none)) else (some x1)
def laws_heldMarkS.f (k : Nat) (l0 : List (S52)) (a1 : Int) : Option (Int) := laws_heldMarkS.l0 k l0 a1 0
theorem laws_heldMarkS.mono_l : ∀ k, (∀ y0 y1 y2, LeO (laws_heldMarkS.l0 k y0 y1 y2) (laws_heldMarkS.l0 (k + 1) y0 y1 y2))
  | 0 => fun _ _ _ r h => by simp [laws_heldMarkS.l0] at h
  | k + 1 => by
    have ih0 := laws_heldMarkS.mono_l k
    · intro y0 y1 y2
      unfold laws_heldMarkS.l0
      repeat' first
      | (with_reducible exact ih0 _ _ _)
      | (with_reducible exact LeO.refl _)
      | (with_reducible exact LeO.none _)
      | (with_reducible refine LeO.ite ?_ ?_)
      | (with_reducible refine LeO.bind ?_ (fun _ => ?_))
      | exact ih0 _ _ _
      | exact LeO.none _
      | refine LeO.ite ?_ ?_
      | refine LeO.bind ?_ (fun _ => ?_)
theorem laws_heldMarkS.mono : ∀ a0 a1 k, LeO (laws_heldMarkS.f k a0 a1) (laws_heldMarkS.f (k + 1) a0 a1) := by
  intro a0 a1 k
  have ih0 := laws_heldMarkS.mono_l k
  unfold laws_heldMarkS.f
  repeat' first
      | (with_reducible exact ih0 _ _ _)
      | (with_reducible exact LeO.refl _)
      | (with_reducible exact LeO.none _)
      | (with_reducible refine LeO.ite ?_ ?_)
      | (with_reducible refine LeO.bind ?_ (fun _ => ?_))
      | exact ih0 _ _ _
      | exact LeO.none _
      | refine LeO.ite ?_ ?_
      | refine LeO.bind ?_ (fun _ => ?_)
set_option maxHeartbeats 8000000 in
set_option maxRecDepth 100000 in
theorem laws_heldMarkS.calls (k : Nat) (A0 : Option Addr) (c0 : Nat) (l0 : List (S52)) (a1 : Int) (r : Int) (w : World) (hr0 : Kd.C k52 w A0 l0.length l0) (hc0 : l0.length ≤ c0) (h : laws_heldMarkS.f k l0 a1 = some r) :
    Calls Try.prog 96 #[.slice A0 l0.length c0, .int .i64 a1] w fun e w' => e = .returned (.int .i64 r) ∧ Drawn0 w w' := by
  have HR0 := Aside0.mk hr0
  have HC0 := Aside0.mk hc0
  clear hr0 hc0
  have H : (laws_heldMarkS.l0 k l0 a1 0) = some r := h
  clear h
  have H' := Aside0.mk H
  clear H
  go_enter Try.func96, Try.ntmps96
  go_wp2
  go_loopg [1, 5] k (fun kq v1 v5 w' => ∃ (x1_1 : Int) (x5_1 : Int), v1 = .int .i64 x1_1 ∧ v5 = .int .i64 x5_1 ∧ Aside0 (laws_heldMarkS.l0 kq l0 x1_1 x5_1 = some r) ∧ Aside0 (kq ≤ k) ∧ Drawn0 w w')
  case atStart => exact ⟨(a1), (0), (by first | rfl | (simp; done) | (simp [*]; done)), (by first | rfl | (simp; done) | (simp [*]; done)), H', ⟨Nat.le_refl _⟩, by repeat (first | exact Drawn0.refl _ | apply Drawn0.step)⟩
  case round =>
    clear H'
    try clear p2
    obtain ⟨x1_1, x5_1, rfl, rfl, HA, HK1, ⟨m1, rfl⟩⟩ := hrel
    cases gk with
    | zero => exact absurd HA.out (by simp [laws_heldMarkS.l0])
    | succ k1 =>
      have H := HA.out
      clear HA
      simp only [laws_heldMarkS.l0] at H
      by_cases c3 : x5_1 < (l0.length : Int)
      · rw [if_pos c3] at H
        have c3b0 : decide (x5_1 < (l0.length : Int)) = true := decide_eq_true c3
        clear c3
        by_cases c4 : 0 ≤ x5_1
        · rw [if_pos c4] at H
          have c4b0 : decide (0 ≤ x5_1) = true := decide_eq_true c4
          clear c4
          by_cases c5 : ((rd_T52 l0 x5_1).f0) = x1_1
          · rw [if_pos c5] at H
            have c5b0 : (((rd_T52 l0 x5_1).f0) == x1_1) = true := beq_iff_eq.mpr c5
            have c5b1 : (((rd_T52 l0 x5_1).f0) != x1_1) = false := bne_eq_false_iff_eq.mpr c5
            clear c5
            by_cases c6 : ((rd_T52 l0 x5_1).f1) = (wrap64 (x1_1 + 1))
            · rw [if_pos c6] at H
              have c6b0 : (((rd_T52 l0 x5_1).f1) == (wrap64 (x1_1 + 1))) = true := beq_iff_eq.mpr c6
              have c6b1 : (((rd_T52 l0 x5_1).f1) != (wrap64 (x1_1 + 1))) = false := bne_eq_false_iff_eq.mpr c6
              clear c6
              have H' := Aside0.mk H
              clear H
              have p323 : 0 ≤ (x5_1 : Int) := of_decide_eq_true (by first | (with_reducible assumption) | assumption)
              have q323 : x5_1 < (l0.length : Int) := of_decide_eq_true (by first | (with_reducible assumption) | assumption)
              obtain ⟨ad323, e323, hx323_0, hx323_1⟩ := at_T52 HR0.out x5_1 p323 q323
              cases e323
              replace p323 := eq_true p323
              replace q323 := eq_true q323
              have p324 : 0 ≤ (x5_1 : Int) := of_decide_eq_true (by first | (with_reducible assumption) | assumption)
              have q324 : x5_1 < (l0.length : Int) := of_decide_eq_true (by first | (with_reducible assumption) | assumption)
              obtain ⟨ad324, e324, hx324_0, hx324_1⟩ := at_T52 HR0.out x5_1 p324 q324
              obtain rfl : ad323 = ad324 := (by injection e324)
              replace p324 := eq_true p324
              replace q324 := eq_true q324
              go_wp2
              go_roundg k1
              case measure => have := HK1.out; omega
              case rel => exact ⟨(wrap64 ((wrap64 (x1_1 + 1)) + 1)), (wrap64 (x5_1 + 1)), (by first | rfl | (simp; done) | (simp [*]; done)), (by first | rfl | (simp; done) | (simp [*]; done)), H', ⟨by have := HK1.out; omega⟩, by repeat (first | exact Drawn0.refl _ | apply Drawn0.step)⟩
            · rw [if_neg c6] at H
              have c6b0 : (((rd_T52 l0 x5_1).f1) == (wrap64 (x1_1 + 1))) = false := beq_eq_false_iff_ne.mpr c6
              have c6b1 : (((rd_T52 l0 x5_1).f1) != (wrap64 (x1_1 + 1))) = true := bne_iff_ne.mpr c6
              obtain rfl := Option.some.inj H
              have p323 : 0 ≤ (x5_1 : Int) := of_decide_eq_true (by first | (with_reducible assumption) | assumption)
              have q323 : x5_1 < (l0.length : Int) := of_decide_eq_true (by first | (with_reducible assumption) | assumption)
              obtain ⟨ad323, e323, hx323_0, hx323_1⟩ := at_T52 HR0.out x5_1 p323 q323
              cases e323
              replace p323 := eq_true p323
              replace q323 := eq_true q323
              have p324 : 0 ≤ (x5_1 : Int) := of_decide_eq_true (by first | (with_reducible assumption) | assumption)
              have q324 : x5_1 < (l0.length : Int) := of_decide_eq_true (by first | (with_reducible assumption) | assumption)
              obtain ⟨ad324, e324, hx324_0, hx324_1⟩ := at_T52 HR0.out x5_1 p324 q324
              obtain rfl : ad323 = ad324 := (by injection e324)
              replace p324 := eq_true p324
              replace q324 := eq_true q324
              go_wp2
              go_ret
              exact ⟨by first | rfl | (simp; done) | (simp [*]; done), by repeat (first | exact Drawn0.refl _ | apply Drawn0.step)⟩
          · rw [if_neg c5] at H
            have c5b0 : (((rd_T52 l0 x5_1).f0) == x1_1) = false := beq_eq_false_iff_ne.mpr c5
            have c5b1 : (((rd_T52 l0 x5_1).f0) != x1_1) = true := bne_iff_ne.mpr c5
            obtain rfl := Option.some.inj H
            have p323 : 0 ≤ (x5_1 : Int) := of_decide_eq_true (by first | (with_reducible assumption) | assumption)
            have q323 : x5_1 < (l0.length : Int) := of_decide_eq_true (by first | (with_reducible assumption) | assumption)
            obtain ⟨ad323, e323, hx323_0, hx323_1⟩ := at_T52 HR0.out x5_1 p323 q323
            cases e323
            replace p323 := eq_true p323
            replace q323 := eq_true q323
            go_wp2
            go_ret
            exact ⟨by first | rfl | (simp; done) | (simp [*]; done), by repeat (first | exact Drawn0.refl _ | apply Drawn0.step)⟩
        · rw [if_neg c4] at H
          exact absurd H (by simp)
      · rw [if_neg c3] at H
        have c3b0 : decide (x5_1 < (l0.length : Int)) = false := decide_eq_false c3
        clear c3
        obtain rfl := Option.some.inj H
        go_wp2
        go_ret
        exact ⟨by first | rfl | (simp; done) | (simp [*]; done), by repeat (first | exact Drawn0.refl _ | apply Drawn0.step)⟩

end Go.Proofs.Ytpampekijfjlkaa.X

/- Plain laws of the exact laws' own helpers at rows of marks: copied, compared, marked and held. -/
namespace Go.Proofs.Ytpampekijfjlkaa.L
open Go.RowKit Go.Proofs.Ytpampekijfjlkaa.X Go.Proofs.YtpampekijfjlkaaW.PrintWords Go.Proofs.YtpampekijfjlkaaW.PrintLast Go.Proofs.YtpampekijfjlkaaW.PrintMore

/-- A row of the law's marks as one of the program's. -/
def conv (l : List S92) : List M := l.map fun m => ⟨m.f0, m.f1⟩
theorem conv_length (l : List S92) : (conv l).length = l.length := by simp [conv]
theorem i64_wf {x : Int} (h : (Lit.int .i64 x).wf = true) : -9223372036854775808 ≤ x ∧ x ≤ 9223372036854775807 := by
  simp only [Lit.wf, IntKind.min, IntKind.max, IntKind.signed, IntKind.bits, Bool.and_eq_true, decide_eq_true_eq, if_true] at h
  simp at h
  omega
theorem conv_wf {l : List S92} (h : ∀ y ∈ l, wf92 y) : ∀ m ∈ conv l, m.f1 ≤ 9223372036854775807 := by
  intro m hm
  obtain ⟨y, hy, rfl⟩ := List.mem_map.1 hm
  exact (i64_wf (h y hy).2).2
theorem rdLM_at (pre : List S92) (m : S92) (suf : List S92) : rd_T92 (pre ++ m :: suf) ((pre.length : Nat) : Int) = m := by
  unfold rd_T92
  simp [List.getD]
theorem szMarkS_eq (l : List S92) (n : Nat) (hn : n ≤ 1048576) (hl : l.length ≤ 9223372036854775807) : laws_szMarkS.f l (n : Int) = some (if (n : Int) - l.length < 0 then -1 else (n : Int) - l.length) := by
  unfold laws_szMarkS.f
  rw [w64 (by omega) (by omega)]
  by_cases h : (n : Int) - l.length < 0
  · rw [if_pos h, if_pos h]
  · rw [if_neg h, if_neg h]
theorem szMarkS_big (l : List S92) (hl : l.length ≤ 9223372036854775807) : laws_szMarkS.f l 1048576 = some (if (1048576 : Int) - l.length < 0 then (-1 : Int) else (1048576 : Int) - l.length) := szMarkS_eq l 1048576 (by omega) hl
theorem toMarkS_l0 (l : List S92) (hl : l.length ≤ 4611686018427387904) : ∀ (suf pre : List S92), l = pre ++ suf →
    Ev (fun k => laws_toMarkS.l0 k l (conv pre ++ List.replicate suf.length z52) ((pre.length : Nat) : Int)) (conv l) := by
  intro suf
  induction suf with
  | nil =>
    intro pre he
    have hle : l.length = pre.length := by rw [he]; simp
    refine Ev.step (fun k => by simp only [laws_toMarkS.l0]; rfl) ?_
    exact Ev.no (by omega) (Ev.cast (Ev.some _) (by rw [he]; simp))
  | cons m t ih =>
    intro pre he
    have hle : l.length = pre.length + (t.length + 1) := by rw [he]; simp
    have hm : rd_T92 l ((pre.length : Nat) : Int) = m := by rw [he]; exact rdLM_at pre m t
    have hnext : wrap64 (((pre.length : Nat) : Int) + 1) = (((pre ++ [m]).length : Nat) : Int) := by rw [w64 (by omega) (by omega)]; simp
    refine Ev.step (fun k => by simp only [laws_toMarkS.l0]; rfl) ?_
    refine Ev.yes (by omega) (Ev.yes (by omega) ?_)
    simp only [laws_toMark.f, Option.bind_some, hm, hnext]
    refine Ev.yes (by simp [conv]; omega) ?_
    have e : (conv pre ++ List.replicate (m :: t).length z52).set ((pre.length : Nat) : Int).toNat ⟨m.f0, m.f1⟩ = conv (pre ++ [m]) ++ List.replicate t.length z52 := by
      have : pre.length = (conv pre).length := by simp [conv]
      rw [Int.toNat_natCast, this, List.set_append_right _ _ (Nat.le_refl _)]
      simp [List.replicate_succ, conv]
    rw [e]
    exact ih (pre ++ [m]) (by rw [he]; simp)
theorem toMarkS_ev (l : List S92) (hl : l.length ≤ 1048576) : Ev (fun k => laws_toMarkS.f k l) (conv l) := by
  unfold laws_toMarkS.f
  refine Ev.yes (by omega) (Ev.yes (by omega) ?_)
  have := toMarkS_l0 l (by omega) l [] rfl
  simpa [conv] using this
theorem eqMarkS_l0 (l : List M) (hl : l.length ≤ 4611686018427387904) : ∀ (suf pre : List M), l = pre ++ suf → Ev (fun k => laws_eqMarkS.l0 k l l ((pre.length : Nat) : Int)) true := by
  intro suf
  induction suf with
  | nil =>
    intro pre he
    have hle : l.length = pre.length := by rw [he]; simp
    refine Ev.step (fun k => by simp only [laws_eqMarkS.l0]; rfl) ?_
    exact Ev.no (by omega) (Ev.some _)
  | cons m t ih =>
    intro pre he
    have hle : l.length = pre.length + (t.length + 1) := by rw [he]; simp
    have hnext : wrap64 (((pre.length : Nat) : Int) + 1) = (((pre ++ [m]).length : Nat) : Int) := by rw [w64 (by omega) (by omega)]; simp
    refine Ev.step (fun k => by simp only [laws_eqMarkS.l0]; rfl) ?_
    refine Ev.yes (by omega) (Ev.yes (by omega) (Ev.yes (by omega) ?_))
    simp only [laws_eqMark.f, if_true, Option.bind_some]
    rw [hnext]
    exact ih (pre ++ [m]) (by rw [he]; simp)
theorem eqMarkS_ev (l : List M) (hl : l.length ≤ 4611686018427387904) : Ev (fun k => laws_eqMarkS.f k l l) true := by
  unfold laws_eqMarkS.f
  exact Ev.yes rfl (eqMarkS_l0 l hl l [] rfl)
/-- So many marks with numbers one behind the other. -/
def mkd : Nat → Int → List M
  | 0, _ => []
  | d + 1, n => ⟨n, n + 1⟩ :: mkd d (n + 1 + 1)
theorem mkd_length : ∀ (d : Nat) (n : Int), (mkd d n).length = d
  | 0, _ => rfl
  | d + 1, n => by simp [mkd, mkd_length d]
theorem markMarkS_l0 : ∀ (suf pre : List M) (n : Int), pre.length + suf.length ≤ 2000000 → 0 ≤ n → n ≤ 1000000000000 - 2 * suf.length →
    Ev (fun k => laws_markMarkS.l0 k (pre ++ suf) n ((pre.length : Nat) : Int)) (n + 2 * suf.length, pre ++ mkd suf.length n) := by
  intro suf
  induction suf with
  | nil =>
    intro pre n hl h0 h1
    refine Ev.step (fun k => by simp only [laws_markMarkS.l0]; rfl) ?_
    exact Ev.no (by simp) (Ev.cast (Ev.some _) (by simp [mkd]))
  | cons m t ih =>
    intro pre n hl h0 h1
    simp only [List.length_cons] at hl h1
    have hnext : wrap64 (((pre.length : Nat) : Int) + 1) = (((pre ++ [(⟨n, n + 1⟩ : M)]).length : Nat) : Int) := by rw [w64 (by omega) (by omega)]; simp
    refine Ev.step (fun k => by simp only [laws_markMarkS.l0]; rfl) ?_
    refine Ev.yes (by simp; omega) (Ev.yes (by omega) ?_)
    have hw : wrap64 (n + 1) = n + 1 := w64 (by omega) (by omega)
    have hw2 : wrap64 (n + 1 + 1) = n + 1 + 1 := w64 (by omega) (by omega)
    have e1 : (pre ++ m :: t).set ((pre.length : Nat) : Int).toNat (⟨n, (rd_T52 (pre ++ m :: t) ((pre.length : Nat) : Int)).f1⟩ : M) = pre ++ ⟨n, m.f1⟩ :: t := by rw [rdM_at]; simp
    have e2 : (pre ++ (⟨n, m.f1⟩ : M) :: t).set ((pre.length : Nat) : Int).toNat (⟨(rd_T52 (pre ++ (⟨n, m.f1⟩ : M) :: t) ((pre.length : Nat) : Int)).f0, n + 1⟩ : M) = (pre ++ [⟨n, n + 1⟩]) ++ t := by rw [rdM_at]; simp
    simp only [Option.bind_some, hw, hw2, e1, e2, hnext]
    refine Ev.cast (ih (pre ++ [⟨n, n + 1⟩]) (n + 1 + 1) (by simp; omega) (by omega) (by omega)) ?_
    simp [mkd]
    omega
theorem markMarkS_ev (l : List M) (hl : l.length ≤ 2000000) : Ev (fun k => laws_markMarkS.f k l 1) (1 + 2 * (l.length : Int), mkd l.length 1) := by
  have := markMarkS_l0 l [] 1 (by simpa using hl) (by omega) (by omega)
  unfold laws_markMarkS.f
  simpa using this
theorem heldMarkS_l0 : ∀ (d : Nat) (pre : List M) (n : Int), pre.length + d ≤ 2000000 → 0 ≤ n → n ≤ 1000000000000 - 2 * d →
    Ev (fun k => laws_heldMarkS.l0 k (pre ++ mkd d n) n ((pre.length : Nat) : Int)) (n + 2 * d) := by
  intro d
  induction d with
  | zero =>
    intro pre n hl h0 h1
    refine Ev.step (fun k => by simp only [laws_heldMarkS.l0]; rfl) ?_
    exact Ev.no (by simp [mkd]) (Ev.cast (Ev.some _) (by simp))
  | succ d ih =>
    intro pre n hl h0 h1
    have hnext : wrap64 (((pre.length : Nat) : Int) + 1) = (((pre ++ [(⟨n, n + 1⟩ : M)]).length : Nat) : Int) := by rw [w64 (by omega) (by omega)]; simp
    have hm : rd_T52 (pre ++ mkd (d + 1) n) ((pre.length : Nat) : Int) = ⟨n, n + 1⟩ := rdM_at pre _ _
    have hw : wrap64 (n + 1) = n + 1 := w64 (by omega) (by omega)
    have hw2 : wrap64 (n + 1 + 1) = n + 1 + 1 := w64 (by omega) (by omega)
    refine Ev.step (fun k => by simp only [laws_heldMarkS.l0]; rfl) ?_
    refine Ev.yes (by simp [mkd_length]; omega) (Ev.yes (by omega) ?_)
    simp only [hm, hw, hw2, hnext]
    refine Ev.yes trivial (Ev.yes trivial ?_)
    have e : pre ++ mkd (d + 1) n = (pre ++ [⟨n, n + 1⟩]) ++ mkd d (n + 1 + 1) := by simp [mkd]
    rw [e]
    refine Ev.cast (ih (pre ++ [⟨n, n + 1⟩]) (n + 1 + 1) (by simp; omega) (by omega) (by omega)) (by omega)
theorem heldMarkS_ev (d : Nat) (hd : d ≤ 2000000) : Ev (fun k => laws_heldMarkS.f k (mkd d 1) 1) (1 + 2 * (d : Int)) := by
  have := heldMarkS_l0 d [] 1 (by simpa using hd) (by omega) (by omega)
  unfold laws_heldMarkS.f
  simpa using this
end Go.Proofs.Ytpampekijfjlkaa.L

/- Plain law of comparing claims. -/
namespace Go.Proofs.Ytpampekijfjlkaa.L
open Go.RowKit Go.Proofs.Ytpampekijfjlkaa.X Go.Proofs.YtpampekijfjlkaaW.PrintWords Go.Proofs.YtpampekijfjlkaaW.PrintLast Go.Proofs.YtpampekijfjlkaaW.PrintMore

theorem eqClaim_ev (i : Int) (l : List M) (hl : l.length ≤ 4611686018427387904) : Ev (fun k => laws_eqClaim.f k i l i l) true := by
  unfold laws_eqClaim.f
  exact Ev.yes rfl (Ev.bind (eqMarkS_ev l hl) (Ev.yes rfl (Ev.some _)))
end Go.Proofs.Ytpampekijfjlkaa.L

/- Plain laws of the exact laws' own helpers at claims that come in. -/
namespace Go.Proofs.Ytpampekijfjlkaa.L
open Go.RowKit Go.Proofs.Ytpampekijfjlkaa.X Go.Proofs.YtpampekijfjlkaaW.PrintWords Go.Proofs.YtpampekijfjlkaaW.PrintLast Go.Proofs.YtpampekijfjlkaaW.PrintMore

theorem szClaim_big (i : Int) (l : List S92) (hl : l.length ≤ 9223372036854775807) : laws_szClaim.f i l 1048576 = some (if (1048576 : Int) - l.length < 0 then (-1 : Int) else (1048576 : Int) - l.length) := by
  unfold laws_szClaim.f
  rw [szMarkS_big l hl, Option.bind_some]
  by_cases h : (1048576 : Int) - l.length < 0
  · rw [if_pos h, if_pos (by omega)]
  · rw [if_neg h, if_neg h]
theorem toClaim_ev (i : Int) (l : List S92) (hl : l.length ≤ 1048576) : Ev (fun k => laws_toClaim.f k i l) (i, conv l) := by
  unfold laws_toClaim.f
  exact Ev.bind (toMarkS_ev l hl) (Ev.some _)
end Go.Proofs.Ytpampekijfjlkaa.L
