/- Joined by a program of this session's: X90, LHI, X13, LSM, X48, LAN, X69, LWI, X89, LSA. -/
import Derived.Test.YtpampekijfjlkaaG2f71888243
import Derived.Test.YtpampekijfjlkaaGeb2a4c79b1
import Derived.Test.YtpampekijfjlkaaGb7e428c572
import Derived.Test.YtpampekijfjlkaaG49f429710f
import Derived.Test.YtpampekijfjlkaaG394889c12f
import Derived.Test.YtpampekijfjlkaaG3b2731fd70

-- printed by a program of this session's (xprint)
namespace Go.Proofs.Ytpampekijfjlkaa.X
open Go.RowKit Go.Proofs.YtpampekijfjlkaaW.PrintWords Go.Proofs.YtpampekijfjlkaaW.PrintLast Go.Proofs.YtpampekijfjlkaaW.PrintMore
attribute [local go_sem] max2_int min2_int max_two min_two max_three min_three max_four min_four   -- for this text's walks alone
set_option linter.unusedVariables false
set_option linter.unusedSimpArgs false

/-! ### impl_HoldsIn: function 58 -/
def impl_HoldsIn.f (k : Nat) (a0 : Int) (l1 : List (S52)) (a2 : Int) : Option (Bool) := (impl_TermOk.f k a0 l1).bind fun t828 => (if t828 = true then ((impl_WorldOk.f a0 a2).bind fun t829 => (if t829 = true then ((impl_holds.f k l1 a2).bind fun t830 => (some t830)) else (some false))) else (some false))
theorem impl_HoldsIn.mono : ∀ a0 a1 a2 k, LeO (impl_HoldsIn.f k a0 a1 a2) (impl_HoldsIn.f (k + 1) a0 a1 a2) := by
 intro a0 a1 a2 k
 unfold impl_HoldsIn.f
 repeat' first
   | (with_reducible exact impl_TermOk.mono _ _ _)
   | (with_reducible exact impl_holds.mono _ _ _)
   | (with_reducible exact LeO.refl _)
   | (with_reducible exact LeO.none _)
   | (with_reducible refine LeO.ite ?_ ?_)
   | (with_reducible refine LeO.bind ?_ (fun _ => ?_))
   | exact impl_TermOk.mono _ _ _
   | exact impl_holds.mono _ _ _
   | exact LeO.none _
   | refine LeO.ite ?_ ?_
   | refine LeO.bind ?_ (fun _ => ?_)
set_option maxHeartbeats 8000000 in
set_option maxRecDepth 100000 in
theorem impl_HoldsIn.calls (k : Nat) (a0 : Int) (A1 : Option Addr) (c1 : Nat) (l1 : List (S52)) (a2 : Int) (r : Bool) (w : World) (hr1 : Kd.C k52 w A1 l1.length l1) (hc1 : l1.length ≤ c1) (h : impl_HoldsIn.f k a0 l1 a2 = some r) :
  Calls Try.prog 58 #[.int .i64 a0, .slice A1 l1.length c1, .int .i64 a2] w fun e w' => e = .returned (.bool r) ∧ Below w.heap.size w w' := by
 have HR1 := Aside0.mk hr1
 have HC1 := Aside0.mk hc1
 clear hr1 hc1
 have HB := Aside0.mk (Below.refl w.heap.size w)
 have H : ((impl_TermOk.f k a0 l1).bind fun t828 => (if t828 = true then ((impl_WorldOk.f a0 a2).bind fun t829 => (if t829 = true then ((impl_holds.f k l1 a2).bind fun t830 => (some t830)) else (some false))) else (some false))) = some r := h
 clear h
 replace H := Option.bind_eq_some_iff.mp H
 obtain ⟨t828, A40, H⟩ := H
 replace H : (if t828 = true then ((impl_WorldOk.f a0 a2).bind fun t829 => (if t829 = true then ((impl_holds.f k l1 a2).bind fun t830 => (some t830)) else (some false))) else (some false)) = some r := H
 have A4 := Aside0.mk A40
 clear A40
 by_cases c5 : t828 = true
 ·subst c5
  have H1 : ((impl_WorldOk.f a0 a2).bind fun t829 => (if t829 = true then ((impl_holds.f k l1 a2).bind fun t830 => (some t830)) else (some false))) = some r := by rw [if_pos rfl] at H; exact H
  clear H
  have H := H1
  clear H1
  replace H := Option.bind_eq_some_iff.mp H
  obtain ⟨t829, A60, H⟩ := H
  replace H : (if t829 = true then ((impl_holds.f k l1 a2).bind fun t830 => (some t830)) else (some false)) = some r := H
  have A6 := Aside0.mk A60
  clear A60
  by_cases c7 : t829 = true
  ·subst c7
   have H1 : ((impl_holds.f k l1 a2).bind fun t830 => (some t830)) = some r := by rw [if_pos rfl] at H; exact H
   clear H
   have H := H1
   clear H1
   replace H := Option.bind_eq_some_iff.mp H
   obtain ⟨t830, A80, H⟩ := H
   replace H : (some t830) = some r := H
   have A8 := Aside0.mk A80
   clear A80
   obtain rfl := Option.some.inj H
   go_enter Try.func58, Try.ntmps58
   go_wp2_with (first | ((with_reducible refine gate_callee (f := 59) rfl ?_); refine goesL_ (some 9) rfl rfl Try.func59 (by kernel_rfl) rfl #[.int .i64 a0, .slice A1 l1.length c1] rfl (by (try simp only [List.map_toArray, List.map_cons, List.map_nil]); first | done | rfl | (simp only [List.length_drop, List.length_take]; rfl)) ?_; (with_reducible refine (impl_TermOk.calls k a0 _ _ l1 true _ ?side1 ?side2 A4.out).mono ?_); (case side1 => repeat (first | exact HR1.out | (with_reducible refine Kd.C_alloc ?_ _) | (with_reducible refine Kd.C_drewN ?_ _) | (with_reducible refine Kd.C_drew ?_))); (case side2 => exact HC1.out); rintro e w9 ⟨rfl, hb⟩; refine ⟨_, rfl, ?_⟩; have n0_ := Aside0.mk (below_step (by repeat (first | (with_reducible first | exact HB.out | apply below_alloc | apply pw_below_drewN | apply below_drew1) | exact HB.out)) hb); clear HB; have HB := n0_; clear n0_; (try clear hb); (try clear hb2); (try clear hk); (try clear hi)) | (go_at_call 101; (with_reducible refine (impl_WorldOk.calls a0 a2 true _ A6.out).mono ?_); rintro e w' ⟨rfl, ⟨nd, rfl⟩⟩) | (go_at_call 102; (with_reducible refine (impl_holds.calls k _ _ l1 a2 t830 _ ?side1 ?side2 A8.out).mono ?_); (case side1 => repeat (first | exact (Kd.C_below HR1.out (by repeat (first | (with_reducible first | exact HB.out | apply below_alloc | apply pw_below_drewN | apply below_drew1) | exact HB.out))) | (with_reducible refine Kd.C_alloc ?_ _) | (with_reducible refine Kd.C_drewN ?_ _) | (with_reducible refine Kd.C_drew ?_))); (case side2 => exact HC1.out); rintro e w10 ⟨rfl, hb⟩; have n0_ := Aside0.mk (below_step (by repeat (first | (with_reducible first | exact HB.out | apply below_alloc | apply pw_below_drewN | apply below_drew1) | exact HB.out)) hb); clear HB; have HB := n0_; clear n0_; (try clear hb); (try clear hb2); (try clear hk); (try clear hi)))
   go_ret
   exact ⟨by first | rfl | (simp [errW_none, errW_some] <;> rfl) | (simp [*, errW_none, errW_some] <;> rfl), by repeat (first | (with_reducible first | exact HB.out | apply below_alloc | apply pw_below_drewN | apply below_drew1) | exact HB.out)⟩
  ·replace c7 := Bool.eq_false_iff.mpr c7
   subst c7
   have H1 : (some false) = some r := by rw [if_neg (show ¬ (false = true) by decide)] at H; exact H
   clear H
   have H := H1
   clear H1
   obtain rfl := Option.some.inj H
   go_enter Try.func58, Try.ntmps58
   go_wp2_with (first | ((with_reducible refine gate_callee (f := 59) rfl ?_); refine goesL_ (some 9) rfl rfl Try.func59 (by kernel_rfl) rfl #[.int .i64 a0, .slice A1 l1.length c1] rfl (by (try simp only [List.map_toArray, List.map_cons, List.map_nil]); first | done | rfl | (simp only [List.length_drop, List.length_take]; rfl)) ?_; (with_reducible refine (impl_TermOk.calls k a0 _ _ l1 true _ ?side1 ?side2 A4.out).mono ?_); (case side1 => repeat (first | exact HR1.out | (with_reducible refine Kd.C_alloc ?_ _) | (with_reducible refine Kd.C_drewN ?_ _) | (with_reducible refine Kd.C_drew ?_))); (case side2 => exact HC1.out); rintro e w11 ⟨rfl, hb⟩; refine ⟨_, rfl, ?_⟩; have n0_ := Aside0.mk (below_step (by repeat (first | (with_reducible first | exact HB.out | apply below_alloc | apply pw_below_drewN | apply below_drew1) | exact HB.out)) hb); clear HB; have HB := n0_; clear n0_; (try clear hb); (try clear hb2); (try clear hk); (try clear hi)) | (go_at_call 101; (with_reducible refine (impl_WorldOk.calls a0 a2 false _ A6.out).mono ?_); rintro e w' ⟨rfl, ⟨nd, rfl⟩⟩))
   go_ret
   exact ⟨by first | rfl | (simp [errW_none, errW_some] <;> rfl) | (simp [*, errW_none, errW_some] <;> rfl), by repeat (first | (with_reducible first | exact HB.out | apply below_alloc | apply pw_below_drewN | apply below_drew1) | exact HB.out)⟩
 ·replace c5 := Bool.eq_false_iff.mpr c5
  subst c5
  have H1 : (some false) = some r := by rw [if_neg (show ¬ (false = true) by decide)] at H; exact H
  clear H
  have H := H1
  clear H1
  obtain rfl := Option.some.inj H
  go_enter Try.func58, Try.ntmps58
  go_wp2_with (first | ((with_reducible refine gate_callee (f := 59) rfl ?_); refine goesL_ (some 9) rfl rfl Try.func59 (by kernel_rfl) rfl #[.int .i64 a0, .slice A1 l1.length c1] rfl (by (try simp only [List.map_toArray, List.map_cons, List.map_nil]); first | done | rfl | (simp only [List.length_drop, List.length_take]; rfl)) ?_; (with_reducible refine (impl_TermOk.calls k a0 _ _ l1 false _ ?side1 ?side2 A4.out).mono ?_); (case side1 => repeat (first | exact HR1.out | (with_reducible refine Kd.C_alloc ?_ _) | (with_reducible refine Kd.C_drewN ?_ _) | (with_reducible refine Kd.C_drew ?_))); (case side2 => exact HC1.out); rintro e w12 ⟨rfl, hb⟩; refine ⟨_, rfl, ?_⟩; have n0_ := Aside0.mk (below_step (by repeat (first | (with_reducible first | exact HB.out | apply below_alloc | apply pw_below_drewN | apply below_drew1) | exact HB.out)) hb); clear HB; have HB := n0_; clear n0_; (try clear hb); (try clear hb2); (try clear hk); (try clear hi)))
  go_ret
  exact ⟨by first | rfl | (simp [errW_none, errW_some] <;> rfl) | (simp [*, errW_none, errW_some] <;> rfl), by repeat (first | (with_reducible first | exact HB.out | apply below_alloc | apply pw_below_drewN | apply below_drew1) | exact HB.out)⟩

end Go.Proofs.Ytpampekijfjlkaa.X

/- Plain law of what holds. -/
namespace Go.Proofs.Ytpampekijfjlkaa.L
open Go.RowKit Go.Proofs.Ytpampekijfjlkaa.X Go.Proofs.YtpampekijfjlkaaW.PrintWords Go.Proofs.YtpampekijfjlkaaW.PrintLast Go.Proofs.YtpampekijfjlkaaW.PrintMore

noncomputable def holdsIn (p : Int) (t : List M) (w : Int) : Bool := if tok p t = true ∧ wok p w = true then hv t w.toNat else false
theorem impl_HoldsIn_ev (p : Int) (t : List M) (w : Int) : Ev (fun k => impl_HoldsIn.f k p t w) (holdsIn p t w) := by
 unfold impl_HoldsIn.f
 refine Ev.bind (impl_TermOk_ev p t) ?_
 by_cases hk : tok p t = true
 ·refine Ev.yes hk ?_
  rw [impl_WorldOk_eq]
  simp only [Option.bind_some]
  by_cases hw : wok p w = true
  ·obtain ⟨v, rfl, hv', _⟩ := wok_nat hw
   refine Ev.yes hw (Ev.bind (impl_holds_hv hk hv') (Ev.cast (Ev.some _) ?_))
   exact (if_pos ⟨hk, hw⟩).symm
  ·exact Ev.no hw (Ev.cast (Ev.some _) (if_neg (fun h => hw h.2)).symm)
 ·exact Ev.no hk (Ev.cast (Ev.some _) (if_neg (fun h => hk h.1)).symm)
theorem wok_of {q j : Nat} (h1 : 1 ≤ q) (h4 : q ≤ 4) (hj : j < 2 ^ q) : wok (q : Int) (j : Int) = true := wok_iff.2 ⟨by omega, by omega, by omega, by rw [Int.toNat_natCast]; omega⟩
theorem holdsIn_of {q j : Nat} {t : List M} (hk : tok (q : Int) t = true) (hj : j < 2 ^ q) : holdsIn (q : Int) t (j : Int) = hv t j := by
 have h := tok_iff.1 hk
 exact if_pos ⟨hk, wok_of (by omega) (by omega) hj⟩
end Go.Proofs.Ytpampekijfjlkaa.L

-- printed by a program of this session's (xprint)
namespace Go.Proofs.Ytpampekijfjlkaa.X
open Go.RowKit Go.Proofs.YtpampekijfjlkaaW.PrintWords Go.Proofs.YtpampekijfjlkaaW.PrintLast Go.Proofs.YtpampekijfjlkaaW.PrintMore
attribute [local go_sem] max2_int min2_int max_two min_two max_three min_three max_four min_four   -- for this text's walks alone
set_option linter.unusedVariables false
set_option linter.unusedSimpArgs false

/-! ### spec_l4May: function 99 -/
def spec_l4May.f (k : Nat) (a0_0 : Int) (l0_1 : List (S52)) (a1 : Int) : Option (Bool) := if 0 ≤ a0_0 then ((spec_l3Holds.f k l0_1 a1).bind fun t165 => (some (((Int.tmod (shr .i64 a1 a0_0) 2) == 1) == t165))) else (none)
theorem spec_l4May.mono : ∀ a0 a1 a2 k, LeO (spec_l4May.f k a0 a1 a2) (spec_l4May.f (k + 1) a0 a1 a2) := by
 intro a0 a1 a2 k
 unfold spec_l4May.f
 repeat' first
   | (with_reducible exact spec_l3Holds.mono _ _ _)
   | (with_reducible exact LeO.refl _)
   | (with_reducible exact LeO.none _)
   | (with_reducible refine LeO.ite ?_ ?_)
   | (with_reducible refine LeO.bind ?_ (fun _ => ?_))
   | exact spec_l3Holds.mono _ _ _
   | exact LeO.none _
   | refine LeO.ite ?_ ?_
   | refine LeO.bind ?_ (fun _ => ?_)
set_option maxHeartbeats 8000000 in
set_option maxRecDepth 100000 in
theorem spec_l4May.calls (k : Nat) (a0_0 : Int) (A0_1 : Option Addr) (c0_1 : Nat) (l0_1 : List (S52)) (a1 : Int) (r : Bool) (w : World) (hr0_1 : Kd.C k52 w A0_1 l0_1.length l0_1) (hc0_1 : l0_1.length ≤ c0_1) (h : spec_l4May.f k a0_0 l0_1 a1 = some r) :
  Calls Try.prog 99 #[.agg #[.int .i64 a0_0, .slice A0_1 l0_1.length c0_1], .int .i64 a1] w fun e w' => e = .returned (.bool r) ∧ Below w.heap.size w w' := by
 have hu50 := Try.underlying50
 have HR0_1 := Aside0.mk hr0_1
 have HC0_1 := Aside0.mk hc0_1
 clear hr0_1 hc0_1
 have HB := Aside0.mk (Below.refl w.heap.size w)
 have H : (if 0 ≤ a0_0 then ((spec_l3Holds.f k l0_1 a1).bind fun t165 => (some (((Int.tmod (shr .i64 a1 a0_0) 2) == 1) == t165))) else (none)) = some r := h
 clear h
 by_cases c3 : 0 ≤ a0_0
 ·rw [if_pos c3] at H
  have c3b0 := eq_true c3
  have c3b1 : decide (0 ≤ a0_0) = true := decide_eq_true c3
  clear c3
  obtain ⟨ji4, hji4⟩ : ∃ j_ : Int, (shr .i64 a1 a0_0) = j_ := ⟨_, rfl⟩
  replace H : ((spec_l3Holds.f k l0_1 a1).bind fun t165 => (some (((Int.tmod (ji4) 2) == 1) == t165))) = some r := by first | (rw [hji4] at H; exact H) | (simp only [hji4] at H ⊢; exact H)
  have hji4_ : (a1 / 2 ^ min a0_0.toNat 64) = ji4 := hji4
  have hji4z : a0_0 ≤ 64 → (a1 / 2 ^ a0_0.toNat) = ji4 := shr_small hji4
  replace H := Option.bind_eq_some_iff.mp H
  obtain ⟨t165, A50, H⟩ := H
  replace H : (some (((Int.tmod (ji4) 2) == 1) == t165)) = some r := H
  have A5 := Aside0.mk A50
  clear A50
  obtain rfl := Option.some.inj H
  go_enter Try.func99, Try.ntmps99
  go_wp2_with (first | ((with_reducible refine gate_dst (N := 2) rfl ?_); refine box_event ?hg (N := 2) ?hd (cs := #[.int .i64 a0_0, .slice A0_1 l0_1.length c0_1]) (t := 50) ?hr ?_; (case hd => rfl); (case hg => rfl); (case hr => first | (go_simp; done) | (go_simp; rfl)); intro gb164 hg w6 hbox hb; have n0_ := Aside0.mk (below_step (by repeat (first | (with_reducible first | exact HB.out | apply below_alloc | apply pw_below_drewN | apply below_drew1) | exact HB.out)) hb); have n1_ := Aside0.mk (hbox); have n2_ := Aside0.mk ((by rw [hg]; exact (below_size (by repeat (first | (with_reducible first | exact HB.out | apply below_alloc | apply pw_below_drewN | apply below_drew1) | exact HB.out))) : w.heap.size ≤ gb164)); have n3_ := Aside0.mk ((by rw [hg]; exact (below_size (by repeat (first | (with_reducible first | exact HB.out | apply below_alloc | apply pw_below_drewN | apply below_drew1) | exact HB.out))) : w.heap.size ≤ gb164)); clear HB; have HB := n0_; have BK164 := n1_; have GW164 := n2_; have GE164 := n3_; clear n0_ n1_ n2_ n3_; clear hb hbox hg; have hcz7_0 : w6.cell? ⟨gb164, 0, none⟩ = some (.int .i64 a0_0) := (blk_cell BK164.out 0).trans rfl; have hcz7_1 : w6.cell? ⟨gb164, 1, none⟩ = some (.slice A0_1 l0_1.length c0_1) := (blk_cell BK164.out 1).trans rfl; have hfz7_0 := blk_frozen BK164.out 0; have hfz7_1 := blk_frozen BK164.out 1) | (go_at_call 129; (with_reducible refine (spec_l3Holds.calls k _ _ l0_1 a1 t165 _ ?side1 ?side2 A5.out).mono ?_); (case side1 => repeat (first | exact (Kd.C_below HR0_1.out HB.out) | (with_reducible refine Kd.C_alloc ?_ _) | (with_reducible refine Kd.C_drewN ?_ _) | (with_reducible refine Kd.C_drew ?_))); (case side2 => exact HC0_1.out); rintro e w' ⟨rfl, ⟨nd, rfl⟩⟩; (try first | exact ⟨rfl, _, World.drewN_drewN _ _ _⟩ | exact ⟨rfl, _, Eq.trans (World.drewN_drewN _ _ _) (congrArg (World.drewN _) (Nat.add_assoc _ _ _))⟩)))
  repeat (go_quiet (first | ((with_reducible refine gate_dst (N := 2) rfl ?_); refine box_event ?hg (N := 2) ?hd (cs := #[.int .i64 a0_0, .slice A0_1 l0_1.length c0_1]) (t := 50) ?hr ?_; (case hd => rfl); (case hg => rfl); (case hr => first | (go_simp; done) | (go_simp; rfl)); intro gb164 hg w6 hbox hb; have n0_ := Aside0.mk (below_step (by repeat (first | (with_reducible first | exact HB.out | apply below_alloc | apply pw_below_drewN | apply below_drew1) | exact HB.out)) hb); have n1_ := Aside0.mk (hbox); have n2_ := Aside0.mk ((by rw [hg]; exact (below_size (by repeat (first | (with_reducible first | exact HB.out | apply below_alloc | apply pw_below_drewN | apply below_drew1) | exact HB.out))) : w.heap.size ≤ gb164)); have n3_ := Aside0.mk ((by rw [hg]; exact (below_size (by repeat (first | (with_reducible first | exact HB.out | apply below_alloc | apply pw_below_drewN | apply below_drew1) | exact HB.out))) : w.heap.size ≤ gb164)); clear HB; have HB := n0_; have BK164 := n1_; have GW164 := n2_; have GE164 := n3_; clear n0_ n1_ n2_ n3_; clear hb hbox hg; have hcz7_0 : w6.cell? ⟨gb164, 0, none⟩ = some (.int .i64 a0_0) := (blk_cell BK164.out 0).trans rfl; have hcz7_1 : w6.cell? ⟨gb164, 1, none⟩ = some (.slice A0_1 l0_1.length c0_1) := (blk_cell BK164.out 1).trans rfl; have hfz7_0 := blk_frozen BK164.out 0; have hfz7_1 := blk_frozen BK164.out 1) | (go_at_call 129; (with_reducible refine (spec_l3Holds.calls k _ _ l0_1 a1 t165 _ ?side1 ?side2 A5.out).mono ?_); (case side1 => repeat (first | exact (Kd.C_below HR0_1.out HB.out) | (with_reducible refine Kd.C_alloc ?_ _) | (with_reducible refine Kd.C_drewN ?_ _) | (with_reducible refine Kd.C_drew ?_))); (case side2 => exact HC0_1.out); rintro e w' ⟨rfl, ⟨nd, rfl⟩⟩; (try first | exact ⟨rfl, _, World.drewN_drewN _ _ _⟩ | exact ⟨rfl, _, Eq.trans (World.drewN_drewN _ _ _) (congrArg (World.drewN _) (Nat.add_assoc _ _ _))⟩))); try go_wp2_with (first | ((with_reducible refine gate_dst (N := 2) rfl ?_); refine box_event ?hg (N := 2) ?hd (cs := #[.int .i64 a0_0, .slice A0_1 l0_1.length c0_1]) (t := 50) ?hr ?_; (case hd => rfl); (case hg => rfl); (case hr => first | (go_simp; done) | (go_simp; rfl)); intro gb164 hg w6 hbox hb; have n0_ := Aside0.mk (below_step (by repeat (first | (with_reducible first | exact HB.out | apply below_alloc | apply pw_below_drewN | apply below_drew1) | exact HB.out)) hb); have n1_ := Aside0.mk (hbox); have n2_ := Aside0.mk ((by rw [hg]; exact (below_size (by repeat (first | (with_reducible first | exact HB.out | apply below_alloc | apply pw_below_drewN | apply below_drew1) | exact HB.out))) : w.heap.size ≤ gb164)); have n3_ := Aside0.mk ((by rw [hg]; exact (below_size (by repeat (first | (with_reducible first | exact HB.out | apply below_alloc | apply pw_below_drewN | apply below_drew1) | exact HB.out))) : w.heap.size ≤ gb164)); clear HB; have HB := n0_; have BK164 := n1_; have GW164 := n2_; have GE164 := n3_; clear n0_ n1_ n2_ n3_; clear hb hbox hg; have hcz7_0 : w6.cell? ⟨gb164, 0, none⟩ = some (.int .i64 a0_0) := (blk_cell BK164.out 0).trans rfl; have hcz7_1 : w6.cell? ⟨gb164, 1, none⟩ = some (.slice A0_1 l0_1.length c0_1) := (blk_cell BK164.out 1).trans rfl; have hfz7_0 := blk_frozen BK164.out 0; have hfz7_1 := blk_frozen BK164.out 1) | (go_at_call 129; (with_reducible refine (spec_l3Holds.calls k _ _ l0_1 a1 t165 _ ?side1 ?side2 A5.out).mono ?_); (case side1 => repeat (first | exact (Kd.C_below HR0_1.out HB.out) | (with_reducible refine Kd.C_alloc ?_ _) | (with_reducible refine Kd.C_drewN ?_ _) | (with_reducible refine Kd.C_drew ?_))); (case side2 => exact HC0_1.out); rintro e w' ⟨rfl, ⟨nd, rfl⟩⟩; (try first | exact ⟨rfl, _, World.drewN_drewN _ _ _⟩ | exact ⟨rfl, _, Eq.trans (World.drewN_drewN _ _ _) (congrArg (World.drewN _) (Nat.add_assoc _ _ _))⟩))))
  go_ret
  exact ⟨by first | rfl | (simp [errW_none, errW_some] <;> rfl) | (simp only [← hji4]; first | rfl | (simp [errW_none, errW_some] <;> rfl)) | (simp [*, errW_none, errW_some] <;> rfl), by repeat (first | (with_reducible first | exact HB.out | apply below_alloc | apply pw_below_drewN | apply below_drew1 | refine below_set ?_ GE164.out) | exact HB.out)⟩
 ·rw [if_neg c3] at H
  exact absurd H (by simp)

end Go.Proofs.Ytpampekijfjlkaa.X

/- Plain law of the reference's test whether a claim may be made. -/
namespace Go.Proofs.Ytpampekijfjlkaa.L
open Go.RowKit Go.Proofs.Ytpampekijfjlkaa.X Go.Proofs.YtpampekijfjlkaaW.PrintWords Go.Proofs.YtpampekijfjlkaaW.PrintLast Go.Proofs.YtpampekijfjlkaaW.PrintMore

theorem spec_may_ev {p i : Int} {t : List M} (h2 : tok p t = true) (h0 : 0 ≤ i) (h1 : i < p) {w : Nat} (hw : w < 16) : Ev (fun k => spec_l4May.f k i t (w : Int)) (may i t w) := by
 have h4 := (tok_iff.1 h2).2.1
 obtain ⟨j, rfl⟩ := Int.eq_ofNat_of_zero_le h0
 unfold spec_l4May.f
 refine Ev.yes h0 (Ev.bind (spec_holds_hv h2 hw) (Ev.cast (Ev.some _) ?_))
 rw [bit_mod' hw (show j < 4 by omega)]
 unfold may
 exact Bool.beq_comm
end Go.Proofs.Ytpampekijfjlkaa.L

-- printed by a program of this session's (xprint)
namespace Go.Proofs.Ytpampekijfjlkaa.X
open Go.RowKit Go.Proofs.YtpampekijfjlkaaW.PrintWords Go.Proofs.YtpampekijfjlkaaW.PrintLast Go.Proofs.YtpampekijfjlkaaW.PrintMore
attribute [local go_sem] max2_int min2_int max_two min_two max_three min_three max_four min_four   -- for this text's walks alone
set_option linter.unusedVariables false
set_option linter.unusedSimpArgs false

/-! ### spec_AnswerIn: function 31 -/
def spec_AnswerIn.j0 : Nat → Int → List (S52) → Int → Bool → Option (Int)
 | 0, _, _, _, _ => none
 | k + 1, x1, x2, x3, x25 => if x25 = true then (some (-1)) else ((spec_l4May.f k x1 x2 x3).bind fun t353 => (if t353 = true then (some 1) else (some 0)))
def spec_AnswerIn.f (k : Nat) (a0 : Int) (a1 : Int) (l2 : List (S52)) (a3 : Int) : Option (Int) := (spec_TermOk.f k a0 l2).bind fun t350 => (if t350 = true then ((spec_WorldOk.f a0 a3).bind fun t351 => (if t351 = true then ((spec_l1In.f a1 0 (wrap64 (a0 - 1))).bind fun t352 => (spec_AnswerIn.j0 k a1 l2 a3 (!t352))) else (spec_AnswerIn.j0 k a1 l2 a3 true))) else (spec_AnswerIn.j0 k a1 l2 a3 true))
theorem spec_AnswerIn.mono_l : ∀ k, (∀ y0 y1 y2 y3, LeO (spec_AnswerIn.j0 k y0 y1 y2 y3) (spec_AnswerIn.j0 (k + 1) y0 y1 y2 y3))
 | 0 => fun _ _ _ _ r h => by simp [spec_AnswerIn.j0] at h
 | k + 1 => by
  have ih0 := spec_AnswerIn.mono_l k
  ·intro y0 y1 y2 y3
   unfold spec_AnswerIn.j0
   repeat' first
   | (with_reducible exact ih0 _ _ _ _)
   | (with_reducible exact spec_TermOk.mono _ _ _)
   | (with_reducible exact spec_l4May.mono _ _ _ _)
   | (with_reducible exact LeO.refl _)
   | (with_reducible exact LeO.none _)
   | (with_reducible refine LeO.ite ?_ ?_)
   | (with_reducible refine LeO.bind ?_ (fun _ => ?_))
   | exact ih0 _ _ _ _
   | exact spec_TermOk.mono _ _ _
   | exact spec_l4May.mono _ _ _ _
   | exact LeO.none _
   | refine LeO.ite ?_ ?_
   | refine LeO.bind ?_ (fun _ => ?_)
theorem spec_AnswerIn.mono : ∀ a0 a1 a2 a3 k, LeO (spec_AnswerIn.f k a0 a1 a2 a3) (spec_AnswerIn.f (k + 1) a0 a1 a2 a3) := by
 intro a0 a1 a2 a3 k
 have ih0 := spec_AnswerIn.mono_l k
 unfold spec_AnswerIn.f
 repeat' first
   | (with_reducible exact ih0 _ _ _ _)
   | (with_reducible exact spec_TermOk.mono _ _ _)
   | (with_reducible exact spec_l4May.mono _ _ _ _)
   | (with_reducible exact LeO.refl _)
   | (with_reducible exact LeO.none _)
   | (with_reducible refine LeO.ite ?_ ?_)
   | (with_reducible refine LeO.bind ?_ (fun _ => ?_))
   | exact ih0 _ _ _ _
   | exact spec_TermOk.mono _ _ _
   | exact spec_l4May.mono _ _ _ _
   | exact LeO.none _
   | refine LeO.ite ?_ ?_
   | refine LeO.bind ?_ (fun _ => ?_)
set_option maxHeartbeats 8000000 in
set_option maxRecDepth 100000 in
theorem spec_AnswerIn.calls (k : Nat) (a0 : Int) (a1 : Int) (A2 : Option Addr) (c2 : Nat) (l2 : List (S52)) (a3 : Int) (r : Int) (w : World) (hr2 : Kd.C k52 w A2 l2.length l2) (hc2 : l2.length ≤ c2) (h : spec_AnswerIn.f k a0 a1 l2 a3 = some r) :
  Calls Try.prog 31 #[.int .i64 a0, .int .i64 a1, .slice A2 l2.length c2, .int .i64 a3] w fun e w' => e = .returned (.int .i64 r) ∧ Below w.heap.size w w' := by
 have hu50 := Try.underlying50
 have HR2 := Aside0.mk hr2
 have HC2 := Aside0.mk hc2
 clear hr2 hc2
 have HB := Aside0.mk (Below.refl w.heap.size w)
 have H : ((spec_TermOk.f k a0 l2).bind fun t350 => (if t350 = true then ((spec_WorldOk.f a0 a3).bind fun t351 => (if t351 = true then ((spec_l1In.f a1 0 (wrap64 (a0 - 1))).bind fun t352 => (spec_AnswerIn.j0 k a1 l2 a3 (!t352))) else (spec_AnswerIn.j0 k a1 l2 a3 true))) else (spec_AnswerIn.j0 k a1 l2 a3 true))) = some r := h
 clear h
 have HC5 := Aside0.mk H
 clear H
 go_enter Try.func31, Try.ntmps31
 go_upto_region 1 with (fail)
 go_cut [25] (fun v25 wc => ∃ (kq : Nat) (x25_4 : Bool), v25 = .bool x25_4 ∧ Aside0 (spec_AnswerIn.j0 kq a1 l2 a3 x25_4 = some r) ∧ Aside0 (kq ≤ k) ∧ Aside0 (Below w.heap.size w wc))
 case first =>
  have H := HC5.out
  clear HC5
  replace H := Option.bind_eq_some_iff.mp H
  obtain ⟨t350, A60, H⟩ := H
  replace H : (if t350 = true then ((spec_WorldOk.f a0 a3).bind fun t351 => (if t351 = true then ((spec_l1In.f a1 0 (wrap64 (a0 - 1))).bind fun t352 => (spec_AnswerIn.j0 k a1 l2 a3 (!t352))) else (spec_AnswerIn.j0 k a1 l2 a3 true))) else (spec_AnswerIn.j0 k a1 l2 a3 true)) = some r := H
  have A6 := Aside0.mk A60
  clear A60
  by_cases c7 : t350 = true
  ·subst c7
   have H1 : ((spec_WorldOk.f a0 a3).bind fun t351 => (if t351 = true then ((spec_l1In.f a1 0 (wrap64 (a0 - 1))).bind fun t352 => (spec_AnswerIn.j0 k a1 l2 a3 (!t352))) else (spec_AnswerIn.j0 k a1 l2 a3 true))) = some r := by rw [if_pos rfl] at H; exact H
   clear H
   have H := H1
   clear H1
   replace H := Option.bind_eq_some_iff.mp H
   obtain ⟨t351, A80, H⟩ := H
   replace H : (if t351 = true then ((spec_l1In.f a1 0 (wrap64 (a0 - 1))).bind fun t352 => (spec_AnswerIn.j0 k a1 l2 a3 (!t352))) else (spec_AnswerIn.j0 k a1 l2 a3 true)) = some r := H
   have A8 := Aside0.mk A80
   clear A80
   by_cases c9 : t351 = true
   ·subst c9
    have H1 : ((spec_l1In.f a1 0 (wrap64 (a0 - 1))).bind fun t352 => (spec_AnswerIn.j0 k a1 l2 a3 (!t352))) = some r := by rw [if_pos rfl] at H; exact H
    clear H
    have H := H1
    clear H1
    replace H := Option.bind_eq_some_iff.mp H
    obtain ⟨t352, A100, H⟩ := H
    replace H : (spec_AnswerIn.j0 k a1 l2 a3 (!t352)) = some r := H
    have A10 := Aside0.mk A100
    clear A100
    have H' := Aside0.mk H
    clear H
    go_wp2_with (first | ((with_reducible refine gate_callee (f := 45) rfl ?_); refine goesL_ (some 11) rfl rfl Try.func45 (by kernel_rfl) rfl #[.int .i64 a0, .slice A2 l2.length c2] rfl (by (try simp only [List.map_toArray, List.map_cons, List.map_nil]); first | done | rfl | (simp only [List.length_drop, List.length_take]; rfl)) ?_; (with_reducible refine (spec_TermOk.calls k a0 _ _ l2 true _ ?side1 ?side2 A6.out).mono ?_); (case side1 => repeat (first | exact (Kd.C_below HR2.out HB.out) | (with_reducible refine Kd.C_alloc ?_ _) | (with_reducible refine Kd.C_drewN ?_ _) | (with_reducible refine Kd.C_drew ?_))); (case side2 => exact HC2.out); rintro e w' ⟨rfl, ⟨nd, rfl⟩⟩; refine ⟨_, rfl, ?_⟩) | (go_at_call 97; (with_reducible refine (spec_WorldOk.calls a0 a3 true _ A8.out).mono ?_); rintro e w' ⟨rfl, ⟨nd, rfl⟩⟩) | (go_at_call 98; (with_reducible refine (spec_l1In.calls a1 0 (wrap64 (a0 - 1)) t352 _ A10.out).mono ?_); rintro e w' ⟨rfl, ⟨nd, rfl⟩⟩))
    go_meet
    case rel => exact ⟨_, (!t352), (by first | rfl | (simp; done) | (simp [*]; done)), H', ⟨by first | omega | exact Nat.le_refl _⟩, ⟨by repeat (first | (with_reducible first | exact HB.out | apply below_alloc | apply pw_below_drewN | apply below_drew1) | exact HB.out)⟩⟩
   ·replace c9 := Bool.eq_false_iff.mpr c9
    subst c9
    have H1 : (spec_AnswerIn.j0 k a1 l2 a3 true) = some r := by rw [if_neg (show ¬ (false = true) by decide)] at H; exact H
    clear H
    have H := H1
    clear H1
    have H' := Aside0.mk H
    clear H
    go_wp2_with (first | ((with_reducible refine gate_callee (f := 45) rfl ?_); refine goesL_ (some 11) rfl rfl Try.func45 (by kernel_rfl) rfl #[.int .i64 a0, .slice A2 l2.length c2] rfl (by (try simp only [List.map_toArray, List.map_cons, List.map_nil]); first | done | rfl | (simp only [List.length_drop, List.length_take]; rfl)) ?_; (with_reducible refine (spec_TermOk.calls k a0 _ _ l2 true _ ?side1 ?side2 A6.out).mono ?_); (case side1 => repeat (first | exact (Kd.C_below HR2.out HB.out) | (with_reducible refine Kd.C_alloc ?_ _) | (with_reducible refine Kd.C_drewN ?_ _) | (with_reducible refine Kd.C_drew ?_))); (case side2 => exact HC2.out); rintro e w' ⟨rfl, ⟨nd, rfl⟩⟩; refine ⟨_, rfl, ?_⟩) | (go_at_call 97; (with_reducible refine (spec_WorldOk.calls a0 a3 false _ A8.out).mono ?_); rintro e w' ⟨rfl, ⟨nd, rfl⟩⟩))
    go_meet
    case rel => exact ⟨_, (true), (by first | rfl | (simp; done) | (simp [*]; done)), H', ⟨by first | omega | exact Nat.le_refl _⟩, ⟨by repeat (first | (with_reducible first | exact HB.out | apply below_alloc | apply pw_below_drewN | apply below_drew1) | exact HB.out)⟩⟩
  ·replace c7 := Bool.eq_false_iff.mpr c7
   subst c7
   have H1 : (spec_AnswerIn.j0 k a1 l2 a3 true) = some r := by rw [if_neg (show ¬ (false = true) by decide)] at H; exact H
   clear H
   have H := H1
   clear H1
   have H' := Aside0.mk H
   clear H
   go_wp2_with (first | ((with_reducible refine gate_callee (f := 45) rfl ?_); refine goesL_ (some 11) rfl rfl Try.func45 (by kernel_rfl) rfl #[.int .i64 a0, .slice A2 l2.length c2] rfl (by (try simp only [List.map_toArray, List.map_cons, List.map_nil]); first | done | rfl | (simp only [List.length_drop, List.length_take]; rfl)) ?_; (with_reducible refine (spec_TermOk.calls k a0 _ _ l2 false _ ?side1 ?side2 A6.out).mono ?_); (case side1 => repeat (first | exact (Kd.C_below HR2.out HB.out) | (with_reducible refine Kd.C_alloc ?_ _) | (with_reducible refine Kd.C_drewN ?_ _) | (with_reducible refine Kd.C_drew ?_))); (case side2 => exact HC2.out); rintro e w' ⟨rfl, ⟨nd, rfl⟩⟩; refine ⟨_, rfl, ?_⟩))
   go_meet
   case rel => exact ⟨_, (true), (by first | rfl | (simp; done) | (simp [*]; done)), H', ⟨by first | omega | exact Nat.le_refl _⟩, ⟨by repeat (first | (with_reducible first | exact HB.out | apply below_alloc | apply pw_below_drewN | apply below_drew1) | exact HB.out)⟩⟩
 case rest =>
  clear HC5
  try clear c2
  try clear p2
  try clear c3
  try clear c4
  try clear p6
  try clear c7
  try clear c9
  obtain ⟨kq, x25_4, rfl, HA, HJ4, HB⟩ := hcut
  cases kq with
  | zero => exact absurd HA.out (by simp [spec_AnswerIn.j0])
  | succ kj4 =>
   have H := HA.out
   clear HA
   simp only [spec_AnswerIn.j0] at H
   by_cases c11 : x25_4 = true
   ·subst c11
    have H1 : (some (-1)) = some r := by rw [if_pos rfl] at H; exact H
    clear H
    have H := H1
    clear H1
    obtain rfl := Option.some.inj H
    go_wp2
    go_ret
    exact ⟨by first | rfl | (simp [errW_none, errW_some] <;> rfl) | (simp [*, errW_none, errW_some] <;> rfl), by repeat (first | (with_reducible first | exact HB.out | apply below_alloc | apply pw_below_drewN | apply below_drew1) | exact HB.out)⟩
   ·replace c11 := Bool.eq_false_iff.mpr c11
    subst c11
    have H1 : ((spec_l4May.f kj4 a1 l2 a3).bind fun t353 => (if t353 = true then (some 1) else (some 0))) = some r := by rw [if_neg (show ¬ (false = true) by decide)] at H; exact H
    clear H
    have H := H1
    clear H1
    replace H := Option.bind_eq_some_iff.mp H
    obtain ⟨t353, A120, H⟩ := H
    replace H : (if t353 = true then (some 1) else (some 0)) = some r := H
    have A12 := Aside0.mk A120
    clear A120
    by_cases c13 : t353 = true
    ·subst c13
     have H1 : (some 1) = some r := by rw [if_pos rfl] at H; exact H
     clear H
     have H := H1
     clear H1
     obtain rfl := Option.some.inj H
     go_wp2_with (first | ((with_reducible refine gate_callee (f := 99) rfl ?_); refine goesL_ (some 30) rfl rfl Try.func99 (by kernel_rfl) rfl #[.agg #[.int .i64 a1, .slice A2 l2.length c2], .int .i64 a3] rfl (by (try simp only [List.map_toArray, List.map_cons, List.map_nil]); first | done | rfl | (simp only [List.length_drop, List.length_take]; rfl)) ?_; (with_reducible refine (spec_l4May.calls kj4 a1 _ _ l2 a3 true _ ?side1 ?side2 A12.out).mono ?_); (case side1 => repeat (first | exact (Kd.C_below HR2.out HB.out) | (with_reducible refine Kd.C_alloc ?_ _) | (with_reducible refine Kd.C_drewN ?_ _) | (with_reducible refine Kd.C_drew ?_))); (case side2 => exact HC2.out); rintro e w14 ⟨rfl, hb⟩; refine ⟨_, rfl, ?_⟩; have n0_ := Aside0.mk (below_step (by repeat (first | (with_reducible first | exact HB.out | apply below_alloc | apply pw_below_drewN | apply below_drew1) | exact HB.out)) hb); clear HB; have HB := n0_; clear n0_; (try clear hb); (try clear hb2); (try clear hk); (try clear hi)))
     go_ret
     exact ⟨by first | rfl | (simp [errW_none, errW_some] <;> rfl) | (simp [*, errW_none, errW_some] <;> rfl), by repeat (first | (with_reducible first | exact HB.out | apply below_alloc | apply pw_below_drewN | apply below_drew1) | exact HB.out)⟩
    ·replace c13 := Bool.eq_false_iff.mpr c13
     subst c13
     have H1 : (some 0) = some r := by rw [if_neg (show ¬ (false = true) by decide)] at H; exact H
     clear H
     have H := H1
     clear H1
     obtain rfl := Option.some.inj H
     go_wp2_with (first | ((with_reducible refine gate_callee (f := 99) rfl ?_); refine goesL_ (some 30) rfl rfl Try.func99 (by kernel_rfl) rfl #[.agg #[.int .i64 a1, .slice A2 l2.length c2], .int .i64 a3] rfl (by (try simp only [List.map_toArray, List.map_cons, List.map_nil]); first | done | rfl | (simp only [List.length_drop, List.length_take]; rfl)) ?_; (with_reducible refine (spec_l4May.calls kj4 a1 _ _ l2 a3 false _ ?side1 ?side2 A12.out).mono ?_); (case side1 => repeat (first | exact (Kd.C_below HR2.out HB.out) | (with_reducible refine Kd.C_alloc ?_ _) | (with_reducible refine Kd.C_drewN ?_ _) | (with_reducible refine Kd.C_drew ?_))); (case side2 => exact HC2.out); rintro e w15 ⟨rfl, hb⟩; refine ⟨_, rfl, ?_⟩; have n0_ := Aside0.mk (below_step (by repeat (first | (with_reducible first | exact HB.out | apply below_alloc | apply pw_below_drewN | apply below_drew1) | exact HB.out)) hb); clear HB; have HB := n0_; clear n0_; (try clear hb); (try clear hb2); (try clear hk); (try clear hi)))
     go_ret
     exact ⟨by first | rfl | (simp [errW_none, errW_some] <;> rfl) | (simp [*, errW_none, errW_some] <;> rfl), by repeat (first | (with_reducible first | exact HB.out | apply below_alloc | apply pw_below_drewN | apply below_drew1) | exact HB.out)⟩

end Go.Proofs.Ytpampekijfjlkaa.X

/- Plain laws of answers. -/
namespace Go.Proofs.Ytpampekijfjlkaa.L
open Go.RowKit Go.Proofs.Ytpampekijfjlkaa.X Go.Proofs.YtpampekijfjlkaaW.PrintWords Go.Proofs.YtpampekijfjlkaaW.PrintLast Go.Proofs.YtpampekijfjlkaaW.PrintMore

/-- What a person answers. -/
noncomputable def answer (p i : Int) (t : List M) (w : Int) : Int := if wok p w = true ∧ tok p t = true ∧ 0 ≤ i ∧ i < p then (if may i t w.toNat = true then 1 else 0) else -1
theorem answer_in {p i w : Int} {t : List M} (h : wok p w = true ∧ tok p t = true ∧ 0 ≤ i ∧ i < p) : answer p i t w = if may i t w.toNat = true then 1 else 0 := if_pos h
theorem answer_out {p i w : Int} {t : List M} (h : ¬ (wok p w = true ∧ tok p t = true ∧ 0 ≤ i ∧ i < p)) : answer p i t w = -1 := if_neg h
theorem impl_Answer_ev (p i : Int) (t : List M) (w : Int) : Ev (fun k => impl_AnswerIn.f k p i t w) (answer p i t w) := by
 unfold impl_AnswerIn.f
 have no : ¬ (wok p w = true ∧ tok p t = true ∧ 0 ≤ i ∧ i < p) → Ev (fun k => impl_AnswerIn.j0 k i t w true) (answer p i t w) := by
  intro h
  rw [answer_out h]
  refine Ev.step (fun k => by simp only [impl_AnswerIn.j0]; rfl) ?_
  exact Ev.yes (by simp) (Ev.some _)
 rw [impl_WorldOk_eq]
 simp only [Option.bind_some]
 by_cases hw : wok p w = true
 ·refine Ev.yes hw (Ev.bind (impl_TermOk_ev p t) ?_)
  by_cases hk : tok p t = true
  ·refine Ev.yes hk ?_
   by_cases h0 : i < 0
   ·exact Ev.yes h0 (no (by omega))
   refine Ev.no h0 ?_
   by_cases h1 : i ≥ p
   ·rw [decide_eq_true h1]; exact no (by omega)
   rw [decide_eq_false h1, answer_in ⟨hw, hk, by omega, by omega⟩]
   obtain ⟨v, rfl, hv, _⟩ := wok_nat hw
   have h4 := (tok_iff.1 hk).2.1
   obtain ⟨j, rfl⟩ := Int.eq_ofNat_of_zero_le (show 0 ≤ i by omega)
   refine Ev.step (fun k => by simp only [impl_AnswerIn.j0]; rfl) ?_
   refine Ev.no (by simp) (Ev.bind (impl_holds_hv hk hv) (Ev.yes (by omega) ?_))
   rw [bit_and' hv (show j < 4 by omega)]
   by_cases hm : may (j : Int) t v = true
   ·exact Ev.yes hm (Ev.cast (Ev.some _) (if_pos hm).symm)
   ·exact Ev.no hm (Ev.cast (Ev.some _) (if_neg hm).symm)
  ·exact Ev.no hk (no (fun h => hk h.2.1))
 ·exact Ev.no hw (no (fun h => hw h.1))
theorem spec_Answer_ev (p i : Int) (t : List M) (w : Int) (hl : t.length ≤ 4611686018427387904) (htw : ∀ m ∈ t, m.f1 ≤ 9223372036854775807) : Ev (fun k => spec_AnswerIn.f k p i t w) (answer p i t w) := by
 unfold spec_AnswerIn.f
 have no : ¬ (wok p w = true ∧ tok p t = true ∧ 0 ≤ i ∧ i < p) → Ev (fun k => spec_AnswerIn.j0 k i t w true) (answer p i t w) := by
  intro h
  rw [answer_out h]
  refine Ev.step (fun k => by simp only [spec_AnswerIn.j0]; rfl) ?_
  exact Ev.yes (by simp) (Ev.some _)
 simp only [l1In_eq, spec_WorldOk_eq, Option.bind_some]
 refine Ev.bind (spec_TermOk_ev p t hl htw) ?_
 by_cases hk : tok p t = true
 ·refine Ev.yes hk ?_
  have h4 := tok_iff.1 hk
  by_cases hw : wok p w = true
  ·refine Ev.yes hw ?_
   rw [w64 (by omega) (by omega)]
   by_cases h0 : 0 ≤ i ∧ i ≤ p - 1
   ·rw [decide_eq_true h0, answer_in ⟨hw, hk, by omega, by omega⟩]
    obtain ⟨v, rfl, hv, _⟩ := wok_nat hw
    refine Ev.step (fun k => by simp only [spec_AnswerIn.j0]; rfl) ?_
    refine Ev.no (by simp) (Ev.bind (spec_may_ev hk h0.1 (by omega) hv) ?_)
    rw [Int.toNat_natCast]
    by_cases hm : may i t v = true
    ·exact Ev.yes hm (Ev.cast (Ev.some _) (if_pos hm).symm)
    ·exact Ev.no hm (Ev.cast (Ev.some _) (if_neg hm).symm)
   ·rw [decide_eq_false h0]; exact no (by omega)
  ·exact Ev.no hw (no (fun h => hw h.1))
 ·exact Ev.no hk (no (fun h => hk h.2.1))
end Go.Proofs.Ytpampekijfjlkaa.L

-- printed by a program of this session's (xprint)
namespace Go.Proofs.Ytpampekijfjlkaa.X
open Go.RowKit Go.Proofs.YtpampekijfjlkaaW.PrintWords Go.Proofs.YtpampekijfjlkaaW.PrintLast Go.Proofs.YtpampekijfjlkaaW.PrintMore
attribute [local go_sem] max2_int min2_int max_two min_two max_three min_three max_four min_four   -- for this text's walks alone
set_option linter.unusedVariables false
set_option linter.unusedSimpArgs false

/-! ### spec_WordIn: function 42 -/
def spec_WordIn.j0 : Nat → Int → Int → List (S52) → Int → Bool → Option (Int)
 | 0, _, _, _, _, _ => none
 | k + 1, x0, x1, x2, x3, x24 => if x24 = true then (some (-1)) else ((spec_l4May.f k x1 x2 x3).bind fun t613 => (if 0 ≤ (wrap64 (x0 - 1)) then (if (t613 == ((shr .i64 x3 (wrap64 (x0 - 1))) == 1)) = true then (some 1) else (some 0)) else (none)))
def spec_WordIn.f (k : Nat) (a0 : Int) (a1 : Int) (l2 : List (S52)) (a3 : Int) : Option (Int) := (spec_l8Ok.f a0 a1).bind fun t610 => (if t610 = true then ((spec_TermOk.f k a0 l2).bind fun t611 => (if t611 = true then ((spec_WorldOk.f a0 a3).bind fun t612 => (spec_WordIn.j0 k a0 a1 l2 a3 (!t612))) else (spec_WordIn.j0 k a0 a1 l2 a3 true))) else (spec_WordIn.j0 k a0 a1 l2 a3 true))
theorem spec_WordIn.mono_l : ∀ k, (∀ y0 y1 y2 y3 y4, LeO (spec_WordIn.j0 k y0 y1 y2 y3 y4) (spec_WordIn.j0 (k + 1) y0 y1 y2 y3 y4))
 | 0 => fun _ _ _ _ _ r h => by simp [spec_WordIn.j0] at h
 | k + 1 => by
  have ih0 := spec_WordIn.mono_l k
  ·intro y0 y1 y2 y3 y4
   unfold spec_WordIn.j0
   repeat' first
   | (with_reducible exact ih0 _ _ _ _ _)
   | (with_reducible exact spec_TermOk.mono _ _ _)
   | (with_reducible exact spec_l4May.mono _ _ _ _)
   | (with_reducible exact LeO.refl _)
   | (with_reducible exact LeO.none _)
   | (with_reducible refine LeO.ite ?_ ?_)
   | (with_reducible refine LeO.bind ?_ (fun _ => ?_))
   | exact ih0 _ _ _ _ _
   | exact spec_TermOk.mono _ _ _
   | exact spec_l4May.mono _ _ _ _
   | exact LeO.none _
   | refine LeO.ite ?_ ?_
   | refine LeO.bind ?_ (fun _ => ?_)
theorem spec_WordIn.mono : ∀ a0 a1 a2 a3 k, LeO (spec_WordIn.f k a0 a1 a2 a3) (spec_WordIn.f (k + 1) a0 a1 a2 a3) := by
 intro a0 a1 a2 a3 k
 have ih0 := spec_WordIn.mono_l k
 unfold spec_WordIn.f
 repeat' first
   | (with_reducible exact ih0 _ _ _ _ _)
   | (with_reducible exact spec_TermOk.mono _ _ _)
   | (with_reducible exact spec_l4May.mono _ _ _ _)
   | (with_reducible exact LeO.refl _)
   | (with_reducible exact LeO.none _)
   | (with_reducible refine LeO.ite ?_ ?_)
   | (with_reducible refine LeO.bind ?_ (fun _ => ?_))
   | exact ih0 _ _ _ _ _
   | exact spec_TermOk.mono _ _ _
   | exact spec_l4May.mono _ _ _ _
   | exact LeO.none _
   | refine LeO.ite ?_ ?_
   | refine LeO.bind ?_ (fun _ => ?_)
def spec_WordIn.T3 : Bool × List (List Nat × List Nat) := (true, [([], []), ([], []), ([0, 1], [0, 1]), ([], []), ([2, 3], [2, 3]), ([], []), ([], []), ([6], [6]), ([5, 7], [5, 7]), ([8], [8]), ([4, 9], [4, 9])])
def spec_WordIn.B3 : List Nat := [0, 0, 3, 0, 15, 0, 0, 64, 224, 480, 1023]
theorem spec_WordIn.tab3 : rtab .any (opsOf Try.f42 3) = spec_WordIn.T3 := by kernel_rfl
theorem spec_WordIn.bits3 : waitsOk spec_WordIn.T3.2 spec_WordIn.B3 = true := by kernel_rfl
set_option maxHeartbeats 8000000 in
set_option maxRecDepth 100000 in
theorem spec_WordIn.calls (k : Nat) (a0 : Int) (a1 : Int) (A2 : Option Addr) (c2 : Nat) (l2 : List (S52)) (a3 : Int) (r : Int) (w : World) (hr2 : Kd.C k52 w A2 l2.length l2) (hc2 : l2.length ≤ c2) (h : spec_WordIn.f k a0 a1 l2 a3 = some r) :
  Calls Try.prog 42 #[.int .i64 a0, .int .i64 a1, .slice A2 l2.length c2, .int .i64 a3] w fun e w' => e = .returned (.int .i64 r) ∧ Below w.heap.size w w' := by
 have hu50 := Try.underlying50
 have HR2 := Aside0.mk hr2
 have HC2 := Aside0.mk hc2
 clear hr2 hc2
 have HB := Aside0.mk (Below.refl w.heap.size w)
 have H : ((spec_l8Ok.f a0 a1).bind fun t610 => (if t610 = true then ((spec_TermOk.f k a0 l2).bind fun t611 => (if t611 = true then ((spec_WorldOk.f a0 a3).bind fun t612 => (spec_WordIn.j0 k a0 a1 l2 a3 (!t612))) else (spec_WordIn.j0 k a0 a1 l2 a3 true))) else (spec_WordIn.j0 k a0 a1 l2 a3 true))) = some r := h
 clear h
 have HC5 := Aside0.mk H
 clear H
 go_enter Try.func42, Try.ntmps42
 go_upto_region 1 with (fail)
 go_cut [24] (fun v24 wc => ∃ (kq : Nat) (x24_4 : Bool), v24 = .bool x24_4 ∧ Aside0 (spec_WordIn.j0 kq a0 a1 l2 a3 x24_4 = some r) ∧ Aside0 (kq ≤ k) ∧ Aside0 (Below w.heap.size w wc))
 case first =>
  have H := HC5.out
  clear HC5
  replace H := Option.bind_eq_some_iff.mp H
  obtain ⟨t610, A60, H⟩ := H
  replace H : (if t610 = true then ((spec_TermOk.f k a0 l2).bind fun t611 => (if t611 = true then ((spec_WorldOk.f a0 a3).bind fun t612 => (spec_WordIn.j0 k a0 a1 l2 a3 (!t612))) else (spec_WordIn.j0 k a0 a1 l2 a3 true))) else (spec_WordIn.j0 k a0 a1 l2 a3 true)) = some r := H
  have A6 := Aside0.mk A60
  clear A60
  by_cases c7 : t610 = true
  ·subst c7
   have H1 : ((spec_TermOk.f k a0 l2).bind fun t611 => (if t611 = true then ((spec_WorldOk.f a0 a3).bind fun t612 => (spec_WordIn.j0 k a0 a1 l2 a3 (!t612))) else (spec_WordIn.j0 k a0 a1 l2 a3 true))) = some r := by rw [if_pos rfl] at H; exact H
   clear H
   have H := H1
   clear H1
   replace H := Option.bind_eq_some_iff.mp H
   obtain ⟨t611, A80, H⟩ := H
   replace H : (if t611 = true then ((spec_WorldOk.f a0 a3).bind fun t612 => (spec_WordIn.j0 k a0 a1 l2 a3 (!t612))) else (spec_WordIn.j0 k a0 a1 l2 a3 true)) = some r := H
   have A8 := Aside0.mk A80
   clear A80
   by_cases c9 : t611 = true
   ·subst c9
    have H1 : ((spec_WorldOk.f a0 a3).bind fun t612 => (spec_WordIn.j0 k a0 a1 l2 a3 (!t612))) = some r := by rw [if_pos rfl] at H; exact H
    clear H
    have H := H1
    clear H1
    replace H := Option.bind_eq_some_iff.mp H
    obtain ⟨t612, A100, H⟩ := H
    replace H : (spec_WordIn.j0 k a0 a1 l2 a3 (!t612)) = some r := H
    have A10 := Aside0.mk A100
    clear A100
    have H' := Aside0.mk H
    clear H
    go_wp2_with (first | ((with_reducible refine gate_callee (f := 107) rfl ?_); refine goesL_ (some 11) rfl rfl Try.func107 (by kernel_rfl) rfl #[.int .i64 a0, .int .i64 a1] rfl (by (try simp only [List.map_toArray, List.map_cons, List.map_nil]); first | done | rfl | (simp only [List.length_drop, List.length_take]; rfl)) ?_; (with_reducible refine (spec_l8Ok.calls a0 a1 true _ A6.out).mono ?_); rintro e w' ⟨rfl, ⟨nd, rfl⟩⟩; refine ⟨_, rfl, ?_⟩) | (go_at_call 45; (with_reducible refine (spec_TermOk.calls k a0 _ _ l2 true _ ?side1 ?side2 A8.out).mono ?_); (case side1 => repeat (first | exact (Kd.C_below HR2.out (by repeat (first | (with_reducible first | exact HB.out | apply below_alloc | apply pw_below_drewN | apply below_drew1) | exact HB.out))) | (with_reducible refine Kd.C_alloc ?_ _) | (with_reducible refine Kd.C_drewN ?_ _) | (with_reducible refine Kd.C_drew ?_))); (case side2 => exact HC2.out); rintro e w' ⟨rfl, ⟨nd, rfl⟩⟩) | (go_at_call 97; (with_reducible refine (spec_WorldOk.calls a0 a3 t612 _ A10.out).mono ?_); rintro e w' ⟨rfl, ⟨nd, rfl⟩⟩))
    go_meet
    case rel => exact ⟨_, (!t612), (by first | rfl | (simp; done) | (simp [*]; done)), H', ⟨by first | omega | exact Nat.le_refl _⟩, ⟨by repeat (first | (with_reducible first | exact HB.out | apply below_alloc | apply pw_below_drewN | apply below_drew1) | exact HB.out)⟩⟩
   ·replace c9 := Bool.eq_false_iff.mpr c9
    subst c9
    have H1 : (spec_WordIn.j0 k a0 a1 l2 a3 true) = some r := by rw [if_neg (show ¬ (false = true) by decide)] at H; exact H
    clear H
    have H := H1
    clear H1
    have H' := Aside0.mk H
    clear H
    go_wp2_with (first | ((with_reducible refine gate_callee (f := 107) rfl ?_); refine goesL_ (some 11) rfl rfl Try.func107 (by kernel_rfl) rfl #[.int .i64 a0, .int .i64 a1] rfl (by (try simp only [List.map_toArray, List.map_cons, List.map_nil]); first | done | rfl | (simp only [List.length_drop, List.length_take]; rfl)) ?_; (with_reducible refine (spec_l8Ok.calls a0 a1 true _ A6.out).mono ?_); rintro e w' ⟨rfl, ⟨nd, rfl⟩⟩; refine ⟨_, rfl, ?_⟩) | (go_at_call 45; (with_reducible refine (spec_TermOk.calls k a0 _ _ l2 false _ ?side1 ?side2 A8.out).mono ?_); (case side1 => repeat (first | exact (Kd.C_below HR2.out (by repeat (first | (with_reducible first | exact HB.out | apply below_alloc | apply pw_below_drewN | apply below_drew1) | exact HB.out))) | (with_reducible refine Kd.C_alloc ?_ _) | (with_reducible refine Kd.C_drewN ?_ _) | (with_reducible refine Kd.C_drew ?_))); (case side2 => exact HC2.out); rintro e w' ⟨rfl, ⟨nd, rfl⟩⟩))
    go_meet
    case rel => exact ⟨_, (true), (by first | rfl | (simp; done) | (simp [*]; done)), H', ⟨by first | omega | exact Nat.le_refl _⟩, ⟨by repeat (first | (with_reducible first | exact HB.out | apply below_alloc | apply pw_below_drewN | apply below_drew1) | exact HB.out)⟩⟩
  ·replace c7 := Bool.eq_false_iff.mpr c7
   subst c7
   have H1 : (spec_WordIn.j0 k a0 a1 l2 a3 true) = some r := by rw [if_neg (show ¬ (false = true) by decide)] at H; exact H
   clear H
   have H := H1
   clear H1
   have H' := Aside0.mk H
   clear H
   go_wp2_with (first | ((with_reducible refine gate_callee (f := 107) rfl ?_); refine goesL_ (some 11) rfl rfl Try.func107 (by kernel_rfl) rfl #[.int .i64 a0, .int .i64 a1] rfl (by (try simp only [List.map_toArray, List.map_cons, List.map_nil]); first | done | rfl | (simp only [List.length_drop, List.length_take]; rfl)) ?_; (with_reducible refine (spec_l8Ok.calls a0 a1 false _ A6.out).mono ?_); rintro e w' ⟨rfl, ⟨nd, rfl⟩⟩; refine ⟨_, rfl, ?_⟩))
   go_meet
   case rel => exact ⟨_, (true), (by first | rfl | (simp; done) | (simp [*]; done)), H', ⟨by first | omega | exact Nat.le_refl _⟩, ⟨by repeat (first | (with_reducible first | exact HB.out | apply below_alloc | apply pw_below_drewN | apply below_drew1) | exact HB.out)⟩⟩
 case rest =>
  clear HC5
  try clear c1
  try clear c2
  try clear p2
  try clear c4
  try clear c7
  try clear c9
  try clear c10
  obtain ⟨kq, x24_4, rfl, HA, HJ4, HB⟩ := hcut
  cases kq with
  | zero => exact absurd HA.out (by simp [spec_WordIn.j0])
  | succ kj4 =>
   have H := HA.out
   clear HA
   simp only [spec_WordIn.j0] at H
   by_cases c11 : x24_4 = true
   ·subst c11
    have H1 : (some (-1)) = some r := by rw [if_pos rfl] at H; exact H
    clear H
    have H := H1
    clear H1
    obtain rfl := Option.some.inj H
    go_wp2
    go_ret
    exact ⟨by first | rfl | (simp [errW_none, errW_some] <;> rfl) | (simp [*, errW_none, errW_some] <;> rfl), by repeat (first | (with_reducible first | exact HB.out | apply below_alloc | apply pw_below_drewN | apply below_drew1) | exact HB.out)⟩
   ·replace c11 := Bool.eq_false_iff.mpr c11
    subst c11
    have H1 : ((spec_l4May.f kj4 a1 l2 a3).bind fun t613 => (if 0 ≤ (wrap64 (a0 - 1)) then (if (t613 == ((shr .i64 a3 (wrap64 (a0 - 1))) == 1)) = true then (some 1) else (some 0)) else (none))) = some r := by rw [if_neg (show ¬ (false = true) by decide)] at H; exact H
    clear H
    have H := H1
    clear H1
    replace H := Option.bind_eq_some_iff.mp H
    obtain ⟨t613, A120, H⟩ := H
    replace H : (if 0 ≤ (wrap64 (a0 - 1)) then (if (t613 == ((shr .i64 a3 (wrap64 (a0 - 1))) == 1)) = true then (some 1) else (some 0)) else (none)) = some r := H
    have A12 := Aside0.mk A120
    clear A120
    obtain ⟨ji13, hji13⟩ : ∃ j_ : Int, (wrap64 (a0 - 1)) = j_ := ⟨_, rfl⟩
    replace H : (if 0 ≤ (ji13) then (if (t613 == ((shr .i64 a3 (ji13)) == 1)) = true then (some 1) else (some 0)) else (none)) = some r := by first | (rw [hji13] at H; exact H) | (simp only [hji13] at H ⊢; exact H)
    (try rw [hji13] at A12)
    have hji13w : (IntKind.i64.wrap (a0 - 1)) = ji13 := (i64_w _).trans hji13
    by_cases c14 : 0 ≤ (ji13)
    ·rw [if_pos c14] at H
     have c14b0 := eq_true c14
     have c14b1 : decide (0 ≤ (ji13)) = true := decide_eq_true c14
     clear c14
     obtain ⟨ji15, hji15⟩ : ∃ j_ : Int, (shr .i64 a3 (ji13)) = j_ := ⟨_, rfl⟩
     replace H : (if (t613 == ((ji15) == 1)) = true then (some 1) else (some 0)) = some r := by first | (rw [hji15] at H; exact H) | (simp only [hji15] at H ⊢; exact H)
     (try rw [hji15] at A12)
     have hji15_ : (a3 / 2 ^ min (ji13).toNat 64) = ji15 := hji15
     have hji15z : (ji13) ≤ 64 → (a3 / 2 ^ (ji13).toNat) = ji15 := shr_small hji15
     by_cases c16 : (t613 == ((ji15) == 1)) = true
     ·rw [if_pos c16] at H
      have c16b0 : (t613 == ((ji15) == 1)) = true := c16
      (try (have c16b1 : decide (t613 = ((ji15) == 1)) = true := by simpa using c16))
      (try (have c16b2 : (t613 == ((ji15) == 1)) = true := by simpa using c16))
      clear c16
      obtain rfl := Option.some.inj H
      try go_wp2
      have n0_ := Aside0.mk (below_drew1 HB.out)
      clear HB
      have HB := n0_
      clear n0_
      refine start_ (n := 11) (S := fun w' => True) (ds := []) #[false, false, false, false, false, false, false, false, false, false, false] (by kernel_rfl) rfl rfl trivial (fun hHeld => ?_); refine with_tabW spec_WordIn.tab3 spec_WordIn.bits3 (fun HT_ HW_ => ?_)
      generalize wc.drew = w17 at HB hHeld ⊢
      refine pure_ (i := 0) (N := some 25) (v := ?_) (a' := ?_) #[true, false, false, false, false, false, false, false, false, false, false] rfl rfl (any_of HT_.out (by kernel_rfl)) (fun _ _ _ h => h) (Or.inl ⟨by rfl, ?_⟩) ?_ ?_
      rotate_left
      ·intro w'
       go_simp
       with_reducible rfl
      rotate_left
      ·simp only [Act.put, List.setIfInBounds_toArray, List.set_cons_zero, List.set_cons_succ, i64_w, i32_w]
       rfl
      refine pure_ (i := 1) (N := some 26) (v := ?_) (a' := ?_) #[true, true, false, false, false, false, false, false, false, false, false] rfl rfl (any_of HT_.out (by kernel_rfl)) (fun _ _ _ h => h) (Or.inl ⟨by rfl, ?_⟩) ?_ ?_
      rotate_left
      ·intro w'
       go_simp
       with_reducible rfl
      rotate_left
      ·simp only [Act.put, List.setIfInBounds_toArray, List.set_cons_zero, List.set_cons_succ, i64_w, i32_w]
       rfl
      refine pure_ (i := 2) (N := some 27) (v := ?_) (a' := ?_) #[true, true, true, false, false, false, false, false, false, false, false] rfl rfl (any_of HT_.out (by kernel_rfl)) (fun _ _ _ h => h) (Or.inl ⟨by rfl, ?_⟩) ?_ ?_
      rotate_left
      ·intro w'
       go_simp
       with_reducible rfl
      rotate_left
      ·simp only [Act.put, List.setIfInBounds_toArray, List.set_cons_zero, List.set_cons_succ, i64_w, i32_w]
       rfl
      refine pure_ (i := 3) (N := some 28) (v := ?_) (a' := ?_) #[true, true, true, true, false, false, false, false, false, false, false] rfl rfl (any_of HT_.out (by kernel_rfl)) (fun _ _ _ h => h) (Or.inl ⟨by rfl, ?_⟩) ?_ ?_
      rotate_left
      ·intro w'
       go_simp
       with_reducible rfl
      rotate_left
      ·simp only [Act.put, List.setIfInBounds_toArray, List.set_cons_zero, List.set_cons_succ, i64_w, i32_w]
       rfl
      refine pure_ (i := 5) (N := some 30) (v := ?_) (a' := ?_) #[true, true, true, true, false, true, false, false, false, false, false] rfl rfl (any_of HT_.out (by kernel_rfl)) (fun _ _ _ h => h) (Or.inl ⟨by rfl, ?_⟩) ?_ ?_
      rotate_left
      ·intro w'
       go_simp
       with_reducible rfl
      rotate_left
      ·simp only [Act.put, List.setIfInBounds_toArray, List.set_cons_zero, List.set_cons_succ, i64_w, i32_w]
       rfl
      refine pure_ (i := 6) (N := some 31) (v := ?_) (a' := ?_) #[true, true, true, true, false, true, true, false, false, false, false] rfl rfl (any_of HT_.out (by kernel_rfl)) (fun _ _ _ h => h) (Or.inl ⟨by rfl, ?_⟩) ?_ ?_
      rotate_left
      ·intro w'
       go_simp
       with_reducible rfl
      rotate_left
      ·simp only [Act.put, List.setIfInBounds_toArray, List.set_cons_zero, List.set_cons_succ, i64_w, i32_w]
       rfl
      refine pure_ (i := 7) (N := some 32) (v := ?_) (a' := ?_) #[true, true, true, true, false, true, true, true, false, false, false] rfl rfl (any_of HT_.out (by kernel_rfl)) (fun _ _ _ h => h) (Or.inl ⟨by rfl, ?_⟩) ?_ ?_
      rotate_left
      ·intro w'
       go_simp
       with_reducible rfl
      rotate_left
      ·simp only [Act.put, List.setIfInBounds_toArray, List.set_cons_zero, List.set_cons_succ, i64_w, i32_w]
       rfl
      refine pure_ (i := 8) (N := some 33) (v := ?_) (a' := ?_) #[true, true, true, true, false, true, true, true, true, false, false] rfl rfl (any_of HT_.out (by kernel_rfl)) (fun _ _ _ h => h) (Or.inl ⟨by rfl, ?_⟩) ?_ ?_
      rotate_left
      ·intro w'
       go_simp
       with_reducible rfl
      rotate_left
      ·simp only [Act.put, List.setIfInBounds_toArray, List.set_cons_zero, List.set_cons_succ, i64_w, i32_w]
       rfl
      refine pure_ (i := 9) (N := some 34) (v := ?_) (a' := ?_) #[true, true, true, true, false, true, true, true, true, true, false] rfl rfl (any_of HT_.out (by kernel_rfl)) (fun _ _ _ h => h) (Or.inl ⟨by rfl, ?_⟩) ?_ ?_
      rotate_left
      ·intro w'
       go_simp
       with_reducible rfl
      rotate_left
      ·simp only [Act.put, List.setIfInBounds_toArray, List.set_cons_zero, List.set_cons_succ, i64_w, i32_w]
       rfl
      refine one_ (i := 4) (N := some 29) #[true, true, true, true, true, true, true, true, true, true, false] rfl rfl (one_of HT_.out (by kernel_rfl)) (by decide) (fun K hK => ?_)
      refine goes_ Try.func99 (by kernel_rfl) rfl #[.agg #[.int .i64 a1, .slice A2 l2.length c2], .int .i64 a3] (by rfl) rfl rfl (by (try simp only [List.map_toArray, List.map_cons, List.map_nil]); first | done | rfl | (simp only [List.length_drop, List.length_take]; rfl)) ?_
      with_reducible refine (spec_l4May.calls kj4 a1 _ _ l2 a3 t613 _ ?side1 ?side2 A12.out).mono ?_
      (case side1 => repeat (first | exact (Kd.C_below HR2.out HB.out) | (with_reducible refine Kd.C_alloc ?_ _) | (with_reducible refine Kd.C_drewN ?_ _) | (with_reducible refine Kd.C_drew ?_)))
      (case side2 => exact HC2.out)
      rintro e w18 ⟨rfl, hb⟩
      refine ⟨_, rfl, ?_⟩
      have n0_ := Aside0.mk (below_step (by repeat (first | (with_reducible first | exact HB.out | apply below_alloc | apply pw_below_drewN | apply below_drew1) | exact HB.out)) hb)
      clear HB
      have HB := n0_
      clear n0_
      (try clear hb)
      (try clear hb2)
      (try clear hk)
      (try clear hi)
      refine hK.out _ _ trivial (fun hHeld => ?_)
      clear hK K
      refine norm_ (a' := ?_) ?_ ?_
      rotate_left
      ·show Act.put _ (some 29) _ = _
       simp only [Act.put, List.setIfInBounds_toArray, List.set_cons_zero, List.set_cons_succ, i64_w, i32_w]
       rfl
      refine pure_ (i := 10) (N := some 35) (v := ?_) (a' := ?_) #[true, true, true, true, true, true, true, true, true, true, true] rfl rfl (any_of HT_.out (by kernel_rfl)) (fun _ _ _ h => h) (Or.inl ⟨by rfl, ?_⟩) ?_ ?_
      rotate_left
      ·intro w'
       go_simp
       with_reducible rfl
      rotate_left
      ·simp only [Act.put, List.setIfInBounds_toArray, List.set_cons_zero, List.set_cons_succ, i64_w, i32_w]
       rfl
      refine done_ (done_of HT_.out (by kernel_rfl)) ?_
      try go_wp2
      go_ret
      exact ⟨by first | rfl | (simp [errW_none, errW_some] <;> rfl) | (simp only [← hji13, ← hji15]; first | rfl | (simp [errW_none, errW_some] <;> rfl)) | (simp [*, errW_none, errW_some] <;> rfl), by repeat (first | (with_reducible first | exact HB.out | apply below_alloc | apply pw_below_drewN | apply below_drew1) | exact HB.out)⟩
     ·rw [if_neg c16] at H
      have c16b0 : (t613 == ((ji15) == 1)) = false := by simpa using c16
      (try (have c16b1 : decide (t613 = ((ji15) == 1)) = false := by simpa using c16))
      (try (have c16b2 : (t613 == ((ji15) == 1)) = false := by simpa using c16))
      (try (have c16b3 : ¬ (t613 = ((ji15) == 1)) := by simpa using c16))
      clear c16
      obtain rfl := Option.some.inj H
      try go_wp2
      have n0_ := Aside0.mk (below_drew1 HB.out)
      clear HB
      have HB := n0_
      clear n0_
      refine start_ (n := 11) (S := fun w' => True) (ds := []) #[false, false, false, false, false, false, false, false, false, false, false] (by kernel_rfl) rfl rfl trivial (fun hHeld => ?_); refine with_tabW spec_WordIn.tab3 spec_WordIn.bits3 (fun HT_ HW_ => ?_)
      generalize wc.drew = w19 at HB hHeld ⊢
      refine pure_ (i := 0) (N := some 25) (v := ?_) (a' := ?_) #[true, false, false, false, false, false, false, false, false, false, false] rfl rfl (any_of HT_.out (by kernel_rfl)) (fun _ _ _ h => h) (Or.inl ⟨by rfl, ?_⟩) ?_ ?_
      rotate_left
      ·intro w'
       go_simp
       with_reducible rfl
      rotate_left
      ·simp only [Act.put, List.setIfInBounds_toArray, List.set_cons_zero, List.set_cons_succ, i64_w, i32_w]
       rfl
      refine pure_ (i := 1) (N := some 26) (v := ?_) (a' := ?_) #[true, true, false, false, false, false, false, false, false, false, false] rfl rfl (any_of HT_.out (by kernel_rfl)) (fun _ _ _ h => h) (Or.inl ⟨by rfl, ?_⟩) ?_ ?_
      rotate_left
      ·intro w'
       go_simp
       with_reducible rfl
      rotate_left
      ·simp only [Act.put, List.setIfInBounds_toArray, List.set_cons_zero, List.set_cons_succ, i64_w, i32_w]
       rfl
      refine pure_ (i := 2) (N := some 27) (v := ?_) (a' := ?_) #[true, true, true, false, false, false, false, false, false, false, false] rfl rfl (any_of HT_.out (by kernel_rfl)) (fun _ _ _ h => h) (Or.inl ⟨by rfl, ?_⟩) ?_ ?_
      rotate_left
      ·intro w'
       go_simp
       with_reducible rfl
      rotate_left
      ·simp only [Act.put, List.setIfInBounds_toArray, List.set_cons_zero, List.set_cons_succ, i64_w, i32_w]
       rfl
      refine pure_ (i := 3) (N := some 28) (v := ?_) (a' := ?_) #[true, true, true, true, false, false, false, false, false, false, false] rfl rfl (any_of HT_.out (by kernel_rfl)) (fun _ _ _ h => h) (Or.inl ⟨by rfl, ?_⟩) ?_ ?_
      rotate_left
      ·intro w'
       go_simp
       with_reducible rfl
      rotate_left
      ·simp only [Act.put, List.setIfInBounds_toArray, List.set_cons_zero, List.set_cons_succ, i64_w, i32_w]
       rfl
      refine pure_ (i := 5) (N := some 30) (v := ?_) (a' := ?_) #[true, true, true, true, false, true, false, false, false, false, false] rfl rfl (any_of HT_.out (by kernel_rfl)) (fun _ _ _ h => h) (Or.inl ⟨by rfl, ?_⟩) ?_ ?_
      rotate_left
      ·intro w'
       go_simp
       with_reducible rfl
      rotate_left
      ·simp only [Act.put, List.setIfInBounds_toArray, List.set_cons_zero, List.set_cons_succ, i64_w, i32_w]
       rfl
      refine pure_ (i := 6) (N := some 31) (v := ?_) (a' := ?_) #[true, true, true, true, false, true, true, false, false, false, false] rfl rfl (any_of HT_.out (by kernel_rfl)) (fun _ _ _ h => h) (Or.inl ⟨by rfl, ?_⟩) ?_ ?_
      rotate_left
      ·intro w'
       go_simp
       with_reducible rfl
      rotate_left
      ·simp only [Act.put, List.setIfInBounds_toArray, List.set_cons_zero, List.set_cons_succ, i64_w, i32_w]
       rfl
      refine pure_ (i := 7) (N := some 32) (v := ?_) (a' := ?_) #[true, true, true, true, false, true, true, true, false, false, false] rfl rfl (any_of HT_.out (by kernel_rfl)) (fun _ _ _ h => h) (Or.inl ⟨by rfl, ?_⟩) ?_ ?_
      rotate_left
      ·intro w'
       go_simp
       with_reducible rfl
      rotate_left
      ·simp only [Act.put, List.setIfInBounds_toArray, List.set_cons_zero, List.set_cons_succ, i64_w, i32_w]
       rfl
      refine pure_ (i := 8) (N := some 33) (v := ?_) (a' := ?_) #[true, true, true, true, false, true, true, true, true, false, false] rfl rfl (any_of HT_.out (by kernel_rfl)) (fun _ _ _ h => h) (Or.inl ⟨by rfl, ?_⟩) ?_ ?_
      rotate_left
      ·intro w'
       go_simp
       with_reducible rfl
      rotate_left
      ·simp only [Act.put, List.setIfInBounds_toArray, List.set_cons_zero, List.set_cons_succ, i64_w, i32_w]
       rfl
      refine pure_ (i := 9) (N := some 34) (v := ?_) (a' := ?_) #[true, true, true, true, false, true, true, true, true, true, false] rfl rfl (any_of HT_.out (by kernel_rfl)) (fun _ _ _ h => h) (Or.inl ⟨by rfl, ?_⟩) ?_ ?_
      rotate_left
      ·intro w'
       go_simp
       with_reducible rfl
      rotate_left
      ·simp only [Act.put, List.setIfInBounds_toArray, List.set_cons_zero, List.set_cons_succ, i64_w, i32_w]
       rfl
      refine one_ (i := 4) (N := some 29) #[true, true, true, true, true, true, true, true, true, true, false] rfl rfl (one_of HT_.out (by kernel_rfl)) (by decide) (fun K hK => ?_)
      refine goes_ Try.func99 (by kernel_rfl) rfl #[.agg #[.int .i64 a1, .slice A2 l2.length c2], .int .i64 a3] (by rfl) rfl rfl (by (try simp only [List.map_toArray, List.map_cons, List.map_nil]); first | done | rfl | (simp only [List.length_drop, List.length_take]; rfl)) ?_
      with_reducible refine (spec_l4May.calls kj4 a1 _ _ l2 a3 t613 _ ?side1 ?side2 A12.out).mono ?_
      (case side1 => repeat (first | exact (Kd.C_below HR2.out HB.out) | (with_reducible refine Kd.C_alloc ?_ _) | (with_reducible refine Kd.C_drewN ?_ _) | (with_reducible refine Kd.C_drew ?_)))
      (case side2 => exact HC2.out)
      rintro e w20 ⟨rfl, hb⟩
      refine ⟨_, rfl, ?_⟩
      have n0_ := Aside0.mk (below_step (by repeat (first | (with_reducible first | exact HB.out | apply below_alloc | apply pw_below_drewN | apply below_drew1) | exact HB.out)) hb)
      clear HB
      have HB := n0_
      clear n0_
      (try clear hb)
      (try clear hb2)
      (try clear hk)
      (try clear hi)
      refine hK.out _ _ trivial (fun hHeld => ?_)
      clear hK K
      refine norm_ (a' := ?_) ?_ ?_
      rotate_left
      ·show Act.put _ (some 29) _ = _
       simp only [Act.put, List.setIfInBounds_toArray, List.set_cons_zero, List.set_cons_succ, i64_w, i32_w]
       rfl
      refine pure_ (i := 10) (N := some 35) (v := ?_) (a' := ?_) #[true, true, true, true, true, true, true, true, true, true, true] rfl rfl (any_of HT_.out (by kernel_rfl)) (fun _ _ _ h => h) (Or.inl ⟨by rfl, ?_⟩) ?_ ?_
      rotate_left
      ·intro w'
       go_simp
       with_reducible rfl
      rotate_left
      ·simp only [Act.put, List.setIfInBounds_toArray, List.set_cons_zero, List.set_cons_succ, i64_w, i32_w]
       rfl
      refine done_ (done_of HT_.out (by kernel_rfl)) ?_
      try go_wp2
      go_ret
      exact ⟨by first | rfl | (simp [errW_none, errW_some] <;> rfl) | (simp only [← hji13, ← hji15]; first | rfl | (simp [errW_none, errW_some] <;> rfl)) | (simp [*, errW_none, errW_some] <;> rfl), by repeat (first | (with_reducible first | exact HB.out | apply below_alloc | apply pw_below_drewN | apply below_drew1) | exact HB.out)⟩
    ·rw [if_neg c14] at H
     exact absurd H (by simp)

end Go.Proofs.Ytpampekijfjlkaa.X

/- Plain laws of words in a strange language. -/
namespace Go.Proofs.Ytpampekijfjlkaa.L
open Go.RowKit Go.Proofs.Ytpampekijfjlkaa.X Go.Proofs.YtpampekijfjlkaaW.PrintWords Go.Proofs.YtpampekijfjlkaaW.PrintLast Go.Proofs.YtpampekijfjlkaaW.PrintMore

/-- What the word means, and whether it is said. -/
noncomputable def word (p i : Int) (t : List M) (w : Int) : Int :=
 if 2 ≤ p ∧ i < p - 1 ∧ 0 ≤ i ∧ wok p w = true ∧ tok p t = true then (if (may i t w.toNat == w.toNat.testBit (p.toNat - 1)) = true then 1 else 0) else -1
theorem top_fin : ∀ w : Fin 16, ∀ q : Fin 4, w.val < 2 ^ (q.val + 1) → (shr .i64 ((w.val : Nat) : Int) ((q.val : Nat) : Int) == 1) = w.val.testBit q.val := by decide +kernel
theorem bitI_fin : ∀ w : Fin 16, ∀ q : Fin 4, Go.bits .and .i64 (shr .i64 ((w.val : Nat) : Int) ((q.val : Nat) : Int)) 1 = if w.val.testBit q.val = true then 1 else 0 := by decide +kernel
theorem impl_Word_ev (p i : Int) (t : List M) (w : Int) (hp : -9223372036854775808 ≤ p ∧ p ≤ 9223372036854775807) : Ev (fun k => impl_WordIn.f k p i t w) (word p i t w) := by
 unfold impl_WordIn.f
 have no : ¬ (2 ≤ p ∧ i < p - 1 ∧ 0 ≤ i ∧ wok p w = true ∧ tok p t = true) → Ev (fun k => impl_WordIn.j0 k p i t w true) (word p i t w) := by
  intro h
  rw [show word p i t w = -1 from if_neg h]
  refine Ev.step (fun k => by simp only [impl_WordIn.j0]; rfl) ?_
  exact Ev.yes (by simp) (Ev.some _)
 by_cases h2 : p < 2
 ·exact Ev.yes h2 (no (by omega))
 refine Ev.no h2 ?_
 rw [w64 (by omega) (by omega)]
 by_cases h1 : i = p - 1
 ·rw [show (i == p - 1) = true from beq_iff_eq.2 h1]
  exact no (by omega)
 rw [show (i == p - 1) = false from beq_eq_false_iff_ne.2 h1]
 refine Ev.step (fun k => by simp only [impl_WordIn.j0]; rfl) ?_
 refine Ev.no (by simp) (Ev.bind (impl_Answer_ev p i t w) ?_)
 by_cases ha : wok p w = true ∧ tok p t = true ∧ 0 ≤ i ∧ i < p
 ·rw [answer_in ha]
  obtain ⟨v, rfl, hv, hv2⟩ := wok_nat ha.1
  obtain ⟨hp0, hp1, _⟩ := tok_iff.1 ha.2.1
  obtain ⟨q, rfl, hq1, hq, hq2, e⟩ := people_nat hp0 hp1
  rw [w64 (by omega) (by omega), show ((q : Int) - 1) = ((q - 1 : Nat) : Int) by omega, bitI_fin ⟨v, hv⟩ ⟨q - 1, by omega⟩]
  rw [show word (q : Int) i t (v : Int) = if (may i t (v : Int).toNat == (v : Int).toNat.testBit ((q : Int).toNat - 1)) = true then 1 else 0 from if_pos ⟨by omega, by omega, by omega, ha.1, ha.2.1⟩]
  simp only [Int.toNat_natCast]
  by_cases e1 : may i t v = true <;> by_cases e2 : v.testBit (q - 1) = true
  ·simp only [e1, e2, if_true]
   exact Ev.no (by simp) (Ev.yes (by omega) (Ev.cast (Ev.some _) (by simp)))
  ·rw [Bool.not_eq_true] at e2
   simp only [e1, e2, if_true, Bool.false_eq_true, if_false]
   exact Ev.no (by simp) (Ev.yes (by omega) (Ev.cast (Ev.some _) (by simp)))
  ·rw [Bool.not_eq_true] at e1
   simp only [e1, e2, if_true, Bool.false_eq_true, if_false]
   exact Ev.no (by simp) (Ev.yes (by omega) (Ev.cast (Ev.some _) (by simp)))
  ·rw [Bool.not_eq_true] at e1 e2
   simp only [e1, e2, Bool.false_eq_true, if_false]
   exact Ev.no (by simp) (Ev.yes (by omega) (Ev.cast (Ev.some _) (by simp)))
 ·rw [answer_out ha]
  exact Ev.yes (by omega) (Ev.cast (Ev.some _) (if_neg (fun h => ha ⟨h.2.2.2.1, h.2.2.2.2, h.2.2.1, by omega⟩)).symm)
theorem spec_Word_ev (p i : Int) (t : List M) (w : Int) (hp : -9223372036854775808 ≤ p ∧ p ≤ 9223372036854775807) (hl : t.length ≤ 4611686018427387904) (htw : ∀ m ∈ t, m.f1 ≤ 9223372036854775807) : Ev (fun k => spec_WordIn.f k p i t w) (word p i t w) := by
 unfold spec_WordIn.f spec_l8Ok.f
 have no : ¬ (2 ≤ p ∧ i < p - 1 ∧ 0 ≤ i ∧ wok p w = true ∧ tok p t = true) → Ev (fun k => spec_WordIn.j0 k p i t w true) (word p i t w) := by
  intro h
  rw [show word p i t w = -1 from if_neg h]
  refine Ev.step (fun k => by simp only [spec_WordIn.j0]; rfl) ?_
  exact Ev.yes (by simp) (Ev.some _)
 simp only [l1In_eq, spec_WorldOk_eq, Option.bind_some]
 by_cases h2 : 2 ≤ p ∧ p ≤ 4
 ·rw [decide_eq_true h2, w64 (by omega) (by omega)]
  simp only [if_true, Option.bind_some]
  by_cases h1 : 0 ≤ i ∧ i ≤ p - 2
  ·refine Ev.yes (decide_eq_true h1) (Ev.bind (spec_TermOk_ev p t hl htw) ?_)
   by_cases hk : tok p t = true
   ·refine Ev.yes hk ?_
    by_cases hw : wok p w = true
    ·rw [hw]
     obtain ⟨v, rfl, hv, hv2⟩ := wok_nat hw
     obtain ⟨q, rfl, hq1, hq, hq2, e⟩ := people_nat (p := p) (by omega) h2.2
     refine Ev.step (fun k => by simp only [spec_WordIn.j0]; rfl) ?_
     rw [w64 (by omega) (by omega), show ((q : Int) - 1) = ((q - 1 : Nat) : Int) by omega]
     refine Ev.no (by simp) (Ev.bind (spec_may_ev hk h1.1 (by omega) hv) (Ev.yes (by omega) ?_))
     rw [top_fin ⟨v, hv⟩ ⟨q - 1, by omega⟩ (by rw [e] at hv2; rw [Nat.sub_add_cancel hq1]; exact hv2)]
     rw [show word (q : Int) i t (v : Int) = if (may i t (v : Int).toNat == (v : Int).toNat.testBit ((q : Int).toNat - 1)) = true then 1 else 0 from if_pos ⟨by omega, by omega, by omega, hw, hk⟩]
     simp only [Int.toNat_natCast]
     by_cases hm : (may i t v == v.testBit (q - 1)) = true
     ·exact Ev.yes hm (Ev.cast (Ev.some _) (if_pos hm).symm)
     ·exact Ev.no hm (Ev.cast (Ev.some _) (if_neg hm).symm)
    ·rw [Bool.not_eq_true] at hw
     rw [hw]
     exact no (fun h => by rw [hw] at h; exact absurd h.2.2.2.1 (by simp))
   ·exact Ev.no hk (no (fun h => hk h.2.2.2.2))
  ·exact Ev.no (by simpa using h1) (no (by omega))
 ·rw [decide_eq_false h2]
  refine no (fun h => ?_)
  have := tok_iff.1 h.2.2.2.2
  omega
end Go.Proofs.Ytpampekijfjlkaa.L

-- printed by a program of this session's (xprint)
namespace Go.Proofs.Ytpampekijfjlkaa.X
open Go.RowKit Go.Proofs.YtpampekijfjlkaaW.PrintWords Go.Proofs.YtpampekijfjlkaaW.PrintLast Go.Proofs.YtpampekijfjlkaaW.PrintMore
attribute [local go_sem] max2_int min2_int max_two min_two max_three min_three max_four min_four   -- for this text's walks alone
set_option linter.unusedVariables false
set_option linter.unusedSimpArgs false

attribute [local go_sem high] eqA52
/-! ### laws_sameMarks: function 57 -/
def laws_sameMarks.l0 : Nat → List (S52) → List (S52) → Int → Option (Bool)
 | 0, _, _, _ => none
 | k + 1, x0, x1, x5 => if x5 < (x0.length : Int) then (if 0 ≤ x5 then (if x5 < (x1.length : Int) then (if (!(((rd_T52 x0 x5).f0) == ((rd_T52 x1 x5).f0)) || (!(((rd_T52 x0 x5).f1) == ((rd_T52 x1 x5).f1)))) = true then (some false) else (laws_sameMarks.l0 k x0 x1 (wrap64 (x5 + 1)))) else (none)) else (none)) else (some true)
def laws_sameMarks.f (k : Nat) (l0 : List (S52)) (l1 : List (S52)) : Option (Bool) := if (l0.length : Int) = (l1.length : Int) then (laws_sameMarks.l0 k l0 l1 0) else (some false)
theorem laws_sameMarks.mono_l : ∀ k, (∀ y0 y1 y2, LeO (laws_sameMarks.l0 k y0 y1 y2) (laws_sameMarks.l0 (k + 1) y0 y1 y2))
 | 0 => fun _ _ _ r h => by simp [laws_sameMarks.l0] at h
 | k + 1 => by
  have ih0 := laws_sameMarks.mono_l k
  ·intro y0 y1 y2
   unfold laws_sameMarks.l0
   repeat' first
   | (with_reducible exact ih0 _ _ _)
   | (with_reducible exact LeO.refl _)
   | (with_reducible exact LeO.none _)
   | (with_reducible refine LeO.ite ?_ ?_)
   | (with_reducible refine LeO.bind ?_ (fun _ => ?_))
   | exact ih0 _ _ _
   | exact LeO.none _
   | refine LeO.ite ?_ ?_
   | refine LeO.bind ?_ (fun _ => ?_)
theorem laws_sameMarks.mono : ∀ a0 a1 k, LeO (laws_sameMarks.f k a0 a1) (laws_sameMarks.f (k + 1) a0 a1) := by
 intro a0 a1 k
 have ih0 := laws_sameMarks.mono_l k
 unfold laws_sameMarks.f
 repeat' first
   | (with_reducible exact ih0 _ _ _)
   | (with_reducible exact LeO.refl _)
   | (with_reducible exact LeO.none _)
   | (with_reducible refine LeO.ite ?_ ?_)
   | (with_reducible refine LeO.bind ?_ (fun _ => ?_))
   | exact ih0 _ _ _
   | exact LeO.none _
   | refine LeO.ite ?_ ?_
   | refine LeO.bind ?_ (fun _ => ?_)
set_option maxHeartbeats 8000000 in
set_option maxRecDepth 100000 in
theorem laws_sameMarks.calls (k : Nat) (A0 : Option Addr) (c0 : Nat) (l0 : List (S52)) (A1 : Option Addr) (c1 : Nat) (l1 : List (S52)) (r : Bool) (w : World) (hr0 : Kd.C k52 w A0 l0.length l0) (hc0 : l0.length ≤ c0) (hr1 : Kd.C k52 w A1 l1.length l1) (hc1 : l1.length ≤ c1) (h : laws_sameMarks.f k l0 l1 = some r) :
  Calls Try.prog 57 #[.slice A0 l0.length c0, .slice A1 l1.length c1] w fun e w' => e = .returned (.bool r) ∧ Drawn0 w w' := by
 have hu52 := Try.underlying52
 have HR0 := Aside0.mk hr0
 have HC0 := Aside0.mk hc0
 clear hr0 hc0
 have HR1 := Aside0.mk hr1
 have HC1 := Aside0.mk hc1
 clear hr1 hc1
 have H : (if (l0.length : Int) = (l1.length : Int) then (laws_sameMarks.l0 k l0 l1 0) else (some false)) = some r := h
 clear h
 by_cases c3 : (l0.length : Int) = (l1.length : Int)
 ·rw [if_pos c3] at H
  have c3b0 : ((l0.length : Int) == (l1.length : Int)) = true := beq_iff_eq.mpr c3
  have c3b1 : ((l0.length : Int) != (l1.length : Int)) = false := bne_eq_false_iff_eq.mpr c3
  have c3b2 : (l0.length == l1.length) = true := by first | simpa using c3 | (simp at c3 ⊢; omega)
  clear c3
  have H' := Aside0.mk H
  clear H
  go_enter Try.func57, Try.ntmps57
  go_wp2
  repeat (go_quiet (fail); try go_wp2)
  go_loopg [5] k (fun kq v5 w' => ∃ (x5_1 : Int), v5 = .int .i64 x5_1 ∧ Aside0 (laws_sameMarks.l0 kq l0 l1 x5_1 = some r) ∧ Aside0 (kq ≤ k) ∧ Drawn0 w w')
  case atStart => exact ⟨(0), (by first | rfl | (simp; done) | (simp [*]; done)), H', ⟨Nat.le_refl _⟩, by repeat (first | exact Drawn0.refl _ | apply Drawn0.step)⟩
  case round =>
   clear H'
   try clear c1
   try clear p2
   try clear c3
   try clear c3b0
   try clear c3b1
   try clear c3b2
   obtain ⟨x5_1, rfl, HA, HK1, ⟨m1, rfl⟩⟩ := hrel
   cases gk with
   | zero => exact absurd HA.out (by simp [laws_sameMarks.l0])
   | succ k1 =>
    have H := HA.out
    clear HA
    simp only [laws_sameMarks.l0] at H
    by_cases c4 : x5_1 < (l0.length : Int)
    ·rw [if_pos c4] at H
     have c4b0 : decide (x5_1 < (l0.length : Int)) = true := decide_eq_true c4
     clear c4
     by_cases c5 : 0 ≤ x5_1
     ·rw [if_pos c5] at H
      have c5b0 : decide (0 ≤ x5_1) = true := decide_eq_true c5
      clear c5
      by_cases c6 : x5_1 < (l1.length : Int)
      ·rw [if_pos c6] at H
       have c6b0 : decide (x5_1 < (l1.length : Int)) = true := decide_eq_true c6
       clear c6
       by_cases c7 : (!(((rd_T52 l0 x5_1).f0) == ((rd_T52 l1 x5_1).f0)) || (!(((rd_T52 l0 x5_1).f1) == ((rd_T52 l1 x5_1).f1)))) = true
       ·rw [if_pos c7] at H
        have c7b0 : (!(((rd_T52 l0 x5_1).f0) == ((rd_T52 l1 x5_1).f0)) || (!(((rd_T52 l0 x5_1).f1) == ((rd_T52 l1 x5_1).f1)))) = true := c7
        clear c7
        obtain rfl := Option.some.inj H
        have p826 : 0 ≤ (x5_1 : Int) := of_decide_eq_true (by first | (with_reducible assumption) | assumption)
        have q826 : x5_1 < (l0.length : Int) := of_decide_eq_true (by first | (with_reducible assumption) | assumption)
        obtain ⟨ad826, e826, hx826_0, hx826_1⟩ := at_T52 HR0.out x5_1 p826 q826
        cases e826
        replace p826 := eq_true p826
        replace q826 := eq_true q826
        have p827 : 0 ≤ (x5_1 : Int) := of_decide_eq_true (by first | (with_reducible assumption) | assumption)
        have q827 : x5_1 < (l1.length : Int) := of_decide_eq_true (by first | (with_reducible assumption) | assumption)
        obtain ⟨ad827, e827, hx827_0, hx827_1⟩ := at_T52 HR1.out x5_1 p827 q827
        cases e827
        replace p827 := eq_true p827
        replace q827 := eq_true q827
        go_wp2
        repeat (go_quiet (fail); try go_wp2)
        go_ret
        exact ⟨by first | rfl | (simp; done) | (simp [*]; done), by repeat (first | exact Drawn0.refl _ | apply Drawn0.step)⟩
       ·rw [if_neg c7] at H
        have c7b0 : (!(((rd_T52 l0 x5_1).f0) == ((rd_T52 l1 x5_1).f0)) || (!(((rd_T52 l0 x5_1).f1) == ((rd_T52 l1 x5_1).f1)))) = false := by simpa using c7
        clear c7
        have H' := Aside0.mk H
        clear H
        have p826 : 0 ≤ (x5_1 : Int) := of_decide_eq_true (by first | (with_reducible assumption) | assumption)
        have q826 : x5_1 < (l0.length : Int) := of_decide_eq_true (by first | (with_reducible assumption) | assumption)
        obtain ⟨ad826, e826, hx826_0, hx826_1⟩ := at_T52 HR0.out x5_1 p826 q826
        cases e826
        replace p826 := eq_true p826
        replace q826 := eq_true q826
        have p827 : 0 ≤ (x5_1 : Int) := of_decide_eq_true (by first | (with_reducible assumption) | assumption)
        have q827 : x5_1 < (l1.length : Int) := of_decide_eq_true (by first | (with_reducible assumption) | assumption)
        obtain ⟨ad827, e827, hx827_0, hx827_1⟩ := at_T52 HR1.out x5_1 p827 q827
        cases e827
        replace p827 := eq_true p827
        replace q827 := eq_true q827
        go_wp2
        repeat (go_quiet (fail); try go_wp2)
        go_roundg k1
        case measure => have := HK1.out; omega
        case rel => exact ⟨(wrap64 (x5_1 + 1)), (by first | rfl | (simp; done) | (simp [*]; done)), H', ⟨by have := HK1.out; omega⟩, by repeat (first | exact Drawn0.refl _ | apply Drawn0.step)⟩
      ·rw [if_neg c6] at H
       exact absurd H (by simp)
     ·rw [if_neg c5] at H
      exact absurd H (by simp)
    ·rw [if_neg c4] at H
     have c4b0 : decide (x5_1 < (l0.length : Int)) = false := decide_eq_false c4
     clear c4
     obtain rfl := Option.some.inj H
     go_wp2
     repeat (go_quiet (fail); try go_wp2)
     go_ret
     exact ⟨by first | rfl | (simp; done) | (simp [*]; done), by repeat (first | exact Drawn0.refl _ | apply Drawn0.step)⟩
 ·rw [if_neg c3] at H
  have c3b0 : ((l0.length : Int) == (l1.length : Int)) = false := beq_eq_false_iff_ne.mpr c3
  have c3b1 : ((l0.length : Int) != (l1.length : Int)) = true := bne_iff_ne.mpr c3
  have c3b2 : (l0.length == l1.length) = false := by first | simpa using c3 | (simp at c3 ⊢; omega)
  obtain rfl := Option.some.inj H
  go_enter Try.func57, Try.ntmps57
  go_wp2
  repeat (go_quiet (fail); try go_wp2)
  go_ret
  exact ⟨by first | rfl | (simp; done) | (simp [*]; done), by repeat (first | exact Drawn0.refl _ | apply Drawn0.step)⟩

end Go.Proofs.Ytpampekijfjlkaa.X

/- Plain laws of the laws' own comparing of rows of marks, and that the program lives. -/
namespace Go.Proofs.Ytpampekijfjlkaa.L
open Go.RowKit Go.Proofs.Ytpampekijfjlkaa.X Go.Proofs.YtpampekijfjlkaaW.PrintWords Go.Proofs.YtpampekijfjlkaaW.PrintLast Go.Proofs.YtpampekijfjlkaaW.PrintMore

theorem sameMarks_l0 (l : List M) (hl : l.length ≤ 4611686018427387904) : ∀ (suf pre : List M), l = pre ++ suf → Ev (fun k => laws_sameMarks.l0 k l l ((pre.length : Nat) : Int)) true := by
 intro suf
 induction suf with
 | nil =>
  intro pre he
  have hle : l.length = pre.length := by rw [he]; simp
  refine Ev.step (fun k => by simp only [laws_sameMarks.l0]; rfl) ?_
  exact Ev.no (by omega) (Ev.some _)
 | cons m t ih =>
  intro pre he
  have hle : l.length = pre.length + (t.length + 1) := by rw [he]; simp
  have hnext : wrap64 (((pre.length : Nat) : Int) + 1) = (((pre ++ [m]).length : Nat) : Int) := by rw [w64 (by omega) (by omega)]; simp
  refine Ev.step (fun k => by simp only [laws_sameMarks.l0]; rfl) ?_
  refine Ev.yes (by omega) (Ev.yes (by omega) (Ev.yes (by omega) (Ev.no (by simp) ?_)))
  rw [hnext]
  exact ih (pre ++ [m]) (by rw [he]; simp)
theorem sameMarks_ev (l : List M) (hl : l.length ≤ 4611686018427387904) : Ev (fun k => laws_sameMarks.f k l l) true := by
 unfold laws_sameMarks.f
 exact Ev.yes rfl (sameMarks_l0 l hl l [] rfl)
theorem alive_eq : laws_alive.f = some true := by decide +kernel
end Go.Proofs.Ytpampekijfjlkaa.L
