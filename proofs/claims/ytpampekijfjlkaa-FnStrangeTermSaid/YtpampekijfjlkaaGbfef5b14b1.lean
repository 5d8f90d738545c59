/- Joined by a program of this session's: X98, X99, LDS, LDSD, LTR, LS, LH, LHW, LTB, X47, LW, LHI, X13, LSM, X48, LAN. -/
import Derived.Test.YtpampekijfjlkaaG2f71888243
import Derived.Test.YtpampekijfjlkaaGf3b4ea1890
import Derived.Test.YtpampekijfjlkaaGebc129629f
import Derived.Test.YtpampekijfjlkaaG3b2731fd70
import Derived.Test.YtpampekijfjlkaaG99b6b995c2
import Derived.Laws.BitsLemmas
import Derived.Test.YtpampekijfjlkaaG394889c12f

-- printed by a program of this session's (xprint)
namespace Go.Proofs.Ytpampekijfjlkaa.X
open Go.RowKit Go.Proofs.YtpampekijfjlkaaW.PrintWords Go.Proofs.YtpampekijfjlkaaW.PrintLast Go.Proofs.YtpampekijfjlkaaW.PrintMore
attribute [local go_sem] max2_int min2_int max_two min_two max_three min_three max_four min_four   -- for this text's walks alone
set_option linter.unusedVariables false
set_option linter.unusedSimpArgs false

/-! ### spec_StrangeTerm: function 64 -/
def spec_StrangeTerm.j0 : Nat → Int → Int → List (S52) → Bool → Option ((List (S52)) × Bool)
 | 0, _, _, _, _ => none
 | k + 1, x0, x1, x2, x18 => if x18 = true then (some ((([] : List (S52))), false)) else ((some (([(⟨0, x1⟩ : S52), (⟨0, wrap64 (x0 - 1)⟩ : S52)] : List (S52)) : List (S52))).bind fun y931 => (if y931.length + x2.length < 8796093022208 then ((some (y931 ++ x2 : List (S52))).bind fun y934 => ((some (([(⟨5, 0⟩ : S52), (⟨5, 0⟩ : S52)] : List (S52)) : List (S52))).bind fun y937 => (if y934.length + y937.length < 8796093022208 then ((some (y934 ++ y937 : List (S52))).bind fun y940 => ((spec_TermOk.f k x0 y940).bind fun t943 => (if t943 = true then (some (y940, true)) else (some ((([] : List (S52))), false))))) else (none)))) else (none)))
def spec_StrangeTerm.f (k : Nat) (a0 : Int) (a1 : Int) (l2 : List (S52)) : Option ((List (S52)) × Bool) := (spec_l8Ok.f a0 a1).bind fun t926 => (if t926 = true then ((spec_TermOk.f k a0 l2).bind fun t927 => (spec_StrangeTerm.j0 k a0 a1 l2 (!t927))) else (spec_StrangeTerm.j0 k a0 a1 l2 true))
theorem spec_StrangeTerm.mono_l : ∀ k, (∀ y0 y1 y2 y3, LeO (spec_StrangeTerm.j0 k y0 y1 y2 y3) (spec_StrangeTerm.j0 (k + 1) y0 y1 y2 y3))
 | 0 => fun _ _ _ _ r h => by simp [spec_StrangeTerm.j0] at h
 | k + 1 => by
  have ih0 := spec_StrangeTerm.mono_l k
  ·intro y0 y1 y2 y3
   unfold spec_StrangeTerm.j0
   repeat' first
   | (with_reducible exact ih0 _ _ _ _)
   | (with_reducible exact spec_TermOk.mono _ _ _)
   | (with_reducible exact LeO.refl _)
   | (with_reducible exact LeO.none _)
   | (with_reducible refine LeO.ite ?_ ?_)
   | (with_reducible refine LeO.bind ?_ (fun _ => ?_))
   | exact ih0 _ _ _ _
   | exact spec_TermOk.mono _ _ _
   | exact LeO.none _
   | refine LeO.ite ?_ ?_
   | refine LeO.bind ?_ (fun _ => ?_)
theorem spec_StrangeTerm.mono : ∀ a0 a1 a2 k, LeO (spec_StrangeTerm.f k a0 a1 a2) (spec_StrangeTerm.f (k + 1) a0 a1 a2) := by
 intro a0 a1 a2 k
 have ih0 := spec_StrangeTerm.mono_l k
 unfold spec_StrangeTerm.f
 repeat' first
   | (with_reducible exact ih0 _ _ _ _)
   | (with_reducible exact spec_TermOk.mono _ _ _)
   | (with_reducible exact LeO.refl _)
   | (with_reducible exact LeO.none _)
   | (with_reducible refine LeO.ite ?_ ?_)
   | (with_reducible refine LeO.bind ?_ (fun _ => ?_))
   | exact ih0 _ _ _ _
   | exact spec_TermOk.mono _ _ _
   | exact LeO.none _
   | refine LeO.ite ?_ ?_
   | refine LeO.bind ?_ (fun _ => ?_)
set_option maxHeartbeats 8000000 in
set_option maxRecDepth 100000 in
theorem spec_StrangeTerm.calls (k : Nat) (a0 : Int) (a1 : Int) (A2 : Option Addr) (c2 : Nat) (l2 : List (S52)) (r1 : List (S52)) (r2 : Bool) (w : World) (hr2 : Kd.C k52 w A2 l2.length l2) (hc2 : l2.length ≤ c2) (h : spec_StrangeTerm.f k a0 a1 l2 = some (r1, r2)) :
  Calls Try.prog 64 #[.int .i64 a0, .int .i64 a1, .slice A2 l2.length c2] w fun e w' => ∃ v0_ : Value, e = .returned (.tuple #[v0_, .bool r2]) ∧ Kd.R k52 52 w' w.heap.size (fun _ => True) v0_ r1 ∧ Below w.heap.size w w' := by
 have hu52 := Try.underlying52
 have HR2 := Aside0.mk hr2
 have HC2 := Aside0.mk hc2
 clear hr2 hc2
 have HB := Aside0.mk (Below.refl w.heap.size w)
 have H : ((spec_l8Ok.f a0 a1).bind fun t926 => (if t926 = true then ((spec_TermOk.f k a0 l2).bind fun t927 => (spec_StrangeTerm.j0 k a0 a1 l2 (!t927))) else (spec_StrangeTerm.j0 k a0 a1 l2 true))) = some (r1, r2) := h
 clear h
 have HC4 := Aside0.mk H
 clear H
 go_enter Try.func64, Try.ntmps64
 go_upto_region 1 with (fail)
 go_cut [18] (fun v18 wc => ∃ (kq : Nat) (x18_3 : Bool), v18 = .bool x18_3 ∧ Aside0 (spec_StrangeTerm.j0 kq a0 a1 l2 x18_3 = some (r1, r2)) ∧ Aside0 (kq ≤ k) ∧ Aside0 (Below w.heap.size w wc))
 case first =>
  have H := HC4.out
  clear HC4
  replace H := Option.bind_eq_some_iff.mp H
  obtain ⟨t926, A50, H⟩ := H
  replace H : (if t926 = true then ((spec_TermOk.f k a0 l2).bind fun t927 => (spec_StrangeTerm.j0 k a0 a1 l2 (!t927))) else (spec_StrangeTerm.j0 k a0 a1 l2 true)) = some (r1, r2) := H
  have A5 := Aside0.mk A50
  clear A50
  by_cases c6 : t926 = true
  ·subst c6
   have H1 : ((spec_TermOk.f k a0 l2).bind fun t927 => (spec_StrangeTerm.j0 k a0 a1 l2 (!t927))) = some (r1, r2) := by rw [if_pos rfl] at H; exact H
   clear H
   have H := H1
   clear H1
   replace H := Option.bind_eq_some_iff.mp H
   obtain ⟨t927, A70, H⟩ := H
   replace H : (spec_StrangeTerm.j0 k a0 a1 l2 (!t927)) = some (r1, r2) := H
   have A7 := Aside0.mk A70
   clear A70
   have H' := Aside0.mk H
   clear H
   go_wp2_with (first | ((with_reducible refine gate_callee (f := 107) rfl ?_); refine goesL_ (some 11) rfl rfl Try.func107 (by kernel_rfl) rfl #[.int .i64 a0, .int .i64 a1] rfl (by (try simp only [List.map_toArray, List.map_cons, List.map_nil]); first | done | rfl | (simp only [List.length_drop, List.length_take]; rfl)) ?_; (with_reducible refine (spec_l8Ok.calls a0 a1 true _ A5.out).mono ?_); rintro e w' ⟨rfl, ⟨nd, rfl⟩⟩; refine ⟨_, rfl, ?_⟩) | (go_at_call 45; (with_reducible refine (spec_TermOk.calls k a0 _ _ l2 t927 _ ?side1 ?side2 A7.out).mono ?_); (case side1 => repeat (first | exact (Kd.C_below HR2.out (by repeat (first | (with_reducible first | exact HB.out | apply below_alloc | apply pw_below_drewN | apply below_drew1) | exact HB.out))) | (with_reducible refine Kd.C_alloc ?_ _) | (with_reducible refine Kd.C_drewN ?_ _) | (with_reducible refine Kd.C_drew ?_))); (case side2 => exact HC2.out); rintro e w' ⟨rfl, ⟨nd, rfl⟩⟩))
   go_meet
   case rel => exact ⟨_, (!t927), (by first | rfl | (simp; done) | (simp [*]; done)), H', ⟨by first | omega | exact Nat.le_refl _⟩, ⟨by repeat (first | (with_reducible first | exact HB.out | apply below_alloc | apply pw_below_drewN | apply below_drew1) | exact HB.out)⟩⟩
  ·replace c6 := Bool.eq_false_iff.mpr c6
   subst c6
   have H1 : (spec_StrangeTerm.j0 k a0 a1 l2 true) = some (r1, r2) := by rw [if_neg (show ¬ (false = true) by decide)] at H; exact H
   clear H
   have H := H1
   clear H1
   have H' := Aside0.mk H
   clear H
   go_wp2_with (first | ((with_reducible refine gate_callee (f := 107) rfl ?_); refine goesL_ (some 11) rfl rfl Try.func107 (by kernel_rfl) rfl #[.int .i64 a0, .int .i64 a1] rfl (by (try simp only [List.map_toArray, List.map_cons, List.map_nil]); first | done | rfl | (simp only [List.length_drop, List.length_take]; rfl)) ?_; (with_reducible refine (spec_l8Ok.calls a0 a1 false _ A5.out).mono ?_); rintro e w' ⟨rfl, ⟨nd, rfl⟩⟩; refine ⟨_, rfl, ?_⟩))
   go_meet
   case rel => exact ⟨_, (true), (by first | rfl | (simp; done) | (simp [*]; done)), H', ⟨by first | omega | exact Nat.le_refl _⟩, ⟨by repeat (first | (with_reducible first | exact HB.out | apply below_alloc | apply pw_below_drewN | apply below_drew1) | exact HB.out)⟩⟩
 case rest =>
  clear HC4
  try clear c1
  try clear c2
  try clear p2
  try clear c6
  obtain ⟨kq, x18_3, rfl, HA, HJ3, HB⟩ := hcut
  cases kq with
  | zero => exact absurd HA.out (by simp [spec_StrangeTerm.j0])
  | succ kj3 =>
   have H := HA.out
   clear HA
   simp only [spec_StrangeTerm.j0] at H
   by_cases c8 : x18_3 = true
   ·subst c8
    have H1 : (some ((([] : List (S52))), false)) = some (r1, r2) := by rw [if_pos rfl] at H; exact H
    clear H
    have H := H1
    clear H1
    obtain ⟨y928, hy928⟩ : ∃ y_ : List (S52), y_ = (([] : List (S52))) := ⟨_, rfl⟩
    replace H : (some (y928, false)) = some (r1, r2) := by first | (rw [hy928]; with_reducible exact H) | (have H2_ := (Option.bind_some _ _).symm.trans H; rw [hy928]; with_reducible exact H2_) | (have H2_ := (Option.bind_some _ _).symm.trans H; with_reducible exact H2_) | with_reducible exact H | (rw [hy928]; exact H) | exact H
    have Ny928 := Aside0.mk hy928
    clear hy928
    simp only [Option.some.injEq, Prod.mk.injEq] at H
    obtain ⟨rfl, rfl⟩ := H
    go_wp2_with (first | ((with_reducible refine gate_dst (N := 19) rfl ?_); refine Kd.R_lit k52 _ 52 ?hg (N := 19) ?hd (xs := ([] : List (S52))) (inner := []) (ok := fun _ => True) (okp := fun _ => True) ?hr ?hp (fun _ hk => hk) trivial (Below.refl _ _) (Nat.le_refl _) (by simp) ?_; (case hd => rfl); (case hg => rfl); (case hr => first | (go_simp; done) | (go_simp; rfl)); (case hp => exact (Reps.none _ _)); intro v929 w9 ho10 hb hg_ hnew_; clear hg_ hnew_; (first | rw [← Ny928.out] at ho10 | (simp only [Int.reduceToNat] at ho10; rw [← Ny928.out] at ho10)); have n0_ := Aside0.mk (Kd.R_lower ho10 (below_size (by repeat (first | (with_reducible first | exact HB.out | apply below_alloc | apply pw_below_drewN | apply below_drew1) | exact HB.out)))); have n1_ := Aside0.mk (below_step (by repeat (first | (with_reducible first | exact HB.out | apply below_alloc | apply pw_below_drewN | apply below_drew1) | exact HB.out)) hb); clear HB; have HO930 := n0_; have HB := n1_; clear n0_ n1_; clear hb ho10))
    go_ret2
    exact ⟨_, by first | rfl | (simp [errW_none, errW_some] <;> rfl) | (simp [*, errW_none, errW_some] <;> rfl), by (with_reducible repeat (first | apply Kd.R_alloc | apply Kd.R_drewN | apply Kd.R_drew)); exact HO930.out, by repeat (first | (with_reducible first | exact HB.out | apply below_alloc | apply pw_below_drewN | apply below_drew1) | exact HB.out)⟩
   ·replace c8 := Bool.eq_false_iff.mpr c8
    subst c8
    have H1 : ((some (([(⟨0, a1⟩ : S52), (⟨0, wrap64 (a0 - 1)⟩ : S52)] : List (S52)) : List (S52))).bind fun y931 => (if y931.length + l2.length < 8796093022208 then ((some (y931 ++ l2 : List (S52))).bind fun y934 => ((some (([(⟨5, 0⟩ : S52), (⟨5, 0⟩ : S52)] : List (S52)) : List (S52))).bind fun y937 => (if y934.length + y937.length < 8796093022208 then ((some (y934 ++ y937 : List (S52))).bind fun y940 => ((spec_TermOk.f kj3 a0 y940).bind fun t943 => (if t943 = true then (some (y940, true)) else (some ((([] : List (S52))), false))))) else (none)))) else (none))) = some (r1, r2) := by rw [if_neg (show ¬ (false = true) by decide)] at H; exact H
    clear H
    have H := H1
    clear H1
    obtain ⟨y931, hy931⟩ : ∃ y_ : List (S52), y_ = (([(⟨0, a1⟩ : S52), (⟨0, wrap64 (a0 - 1)⟩ : S52)] : List (S52))) := ⟨_, rfl⟩
    replace H : (if y931.length + l2.length < 8796093022208 then ((some (y931 ++ l2 : List (S52))).bind fun y934 => ((some (([(⟨5, 0⟩ : S52), (⟨5, 0⟩ : S52)] : List (S52)) : List (S52))).bind fun y937 => (if y934.length + y937.length < 8796093022208 then ((some (y934 ++ y937 : List (S52))).bind fun y940 => ((spec_TermOk.f kj3 a0 y940).bind fun t943 => (if t943 = true then (some (y940, true)) else (some ((([] : List (S52))), false))))) else (none)))) else (none)) = some (r1, r2) := by first | (rw [hy931]; with_reducible exact H) | (have H2_ := (Option.bind_some _ _).symm.trans H; rw [hy931]; with_reducible exact H2_) | (have H2_ := (Option.bind_some _ _).symm.trans H; with_reducible exact H2_) | with_reducible exact H | (rw [hy931]; exact H) | exact H
    have Ny931 := Aside0.mk hy931
    clear hy931
    by_cases c11 : y931.length + l2.length < 8796093022208
    ·rw [if_pos c11] at H
     have LMc11 := Aside0.mk c11
     clear c11
     obtain ⟨y934, hy934⟩ : ∃ y_ : List (S52), y_ = (y931 ++ l2) := ⟨_, rfl⟩
     replace H : ((some (([(⟨5, 0⟩ : S52), (⟨5, 0⟩ : S52)] : List (S52)) : List (S52))).bind fun y937 => (if y934.length + y937.length < 8796093022208 then ((some (y934 ++ y937 : List (S52))).bind fun y940 => ((spec_TermOk.f kj3 a0 y940).bind fun t943 => (if t943 = true then (some (y940, true)) else (some ((([] : List (S52))), false))))) else (none))) = some (r1, r2) := by first | (rw [hy934]; with_reducible exact H) | (have H2_ := (Option.bind_some _ _).symm.trans H; rw [hy934]; with_reducible exact H2_) | (have H2_ := (Option.bind_some _ _).symm.trans H; with_reducible exact H2_) | with_reducible exact H | (rw [hy934]; exact H) | exact H
     have Ny934 := Aside0.mk hy934
     clear hy934
     obtain ⟨y937, hy937⟩ : ∃ y_ : List (S52), y_ = (([(⟨5, 0⟩ : S52), (⟨5, 0⟩ : S52)] : List (S52))) := ⟨_, rfl⟩
     replace H : (if y934.length + y937.length < 8796093022208 then ((some (y934 ++ y937 : List (S52))).bind fun y940 => ((spec_TermOk.f kj3 a0 y940).bind fun t943 => (if t943 = true then (some (y940, true)) else (some ((([] : List (S52))), false))))) else (none)) = some (r1, r2) := by first | (rw [hy937]; with_reducible exact H) | (have H2_ := (Option.bind_some _ _).symm.trans H; rw [hy937]; with_reducible exact H2_) | (have H2_ := (Option.bind_some _ _).symm.trans H; with_reducible exact H2_) | with_reducible exact H | (rw [hy937]; exact H) | exact H
     have Ny937 := Aside0.mk hy937
     clear hy937
     by_cases c12 : y934.length + y937.length < 8796093022208
     ·rw [if_pos c12] at H
      have LMc12 := Aside0.mk c12
      clear c12
      obtain ⟨y940, hy940⟩ : ∃ y_ : List (S52), y_ = (y934 ++ y937) := ⟨_, rfl⟩
      replace H : ((spec_TermOk.f kj3 a0 y940).bind fun t943 => (if t943 = true then (some (y940, true)) else (some ((([] : List (S52))), false)))) = some (r1, r2) := by first | (rw [hy940]; with_reducible exact H) | (have H2_ := (Option.bind_some _ _).symm.trans H; rw [hy940]; with_reducible exact H2_) | (have H2_ := (Option.bind_some _ _).symm.trans H; with_reducible exact H2_) | with_reducible exact H | (rw [hy940]; exact H) | exact H
      have Ny940 := Aside0.mk hy940
      clear hy940
      replace H := Option.bind_eq_some_iff.mp H
      obtain ⟨t943, A130, H⟩ := H
      replace H : (if t943 = true then (some (y940, true)) else (some ((([] : List (S52))), false))) = some (r1, r2) := H
      have A13 := Aside0.mk A130
      clear A130
      by_cases c14 : t943 = true
      ·subst c14
       have H1 : (some (y940, true)) = some (r1, r2) := by rw [if_pos rfl] at H; exact H
       clear H
       have H := H1
       clear H1
       simp only [Option.some.injEq, Prod.mk.injEq] at H
       obtain ⟨rfl, rfl⟩ := H
       go_wp2_with (first | ((with_reducible refine gate_dst (N := 25) rfl ?_); refine Kd.R_lit k52 _ 52 ?hg (N := 25) ?hd (xs := ([(⟨0, a1⟩ : S52), (⟨0, wrap64 (a0 - 1)⟩ : S52)] : List (S52))) (inner := [.int .i64 0, .int .i64 a1, .int .i64 0, .int .i64 (wrap64 (a0 - 1))]) (ok := fun _ => True) (okp := fun _ => True) ?hr ?hp (fun _ hk => hk) trivial (Below.refl _ _) (Nat.le_refl _) (by simp) ?_; (case hd => rfl); (case hg => rfl); (case hr => first | (go_simp; done) | (go_simp; rfl)); (case hp => exact (Reps.c2 (show Kd.M k52 _ _ _ (⟨0, a1⟩ : S52) [.int .i64 0, .int .i64 a1] from (k52_mkM _ _ _ (⟨0, a1⟩ : S52) )) (Reps.c2 (show Kd.M k52 _ _ _ (⟨0, wrap64 (a0 - 1)⟩ : S52) [.int .i64 0, .int .i64 (wrap64 (a0 - 1))] from (k52_mkM _ _ _ (⟨0, wrap64 (a0 - 1)⟩ : S52) )) (Reps.none _ _)))); intro v932 w15 ho16 hb hg_ hnew_; clear hg_ hnew_; (first | rw [← Ny931.out] at ho16 | (simp only [Int.reduceToNat] at ho16; rw [← Ny931.out] at ho16)); have n0_ := Aside0.mk (Kd.R_lower ho16 (below_size (by repeat (first | (with_reducible first | exact HB.out | apply below_alloc | apply pw_below_drewN | apply below_drew1) | exact HB.out)))); have n1_ := Aside0.mk (below_step (by repeat (first | (with_reducible first | exact HB.out | apply below_alloc | apply pw_below_drewN | apply below_drew1) | exact HB.out)) hb); clear HB; have HO933 := n0_; have HB := n1_; clear n0_ n1_; clear hb ho16) | ((with_reducible refine gate_builtin (b := .append) (xs := #[.tmp 25, .tmp 26]) rfl ?_); at_builtin; refine Kd.R_append_rows k52 (w0 := w) w.heap.size rfl (.tmp 25) (.tmp 26) 34 52 (.agg #[(.int .i64 0), (.int .i64 0)]) 16 rfl Try.underlying34 info52 rfl (by decide) (by omega) v932 y931 l2 _ _ _ (fun _ => True) (fun _ => False) rfl rfl ?aO ?aR (fun _ _ h => h) (fun _ h => h.elim) ?aF ?aB ?aS ?aL ?_; (case aR => repeat (first | exact (Kd.C_below HR2.out HB.out) | (with_reducible refine Kd.C_alloc ?_ _) | (with_reducible refine Kd.C_drewN ?_ _) | (with_reducible refine Kd.C_drew ?_))); (case aB => exact (by repeat (first | (with_reducible first | exact HB.out | apply below_alloc | apply pw_below_drewN | apply below_drew1) | exact HB.out))); (case aF => exact (fun _ _ => trivial)); (case aO => exact (by (with_reducible repeat (first | apply Kd.R_alloc | apply Kd.R_drewN | apply Kd.R_drew)); exact HO933.out)); (case aS => exact (below_size (by repeat (first | (with_reducible first | exact HB.out | apply below_alloc | apply pw_below_drewN | apply below_drew1) | exact HB.out)))); (case aL => have := LMc11.out; omega); intro v935 w17 ho hb hg hat; rw [← Ny934.out] at ho; have n0_ := Aside0.mk (hb); have n1_ := Aside0.mk (ho); clear HB; clear HO933; have HB := n0_; have HO936 := n1_; clear n0_ n1_; clear ho hb hg hat) | ((with_reducible refine gate_dst (N := 31) rfl ?_); refine Kd.R_lit k52 _ 52 ?hg (N := 31) ?hd (xs := ([(⟨5, 0⟩ : S52), (⟨5, 0⟩ : S52)] : List (S52))) (inner := [.int .i64 5, .int .i64 0, .int .i64 5, .int .i64 0]) (ok := fun _ => True) (okp := fun _ => True) ?hr ?hp (fun _ hk => hk) trivial (Below.refl _ _) (Nat.le_refl _) (by simp) ?_; (case hd => rfl); (case hg => rfl); (case hr => first | (go_simp; done) | (go_simp; rfl)); (case hp => exact (Reps.c2 (show Kd.M k52 _ _ _ (⟨5, 0⟩ : S52) [.int .i64 5, .int .i64 0] from (k52_mkM _ _ _ (⟨5, 0⟩ : S52) )) (Reps.c2 (show Kd.M k52 _ _ _ (⟨5, 0⟩ : S52) [.int .i64 5, .int .i64 0] from (k52_mkM _ _ _ (⟨5, 0⟩ : S52) )) (Reps.none _ _)))); intro v938 w18 ho19 hb hg_ hnew_; clear hg_ hnew_; (first | rw [← Ny937.out] at ho19 | (simp only [Int.reduceToNat] at ho19; rw [← Ny937.out] at ho19)); have n0_ := Aside0.mk (Kd.R_elder' (by (with_reducible repeat (first | apply Kd.R_alloc | apply Kd.R_drewN | apply Kd.R_drew)); exact HO936.out) (Kd.R_base ho19) hb); have n1_ := Aside0.mk (Kd.R_lower (Kd.R_new' ho19 (Kd.R_lt (by (with_reducible repeat (first | apply Kd.R_alloc | apply Kd.R_drewN | apply Kd.R_drew)); exact HO936.out))) (below_size (by repeat (first | (with_reducible first | exact HB.out | apply below_alloc | apply pw_below_drewN | apply below_drew1) | exact HB.out)))); have n2_ := Aside0.mk (below_step (by repeat (first | (with_reducible first | exact HB.out | apply below_alloc | apply pw_below_drewN | apply below_drew1) | exact HB.out)) hb); clear HO936; clear HB; have HO936 := n0_; have HO939 := n1_; have HB := n2_; clear n0_ n1_ n2_; clear hb ho19; obtain ⟨Ao21, co21, eo21⟩ := Kd.R_slice HO939.out; subst eo21) | ((with_reducible refine gate_builtin (b := .append) (xs := #[.tmp 28, .tmp 31]) rfl ?_); at_builtin; refine Kd.R_append_rows k52 (w0 := w) w.heap.size rfl (.tmp 28) (.tmp 31) 34 52 (.agg #[(.int .i64 0), (.int .i64 0)]) 16 rfl Try.underlying34 info52 rfl (by decide) (by omega) v935 y934 y937 _ _ _ (fun k_ => some k_ ≠ (.slice Ao21 y937.length co21 : Value).ownBlock) (fun _ => False) rfl rfl ?aO ?aR (fun _ _ h => h) (fun _ h => h.elim) ?aF ?aB ?aS ?aL ?_; (case aR => repeat (first | exact (Kd.R_reads' HO939.out).2.2 | (with_reducible refine Kd.C_alloc ?_ _) | (with_reducible refine Kd.C_drewN ?_ _) | (with_reducible refine Kd.C_drew ?_))); (case aB => exact (by repeat (first | (with_reducible first | exact HB.out | apply below_alloc | apply pw_below_drewN | apply below_drew1) | exact HB.out))); (case aF => exact (fun k_ hk => Kd.fresh' (Kd.R_lt (by (with_reducible repeat (first | apply Kd.R_alloc | apply Kd.R_drewN | apply Kd.R_drew)); exact HO939.out)) k_ hk)); (case aO => exact (by (with_reducible repeat (first | apply Kd.R_alloc | apply Kd.R_drewN | apply Kd.R_drew)); exact Kd.R_mono HO936.out (fun _ hk => hk.2))); (case aS => exact (below_size (by repeat (first | (with_reducible first | exact HB.out | apply below_alloc | apply pw_below_drewN | apply below_drew1) | exact HB.out)))); (case aL => have := LMc12.out; omega); intro v941 w20 ho hb hg hat; rw [← Ny940.out] at ho; have n0_ := Aside0.mk (Kd.R_after (ok := (fun _ => True)) (by (with_reducible repeat (first | apply Kd.R_alloc | apply Kd.R_drewN | apply Kd.R_drew)); exact HO939.out) hg hat); have n1_ := Aside0.mk (hb); have n2_ := Aside0.mk (ho); clear HO939; clear HB; clear HO936; have HO939 := n0_; have HB := n1_; have HO942 := n2_; clear n0_ n1_ n2_; clear ho hb hg hat; obtain ⟨Ao22, co22, eo22⟩ := Kd.R_slice HO942.out; subst eo22) | ((with_reducible refine gate_callee (f := 45) rfl ?_); refine goesL_ (some 35) rfl rfl Try.func45 (by kernel_rfl) rfl #[.int .i64 a0, .slice Ao22 y940.length co22] rfl (by (try simp only [List.map_toArray, List.map_cons, List.map_nil]); first | done | rfl | (simp only [List.length_drop, List.length_take]; rfl)) ?_; (with_reducible refine (spec_TermOk.calls kj3 a0 _ _ y940 true _ ?side1 ?side2 A13.out).mono ?_); (case side1 => repeat (first | exact (Kd.R_reads' HO942.out).2.2 | (with_reducible refine Kd.C_alloc ?_ _) | (with_reducible refine Kd.C_drewN ?_ _) | (with_reducible refine Kd.C_drew ?_))); (case side2 => exact (Kd.R_reads' HO942.out).2.1); rintro e w' ⟨rfl, ⟨nd, rfl⟩⟩; refine ⟨_, rfl, ?_⟩))
       go_ret2
       exact ⟨_, by first | rfl | (simp [errW_none, errW_some] <;> rfl) | (simp [*, errW_none, errW_some] <;> rfl), by (with_reducible repeat (first | apply Kd.R_alloc | apply Kd.R_drewN | apply Kd.R_drew)); exact Kd.R_mono HO942.out (fun _ hk => trivial), by repeat (first | (with_reducible first | exact HB.out | apply below_alloc | apply pw_below_drewN | apply below_drew1) | exact HB.out)⟩
      ·replace c14 := Bool.eq_false_iff.mpr c14
       subst c14
       have H1 : (some ((([] : List (S52))), false)) = some (r1, r2) := by rw [if_neg (show ¬ (false = true) by decide)] at H; exact H
       clear H
       have H := H1
       clear H1
       obtain ⟨y944, hy944⟩ : ∃ y_ : List (S52), y_ = (([] : List (S52))) := ⟨_, rfl⟩
       replace H : (some (y944, false)) = some (r1, r2) := by first | (rw [hy944]; with_reducible exact H) | (have H2_ := (Option.bind_some _ _).symm.trans H; rw [hy944]; with_reducible exact H2_) | (have H2_ := (Option.bind_some _ _).symm.trans H; with_reducible exact H2_) | with_reducible exact H | (rw [hy944]; exact H) | exact H
       have Ny944 := Aside0.mk hy944
       clear hy944
       simp only [Option.some.injEq, Prod.mk.injEq] at H
       obtain ⟨rfl, rfl⟩ := H
       go_wp2_with (first | ((with_reducible refine gate_dst (N := 25) rfl ?_); refine Kd.R_lit k52 _ 52 ?hg (N := 25) ?hd (xs := ([(⟨0, a1⟩ : S52), (⟨0, wrap64 (a0 - 1)⟩ : S52)] : List (S52))) (inner := [.int .i64 0, .int .i64 a1, .int .i64 0, .int .i64 (wrap64 (a0 - 1))]) (ok := fun _ => True) (okp := fun _ => True) ?hr ?hp (fun _ hk => hk) trivial (Below.refl _ _) (Nat.le_refl _) (by simp) ?_; (case hd => rfl); (case hg => rfl); (case hr => first | (go_simp; done) | (go_simp; rfl)); (case hp => exact (Reps.c2 (show Kd.M k52 _ _ _ (⟨0, a1⟩ : S52) [.int .i64 0, .int .i64 a1] from (k52_mkM _ _ _ (⟨0, a1⟩ : S52) )) (Reps.c2 (show Kd.M k52 _ _ _ (⟨0, wrap64 (a0 - 1)⟩ : S52) [.int .i64 0, .int .i64 (wrap64 (a0 - 1))] from (k52_mkM _ _ _ (⟨0, wrap64 (a0 - 1)⟩ : S52) )) (Reps.none _ _)))); intro v932 w23 ho24 hb hg_ hnew_; clear hg_ hnew_; (first | rw [← Ny931.out] at ho24 | (simp only [Int.reduceToNat] at ho24; rw [← Ny931.out] at ho24)); have n0_ := Aside0.mk (Kd.R_lower ho24 (below_size (by repeat (first | (with_reducible first | exact HB.out | apply below_alloc | apply pw_below_drewN | apply below_drew1) | exact HB.out)))); have n1_ := Aside0.mk (below_step (by repeat (first | (with_reducible first | exact HB.out | apply below_alloc | apply pw_below_drewN | apply below_drew1) | exact HB.out)) hb); clear HB; have HO933 := n0_; have HB := n1_; clear n0_ n1_; clear hb ho24) | ((with_reducible refine gate_builtin (b := .append) (xs := #[.tmp 25, .tmp 26]) rfl ?_); at_builtin; refine Kd.R_append_rows k52 (w0 := w) w.heap.size rfl (.tmp 25) (.tmp 26) 34 52 (.agg #[(.int .i64 0), (.int .i64 0)]) 16 rfl Try.underlying34 info52 rfl (by decide) (by omega) v932 y931 l2 _ _ _ (fun _ => True) (fun _ => False) rfl rfl ?aO ?aR (fun _ _ h => h) (fun _ h => h.elim) ?aF ?aB ?aS ?aL ?_; (case aR => repeat (first | exact (Kd.C_below HR2.out HB.out) | (with_reducible refine Kd.C_alloc ?_ _) | (with_reducible refine Kd.C_drewN ?_ _) | (with_reducible refine Kd.C_drew ?_))); (case aB => exact (by repeat (first | (with_reducible first | exact HB.out | apply below_alloc | apply pw_below_drewN | apply below_drew1) | exact HB.out))); (case aF => exact (fun _ _ => trivial)); (case aO => exact (by (with_reducible repeat (first | apply Kd.R_alloc | apply Kd.R_drewN | apply Kd.R_drew)); exact HO933.out)); (case aS => exact (below_size (by repeat (first | (with_reducible first | exact HB.out | apply below_alloc | apply pw_below_drewN | apply below_drew1) | exact HB.out)))); (case aL => have := LMc11.out; omega); intro v935 w25 ho hb hg hat; rw [← Ny934.out] at ho; have n0_ := Aside0.mk (hb); have n1_ := Aside0.mk (ho); clear HB; clear HO933; have HB := n0_; have HO936 := n1_; clear n0_ n1_; clear ho hb hg hat) | ((with_reducible refine gate_dst (N := 31) rfl ?_); refine Kd.R_lit k52 _ 52 ?hg (N := 31) ?hd (xs := ([(⟨5, 0⟩ : S52), (⟨5, 0⟩ : S52)] : List (S52))) (inner := [.int .i64 5, .int .i64 0, .int .i64 5, .int .i64 0]) (ok := fun _ => True) (okp := fun _ => True) ?hr ?hp (fun _ hk => hk) trivial (Below.refl _ _) (Nat.le_refl _) (by simp) ?_; (case hd => rfl); (case hg => rfl); (case hr => first | (go_simp; done) | (go_simp; rfl)); (case hp => exact (Reps.c2 (show Kd.M k52 _ _ _ (⟨5, 0⟩ : S52) [.int .i64 5, .int .i64 0] from (k52_mkM _ _ _ (⟨5, 0⟩ : S52) )) (Reps.c2 (show Kd.M k52 _ _ _ (⟨5, 0⟩ : S52) [.int .i64 5, .int .i64 0] from (k52_mkM _ _ _ (⟨5, 0⟩ : S52) )) (Reps.none _ _)))); intro v938 w26 ho27 hb hg_ hnew_; clear hg_ hnew_; (first | rw [← Ny937.out] at ho27 | (simp only [Int.reduceToNat] at ho27; rw [← Ny937.out] at ho27)); have n0_ := Aside0.mk (Kd.R_elder' (by (with_reducible repeat (first | apply Kd.R_alloc | apply Kd.R_drewN | apply Kd.R_drew)); exact HO936.out) (Kd.R_base ho27) hb); have n1_ := Aside0.mk (Kd.R_lower (Kd.R_new' ho27 (Kd.R_lt (by (with_reducible repeat (first | apply Kd.R_alloc | apply Kd.R_drewN | apply Kd.R_drew)); exact HO936.out))) (below_size (by repeat (first | (with_reducible first | exact HB.out | apply below_alloc | apply pw_below_drewN | apply below_drew1) | exact HB.out)))); have n2_ := Aside0.mk (below_step (by repeat (first | (with_reducible first | exact HB.out | apply below_alloc | apply pw_below_drewN | apply below_drew1) | exact HB.out)) hb); clear HO936; clear HB; have HO936 := n0_; have HO939 := n1_; have HB := n2_; clear n0_ n1_ n2_; clear hb ho27; obtain ⟨Ao29, co29, eo29⟩ := Kd.R_slice HO939.out; subst eo29) | ((with_reducible refine gate_builtin (b := .append) (xs := #[.tmp 28, .tmp 31]) rfl ?_); at_builtin; refine Kd.R_append_rows k52 (w0 := w) w.heap.size rfl (.tmp 28) (.tmp 31) 34 52 (.agg #[(.int .i64 0), (.int .i64 0)]) 16 rfl Try.underlying34 info52 rfl (by decide) (by omega) v935 y934 y937 _ _ _ (fun k_ => some k_ ≠ (.slice Ao29 y937.length co29 : Value).ownBlock) (fun _ => False) rfl rfl ?aO ?aR (fun _ _ h => h) (fun _ h => h.elim) ?aF ?aB ?aS ?aL ?_; (case aR => repeat (first | exact (Kd.R_reads' HO939.out).2.2 | (with_reducible refine Kd.C_alloc ?_ _) | (with_reducible refine Kd.C_drewN ?_ _) | (with_reducible refine Kd.C_drew ?_))); (case aB => exact (by repeat (first | (with_reducible first | exact HB.out | apply below_alloc | apply pw_below_drewN | apply below_drew1) | exact HB.out))); (case aF => exact (fun k_ hk => Kd.fresh' (Kd.R_lt (by (with_reducible repeat (first | apply Kd.R_alloc | apply Kd.R_drewN | apply Kd.R_drew)); exact HO939.out)) k_ hk)); (case aO => exact (by (with_reducible repeat (first | apply Kd.R_alloc | apply Kd.R_drewN | apply Kd.R_drew)); exact Kd.R_mono HO936.out (fun _ hk => hk.2))); (case aS => exact (below_size (by repeat (first | (with_reducible first | exact HB.out | apply below_alloc | apply pw_below_drewN | apply below_drew1) | exact HB.out)))); (case aL => have := LMc12.out; omega); intro v941 w28 ho hb hg hat; rw [← Ny940.out] at ho; have n0_ := Aside0.mk (Kd.R_after (ok := (fun _ => True)) (by (with_reducible repeat (first | apply Kd.R_alloc | apply Kd.R_drewN | apply Kd.R_drew)); exact HO939.out) hg hat); have n1_ := Aside0.mk (hb); have n2_ := Aside0.mk (ho); clear HO939; clear HB; clear HO936; have HO939 := n0_; have HB := n1_; have HO942 := n2_; clear n0_ n1_ n2_; clear ho hb hg hat; obtain ⟨Ao30, co30, eo30⟩ := Kd.R_slice HO942.out; subst eo30) | ((with_reducible refine gate_callee (f := 45) rfl ?_); refine goesL_ (some 35) rfl rfl Try.func45 (by kernel_rfl) rfl #[.int .i64 a0, .slice Ao30 y940.length co30] rfl (by (try simp only [List.map_toArray, List.map_cons, List.map_nil]); first | done | rfl | (simp only [List.length_drop, List.length_take]; rfl)) ?_; (with_reducible refine (spec_TermOk.calls kj3 a0 _ _ y940 false _ ?side1 ?side2 A13.out).mono ?_); (case side1 => repeat (first | exact (Kd.R_reads' HO942.out).2.2 | (with_reducible refine Kd.C_alloc ?_ _) | (with_reducible refine Kd.C_drewN ?_ _) | (with_reducible refine Kd.C_drew ?_))); (case side2 => exact (Kd.R_reads' HO942.out).2.1); rintro e w' ⟨rfl, ⟨nd, rfl⟩⟩; refine ⟨_, rfl, ?_⟩) | ((with_reducible refine gate_dst (N := 37) rfl ?_); refine Kd.R_lit k52 _ 52 ?hg (N := 37) ?hd (xs := ([] : List (S52))) (inner := []) (ok := fun _ => True) (okp := fun _ => True) ?hr ?hp (fun _ hk => hk) trivial (Below.refl _ _) (Nat.le_refl _) (by simp) ?_; (case hd => rfl); (case hg => rfl); (case hr => first | (go_simp; done) | (go_simp; rfl)); (case hp => exact (Reps.none _ _)); intro v945 w31 ho32 hb hg_ hnew_; clear hg_ hnew_; (first | rw [← Ny944.out] at ho32 | (simp only [Int.reduceToNat] at ho32; rw [← Ny944.out] at ho32)); have n0_ := Aside0.mk (Kd.R_elder' (by (with_reducible repeat (first | apply Kd.R_alloc | apply Kd.R_drewN | apply Kd.R_drew)); exact HO939.out) (Kd.R_base ho32) hb); have n1_ := Aside0.mk (Kd.R_elder' (by (with_reducible repeat (first | apply Kd.R_alloc | apply Kd.R_drewN | apply Kd.R_drew)); exact HO942.out) (Kd.R_base ho32) hb); have n2_ := Aside0.mk (Kd.R_lower (Kd.R_new' (Kd.R_new' ho32 (Kd.R_lt (by (with_reducible repeat (first | apply Kd.R_alloc | apply Kd.R_drewN | apply Kd.R_drew)); exact HO939.out))) (Kd.R_lt (by (with_reducible repeat (first | apply Kd.R_alloc | apply Kd.R_drewN | apply Kd.R_drew)); exact HO942.out))) (below_size (by repeat (first | (with_reducible first | exact HB.out | apply below_alloc | apply pw_below_drewN | apply below_drew1) | exact HB.out)))); have n3_ := Aside0.mk (below_step (by repeat (first | (with_reducible first | exact HB.out | apply below_alloc | apply pw_below_drewN | apply below_drew1) | exact HB.out)) hb); clear HO939; clear HO942; clear HB; have HO939 := n0_; have HO942 := n1_; have HO946 := n2_; have HB := n3_; clear n0_ n1_ n2_ n3_; clear hb ho32))
       go_ret2
       exact ⟨_, by first | rfl | (simp [errW_none, errW_some] <;> rfl) | (simp [*, errW_none, errW_some] <;> rfl), by (with_reducible repeat (first | apply Kd.R_alloc | apply Kd.R_drewN | apply Kd.R_drew)); exact Kd.R_mono HO946.out (fun _ hk => trivial), by repeat (first | (with_reducible first | exact HB.out | apply below_alloc | apply pw_below_drewN | apply below_drew1) | exact HB.out)⟩
     ·rw [if_neg c12] at H
      exact absurd H (by simp)
    ·rw [if_neg c11] at H
     exact absurd H (by simp)

end Go.Proofs.Ytpampekijfjlkaa.X

-- printed by a program of this session's (xprint)
namespace Go.Proofs.Ytpampekijfjlkaa.X
open Go.RowKit Go.Proofs.YtpampekijfjlkaaW.PrintWords Go.Proofs.YtpampekijfjlkaaW.PrintLast Go.Proofs.YtpampekijfjlkaaW.PrintMore
attribute [local go_sem] max2_int min2_int max_two min_two max_three min_three max_four min_four   -- for this text's walks alone
set_option linter.unusedVariables false
set_option linter.unusedSimpArgs false

/-! ### laws_FnStrangeTerm: function 13 -/
mutual
def laws_FnStrangeTerm.j0 : Nat → Int → Int → List (S52) → List (S52) → Bool → Bool → Option (Bool)
 | 0, _, _, _, _, _, _ => none
 | k + 1, x3, x4, x5, x6, x7, x42 => if x42 = true then (some false) else (if x7 = true then (laws_FnStrangeTerm.l0 k x3 x4 x5 x6 0) else (if (x6.length : Int) = 0 then ((laws_alive.f).bind fun t961 => (some t961)) else (some false)))
def laws_FnStrangeTerm.l0 : Nat → Int → Int → List (S52) → List (S52) → Int → Option (Bool)
 | 0, _, _, _, _, _ => none
 | k + 1, x3, x4, x5, x6, x10 => if 0 ≤ x3 then (if x10 < (shl .i64 1 x3) then ((impl_WordIn.f k x3 x4 x6 x10).bind fun t963 => ((impl_HoldsIn.f k x3 x5 x10).bind fun t964 => (if ((t963 == 1) != t964) = true then (some false) else (laws_FnStrangeTerm.l0 k x3 x4 x5 x6 (wrap64 (x10 + 1)))))) else ((impl_TermOk.f k x3 x6).bind fun t962 => (if t962 = true then (some ((x6.length : Int) == (wrap64 ((x5.length : Int) + 4)))) else (some false)))) else (none)
end
def laws_FnStrangeTerm.f (k : Nat) (l0 : List Int) : Option (Bool) := if (l0.length : Int) > 1048576 then (some true) else ((spec_DrawStrangeTerm.f k l0).bind fun bt947 => ((impl_StrangeTerm.f k bt947.1 bt947.2.1 bt947.2.2).bind fun bt952 => ((spec_StrangeTerm.f k bt947.1 bt947.2.1 bt947.2.2).bind fun bt956 => ((laws_sameMarks.f k bt952.1 bt956.1).bind fun t960 => (if t960 = true then (laws_FnStrangeTerm.j0 k bt947.1 bt947.2.1 bt947.2.2 bt952.1 bt952.2 (bt952.2 != bt956.2)) else (laws_FnStrangeTerm.j0 k bt947.1 bt947.2.1 bt947.2.2 bt952.1 bt952.2 true))))))
theorem laws_FnStrangeTerm.mono_l : ∀ k, (∀ y0 y1 y2 y3 y4 y5, LeO (laws_FnStrangeTerm.j0 k y0 y1 y2 y3 y4 y5) (laws_FnStrangeTerm.j0 (k + 1) y0 y1 y2 y3 y4 y5)) ∧ (∀ y0 y1 y2 y3 y4, LeO (laws_FnStrangeTerm.l0 k y0 y1 y2 y3 y4) (laws_FnStrangeTerm.l0 (k + 1) y0 y1 y2 y3 y4))
 | 0 => ⟨fun _ _ _ _ _ _ r h => by simp [laws_FnStrangeTerm.j0] at h, fun _ _ _ _ _ r h => by simp [laws_FnStrangeTerm.l0] at h⟩
 | k + 1 => by
  obtain ⟨ih0, ih1⟩ := laws_FnStrangeTerm.mono_l k
  refine ⟨?_, ?_⟩
  ·intro y0 y1 y2 y3 y4 y5
   unfold laws_FnStrangeTerm.j0
   repeat' first
   | (with_reducible exact ih0 _ _ _ _ _ _)
   | (with_reducible exact ih1 _ _ _ _ _)
   | (with_reducible exact impl_HoldsIn.mono _ _ _ _)
   | (with_reducible exact impl_StrangeTerm.mono _ _ _ _)
   | (with_reducible exact impl_TermOk.mono _ _ _)
   | (with_reducible exact impl_WordIn.mono _ _ _ _ _)
   | (with_reducible exact laws_sameMarks.mono _ _ _)
   | (with_reducible exact spec_DrawStrangeTerm.mono _ _)
   | (with_reducible exact spec_StrangeTerm.mono _ _ _ _)
   | (with_reducible exact LeO.refl _)
   | (with_reducible exact LeO.none _)
   | (with_reducible refine LeO.ite ?_ ?_)
   | (with_reducible refine LeO.bind ?_ (fun _ => ?_))
   | exact ih0 _ _ _ _ _ _
   | exact ih1 _ _ _ _ _
   | exact impl_HoldsIn.mono _ _ _ _
   | exact impl_StrangeTerm.mono _ _ _ _
   | exact impl_TermOk.mono _ _ _
   | exact impl_WordIn.mono _ _ _ _ _
   | exact laws_sameMarks.mono _ _ _
   | exact spec_DrawStrangeTerm.mono _ _
   | exact spec_StrangeTerm.mono _ _ _ _
   | exact LeO.none _
   | refine LeO.ite ?_ ?_
   | refine LeO.bind ?_ (fun _ => ?_)
  ·intro y0 y1 y2 y3 y4
   unfold laws_FnStrangeTerm.l0
   repeat' first
   | (with_reducible exact ih0 _ _ _ _ _ _)
   | (with_reducible exact ih1 _ _ _ _ _)
   | (with_reducible exact impl_HoldsIn.mono _ _ _ _)
   | (with_reducible exact impl_StrangeTerm.mono _ _ _ _)
   | (with_reducible exact impl_TermOk.mono _ _ _)
   | (with_reducible exact impl_WordIn.mono _ _ _ _ _)
   | (with_reducible exact laws_sameMarks.mono _ _ _)
   | (with_reducible exact spec_DrawStrangeTerm.mono _ _)
   | (with_reducible exact spec_StrangeTerm.mono _ _ _ _)
   | (with_reducible exact LeO.refl _)
   | (with_reducible exact LeO.none _)
   | (with_reducible refine LeO.ite ?_ ?_)
   | (with_reducible refine LeO.bind ?_ (fun _ => ?_))
   | exact ih0 _ _ _ _ _ _
   | exact ih1 _ _ _ _ _
   | exact impl_HoldsIn.mono _ _ _ _
   | exact impl_StrangeTerm.mono _ _ _ _
   | exact impl_TermOk.mono _ _ _
   | exact impl_WordIn.mono _ _ _ _ _
   | exact laws_sameMarks.mono _ _ _
   | exact spec_DrawStrangeTerm.mono _ _
   | exact spec_StrangeTerm.mono _ _ _ _
   | exact LeO.none _
   | refine LeO.ite ?_ ?_
   | refine LeO.bind ?_ (fun _ => ?_)
theorem laws_FnStrangeTerm.mono : ∀ a0 k, LeO (laws_FnStrangeTerm.f k a0) (laws_FnStrangeTerm.f (k + 1) a0) := by
 intro a0 k
 obtain ⟨ih0, ih1⟩ := laws_FnStrangeTerm.mono_l k
 unfold laws_FnStrangeTerm.f
 repeat' first
   | (with_reducible exact ih0 _ _ _ _ _ _)
   | (with_reducible exact ih1 _ _ _ _ _)
   | (with_reducible exact impl_HoldsIn.mono _ _ _ _)
   | (with_reducible exact impl_StrangeTerm.mono _ _ _ _)
   | (with_reducible exact impl_TermOk.mono _ _ _)
   | (with_reducible exact impl_WordIn.mono _ _ _ _ _)
   | (with_reducible exact laws_sameMarks.mono _ _ _)
   | (with_reducible exact spec_DrawStrangeTerm.mono _ _)
   | (with_reducible exact spec_StrangeTerm.mono _ _ _ _)
   | (with_reducible exact LeO.refl _)
   | (with_reducible exact LeO.none _)
   | (with_reducible refine LeO.ite ?_ ?_)
   | (with_reducible refine LeO.bind ?_ (fun _ => ?_))
   | exact ih0 _ _ _ _ _ _
   | exact ih1 _ _ _ _ _
   | exact impl_HoldsIn.mono _ _ _ _
   | exact impl_StrangeTerm.mono _ _ _ _
   | exact impl_TermOk.mono _ _ _
   | exact impl_WordIn.mono _ _ _ _ _
   | exact laws_sameMarks.mono _ _ _
   | exact spec_DrawStrangeTerm.mono _ _
   | exact spec_StrangeTerm.mono _ _ _ _
   | exact LeO.none _
   | refine LeO.ite ?_ ?_
   | refine LeO.bind ?_ (fun _ => ?_)
set_option maxHeartbeats 8000000 in
set_option maxRecDepth 100000 in
theorem laws_FnStrangeTerm.calls (k : Nat) (A0 : Option Addr) (c0 : Nat) (l0 : List Int) (r : Bool) (w : World) (hr0 : Kd.C (Kd.int .u8) w A0 l0.length l0) (hc0 : l0.length ≤ c0) (h : laws_FnStrangeTerm.f k l0 = some r) :
  Calls Try.prog 13 #[.slice A0 l0.length c0] w fun e w' => e = .returned (.bool r) ∧ Below w.heap.size w w' := by
 have HR0 := Aside0.mk hr0
 have HC0 := Aside0.mk hc0
 clear hr0 hc0
 have HB := Aside0.mk (Below.refl w.heap.size w)
 have H : (if (l0.length : Int) > 1048576 then (some true) else ((spec_DrawStrangeTerm.f k l0).bind fun bt947 => ((impl_StrangeTerm.f k bt947.1 bt947.2.1 bt947.2.2).bind fun bt952 => ((spec_StrangeTerm.f k bt947.1 bt947.2.1 bt947.2.2).bind fun bt956 => ((laws_sameMarks.f k bt952.1 bt956.1).bind fun t960 => (if t960 = true then (laws_FnStrangeTerm.j0 k bt947.1 bt947.2.1 bt947.2.2 bt952.1 bt952.2 (bt952.2 != bt956.2)) else (laws_FnStrangeTerm.j0 k bt947.1 bt947.2.1 bt947.2.2 bt952.1 bt952.2 true))))))) = some r := h
 clear h
 by_cases c2 : (l0.length : Int) > 1048576
 ·rw [if_pos c2] at H
  have c2b0 : decide (1048576 < (l0.length : Int)) = true := decide_eq_true c2
  have c2b1 : decide (1048576 < l0.length) = true := decide_eq_true (by omega)
  clear c2
  obtain rfl := Option.some.inj H
  go_enter Try.func13, Try.ntmps13
  go_wp2
  go_ret
  exact ⟨by first | rfl | (simp [errW_none, errW_some] <;> rfl) | (simp [*, errW_none, errW_some] <;> rfl), by repeat (first | (with_reducible first | exact HB.out | apply below_alloc | apply pw_below_drewN | apply below_drew1) | exact HB.out)⟩
 ·rw [if_neg c2] at H
  have c2b0 : decide (1048576 < (l0.length : Int)) = false := decide_eq_false c2
  have c2b1 : decide (1048576 < l0.length) = false := decide_eq_false (by omega)
  clear c2
  replace H := Option.bind_eq_some_iff.mp H
  obtain ⟨⟨t947, t948, t949⟩, A30, H⟩ := H
  replace H : ((impl_StrangeTerm.f k t947 t948 t949).bind fun bt952 => ((spec_StrangeTerm.f k t947 t948 t949).bind fun bt956 => ((laws_sameMarks.f k bt952.1 bt956.1).bind fun t960 => (if t960 = true then (laws_FnStrangeTerm.j0 k t947 t948 t949 bt952.1 bt952.2 (bt952.2 != bt956.2)) else (laws_FnStrangeTerm.j0 k t947 t948 t949 bt952.1 bt952.2 true))))) = some r := H
  have A3 := Aside0.mk A30
  clear A30
  replace H := Option.bind_eq_some_iff.mp H
  obtain ⟨⟨t952, t953⟩, A40, H⟩ := H
  replace H : ((spec_StrangeTerm.f k t947 t948 t949).bind fun bt956 => ((laws_sameMarks.f k t952 bt956.1).bind fun t960 => (if t960 = true then (laws_FnStrangeTerm.j0 k t947 t948 t949 t952 t953 (t953 != bt956.2)) else (laws_FnStrangeTerm.j0 k t947 t948 t949 t952 t953 true)))) = some r := H
  have A4 := Aside0.mk A40
  clear A40
  replace H := Option.bind_eq_some_iff.mp H
  obtain ⟨⟨t956, t957⟩, A50, H⟩ := H
  replace H : ((laws_sameMarks.f k t952 t956).bind fun t960 => (if t960 = true then (laws_FnStrangeTerm.j0 k t947 t948 t949 t952 t953 (t953 != t957)) else (laws_FnStrangeTerm.j0 k t947 t948 t949 t952 t953 true))) = some r := H
  have A5 := Aside0.mk A50
  clear A50
  have HC6 := Aside0.mk H
  clear H
  go_enter Try.func13, Try.ntmps13
  go_upto_region 6 with (first | ((with_reducible refine gate_callee (f := 35) rfl ?_); refine goesL_ (some 16) rfl rfl Try.func35 (by kernel_rfl) rfl #[.slice A0 l0.length c0] rfl (by (try simp only [List.map_toArray, List.map_cons, List.map_nil]); first | done | rfl | (simp only [List.length_drop, List.length_take]; rfl)) ?_; (with_reducible refine (spec_DrawStrangeTerm.calls k _ _ l0 t947 t948 t949 _ ?side1 ?side2 A3.out).mono ?_); (case side1 => repeat (first | exact HR0.out | (with_reducible refine Kd.C_alloc ?_ _) | (with_reducible refine Kd.C_drewN ?_ _) | (with_reducible refine Kd.C_drew ?_))); (case side2 => exact HC0.out); rintro e w7 ⟨v950, rfl, ho0, hb⟩; refine ⟨_, rfl, ?_⟩; have n0_ := Aside0.mk (Kd.R_lower ho0 (below_size (by repeat (first | (with_reducible first | exact HB.out | apply below_alloc | apply pw_below_drewN | apply below_drew1) | exact HB.out)))); have n1_ := Aside0.mk (below_step (by repeat (first | (with_reducible first | exact HB.out | apply below_alloc | apply pw_below_drewN | apply below_drew1) | exact HB.out)) hb); clear HB; have HO951 := n0_; have HB := n1_; clear n0_ n1_; (try clear hb); (try clear hb2); (try clear hk); (try clear hi); (try clear ho0); obtain ⟨Ao8, co8, eo8⟩ := Kd.R_slice HO951.out; subst eo8) | ((with_reducible refine gate_callee (f := 36) rfl ?_); refine goesL_ (some 24) rfl rfl Try.func36 (by kernel_rfl) rfl #[.int .i64 t947, .int .i64 t948, .slice Ao8 t949.length co8] rfl (by (try simp only [List.map_toArray, List.map_cons, List.map_nil]); first | done | rfl | (simp only [List.length_drop, List.length_take]; rfl)) ?_; (with_reducible refine (impl_StrangeTerm.calls k t947 t948 _ _ t949 t952 t953 _ ?side1 ?side2 A4.out).mono ?_); (case side1 => repeat (first | exact (Kd.R_reads' HO951.out).2.2 | (with_reducible refine Kd.C_alloc ?_ _) | (with_reducible refine Kd.C_drewN ?_ _) | (with_reducible refine Kd.C_drew ?_))); (case side2 => exact (Kd.R_reads' HO951.out).2.1); rintro e w9 ⟨v954, rfl, ho0, hb⟩; refine ⟨_, rfl, ?_⟩; have n0_ := Aside0.mk (Kd.R_elder' (by (with_reducible repeat (first | apply Kd.R_alloc | apply Kd.R_drewN | apply Kd.R_drew)); exact HO951.out) (Kd.R_base ho0) hb); have n1_ := Aside0.mk (Kd.R_lower (Kd.R_new' ho0 (Kd.R_lt (by (with_reducible repeat (first | apply Kd.R_alloc | apply Kd.R_drewN | apply Kd.R_drew)); exact HO951.out))) (below_size (by repeat (first | (with_reducible first | exact HB.out | apply below_alloc | apply pw_below_drewN | apply below_drew1) | exact HB.out)))); have n2_ := Aside0.mk (below_step (by repeat (first | (with_reducible first | exact HB.out | apply below_alloc | apply pw_below_drewN | apply below_drew1) | exact HB.out)) hb); clear HO951; clear HB; have HO951 := n0_; have HO955 := n1_; have HB := n2_; clear n0_ n1_ n2_; (try clear hb); (try clear hb2); (try clear hk); (try clear hi); (try clear ho0)) | ((with_reducible refine gate_callee (f := 64) rfl ?_); refine goesL_ (some 31) rfl rfl Try.func64 (by kernel_rfl) rfl #[.int .i64 t947, .int .i64 t948, .slice Ao8 t949.length co8] rfl (by (try simp only [List.map_toArray, List.map_cons, List.map_nil]); first | done | rfl | (simp only [List.length_drop, List.length_take]; rfl)) ?_; (with_reducible refine (spec_StrangeTerm.calls k t947 t948 _ _ t949 t956 t957 _ ?side1 ?side2 A5.out).mono ?_); (case side1 => repeat (first | exact (Kd.R_reads' HO951.out).2.2 | (with_reducible refine Kd.C_alloc ?_ _) | (with_reducible refine Kd.C_drewN ?_ _) | (with_reducible refine Kd.C_drew ?_))); (case side2 => exact (Kd.R_reads' HO951.out).2.1); rintro e w10 ⟨v958, rfl, ho0, hb⟩; refine ⟨_, rfl, ?_⟩; have n0_ := Aside0.mk (Kd.R_elder' (by (with_reducible repeat (first | apply Kd.R_alloc | apply Kd.R_drewN | apply Kd.R_drew)); exact HO951.out) (Kd.R_base ho0) hb); have n1_ := Aside0.mk (Kd.R_elder' (by (with_reducible repeat (first | apply Kd.R_alloc | apply Kd.R_drewN | apply Kd.R_drew)); exact HO955.out) (Kd.R_base ho0) hb); have n2_ := Aside0.mk (Kd.R_lower (Kd.R_new' (Kd.R_new' ho0 (Kd.R_lt (by (with_reducible repeat (first | apply Kd.R_alloc | apply Kd.R_drewN | apply Kd.R_drew)); exact HO951.out))) (Kd.R_lt (by (with_reducible repeat (first | apply Kd.R_alloc | apply Kd.R_drewN | apply Kd.R_drew)); exact HO955.out))) (below_size (by repeat (first | (with_reducible first | exact HB.out | apply below_alloc | apply pw_below_drewN | apply below_drew1) | exact HB.out)))); have n3_ := Aside0.mk (below_step (by repeat (first | (with_reducible first | exact HB.out | apply below_alloc | apply pw_below_drewN | apply below_drew1) | exact HB.out)) hb); clear HO951; clear HO955; clear HB; have HO951 := n0_; have HO955 := n1_; have HO959 := n2_; have HB := n3_; clear n0_ n1_ n2_ n3_; (try clear hb); (try clear hb2); (try clear hk); (try clear hi); (try clear ho0)))
  (try simp only [Act.put, List.setIfInBounds_toArray, List.set_cons_zero, List.set_cons_succ])
  go_cut [42] (fun v42 wc => ∃ (kq : Nat) (x42_5 : Bool), v42 = .bool x42_5 ∧ Aside0 (laws_FnStrangeTerm.j0 kq t947 t948 t949 t952 t953 x42_5 = some r) ∧ Aside0 (kq ≤ k) ∧ Aside0 (Kd.R k52 52 wc w.heap.size (fun k_ => some k_ ≠ (v954 : Value).ownBlock) (.slice Ao8 t949.length co8) t949) ∧ Aside0 (Kd.R k52 52 wc w.heap.size (fun k_ => some k_ ≠ ((.slice Ao8 t949.length co8) : Value).ownBlock) v954 t952) ∧ Aside0 (Below w.heap.size w wc))
  case first =>
   have H := HC6.out
   clear HC6
   replace H := Option.bind_eq_some_iff.mp H
   obtain ⟨t960, A110, H⟩ := H
   replace H : (if t960 = true then (laws_FnStrangeTerm.j0 k t947 t948 t949 t952 t953 (t953 != t957)) else (laws_FnStrangeTerm.j0 k t947 t948 t949 t952 t953 true)) = some r := H
   have A11 := Aside0.mk A110
   clear A110
   by_cases c12 : t960 = true
   ·subst c12
    have H1 : (laws_FnStrangeTerm.j0 k t947 t948 t949 t952 t953 (t953 != t957)) = some r := by rw [if_pos rfl] at H; exact H
    clear H
    have H := H1
    clear H1
    have H' := Aside0.mk H
    clear H
    obtain ⟨Ao13, co13, eo13⟩ := Kd.R_slice HO955.out
    subst eo13
    obtain ⟨Ao14, co14, eo14⟩ := Kd.R_slice HO959.out
    subst eo14
    go_wp2_with (first | ((with_reducible refine gate_callee (f := 57) rfl ?_); refine goesL_ (some 36) rfl rfl Try.func57 (by kernel_rfl) rfl #[.slice Ao13 t952.length co13, .slice Ao14 t956.length co14] rfl (by (try simp only [List.map_toArray, List.map_cons, List.map_nil]); first | done | rfl | (simp only [List.length_drop, List.length_take]; rfl)) ?_; (with_reducible refine (laws_sameMarks.calls k _ _ t952 _ _ t956 true _ ?side1 ?side2 ?side3 ?side4 A11.out).mono ?_); (case side1 => repeat (first | exact (Kd.R_reads' HO955.out).2.2 | (with_reducible refine Kd.C_alloc ?_ _) | (with_reducible refine Kd.C_drewN ?_ _) | (with_reducible refine Kd.C_drew ?_))); (case side2 => exact (Kd.R_reads' HO955.out).2.1); (case side3 => repeat (first | exact (Kd.R_reads' HO959.out).2.2 | (with_reducible refine Kd.C_alloc ?_ _) | (with_reducible refine Kd.C_drewN ?_ _) | (with_reducible refine Kd.C_drew ?_))); (case side4 => exact (Kd.R_reads' HO959.out).2.1); rintro e w' ⟨rfl, ⟨nd, rfl⟩⟩; refine ⟨_, rfl, ?_⟩))
    go_meet
    case rel => exact ⟨_, ((t953 != t957)), (by first | rfl | (simp; done) | (simp [*]; done)), H', ⟨by first | omega | exact Nat.le_refl _⟩, ⟨by (with_reducible repeat (first | apply Kd.R_alloc | apply Kd.R_drewN | apply Kd.R_drew)); exact Kd.R_mono HO951.out (fun _ hk => hk.1.2)⟩, ⟨by (with_reducible repeat (first | apply Kd.R_alloc | apply Kd.R_drewN | apply Kd.R_drew)); exact Kd.R_mono HO955.out (fun _ hk => hk.1.2)⟩, ⟨by repeat (first | (with_reducible first | exact HB.out | apply below_alloc | apply pw_below_drewN | apply below_drew1) | exact HB.out)⟩⟩
   ·replace c12 := Bool.eq_false_iff.mpr c12
    subst c12
    have H1 : (laws_FnStrangeTerm.j0 k t947 t948 t949 t952 t953 true) = some r := by rw [if_neg (show ¬ (false = true) by decide)] at H; exact H
    clear H
    have H := H1
    clear H1
    have H' := Aside0.mk H
    clear H
    obtain ⟨Ao15, co15, eo15⟩ := Kd.R_slice HO955.out
    subst eo15
    obtain ⟨Ao16, co16, eo16⟩ := Kd.R_slice HO959.out
    subst eo16
    go_wp2_with (first | ((with_reducible refine gate_callee (f := 57) rfl ?_); refine goesL_ (some 36) rfl rfl Try.func57 (by kernel_rfl) rfl #[.slice Ao15 t952.length co15, .slice Ao16 t956.length co16] rfl (by (try simp only [List.map_toArray, List.map_cons, List.map_nil]); first | done | rfl | (simp only [List.length_drop, List.length_take]; rfl)) ?_; (with_reducible refine (laws_sameMarks.calls k _ _ t952 _ _ t956 false _ ?side1 ?side2 ?side3 ?side4 A11.out).mono ?_); (case side1 => repeat (first | exact (Kd.R_reads' HO955.out).2.2 | (with_reducible refine Kd.C_alloc ?_ _) | (with_reducible refine Kd.C_drewN ?_ _) | (with_reducible refine Kd.C_drew ?_))); (case side2 => exact (Kd.R_reads' HO955.out).2.1); (case side3 => repeat (first | exact (Kd.R_reads' HO959.out).2.2 | (with_reducible refine Kd.C_alloc ?_ _) | (with_reducible refine Kd.C_drewN ?_ _) | (with_reducible refine Kd.C_drew ?_))); (case side4 => exact (Kd.R_reads' HO959.out).2.1); rintro e w' ⟨rfl, ⟨nd, rfl⟩⟩; refine ⟨_, rfl, ?_⟩))
    go_meet
    case rel => exact ⟨_, (true), (by first | rfl | (simp; done) | (simp [*]; done)), H', ⟨by first | omega | exact Nat.le_refl _⟩, ⟨by (with_reducible repeat (first | apply Kd.R_alloc | apply Kd.R_drewN | apply Kd.R_drew)); exact Kd.R_mono HO951.out (fun _ hk => hk.1.2)⟩, ⟨by (with_reducible repeat (first | apply Kd.R_alloc | apply Kd.R_drewN | apply Kd.R_drew)); exact Kd.R_mono HO955.out (fun _ hk => hk.1.2)⟩, ⟨by repeat (first | (with_reducible first | exact HB.out | apply below_alloc | apply pw_below_drewN | apply below_drew1) | exact HB.out)⟩⟩
  case rest =>
   clear HC6
   try clear c1
   try clear c2
   try clear c2b0
   try clear c2b1
   try clear p2
   try clear c3
   try clear c5
   try clear c6
   try clear c12
   try clear c13
   obtain ⟨kq, x42_5, rfl, HA, HJ5, HO_5, HO_6, HB⟩ := hcut
   cases kq with
   | zero => exact absurd HA.out (by simp [laws_FnStrangeTerm.j0])
   | succ kj5 =>
    have H := HA.out
    clear HA
    simp only [laws_FnStrangeTerm.j0] at H
    by_cases c17 : x42_5 = true
    ·subst c17
     have H1 : (some false) = some r := by rw [if_pos rfl] at H; exact H
     clear H
     have H := H1
     clear H1
     obtain rfl := Option.some.inj H
     go_wp2
     go_ret
     exact ⟨by first | rfl | (simp [errW_none, errW_some] <;> rfl) | (simp [*, errW_none, errW_some] <;> rfl), by repeat (first | (with_reducible first | exact HB.out | apply below_alloc | apply pw_below_drewN | apply below_drew1) | exact HB.out)⟩
    ·replace c17 := Bool.eq_false_iff.mpr c17
     subst c17
     have H1 : (if t953 = true then (laws_FnStrangeTerm.l0 kj5 t947 t948 t949 t952 0) else (if (t952.length : Int) = 0 then ((laws_alive.f).bind fun t961 => (some t961)) else (some false))) = some r := by rw [if_neg (show ¬ (false = true) by decide)] at H; exact H
     clear H
     have H := H1
     clear H1
     by_cases c18 : t953 = true
     ·subst c18
      have H1 : (laws_FnStrangeTerm.l0 kj5 t947 t948 t949 t952 0) = some r := by rw [if_pos rfl] at H; exact H
      clear H
      have H := H1
      clear H1
      have H' := Aside0.mk H
      clear H
      go_wp2
      go_loopg [10] kj5 (fun kq v10 w' => ∃ (x10_2 : Int), v10 = .int .i64 x10_2 ∧ Aside0 (laws_FnStrangeTerm.l0 kq t947 t948 t949 t952 x10_2 = some r) ∧ Aside0 (kq ≤ kj5) ∧ Aside0 (Kd.R k52 52 w' w.heap.size (fun k_ => some k_ ≠ (v954 : Value).ownBlock) (.slice Ao8 t949.length co8) t949) ∧ Aside0 (Kd.R k52 52 w' w.heap.size (fun k_ => some k_ ≠ ((.slice Ao8 t949.length co8) : Value).ownBlock) v954 t952) ∧ Aside0 (Below w.heap.size w w'))
      case atStart => exact ⟨(0), (by first | rfl | (simp; done) | (simp [*]; done)), H', ⟨Nat.le_refl _⟩, ⟨by (with_reducible repeat (first | apply Kd.R_alloc | apply Kd.R_drewN | apply Kd.R_drew)); exact HO_5.out⟩, ⟨by (with_reducible repeat (first | apply Kd.R_alloc | apply Kd.R_drewN | apply Kd.R_drew)); exact HO_6.out⟩, ⟨by repeat (first | (with_reducible first | exact HB.out | apply below_alloc | apply pw_below_drewN | apply below_drew1) | exact HB.out)⟩⟩
      case round =>
       clear H'
       try clear c1
       try clear c2
       try clear c2b0
       try clear c2b1
       try clear p2
       try clear c3
       try clear c5
       try clear c6
       try clear c12
       try clear c13
       try clear c17
       try clear c18
       try clear p2
       obtain ⟨x10_2, rfl, HA, HK2, HO_5, HO_6, HB⟩ := hrel
       cases gk with
       | zero => exact absurd HA.out (by simp [laws_FnStrangeTerm.l0])
       | succ k2 =>
        have H := HA.out
        clear HA
        simp only [laws_FnStrangeTerm.l0] at H
        by_cases c19 : 0 ≤ t947
        ·rw [if_pos c19] at H
         have c19b0 := eq_true c19
         have c19b1 : decide (0 ≤ t947) = true := decide_eq_true c19
         clear c19
         obtain ⟨ji20, hji20⟩ : ∃ j_ : Int, (shl .i64 1 t947) = j_ := ⟨_, rfl⟩
         replace H : (if x10_2 < (ji20) then ((impl_WordIn.f k2 t947 t948 t952 x10_2).bind fun t963 => ((impl_HoldsIn.f k2 t947 t949 x10_2).bind fun t964 => (if ((t963 == 1) != t964) = true then (some false) else (laws_FnStrangeTerm.l0 k2 t947 t948 t949 t952 (wrap64 (x10_2 + 1)))))) else ((impl_TermOk.f k2 t947 t952).bind fun t962 => (if t962 = true then (some ((t952.length : Int) == (wrap64 ((t949.length : Int) + 4)))) else (some false)))) = some r := by first | (rw [hji20] at H; exact H) | (simp only [hji20] at H ⊢; exact H)
         have hji20_ : (IntKind.i64.wrap (1 * 2 ^ min t947.toNat 64)) = ji20 := hji20
         have hji20z : t947 ≤ 64 → (IntKind.i64.wrap (1 * 2 ^ t947.toNat)) = ji20 := shl_small hji20
         have hji20u : (IntKind.i64.wrap (2 ^ min t947.toNat 64)) = ji20 := by have h_ := hji20_; rw [Int.one_mul] at h_; exact h_
         have hji20v : t947 ≤ 64 → (IntKind.i64.wrap (2 ^ t947.toNat)) = ji20 := fun hle_ => by have h_ := hji20z hle_; rw [Int.one_mul] at h_; exact h_
         have hji20y : (wrap64 (1 * 2 ^ min t947.toNat 64)) = ji20 := (i64_w _).symm.trans hji20_
         have hji20x : t947 ≤ 64 → (wrap64 (1 * 2 ^ t947.toNat)) = ji20 := fun h_ => (i64_w _).symm.trans (hji20z h_)
         by_cases c21 : x10_2 < (ji20)
         ·rw [if_pos c21] at H
          have c21b0 : decide (x10_2 < (ji20)) = true := decide_eq_true c21
          clear c21
          replace H := Option.bind_eq_some_iff.mp H
          obtain ⟨t963, A220, H⟩ := H
          replace H : ((impl_HoldsIn.f k2 t947 t949 x10_2).bind fun t964 => (if ((t963 == 1) != t964) = true then (some false) else (laws_FnStrangeTerm.l0 k2 t947 t948 t949 t952 (wrap64 (x10_2 + 1))))) = some r := H
          have A22 := Aside0.mk A220
          clear A220
          replace H := Option.bind_eq_some_iff.mp H
          obtain ⟨t964, A230, H⟩ := H
          replace H : (if ((t963 == 1) != t964) = true then (some false) else (laws_FnStrangeTerm.l0 k2 t947 t948 t949 t952 (wrap64 (x10_2 + 1)))) = some r := H
          have A23 := Aside0.mk A230
          clear A230
          by_cases c24 : ((t963 == 1) != t964) = true
          ·rw [if_pos c24] at H
           have c24b0 : ((t963 == 1) != t964) = true := c24
           (try (have c24b1 : decide ((t963 == 1) = t964) = false := by simpa using c24))
           (try (have c24b2 : ((t963 == 1) == t964) = false := by simpa using c24))
           (try (have c24b3 : ¬ ((t963 == 1) = t964) := by simpa using c24))
           clear c24
           obtain rfl := Option.some.inj H
           obtain ⟨Ao25, co25, eo25⟩ := Kd.R_slice HO_6.out
           subst eo25
           go_wp2_with (first | ((with_reducible refine gate_callee (f := 39) rfl ?_); refine goesL_ (some 61) rfl rfl Try.func39 (by kernel_rfl) rfl #[.int .i64 t947, .int .i64 t948, .slice Ao25 t952.length co25, .int .i64 x10_2] rfl (by (try simp only [List.map_toArray, List.map_cons, List.map_nil]); first | done | rfl | (simp only [List.length_drop, List.length_take]; rfl)) ?_; (with_reducible refine (impl_WordIn.calls k2 t947 t948 _ _ t952 x10_2 t963 _ ?side1 ?side2 A22.out).mono ?_); (case side1 => repeat (first | exact (Kd.R_reads' HO_6.out).2.2 | (with_reducible refine Kd.C_alloc ?_ _) | (with_reducible refine Kd.C_drewN ?_ _) | (with_reducible refine Kd.C_drew ?_))); (case side2 => exact (Kd.R_reads' HO_6.out).2.1); rintro e w26 ⟨rfl, hb⟩; refine ⟨_, rfl, ?_⟩; have n0_ := Aside0.mk (Kd.R_below (by (with_reducible repeat (first | apply Kd.R_alloc | apply Kd.R_drewN | apply Kd.R_drew)); exact HO_5.out) hb); have n1_ := Aside0.mk (Kd.R_below (by (with_reducible repeat (first | apply Kd.R_alloc | apply Kd.R_drewN | apply Kd.R_drew)); exact HO_6.out) hb); have n2_ := Aside0.mk (below_step (by repeat (first | (with_reducible first | exact HB.out | apply below_alloc | apply pw_below_drewN | apply below_drew1) | exact HB.out)) hb); clear HO_5; clear HO_6; clear HB; have HO_5 := n0_; have HO_6 := n1_; have HB := n2_; clear n0_ n1_ n2_; (try clear hb); (try clear hb2); (try clear hk); (try clear hi)) | ((with_reducible refine gate_callee (f := 58) rfl ?_); refine goesL_ (some 66) rfl rfl Try.func58 (by kernel_rfl) rfl #[.int .i64 t947, .slice Ao8 t949.length co8, .int .i64 x10_2] rfl (by (try simp only [List.map_toArray, List.map_cons, List.map_nil]); first | done | rfl | (simp only [List.length_drop, List.length_take]; rfl)) ?_; (with_reducible refine (impl_HoldsIn.calls k2 t947 _ _ t949 x10_2 t964 _ ?side1 ?side2 A23.out).mono ?_); (case side1 => repeat (first | exact (Kd.R_reads' HO_5.out).2.2 | (with_reducible refine Kd.C_alloc ?_ _) | (with_reducible refine Kd.C_drewN ?_ _) | (with_reducible refine Kd.C_drew ?_))); (case side2 => exact (Kd.R_reads' HO_5.out).2.1); rintro e w27 ⟨rfl, hb⟩; refine ⟨_, rfl, ?_⟩; have n0_ := Aside0.mk (Kd.R_below (by (with_reducible repeat (first | apply Kd.R_alloc | apply Kd.R_drewN | apply Kd.R_drew)); exact HO_5.out) hb); have n1_ := Aside0.mk (Kd.R_below (by (with_reducible repeat (first | apply Kd.R_alloc | apply Kd.R_drewN | apply Kd.R_drew)); exact HO_6.out) hb); have n2_ := Aside0.mk (below_step (by repeat (first | (with_reducible first | exact HB.out | apply below_alloc | apply pw_below_drewN | apply below_drew1) | exact HB.out)) hb); clear HO_5; clear HO_6; clear HB; have HO_5 := n0_; have HO_6 := n1_; have HB := n2_; clear n0_ n1_ n2_; (try clear hb); (try clear hb2); (try clear hk); (try clear hi)))
           go_ret
           exact ⟨by first | rfl | (simp [errW_none, errW_some] <;> rfl) | (simp only [← hji20]; first | rfl | (simp [errW_none, errW_some] <;> rfl)) | (simp [*, errW_none, errW_some] <;> rfl), by repeat (first | (with_reducible first | exact HB.out | apply below_alloc | apply pw_below_drewN | apply below_drew1) | exact HB.out)⟩
          ·rw [if_neg c24] at H
           have c24b0 : ((t963 == 1) != t964) = false := by simpa using c24
           (try (have c24b1 : decide ((t963 == 1) = t964) = true := by simpa using c24))
           (try (have c24b2 : ((t963 == 1) == t964) = true := by simpa using c24))
           clear c24
           have H' := Aside0.mk H
           clear H
           obtain ⟨Ao28, co28, eo28⟩ := Kd.R_slice HO_6.out
           subst eo28
           go_wp2_with (first | ((with_reducible refine gate_callee (f := 39) rfl ?_); refine goesL_ (some 61) rfl rfl Try.func39 (by kernel_rfl) rfl #[.int .i64 t947, .int .i64 t948, .slice Ao28 t952.length co28, .int .i64 x10_2] rfl (by (try simp only [List.map_toArray, List.map_cons, List.map_nil]); first | done | rfl | (simp only [List.length_drop, List.length_take]; rfl)) ?_; (with_reducible refine (impl_WordIn.calls k2 t947 t948 _ _ t952 x10_2 t963 _ ?side1 ?side2 A22.out).mono ?_); (case side1 => repeat (first | exact (Kd.R_reads' HO_6.out).2.2 | (with_reducible refine Kd.C_alloc ?_ _) | (with_reducible refine Kd.C_drewN ?_ _) | (with_reducible refine Kd.C_drew ?_))); (case side2 => exact (Kd.R_reads' HO_6.out).2.1); rintro e w29 ⟨rfl, hb⟩; refine ⟨_, rfl, ?_⟩; have n0_ := Aside0.mk (Kd.R_below (by (with_reducible repeat (first | apply Kd.R_alloc | apply Kd.R_drewN | apply Kd.R_drew)); exact HO_5.out) hb); have n1_ := Aside0.mk (Kd.R_below (by (with_reducible repeat (first | apply Kd.R_alloc | apply Kd.R_drewN | apply Kd.R_drew)); exact HO_6.out) hb); have n2_ := Aside0.mk (below_step (by repeat (first | (with_reducible first | exact HB.out | apply below_alloc | apply pw_below_drewN | apply below_drew1) | exact HB.out)) hb); clear HO_5; clear HO_6; clear HB; have HO_5 := n0_; have HO_6 := n1_; have HB := n2_; clear n0_ n1_ n2_; (try clear hb); (try clear hb2); (try clear hk); (try clear hi)) | ((with_reducible refine gate_callee (f := 58) rfl ?_); refine goesL_ (some 66) rfl rfl Try.func58 (by kernel_rfl) rfl #[.int .i64 t947, .slice Ao8 t949.length co8, .int .i64 x10_2] rfl (by (try simp only [List.map_toArray, List.map_cons, List.map_nil]); first | done | rfl | (simp only [List.length_drop, List.length_take]; rfl)) ?_; (with_reducible refine (impl_HoldsIn.calls k2 t947 _ _ t949 x10_2 t964 _ ?side1 ?side2 A23.out).mono ?_); (case side1 => repeat (first | exact (Kd.R_reads' HO_5.out).2.2 | (with_reducible refine Kd.C_alloc ?_ _) | (with_reducible refine Kd.C_drewN ?_ _) | (with_reducible refine Kd.C_drew ?_))); (case side2 => exact (Kd.R_reads' HO_5.out).2.1); rintro e w30 ⟨rfl, hb⟩; refine ⟨_, rfl, ?_⟩; have n0_ := Aside0.mk (Kd.R_below (by (with_reducible repeat (first | apply Kd.R_alloc | apply Kd.R_drewN | apply Kd.R_drew)); exact HO_5.out) hb); have n1_ := Aside0.mk (Kd.R_below (by (with_reducible repeat (first | apply Kd.R_alloc | apply Kd.R_drewN | apply Kd.R_drew)); exact HO_6.out) hb); have n2_ := Aside0.mk (below_step (by repeat (first | (with_reducible first | exact HB.out | apply below_alloc | apply pw_below_drewN | apply below_drew1) | exact HB.out)) hb); clear HO_5; clear HO_6; clear HB; have HO_5 := n0_; have HO_6 := n1_; have HB := n2_; clear n0_ n1_ n2_; (try clear hb); (try clear hb2); (try clear hk); (try clear hi)))
           go_roundg k2
           case measure => have := HJ5.out; have := HK2.out; omega
           case rel => exact ⟨(wrap64 (x10_2 + 1)), (by first | rfl | (simp; done) | (simp [*]; done)), H', ⟨by have := HJ5.out; have := HK2.out; omega⟩, ⟨by (with_reducible repeat (first | apply Kd.R_alloc | apply Kd.R_drewN | apply Kd.R_drew)); exact HO_5.out⟩, ⟨by (with_reducible repeat (first | apply Kd.R_alloc | apply Kd.R_drewN | apply Kd.R_drew)); exact HO_6.out⟩, ⟨by repeat (first | (with_reducible first | exact HB.out | apply below_alloc | apply pw_below_drewN | apply below_drew1) | exact HB.out)⟩⟩
         ·rw [if_neg c21] at H
          have c21b0 : decide (x10_2 < (ji20)) = false := decide_eq_false c21
          clear c21
          replace H := Option.bind_eq_some_iff.mp H
          obtain ⟨t962, A310, H⟩ := H
          replace H : (if t962 = true then (some ((t952.length : Int) == (wrap64 ((t949.length : Int) + 4)))) else (some false)) = some r := H
          have A31 := Aside0.mk A310
          clear A310
          by_cases c32 : t962 = true
          ·subst c32
           have H1 : (some ((t952.length : Int) == (wrap64 ((t949.length : Int) + 4)))) = some r := by rw [if_pos rfl] at H; exact H
           clear H
           have H := H1
           clear H1
           obtain rfl := Option.some.inj H
           obtain ⟨Ao33, co33, eo33⟩ := Kd.R_slice HO_6.out
           subst eo33
           go_wp2_with (first | ((with_reducible refine gate_callee (f := 59) rfl ?_); refine goesL_ (some 70) rfl rfl Try.func59 (by kernel_rfl) rfl #[.int .i64 t947, .slice Ao33 t952.length co33] rfl (by (try simp only [List.map_toArray, List.map_cons, List.map_nil]); first | done | rfl | (simp only [List.length_drop, List.length_take]; rfl)) ?_; (with_reducible refine (impl_TermOk.calls k2 t947 _ _ t952 true _ ?side1 ?side2 A31.out).mono ?_); (case side1 => repeat (first | exact (Kd.R_reads' HO_6.out).2.2 | (with_reducible refine Kd.C_alloc ?_ _) | (with_reducible refine Kd.C_drewN ?_ _) | (with_reducible refine Kd.C_drew ?_))); (case side2 => exact (Kd.R_reads' HO_6.out).2.1); rintro e w34 ⟨rfl, hb⟩; refine ⟨_, rfl, ?_⟩; have n0_ := Aside0.mk (Kd.R_below (by (with_reducible repeat (first | apply Kd.R_alloc | apply Kd.R_drewN | apply Kd.R_drew)); exact HO_5.out) hb); have n1_ := Aside0.mk (Kd.R_below (by (with_reducible repeat (first | apply Kd.R_alloc | apply Kd.R_drewN | apply Kd.R_drew)); exact HO_6.out) hb); have n2_ := Aside0.mk (below_step (by repeat (first | (with_reducible first | exact HB.out | apply below_alloc | apply pw_below_drewN | apply below_drew1) | exact HB.out)) hb); clear HO_5; clear HO_6; clear HB; have HO_5 := n0_; have HO_6 := n1_; have HB := n2_; clear n0_ n1_ n2_; (try clear hb); (try clear hb2); (try clear hk); (try clear hi)))
           go_ret
           exact ⟨by first | rfl | (simp [errW_none, errW_some] <;> rfl) | (simp only [← hji20]; first | rfl | (simp [errW_none, errW_some] <;> rfl)) | (simp [*, errW_none, errW_some] <;> rfl), by repeat (first | (with_reducible first | exact HB.out | apply below_alloc | apply pw_below_drewN | apply below_drew1) | exact HB.out)⟩
          ·replace c32 := Bool.eq_false_iff.mpr c32
           subst c32
           have H1 : (some false) = some r := by rw [if_neg (show ¬ (false = true) by decide)] at H; exact H
           clear H
           have H := H1
           clear H1
           obtain rfl := Option.some.inj H
           obtain ⟨Ao35, co35, eo35⟩ := Kd.R_slice HO_6.out
           subst eo35
           go_wp2_with (first | ((with_reducible refine gate_callee (f := 59) rfl ?_); refine goesL_ (some 70) rfl rfl Try.func59 (by kernel_rfl) rfl #[.int .i64 t947, .slice Ao35 t952.length co35] rfl (by (try simp only [List.map_toArray, List.map_cons, List.map_nil]); first | done | rfl | (simp only [List.length_drop, List.length_take]; rfl)) ?_; (with_reducible refine (impl_TermOk.calls k2 t947 _ _ t952 false _ ?side1 ?side2 A31.out).mono ?_); (case side1 => repeat (first | exact (Kd.R_reads' HO_6.out).2.2 | (with_reducible refine Kd.C_alloc ?_ _) | (with_reducible refine Kd.C_drewN ?_ _) | (with_reducible refine Kd.C_drew ?_))); (case side2 => exact (Kd.R_reads' HO_6.out).2.1); rintro e w36 ⟨rfl, hb⟩; refine ⟨_, rfl, ?_⟩; have n0_ := Aside0.mk (Kd.R_below (by (with_reducible repeat (first | apply Kd.R_alloc | apply Kd.R_drewN | apply Kd.R_drew)); exact HO_5.out) hb); have n1_ := Aside0.mk (Kd.R_below (by (with_reducible repeat (first | apply Kd.R_alloc | apply Kd.R_drewN | apply Kd.R_drew)); exact HO_6.out) hb); have n2_ := Aside0.mk (below_step (by repeat (first | (with_reducible first | exact HB.out | apply below_alloc | apply pw_below_drewN | apply below_drew1) | exact HB.out)) hb); clear HO_5; clear HO_6; clear HB; have HO_5 := n0_; have HO_6 := n1_; have HB := n2_; clear n0_ n1_ n2_; (try clear hb); (try clear hb2); (try clear hk); (try clear hi)))
           go_ret
           exact ⟨by first | rfl | (simp [errW_none, errW_some] <;> rfl) | (simp only [← hji20]; first | rfl | (simp [errW_none, errW_some] <;> rfl)) | (simp [*, errW_none, errW_some] <;> rfl), by repeat (first | (with_reducible first | exact HB.out | apply below_alloc | apply pw_below_drewN | apply below_drew1) | exact HB.out)⟩
        ·rw [if_neg c19] at H
         exact absurd H (by simp)
     ·replace c18 := Bool.eq_false_iff.mpr c18
      subst c18
      have H1 : (if (t952.length : Int) = 0 then ((laws_alive.f).bind fun t961 => (some t961)) else (some false)) = some r := by rw [if_neg (show ¬ (false = true) by decide)] at H; exact H
      clear H
      have H := H1
      clear H1
      by_cases c37 : (t952.length : Int) = 0
      ·rw [if_pos c37] at H
       have c37b0 : ((t952.length : Int) == 0) = true := beq_iff_eq.mpr c37
       have c37b1 : ((t952.length : Int) != 0) = false := bne_eq_false_iff_eq.mpr c37
       clear c37
       replace H := Option.bind_eq_some_iff.mp H
       obtain ⟨t961, A380, H⟩ := H
       replace H : (some t961) = some r := H
       have A38 := Aside0.mk A380
       clear A380
       obtain rfl := Option.some.inj H
       obtain ⟨Ao39, co39, eo39⟩ := Kd.R_slice HO_6.out
       subst eo39
       go_wp2_with (first | (go_at_call 37; (with_reducible refine (laws_alive.calls  t961 _ A38.out).mono ?_); rintro e w' ⟨rfl, ⟨nd, rfl⟩⟩))
       go_ret
       exact ⟨by first | rfl | (simp [errW_none, errW_some] <;> rfl) | (simp [*, errW_none, errW_some] <;> rfl), by repeat (first | (with_reducible first | exact HB.out | apply below_alloc | apply pw_below_drewN | apply below_drew1) | exact HB.out)⟩
      ·rw [if_neg c37] at H
       have c37b0 : ((t952.length : Int) == 0) = false := beq_eq_false_iff_ne.mpr c37
       have c37b1 : ((t952.length : Int) != 0) = true := bne_iff_ne.mpr c37
       have c37b2 : ¬ (t952 = []) := fun h_ => c37 (by rw [h_]; rfl)
       obtain rfl := Option.some.inj H
       obtain ⟨Ao40, co40, eo40⟩ := Kd.R_slice HO_6.out
       subst eo40
       go_wp2
       go_ret
       exact ⟨by first | rfl | (simp [errW_none, errW_some] <;> rfl) | (simp [*, errW_none, errW_some] <;> rfl), by repeat (first | (with_reducible first | exact HB.out | apply below_alloc | apply pw_below_drewN | apply below_drew1) | exact HB.out)⟩

/-- THE ONE PURE STATEMENT of laws_FnStrangeTerm: yours. -/
def laws_FnStrangeTerm.Pure : Prop := ∀ (l0 : List Int), l0.length ≤ maxLen → l0.length * 1 ≤ 140737488351232 → (∀ x ∈ l0, (Lit.int .u8 x).wf = true) → ∃ k, laws_FnStrangeTerm.f k l0 = some true
theorem laws_FnStrangeTerm.walk (P : laws_FnStrangeTerm.Pure) (a0 : Option Addr) (len0 cap0 : Nat) (z0 : List Int) (w : World) (w0 : (a0 = none ∧ len0 = 0 ∧ cap0 = 0 ∧ z0 = []) ∨ ∃ x, a0 = some x ∧ len0 ≤ cap0 ∧ cap0 ≤ maxLen ∧ z0.length = cap0 ∧ (∀ i, i < z0.length → w.cell? (x.add i) = some (.int .u8 (z0.getD i 0))) ∧ ∀ n ∈ z0, (Lit.int .u8 n).wf = true) (y0 : len0 * 1 ≤ 140737488351232) :
  Calls Try.prog 13 #[.slice a0 len0 cap0] w fun e w' => e = .returned (.bool true) ∧ Below w.heap.size w w' := by
 obtain ⟨l0, rfl, hr0, hm0, hw0, hc0⟩ := ReadsInt.ofRowC w0
 obtain ⟨k, h⟩ := P l0 hm0 y0 hw0
 refine (laws_FnStrangeTerm.calls k _ _ l0 true w (Kd.C_of_reads (d := (0 : Int)) (h1 := fun _ => rfl) hr0) hc0 h).mono ?_
 rintro e w' ⟨rfl, hd⟩
 exact ⟨rfl, hd⟩

end Go.Proofs.Ytpampekijfjlkaa.X

/- Drawn questions in a strange language. -/
namespace Go.Proofs.Ytpampekijfjlkaa.L
open Go.RowKit Go.Proofs.Ytpampekijfjlkaa.X Go.Proofs.YtpampekijfjlkaaW.PrintWords Go.Proofs.YtpampekijfjlkaaW.PrintLast Go.Proofs.YtpampekijfjlkaaW.PrintMore

theorem l20Strange_ev {s : List Int} (hs : Rd s) : ∃ (p i : Int) (t : List M) (n : Int), Ev (fun k => spec_l20Strange.f k s 0) (p, i, t, n) ∧ 1 ≤ p ∧ p ≤ 4 ∧ 0 ≤ i ∧ i ≤ 1000 ∧ t.length ≤ 16 ∧ Sm t ∧ 0 ≤ n ∧ n ≤ 1000 := by
 obtain ⟨a, ha, ha0, ha1⟩ := pick_ev hs (p := 0) (by omega) (by omega) 3 (by omega)
 have ha2 := ha1 (by omega)
 obtain ⟨b, hb, hb0, hb1⟩ := pick_ev hs (p := 0 + 1) (by omega) (by omega) 40 (by omega)
 have hb2 := tdiv39 hb0 (hb1 (by omega))
 obtain ⟨c, hc, hc0, hc1⟩ := pick_ev hs (p := 0 + 1 + 1) (by omega) (by omega) (2 + a - 1) (by omega)
 have hc2 := hc1 (by omega)
 obtain ⟨d, hd, hd0, hd1⟩ := pick_ev hs (p := 0 + 1 + 1 + 1) (by omega) (by omega) 40 (by omega)
 have hd2 := tdiv39 hd0 (hd1 (by omega))
 obtain ⟨t, p', ht, h2, h3, h4, h5⟩ := l20Term_ev hs (p := 0 + 1 + 1 + 1 + 1) (by omega) (by omega) (2 + a) 14 (by omega)
 refine ⟨2 + a - Int.tdiv b 39, c + Int.tdiv d 39 * 3, t, p', ?_, by omega, by omega, by omega, by omega, h2, h3, by omega, by omega⟩
 unfold spec_l20Strange.f
 refine Ev.bind ha (Ev.bind hb ?_)
 simp only [w64 (x := 2 + a) (by omega) (by omega), w64 (x := 2 + a - 1) (by omega) (by omega)]
 refine Ev.bind hc (Ev.bind hd (Ev.bind ht ?_))
 simp only [w64 (x := Int.tdiv b 39) (by omega) (by omega), w64 (x := 2 + a - Int.tdiv b 39) (by omega) (by omega), w64 (x := Int.tdiv d 39) (by omega) (by omega), w64 (x := Int.tdiv d 39 * 3) (by omega) (by omega), w64 (x := c + Int.tdiv d 39 * 3) (by omega) (by omega)]
 exact Ev.some _
end Go.Proofs.Ytpampekijfjlkaa.L

/- Drawn questions in a strange language, by the code. -/
namespace Go.Proofs.Ytpampekijfjlkaa.L
open Go.RowKit Go.Proofs.Ytpampekijfjlkaa.X Go.Proofs.YtpampekijfjlkaaW.PrintWords Go.Proofs.YtpampekijfjlkaaW.PrintLast Go.Proofs.YtpampekijfjlkaaW.PrintMore

theorem DrawStrangeTerm_ev {l : List Int} (hw : ∀ x ∈ l, (Lit.int .u8 x).wf = true) : ∃ (p i : Int) (t : List M), Ev (fun k => spec_DrawStrangeTerm.f k l) (p, i, t) ∧ 1 ≤ p ∧ p ≤ 4 ∧ 0 ≤ i ∧ i ≤ 1000 ∧ t.length ≤ 16 ∧ Sm t := by
 obtain ⟨s, hs, ho⟩ := open_eq hw
 obtain ⟨p, i, t, n, h, h1, h2, h3, h4, h5, h6, _⟩ := l20Strange_ev hs
 refine ⟨p, i, t, ?_, h1, h2, h3, h4, h5, h6⟩
 unfold spec_DrawStrangeTerm.f
 rw [ho]
 simp only [Option.bind_some]
 exact Ev.bind h (Ev.some _)
end Go.Proofs.Ytpampekijfjlkaa.L

/- Plain law of the trick: a mark of a person ahead, and the mark of sameness behind. -/
namespace Go.Proofs.Ytpampekijfjlkaa.L
open Go.RowKit Go.Proofs.Ytpampekijfjlkaa.X Go.Proofs.YtpampekijfjlkaaW.PrintWords Go.Proofs.YtpampekijfjlkaaW.PrintLast Go.Proofs.YtpampekijfjlkaaW.PrintMore

/-- The trick of a row of marks. -/
def wrapM (i : Int) (t : List M) : List M := ⟨0, i⟩ :: (t ++ [⟨5, 0⟩])
theorem wrapM_length (i : Int) (t : List M) : (wrapM i t).length = t.length + 2 := by simp [wrapM]
theorem trick_eq (i : Int) (t : List M) (ht : t.length ≤ 4611686018427) : impl_trick.f i t = some (wrapM i t) := by
 unfold impl_trick.f
 simp only [Option.bind_some, List.length_cons, List.length_nil, List.length_append]
 rw [if_pos (by omega), if_pos (by omega)]
 rfl
end Go.Proofs.Ytpampekijfjlkaa.L

/- Plain law of the question in a strange language: both functions come to the same row. -/
namespace Go.Proofs.Ytpampekijfjlkaa.L
open Go.RowKit Go.Proofs.Ytpampekijfjlkaa.X Go.Proofs.YtpampekijfjlkaaW.PrintWords Go.Proofs.YtpampekijfjlkaaW.PrintLast Go.Proofs.YtpampekijfjlkaaW.PrintMore

def strange (p i : Int) (t : List M) : List M × Bool :=
 if 2 ≤ p ∧ tok p t = true ∧ 0 ≤ i ∧ i < p - 1 ∧ tok p (wrapM i (wrapM (p - 1) t)) = true then (wrapM i (wrapM (p - 1) t), true) else ([], false)
theorem impl_Strange_ev {p i : Int} {t : List M} (hp : -9223372036854775808 ≤ p ∧ p ≤ 9223372036854775807) (ht : t.length ≤ 1048576) : Ev (fun k => impl_StrangeTerm.f k p i t) (strange p i t) := by
 unfold impl_StrangeTerm.f
 have no : ∀ r : List M × Bool, r = ([], false) → Ev (fun k => impl_StrangeTerm.j0 k p i t true) r := by
  intro r hr
  refine Ev.step (fun k => by simp only [impl_StrangeTerm.j0]; rfl) ?_
  refine Ev.yes (by simp) ?_
  rw [hr]; exact Ev.some _
 by_cases h2 : p < 2
 ·exact Ev.yes h2 (no _ (if_neg (by omega)))
 refine Ev.no h2 (Ev.bind (impl_TermOk_ev p t) ?_)
 by_cases hk : tok p t = true
 ·refine Ev.yes hk ?_
  by_cases h0 : i < 0
  ·exact Ev.yes h0 (no _ (if_neg (by omega)))
  refine Ev.no h0 ?_
  obtain ⟨hp1, hp4, _⟩ := tok_iff.1 hk
  rw [w64 (by omega) (by omega)]
  by_cases h1 : i ≥ p - 1
  ·rw [decide_eq_true h1]
   exact no _ (if_neg (by omega))
  rw [decide_eq_false h1]
  refine Ev.step (fun k => by simp only [impl_StrangeTerm.j0]; rfl) ?_
  refine Ev.no (by simp) ?_
  rw [w64 (by omega) (by omega), trick_eq _ _ (by omega)]
  simp only [Option.bind_some]
  rw [trick_eq _ _ (by rw [wrapM_length]; omega)]
  simp only [Option.bind_some]
  refine Ev.bind (impl_TermOk_ev p _) ?_
  by_cases hz : tok p (wrapM i (wrapM (p - 1) t)) = true
  ·exact Ev.yes hz (Ev.cast (Ev.some _) (if_pos ⟨by omega, hk, by omega, by omega, hz⟩).symm)
  ·exact Ev.no hz (Ev.cast (Ev.some _) (if_neg (fun h => hz h.2.2.2.2)).symm)
 ·exact Ev.no hk (no _ (if_neg (fun h => hk h.2.1)))
theorem spec_Strange_ev {p i : Int} {t : List M} (hp : -9223372036854775808 ≤ p ∧ p ≤ 9223372036854775807) (hi : -9223372036854775808 ≤ i ∧ i ≤ 9223372036854775807) (ht : t.length ≤ 1048576) (hw : ∀ m ∈ t, m.f1 ≤ 9223372036854775807) :
  Ev (fun k => spec_StrangeTerm.f k p i t) (strange p i t) := by
 unfold spec_StrangeTerm.f spec_l8Ok.f
 have no : ∀ r : List M × Bool, r = ([], false) → Ev (fun k => spec_StrangeTerm.j0 k p i t true) r := by
  intro r hr
  refine Ev.step (fun k => by simp only [spec_StrangeTerm.j0]; rfl) ?_
  refine Ev.yes (by simp) ?_
  rw [hr]; exact Ev.some _
 simp only [l1In_eq, Option.bind_some]
 by_cases h2 : 2 ≤ p ∧ p ≤ 4
 ·rw [w64 (by omega) (by omega), decide_eq_true h2]
  simp only [if_true, Option.bind_some]
  by_cases h3 : 0 ≤ i ∧ i ≤ p - 2
  ·refine Ev.yes (decide_eq_true h3) (Ev.bind (spec_TermOk_ev p t (by omega) hw) ?_)
   by_cases hk : tok p t = true
   ·rw [hk]
    refine Ev.step (fun k => by simp only [spec_StrangeTerm.j0]; rfl) ?_
    refine Ev.no (by simp) ?_
    rw [w64 (by omega) (by omega)]
    simp only [Option.bind_some, List.length_cons, List.length_nil, List.length_append]
    refine Ev.yes (by omega) (Ev.yes (by omega) ?_)
    have e : ([⟨0, i⟩, ⟨0, p - 1⟩] ++ t ++ [⟨5, 0⟩, ⟨5, 0⟩] : List M) = wrapM i (wrapM (p - 1) t) := by simp [wrapM]
    rw [e]
    refine Ev.bind (spec_TermOk_ev p _ (by simp only [wrapM_length]; omega) ?_) ?_
    ·intro m hm
     simp only [wrapM, List.mem_cons, List.mem_append, List.not_mem_nil, or_false] at hm
     rcases hm with rfl | (rfl | hm | rfl) | rfl
     ·exact hi.2
     ·show p - 1 ≤ _; omega
     ·exact hw m hm
     ·decide
     ·decide
    by_cases hz : tok p (wrapM i (wrapM (p - 1) t)) = true
    ·exact Ev.yes hz (Ev.cast (Ev.some _) (if_pos ⟨by omega, hk, by omega, by omega, hz⟩).symm)
    ·exact Ev.no hz (Ev.cast (Ev.some _) (if_neg (fun h => hz h.2.2.2.2)).symm)
   ·rw [Bool.not_eq_true] at hk
    rw [hk]
    exact no _ (if_neg (fun h => by rw [hk] at h; exact absurd h.2.1 (by simp)))
  ·exact Ev.no (by simpa using h3) (no _ (if_neg (by omega)))
 ·rw [decide_eq_false h2]
  refine no _ (if_neg (fun h => ?_))
  have := tok_iff.1 h.2.1
  omega
theorem strange_length {p i : Int} {t : List M} (ht : t.length ≤ 1048576) : (strange p i t).1.length ≤ 1048580 := by
 unfold strange
 split
 ·simp only [wrapM_length]; omega
 ·simp
end Go.Proofs.Ytpampekijfjlkaa.L

/- Plain laws of terms, third text: what a valid row of marks says in a world, as a function of the row alone. -/
namespace Go.Proofs.Ytpampekijfjlkaa.L
open Go.RowKit Go.Proofs.Ytpampekijfjlkaa.X Go.Proofs.YtpampekijfjlkaaW.PrintWords Go.Proofs.YtpampekijfjlkaaW.PrintLast Go.Proofs.YtpampekijfjlkaaW.PrintMore

theorem Tm.good_four {p : Int} (hp : p ≤ 4) : ∀ a : Tm, a.good p → a.good 4
 | .tell i, h => by have h' : (i : Int) < p := h; show (i : Int) < 4; omega
 | .cnt n, h => by have h' : (n : Int) ≤ p + 1 := h; show (n : Int) ≤ 4 + 1; omega
 | .neg a, h => good_four hp a h
 | .bin o a b, h => ⟨h.1, good_four hp a h.2.1, good_four hp b h.2.2⟩
open Classical in
/-- The tree of a row of marks. -/
noncomputable def tree (t : List M) : Tm := if h : ∃ a : Tm, a.good 4 ∧ t = a.post then Classical.choose h else .tell 0
theorem tree_post {a : Tm} (h : a.good 4) : (tree a.post).good 4 ∧ a.post = (tree a.post).post := by
 have h' : ∃ b : Tm, b.good 4 ∧ a.post = b.post := ⟨a, h, rfl⟩
 unfold tree
 rw [dif_pos h']
 exact Classical.choose_spec h'
/-- Whether a row of marks holds in a world. -/
noncomputable def hv (t : List M) (w : Nat) : Bool := (tree t).ev w
theorem hv_post {a : Tm} (h : a.good 4) (hl : a.post.length ≤ 500) {w : Nat} (hw : w < 16) : hv a.post w = a.ev w := by
 obtain ⟨h1, h2⟩ := tree_post h
 have e1 := impl_holds_ev (by decide) hw h hl
 have e2 := impl_holds_ev (by decide) hw h1 (by rw [← h2]; exact hl)
 rw [← h2] at e2
 exact Ev.uniq e2 e1
theorem tok_tree {p : Int} {t : List M} (h : tok p t = true) : ∃ a : Tm, a.good p ∧ t = a.post ∧ a.good 4 ∧ t.length ≤ 15 := by
 obtain ⟨a, h1, h2⟩ := parse h
 obtain ⟨_, h3, _, h4, _⟩ := tok_iff.1 h
 exact ⟨a, h1, h2, a.good_four h3 h1, h4⟩
theorem impl_holds_hv {p : Int} {t : List M} (h : tok p t = true) {w : Nat} (hw : w < 16) : Ev (fun k => impl_holds.f k t (w : Int)) (hv t w) := by
 obtain ⟨a, _, rfl, h4, hl⟩ := tok_tree h
 rw [hv_post h4 (by omega) hw]
 exact impl_holds_ev (by decide) hw h4 (by omega)
theorem spec_holds_hv {p : Int} {t : List M} (h : tok p t = true) {w : Nat} (hw : w < 16) : Ev (fun k => spec_l3Holds.f k t (w : Int)) (hv t w) := by
 obtain ⟨a, _, rfl, h4, hl⟩ := tok_tree h
 rw [hv_post h4 (by omega) hw]
 exact l3Holds_ev (by decide) hw a h4 (by omega)
/-- Whether a claim may be made in a world. -/
noncomputable def may (i : Int) (t : List M) (w : Nat) : Bool := hv t w == w.testBit i.toNat
/-- The trick: a person's mark ahead, and the mark of sameness behind. -/
def wrapT (i : Int) (t : List M) : List M := ⟨0, i⟩ :: (t ++ [⟨5, 0⟩])
theorem scan_app {p : Int} : ∀ (s t : List M) (n m : Nat), scan p s n = some m → scan p (s ++ t) n = scan p t m
 | [], t, n, m, h => by simp only [scan] at h; cases h; rfl
 | ⟨f0, f1⟩ :: s, t, n, m, h => by
  simp only [scan, List.cons_append] at h ⊢
  by_cases h0 : f0 = 0
  ·rw [if_pos h0] at h ⊢
   by_cases h1 : 0 ≤ f1 ∧ f1 < p
   ·rw [if_pos h1] at h ⊢; exact scan_app s t _ m h
   ·rw [if_neg h1] at h; cases h
  rw [if_neg h0] at h ⊢
  by_cases h1 : f0 = 1
  ·rw [if_pos h1] at h ⊢
   by_cases h2 : 0 ≤ f1 ∧ f1 ≤ p + 1
   ·rw [if_pos h2] at h ⊢; exact scan_app s t _ m h
   ·rw [if_neg h2] at h; cases h
  rw [if_neg h1] at h ⊢
  by_cases h2 : f0 = 2
  ·rw [if_pos h2] at h ⊢
   by_cases h3 : f1 = 0 ∧ 1 ≤ n
   ·rw [if_pos h3] at h ⊢; exact scan_app s t _ m h
   ·rw [if_neg h3] at h; cases h
  rw [if_neg h2] at h ⊢
  by_cases h3 : f0 = 3 ∨ f0 = 4 ∨ f0 = 5
  ·rw [if_pos h3] at h ⊢
   by_cases h4 : f1 = 0 ∧ 2 ≤ n
   ·rw [if_pos h4] at h ⊢; exact scan_app s t _ m h
   ·rw [if_neg h4] at h; cases h
  ·rw [if_neg h3] at h; cases h
theorem scan_up {p : Int} : ∀ (s : List M) (n m d : Nat), scan p s n = some m → scan p s (n + d) = some (m + d)
 | [], n, m, d, h => by simp only [scan] at h ⊢; cases h; rfl
 | ⟨f0, f1⟩ :: s, n, m, d, h => by
  simp only [scan] at h ⊢
  by_cases h0 : f0 = 0
  ·rw [if_pos h0] at h ⊢
   by_cases h1 : 0 ≤ f1 ∧ f1 < p
   ·rw [if_pos h1] at h ⊢; rw [show n + d + 1 = n + 1 + d by omega]; exact scan_up s _ m d h
   ·rw [if_neg h1] at h; cases h
  rw [if_neg h0] at h ⊢
  by_cases h1 : f0 = 1
  ·rw [if_pos h1] at h ⊢
   by_cases h2 : 0 ≤ f1 ∧ f1 ≤ p + 1
   ·rw [if_pos h2] at h ⊢; rw [show n + d + 1 = n + 1 + d by omega]; exact scan_up s _ m d h
   ·rw [if_neg h2] at h; cases h
  rw [if_neg h1] at h ⊢
  by_cases h2 : f0 = 2
  ·rw [if_pos h2] at h ⊢
   by_cases h3 : f1 = 0 ∧ 1 ≤ n
   ·rw [if_pos h3] at h; rw [if_pos ⟨h3.1, by omega⟩]; exact scan_up s _ m d h
   ·rw [if_neg h3] at h; cases h
  rw [if_neg h2] at h ⊢
  by_cases h3 : f0 = 3 ∨ f0 = 4 ∨ f0 = 5
  ·rw [if_pos h3] at h ⊢
   by_cases h4 : f1 = 0 ∧ 2 ≤ n
   ·rw [if_pos h4] at h; rw [if_pos ⟨h4.1, by omega⟩, show n + d - 1 = n - 1 + d by omega]; exact scan_up s _ m d h
   ·rw [if_neg h4] at h; cases h
  ·rw [if_neg h3] at h; cases h
end Go.Proofs.Ytpampekijfjlkaa.L

/- What tricks and denials say. -/
namespace Go.Proofs.Ytpampekijfjlkaa.L
open Go.RowKit Go.Proofs.Ytpampekijfjlkaa.X Go.Proofs.YtpampekijfjlkaaW.PrintWords Go.Proofs.YtpampekijfjlkaaW.PrintLast Go.Proofs.YtpampekijfjlkaaW.PrintMore

theorem hv_wrap {p i : Int} {t : List M} (hk : tok p t = true) (h0 : 0 ≤ i) (h1 : i < p) {w : Nat} (hw : w < 16) : hv (wrapM i t) w = (w.testBit i.toNat == hv t w) := by
 obtain ⟨a, hg, rfl, h4, hl⟩ := tok_tree hk
 have hp4 := (tok_iff.1 hk).2.1
 obtain ⟨j, rfl⟩ := Int.eq_ofNat_of_zero_le h0
 have e : wrapM (j : Int) a.post = (Tm.bin 5 (.tell j) a).post := by simp [wrapM, Tm.post]
 rw [e, hv_post (a := .bin 5 (.tell j) a) ⟨by omega, by show (j : Int) < 4; omega, h4⟩ (by rw [← e, wrapM_length]; omega) hw, hv_post h4 (by omega) hw]
 simp [Tm.ev, bop]
theorem hv_not {p : Int} {t : List M} (hk : tok p t = true) {w : Nat} (hw : w < 16) : hv (t ++ [⟨2, 0⟩]) w = !hv t w := by
 obtain ⟨a, hg, rfl, h4, hl⟩ := tok_tree hk
 have e : a.post ++ [⟨2, 0⟩] = (Tm.neg a).post := by simp [Tm.post]
 rw [e, hv_post (a := .neg a) h4 (by rw [← e]; simp; omega) hw, hv_post h4 (by omega) hw]
 simp [Tm.ev]
theorem hv_tell {j w : Nat} (hj : j < 4) (hw : w < 16) : hv [⟨0, (j : Int)⟩] w = w.testBit j := by
 have e : ([⟨0, (j : Int)⟩] : List M) = (Tm.tell j).post := rfl
 rw [e, hv_post (a := .tell j) (by show (j : Int) < 4; omega) (by simp [Tm.post]) hw]
 rfl
theorem may_wrap {p i : Int} {t : List M} (hk : tok p t = true) (h0 : 0 ≤ i) (h1 : i < p) {w : Nat} (hw : w < 16) : may i (wrapM i t) w = hv t w := by
 unfold may
 rw [hv_wrap hk h0 h1 hw]
 cases w.testBit i.toNat <;> cases hv t w <;> rfl
end Go.Proofs.Ytpampekijfjlkaa.L

/- Plain laws of tables: the worlds in which something holds, as the bits of a number. -/
namespace Go.Proofs.Ytpampekijfjlkaa.L
open Go.RowKit Go.Proofs.Ytpampekijfjlkaa.X Go.Proofs.YtpampekijfjlkaaW.PrintWords Go.Proofs.YtpampekijfjlkaaW.PrintLast Go.Proofs.YtpampekijfjlkaaW.PrintMore

/-- The worlds below n in which P holds, as bits. -/
def tabL (P : Nat → Bool) : Nat → Nat
 | 0 => 0
 | n + 1 => tabL P n ||| (if P n = true then 2 ^ n else 0)
theorem tabL_bit (P : Nat → Bool) : ∀ n w, (tabL P n).testBit w = (decide (w < n) && P w)
 | 0, w => by simp [tabL]
 | n + 1, w => by
  rw [tabL, Nat.testBit_or, tabL_bit P n w]
  by_cases e : w = n
  ·subst e
   by_cases h : P w = true
   ·rw [if_pos h, Nat.testBit_two_pow_self, h]; simp
   ·rw [if_neg h, Nat.zero_testBit]; simp at h; simp [h]
  ·have h1 : (if P n = true then 2 ^ n else 0).testBit w = false := by
    by_cases h : P n = true
    ·rw [if_pos h, Nat.testBit_two_pow]; simp; omega
    ·rw [if_neg h, Nat.zero_testBit]
   rw [h1, Bool.or_false]
   congr 1
   exact decide_eq_decide.mpr (by omega)
theorem lt_of_bits {x n : Nat} (h : ∀ w, n ≤ w → x.testBit w = false) : x < 2 ^ n := Nat.lt_pow_two_of_testBit x (fun w hw => h w hw)
theorem tabL_lt (P : Nat → Bool) (n : Nat) : tabL P n < 2 ^ n := lt_of_bits (fun w hw => by rw [tabL_bit]; simp; omega)
theorem tabL_congr {P Q : Nat → Bool} {n : Nat} (h : ∀ w, w < n → P w = Q w) : tabL P n = tabL Q n := by
 apply Nat.eq_of_testBit_eq
 intro w
 rw [tabL_bit, tabL_bit]
 by_cases hw : w < n
 ·rw [h w hw]
 ·simp [hw]
theorem tabL_inj {P Q : Nat → Bool} {n : Nat} (h : tabL P n = tabL Q n) : ∀ w, w < n → P w = Q w := by
 intro w hw
 have := tabL_bit P n w
 rw [h, tabL_bit] at this
 simpa [hw] using this.symm
theorem tabL_mono {P : Nat → Bool} {n : Nat} (hn : n ≤ 16) : tabL P n < 65536 := by
 have := tabL_lt P n
 have h : (2 : Nat) ^ n ≤ 2 ^ 16 := Nat.pow_le_pow_right (by decide) hn
 omega
/-! ### The machine's words of bits -/
theorem wrap_i64_small (n : Int) (h0 : 0 ≤ n) (h1 : n < 2 ^ 32) : IntKind.i64.wrap n = n := by rw [IntKind.wrap_i64]; omega
theorem or_nat {a b : Nat} (ha : a < 2 ^ 32) (hb : b < 2 ^ 32) : Go.bits .or .i64 (a : Int) (b : Int) = ((a ||| b : Nat) : Int) := (bits_nat .i64 32 (by decide) wrap_i64_small a b ha hb).2
theorem and_nat {a b : Nat} (ha : a < 2 ^ 32) (hb : b < 2 ^ 32) : Go.bits .and .i64 (a : Int) (b : Int) = ((a &&& b : Nat) : Int) := (bits_nat .i64 32 (by decide) wrap_i64_small a b ha hb).1
theorem shl_fin : ∀ i : Fin 31, shl .i64 1 ((i.val : Nat) : Int) = ((2 ^ i.val : Nat) : Int) := by decide +kernel
theorem shl_nat {i : Nat} (hi : i < 31) : shl .i64 1 (i : Int) = ((2 ^ i : Nat) : Int) := shl_fin ⟨i, hi⟩
theorem shlu_fin : ∀ i : Fin 6, shl .u64 1 ((i.val : Nat) : Int) = ((2 ^ i.val : Nat) : Int) := by decide +kernel
theorem shlu_nat {i : Nat} (hi : i < 6) : shl .u64 1 (i : Int) = ((2 ^ i : Nat) : Int) := shlu_fin ⟨i, hi⟩
theorem or_step {P : Nat → Bool} {i : Nat} (hi : i < 16) (h : P i = true) : Go.bits .or .i64 ((tabL P i : Nat) : Int) (shl .i64 1 (i : Int)) = ((tabL P (i + 1) : Nat) : Int) := by
 have h1 := tabL_lt P i
 have h2 : (2 : Nat) ^ i < 2 ^ 16 := Nat.pow_lt_pow_right (by decide) hi
 rw [shl_nat (by omega), or_nat (by omega) (by omega), tabL, if_pos h]
theorem not_step {P : Nat → Bool} {i : Nat} (h : ¬ P i = true) : tabL P (i + 1) = tabL P i := by rw [tabL, if_neg h, Nat.or_zero]
theorem people_nat {p : Int} (h0 : 1 ≤ p) (h1 : p ≤ 4) : ∃ q : Nat, p = (q : Int) ∧ 1 ≤ q ∧ q ≤ 4 ∧ 2 ^ q ≤ 16 ∧ p.toNat = q := by
 obtain ⟨q, rfl⟩ := Int.eq_ofNat_of_zero_le (show 0 ≤ p by omega)
 refine ⟨q, rfl, by omega, by omega, ?_, by simp⟩
 have : (2 : Nat) ^ q ≤ 2 ^ 4 := Nat.pow_le_pow_right (by decide) (by omega)
 omega
end Go.Proofs.Ytpampekijfjlkaa.L

-- printed by a program of this session's (xprint)
namespace Go.Proofs.Ytpampekijfjlkaa.X
open Go.RowKit Go.Proofs.YtpampekijfjlkaaW.PrintWords Go.Proofs.YtpampekijfjlkaaW.PrintLast Go.Proofs.YtpampekijfjlkaaW.PrintMore
attribute [local go_sem] max2_int min2_int max_two min_two max_three min_three max_four min_four   -- for this text's walks alone
set_option linter.unusedVariables false
set_option linter.unusedSimpArgs false

/-! ### spec_WorldOk: function 97 -/
def spec_WorldOk.f (a0 : Int) (a1 : Int) : Option (Bool) := (spec_l1In.f a0 1 4).bind fun t348 => (if t348 = true then (if 0 ≤ a0 then ((spec_l1In.f a1 0 (wrap64 ((shl .i64 1 a0) - 1))).bind fun t349 => (some t349)) else (none)) else (some false))
set_option maxHeartbeats 8000000 in
set_option maxRecDepth 100000 in
theorem spec_WorldOk.calls (a0 : Int) (a1 : Int) (r : Bool) (w : World) (h : spec_WorldOk.f a0 a1 = some r) :
  Calls Try.prog 97 #[.int .i64 a0, .int .i64 a1] w fun e w' => e = .returned (.bool r) ∧ Drawn0 w w' := by
 have H : ((spec_l1In.f a0 1 4).bind fun t348 => (if t348 = true then (if 0 ≤ a0 then ((spec_l1In.f a1 0 (wrap64 ((shl .i64 1 a0) - 1))).bind fun t349 => (some t349)) else (none)) else (some false))) = some r := h
 clear h
 replace H := Option.bind_eq_some_iff.mp H
 obtain ⟨t348, A30, H⟩ := H
 replace H : (if t348 = true then (if 0 ≤ a0 then ((spec_l1In.f a1 0 (wrap64 ((shl .i64 1 a0) - 1))).bind fun t349 => (some t349)) else (none)) else (some false)) = some r := H
 have A3 := Aside0.mk A30
 clear A30
 by_cases c4 : t348 = true
 ·subst c4
  have H1 : (if 0 ≤ a0 then ((spec_l1In.f a1 0 (wrap64 ((shl .i64 1 a0) - 1))).bind fun t349 => (some t349)) else (none)) = some r := by rw [if_pos rfl] at H; exact H
  clear H
  have H := H1
  clear H1
  by_cases c5 : 0 ≤ a0
  ·rw [if_pos c5] at H
   have c5b0 := eq_true c5
   have c5b1 : decide (0 ≤ a0) = true := decide_eq_true c5
   clear c5
   obtain ⟨ji6, hji6⟩ : ∃ j_ : Int, (shl .i64 1 a0) = j_ := ⟨_, rfl⟩
   replace H : ((spec_l1In.f a1 0 (wrap64 ((ji6) - 1))).bind fun t349 => (some t349)) = some r := by first | (rw [hji6] at H; exact H) | (simp only [hji6] at H ⊢; exact H)
   (try rw [hji6] at A3)
   have hji6_ : (IntKind.i64.wrap (1 * 2 ^ min a0.toNat 64)) = ji6 := hji6
   have hji6z : a0 ≤ 64 → (IntKind.i64.wrap (1 * 2 ^ a0.toNat)) = ji6 := shl_small hji6
   have hji6u : (IntKind.i64.wrap (2 ^ min a0.toNat 64)) = ji6 := by have h_ := hji6_; rw [Int.one_mul] at h_; exact h_
   have hji6v : a0 ≤ 64 → (IntKind.i64.wrap (2 ^ a0.toNat)) = ji6 := fun hle_ => by have h_ := hji6z hle_; rw [Int.one_mul] at h_; exact h_
   have hji6y : (wrap64 (1 * 2 ^ min a0.toNat 64)) = ji6 := (i64_w _).symm.trans hji6_
   have hji6x : a0 ≤ 64 → (wrap64 (1 * 2 ^ a0.toNat)) = ji6 := fun h_ => (i64_w _).symm.trans (hji6z h_)
   replace H := Option.bind_eq_some_iff.mp H
   obtain ⟨t349, A70, H⟩ := H
   replace H : (some t349) = some r := H
   have A7 := Aside0.mk A70
   clear A70
   obtain rfl := Option.some.inj H
   go_enter Try.func97, Try.ntmps97
   go_wp2_with (first | ((with_reducible refine gate_callee (f := 98) rfl ?_); refine goesL_ (some 6) rfl rfl Try.func98 (by kernel_rfl) rfl #[.int .i64 a0, .int .i64 1, .int .i64 4] rfl (by (try simp only [List.map_toArray, List.map_cons, List.map_nil]); first | done | rfl | (simp only [List.length_drop, List.length_take]; rfl)) ?_; (with_reducible refine (spec_l1In.calls a0 1 4 true _ A3.out).mono ?_); rintro e w' ⟨rfl, ⟨nd, rfl⟩⟩; refine ⟨_, rfl, ?_⟩) | (go_at_call 98; (with_reducible refine (spec_l1In.calls a1 0 (wrap64 ((ji6) - 1)) t349 _ A7.out).mono ?_); rintro e w' ⟨rfl, ⟨nd, rfl⟩⟩))
   go_ret
   exact ⟨by first | rfl | (simp; done) | (simp only [← hji6] <;> (first | rfl | simp)) | (simp [*]; done), by repeat (first | exact Drawn0.refl _ | apply Drawn0.step)⟩
  ·rw [if_neg c5] at H
   exact absurd H (by simp)
 ·replace c4 := Bool.eq_false_iff.mpr c4
  subst c4
  have H1 : (some false) = some r := by rw [if_neg (show ¬ (false = true) by decide)] at H; exact H
  clear H
  have H := H1
  clear H1
  obtain rfl := Option.some.inj H
  go_enter Try.func97, Try.ntmps97
  go_wp2_with (first | ((with_reducible refine gate_callee (f := 98) rfl ?_); refine goesL_ (some 6) rfl rfl Try.func98 (by kernel_rfl) rfl #[.int .i64 a0, .int .i64 1, .int .i64 4] rfl (by (try simp only [List.map_toArray, List.map_cons, List.map_nil]); first | done | rfl | (simp only [List.length_drop, List.length_take]; rfl)) ?_; (with_reducible refine (spec_l1In.calls a0 1 4 false _ A3.out).mono ?_); rintro e w' ⟨rfl, ⟨nd, rfl⟩⟩; refine ⟨_, rfl, ?_⟩))
  go_ret
  exact ⟨by first | rfl | (simp; done) | (simp [*]; done), by repeat (first | exact Drawn0.refl _ | apply Drawn0.step)⟩

end Go.Proofs.Ytpampekijfjlkaa.X

/- Plain laws of worlds: which are ones. -/
namespace Go.Proofs.Ytpampekijfjlkaa.L
open Go.RowKit Go.Proofs.Ytpampekijfjlkaa.X Go.Proofs.YtpampekijfjlkaaW.PrintWords Go.Proofs.YtpampekijfjlkaaW.PrintLast Go.Proofs.YtpampekijfjlkaaW.PrintMore

/-- A world of so many people. -/
def wok (p w : Int) : Bool := decide (1 ≤ p ∧ p ≤ 4 ∧ 0 ≤ w ∧ w < ((2 ^ p.toNat : Nat) : Int))
theorem wok_iff {p w : Int} : wok p w = true ↔ 1 ≤ p ∧ p ≤ 4 ∧ 0 ≤ w ∧ w < ((2 ^ p.toNat : Nat) : Int) := by unfold wok; simp
theorem wok_nat {p w : Int} (h : wok p w = true) : ∃ v : Nat, w = (v : Int) ∧ v < 16 ∧ v < 2 ^ p.toNat := by
 obtain ⟨h0, h1, h2, h3⟩ := wok_iff.1 h
 obtain ⟨q, rfl, _, _, hq, e⟩ := people_nat h0 h1
 obtain ⟨v, rfl⟩ := Int.eq_ofNat_of_zero_le h2
 rw [e] at h3 ⊢
 exact ⟨v, rfl, by omega, by omega⟩
theorem impl_WorldOk_eq (p w : Int) : impl_WorldOk.f p w = some (wok p w) := by
 unfold impl_WorldOk.f
 simp only [peopleOk_eq, Option.bind_some]
 by_cases h : 1 ≤ p ∧ p ≤ 4
 ·obtain ⟨q, rfl, _, hq4, hq, e⟩ := people_nat h.1 h.2
  rw [if_pos (decide_eq_true h)]
  by_cases h0 : w ≥ 0
  ·rw [if_pos h0, if_pos (by omega), shl_nat (by omega)]
   congr 1
   unfold wok
   rw [e]
   exact decide_eq_decide.mpr ⟨fun hw => ⟨h.1, h.2, h0, hw⟩, fun hw => hw.2.2.2⟩
  ·rw [if_neg h0]
   congr 1
   exact (decide_eq_false (fun hw => h0 hw.2.2.1)).symm
 ·rw [if_neg (by simpa using h)]
  congr 1
  exact (decide_eq_false (fun hw => h ⟨hw.1, hw.2.1⟩)).symm
theorem spec_WorldOk_eq (p w : Int) : spec_WorldOk.f p w = some (wok p w) := by
 unfold spec_WorldOk.f
 simp only [l1In_eq, Option.bind_some]
 by_cases h : 1 ≤ p ∧ p ≤ 4
 ·obtain ⟨q, rfl, _, hq4, hq, e⟩ := people_nat h.1 h.2
  have hpos : 1 ≤ 2 ^ q := Nat.one_le_two_pow
  rw [if_pos (decide_eq_true h), if_pos (by omega), shl_nat (by omega), w64 (by omega) (by omega)]
  congr 1
  unfold wok
  rw [e]
  exact decide_eq_decide.mpr ⟨fun hw => ⟨h.1, h.2, hw.1, by omega⟩, fun hw => ⟨hw.2.2.1, by omega⟩⟩
 ·rw [if_neg (by simpa using h)]
  congr 1
  exact (decide_eq_false (fun hw => h ⟨hw.1, hw.2.1⟩)).symm
end Go.Proofs.Ytpampekijfjlkaa.L

/- Plain law of what holds. -/
namespace Go.Proofs.Ytpampekijfjlkaa.L
open Go.RowKit Go.Proofs.Ytpampekijfjlkaa.X Go.Proofs.YtpampekijfjlkaaW.PrintWords Go.Proofs.YtpampekijfjlkaaW.PrintLast Go.Proofs.YtpampekijfjlkaaW.PrintMore

noncomputable def holdsIn (p : Int) (t : List M) (w : Int) : Bool := if tok p t = true ∧ wok p w = true then hv t w.toNat else false
theorem impl_HoldsIn_ev (p : Int) (t : List M) (w : Int) : Ev (fun k => impl_HoldsIn.f k p t w) (holdsIn p t w) := by
 unfold impl_HoldsIn.f
 refine Ev.bind (impl_TermOk_ev p t) ?_
 by_cases hk : tok p t = true
 ·refine Ev.yes hk ?_
  rw [impl_WorldOk_eq]
  simp only [Option.bind_some]
  by_cases hw : wok p w = true
  ·obtain ⟨v, rfl, hv', _⟩ := wok_nat hw
   refine Ev.yes hw (Ev.bind (impl_holds_hv hk hv') (Ev.cast (Ev.some _) ?_))
   exact (if_pos ⟨hk, hw⟩).symm
  ·exact Ev.no hw (Ev.cast (Ev.some _) (if_neg (fun h => hw h.2)).symm)
 ·exact Ev.no hk (Ev.cast (Ev.some _) (if_neg (fun h => hk h.1)).symm)
theorem wok_of {q j : Nat} (h1 : 1 ≤ q) (h4 : q ≤ 4) (hj : j < 2 ^ q) : wok (q : Int) (j : Int) = true := wok_iff.2 ⟨by omega, by omega, by omega, by rw [Int.toNat_natCast]; omega⟩
theorem holdsIn_of {q j : Nat} {t : List M} (hk : tok (q : Int) t = true) (hj : j < 2 ^ q) : holdsIn (q : Int) t (j : Int) = hv t j := by
 have h := tok_iff.1 hk
 exact if_pos ⟨hk, wok_of (by omega) (by omega) hj⟩
end Go.Proofs.Ytpampekijfjlkaa.L

-- printed by a program of this session's (xprint)
namespace Go.Proofs.Ytpampekijfjlkaa.X
open Go.RowKit Go.Proofs.YtpampekijfjlkaaW.PrintWords Go.Proofs.YtpampekijfjlkaaW.PrintLast Go.Proofs.YtpampekijfjlkaaW.PrintMore
attribute [local go_sem] max2_int min2_int max_two min_two max_three min_three max_four min_four   -- for this text's walks alone
set_option linter.unusedVariables false
set_option linter.unusedSimpArgs false

/-! ### spec_l4May: function 99 -/
def spec_l4May.f (k : Nat) (a0_0 : Int) (l0_1 : List (S52)) (a1 : Int) : Option (Bool) := if 0 ≤ a0_0 then ((spec_l3Holds.f k l0_1 a1).bind fun t165 => (some (((Int.tmod (shr .i64 a1 a0_0) 2) == 1) == t165))) else (none)
theorem spec_l4May.mono : ∀ a0 a1 a2 k, LeO (spec_l4May.f k a0 a1 a2) (spec_l4May.f (k + 1) a0 a1 a2) := by
 intro a0 a1 a2 k
 unfold spec_l4May.f
 repeat' first
   | (with_reducible exact spec_l3Holds.mono _ _ _)
   | (with_reducible exact LeO.refl _)
   | (with_reducible exact LeO.none _)
   | (with_reducible refine LeO.ite ?_ ?_)
   | (with_reducible refine LeO.bind ?_ (fun _ => ?_))
   | exact spec_l3Holds.mono _ _ _
   | exact LeO.none _
   | refine LeO.ite ?_ ?_
   | refine LeO.bind ?_ (fun _ => ?_)
set_option maxHeartbeats 8000000 in
set_option maxRecDepth 100000 in
theorem spec_l4May.calls (k : Nat) (a0_0 : Int) (A0_1 : Option Addr) (c0_1 : Nat) (l0_1 : List (S52)) (a1 : Int) (r : Bool) (w : World) (hr0_1 : Kd.C k52 w A0_1 l0_1.length l0_1) (hc0_1 : l0_1.length ≤ c0_1) (h : spec_l4May.f k a0_0 l0_1 a1 = some r) :
  Calls Try.prog 99 #[.agg #[.int .i64 a0_0, .slice A0_1 l0_1.length c0_1], .int .i64 a1] w fun e w' => e = .returned (.bool r) ∧ Below w.heap.size w w' := by
 have hu50 := Try.underlying50
 have HR0_1 := Aside0.mk hr0_1
 have HC0_1 := Aside0.mk hc0_1
 clear hr0_1 hc0_1
 have HB := Aside0.mk (Below.refl w.heap.size w)
 have H : (if 0 ≤ a0_0 then ((spec_l3Holds.f k l0_1 a1).bind fun t165 => (some (((Int.tmod (shr .i64 a1 a0_0) 2) == 1) == t165))) else (none)) = some r := h
 clear h
 by_cases c3 : 0 ≤ a0_0
 ·rw [if_pos c3] at H
  have c3b0 := eq_true c3
  have c3b1 : decide (0 ≤ a0_0) = true := decide_eq_true c3
  clear c3
  obtain ⟨ji4, hji4⟩ : ∃ j_ : Int, (shr .i64 a1 a0_0) = j_ := ⟨_, rfl⟩
  replace H : ((spec_l3Holds.f k l0_1 a1).bind fun t165 => (some (((Int.tmod (ji4) 2) == 1) == t165))) = some r := by first | (rw [hji4] at H; exact H) | (simp only [hji4] at H ⊢; exact H)
  have hji4_ : (a1 / 2 ^ min a0_0.toNat 64) = ji4 := hji4
  have hji4z : a0_0 ≤ 64 → (a1 / 2 ^ a0_0.toNat) = ji4 := shr_small hji4
  replace H := Option.bind_eq_some_iff.mp H
  obtain ⟨t165, A50, H⟩ := H
  replace H : (some (((Int.tmod (ji4) 2) == 1) == t165)) = some r := H
  have A5 := Aside0.mk A50
  clear A50
  obtain rfl := Option.some.inj H
  go_enter Try.func99, Try.ntmps99
  go_wp2_with (first | ((with_reducible refine gate_dst (N := 2) rfl ?_); refine box_event ?hg (N := 2) ?hd (cs := #[.int .i64 a0_0, .slice A0_1 l0_1.length c0_1]) (t := 50) ?hr ?_; (case hd => rfl); (case hg => rfl); (case hr => first | (go_simp; done) | (go_simp; rfl)); intro gb164 hg w6 hbox hb; have n0_ := Aside0.mk (below_step (by repeat (first | (with_reducible first | exact HB.out | apply below_alloc | apply pw_below_drewN | apply below_drew1) | exact HB.out)) hb); have n1_ := Aside0.mk (hbox); have n2_ := Aside0.mk ((by rw [hg]; exact (below_size (by repeat (first | (with_reducible first | exact HB.out | apply below_alloc | apply pw_below_drewN | apply below_drew1) | exact HB.out))) : w.heap.size ≤ gb164)); have n3_ := Aside0.mk ((by rw [hg]; exact (below_size (by repeat (first | (with_reducible first | exact HB.out | apply below_alloc | apply pw_below_drewN | apply below_drew1) | exact HB.out))) : w.heap.size ≤ gb164)); clear HB; have HB := n0_; have BK164 := n1_; have GW164 := n2_; have GE164 := n3_; clear n0_ n1_ n2_ n3_; clear hb hbox hg; have hcz7_0 : w6.cell? ⟨gb164, 0, none⟩ = some (.int .i64 a0_0) := (blk_cell BK164.out 0).trans rfl; have hcz7_1 : w6.cell? ⟨gb164, 1, none⟩ = some (.slice A0_1 l0_1.length c0_1) := (blk_cell BK164.out 1).trans rfl; have hfz7_0 := blk_frozen BK164.out 0; have hfz7_1 := blk_frozen BK164.out 1) | (go_at_call 129; (with_reducible refine (spec_l3Holds.calls k _ _ l0_1 a1 t165 _ ?side1 ?side2 A5.out).mono ?_); (case side1 => repeat (first | exact (Kd.C_below HR0_1.out HB.out) | (with_reducible refine Kd.C_alloc ?_ _) | (with_reducible refine Kd.C_drewN ?_ _) | (with_reducible refine Kd.C_drew ?_))); (case side2 => exact HC0_1.out); rintro e w' ⟨rfl, ⟨nd, rfl⟩⟩; (try first | exact ⟨rfl, _, World.drewN_drewN _ _ _⟩ | exact ⟨rfl, _, Eq.trans (World.drewN_drewN _ _ _) (congrArg (World.drewN _) (Nat.add_assoc _ _ _))⟩)))
  repeat (go_quiet (first | ((with_reducible refine gate_dst (N := 2) rfl ?_); refine box_event ?hg (N := 2) ?hd (cs := #[.int .i64 a0_0, .slice A0_1 l0_1.length c0_1]) (t := 50) ?hr ?_; (case hd => rfl); (case hg => rfl); (case hr => first | (go_simp; done) | (go_simp; rfl)); intro gb164 hg w6 hbox hb; have n0_ := Aside0.mk (below_step (by repeat (first | (with_reducible first | exact HB.out | apply below_alloc | apply pw_below_drewN | apply below_drew1) | exact HB.out)) hb); have n1_ := Aside0.mk (hbox); have n2_ := Aside0.mk ((by rw [hg]; exact (below_size (by repeat (first | (with_reducible first | exact HB.out | apply below_alloc | apply pw_below_drewN | apply below_drew1) | exact HB.out))) : w.heap.size ≤ gb164)); have n3_ := Aside0.mk ((by rw [hg]; exact (below_size (by repeat (first | (with_reducible first | exact HB.out | apply below_alloc | apply pw_below_drewN | apply below_drew1) | exact HB.out))) : w.heap.size ≤ gb164)); clear HB; have HB := n0_; have BK164 := n1_; have GW164 := n2_; have GE164 := n3_; clear n0_ n1_ n2_ n3_; clear hb hbox hg; have hcz7_0 : w6.cell? ⟨gb164, 0, none⟩ = some (.int .i64 a0_0) := (blk_cell BK164.out 0).trans rfl; have hcz7_1 : w6.cell? ⟨gb164, 1, none⟩ = some (.slice A0_1 l0_1.length c0_1) := (blk_cell BK164.out 1).trans rfl; have hfz7_0 := blk_frozen BK164.out 0; have hfz7_1 := blk_frozen BK164.out 1) | (go_at_call 129; (with_reducible refine (spec_l3Holds.calls k _ _ l0_1 a1 t165 _ ?side1 ?side2 A5.out).mono ?_); (case side1 => repeat (first | exact (Kd.C_below HR0_1.out HB.out) | (with_reducible refine Kd.C_alloc ?_ _) | (with_reducible refine Kd.C_drewN ?_ _) | (with_reducible refine Kd.C_drew ?_))); (case side2 => exact HC0_1.out); rintro e w' ⟨rfl, ⟨nd, rfl⟩⟩; (try first | exact ⟨rfl, _, World.drewN_drewN _ _ _⟩ | exact ⟨rfl, _, Eq.trans (World.drewN_drewN _ _ _) (congrArg (World.drewN _) (Nat.add_assoc _ _ _))⟩))); try go_wp2_with (first | ((with_reducible refine gate_dst (N := 2) rfl ?_); refine box_event ?hg (N := 2) ?hd (cs := #[.int .i64 a0_0, .slice A0_1 l0_1.length c0_1]) (t := 50) ?hr ?_; (case hd => rfl); (case hg => rfl); (case hr => first | (go_simp; done) | (go_simp; rfl)); intro gb164 hg w6 hbox hb; have n0_ := Aside0.mk (below_step (by repeat (first | (with_reducible first | exact HB.out | apply below_alloc | apply pw_below_drewN | apply below_drew1) | exact HB.out)) hb); have n1_ := Aside0.mk (hbox); have n2_ := Aside0.mk ((by rw [hg]; exact (below_size (by repeat (first | (with_reducible first | exact HB.out | apply below_alloc | apply pw_below_drewN | apply below_drew1) | exact HB.out))) : w.heap.size ≤ gb164)); have n3_ := Aside0.mk ((by rw [hg]; exact (below_size (by repeat (first | (with_reducible first | exact HB.out | apply below_alloc | apply pw_below_drewN | apply below_drew1) | exact HB.out))) : w.heap.size ≤ gb164)); clear HB; have HB := n0_; have BK164 := n1_; have GW164 := n2_; have GE164 := n3_; clear n0_ n1_ n2_ n3_; clear hb hbox hg; have hcz7_0 : w6.cell? ⟨gb164, 0, none⟩ = some (.int .i64 a0_0) := (blk_cell BK164.out 0).trans rfl; have hcz7_1 : w6.cell? ⟨gb164, 1, none⟩ = some (.slice A0_1 l0_1.length c0_1) := (blk_cell BK164.out 1).trans rfl; have hfz7_0 := blk_frozen BK164.out 0; have hfz7_1 := blk_frozen BK164.out 1) | (go_at_call 129; (with_reducible refine (spec_l3Holds.calls k _ _ l0_1 a1 t165 _ ?side1 ?side2 A5.out).mono ?_); (case side1 => repeat (first | exact (Kd.C_below HR0_1.out HB.out) | (with_reducible refine Kd.C_alloc ?_ _) | (with_reducible refine Kd.C_drewN ?_ _) | (with_reducible refine Kd.C_drew ?_))); (case side2 => exact HC0_1.out); rintro e w' ⟨rfl, ⟨nd, rfl⟩⟩; (try first | exact ⟨rfl, _, World.drewN_drewN _ _ _⟩ | exact ⟨rfl, _, Eq.trans (World.drewN_drewN _ _ _) (congrArg (World.drewN _) (Nat.add_assoc _ _ _))⟩))))
  go_ret
  exact ⟨by first | rfl | (simp [errW_none, errW_some] <;> rfl) | (simp only [← hji4]; first | rfl | (simp [errW_none, errW_some] <;> rfl)) | (simp [*, errW_none, errW_some] <;> rfl), by repeat (first | (with_reducible first | exact HB.out | apply below_alloc | apply pw_below_drewN | apply below_drew1 | refine below_set ?_ GE164.out) | exact HB.out)⟩
 ·rw [if_neg c3] at H
  exact absurd H (by simp)

end Go.Proofs.Ytpampekijfjlkaa.X

/- Plain law of the reference's test whether a claim may be made. -/
namespace Go.Proofs.Ytpampekijfjlkaa.L
open Go.RowKit Go.Proofs.Ytpampekijfjlkaa.X Go.Proofs.YtpampekijfjlkaaW.PrintWords Go.Proofs.YtpampekijfjlkaaW.PrintLast Go.Proofs.YtpampekijfjlkaaW.PrintMore

theorem spec_may_ev {p i : Int} {t : List M} (h2 : tok p t = true) (h0 : 0 ≤ i) (h1 : i < p) {w : Nat} (hw : w < 16) : Ev (fun k => spec_l4May.f k i t (w : Int)) (may i t w) := by
 have h4 := (tok_iff.1 h2).2.1
 obtain ⟨j, rfl⟩ := Int.eq_ofNat_of_zero_le h0
 unfold spec_l4May.f
 refine Ev.yes h0 (Ev.bind (spec_holds_hv h2 hw) (Ev.cast (Ev.some _) ?_))
 rw [bit_mod' hw (show j < 4 by omega)]
 unfold may
 exact Bool.beq_comm
end Go.Proofs.Ytpampekijfjlkaa.L

-- printed by a program of this session's (xprint)
namespace Go.Proofs.Ytpampekijfjlkaa.X
open Go.RowKit Go.Proofs.YtpampekijfjlkaaW.PrintWords Go.Proofs.YtpampekijfjlkaaW.PrintLast Go.Proofs.YtpampekijfjlkaaW.PrintMore
attribute [local go_sem] max2_int min2_int max_two min_two max_three min_three max_four min_four   -- for this text's walks alone
set_option linter.unusedVariables false
set_option linter.unusedSimpArgs false

/-! ### spec_AnswerIn: function 31 -/
def spec_AnswerIn.j0 : Nat → Int → List (S52) → Int → Bool → Option (Int)
 | 0, _, _, _, _ => none
 | k + 1, x1, x2, x3, x25 => if x25 = true then (some (-1)) else ((spec_l4May.f k x1 x2 x3).bind fun t353 => (if t353 = true then (some 1) else (some 0)))
def spec_AnswerIn.f (k : Nat) (a0 : Int) (a1 : Int) (l2 : List (S52)) (a3 : Int) : Option (Int) := (spec_TermOk.f k a0 l2).bind fun t350 => (if t350 = true then ((spec_WorldOk.f a0 a3).bind fun t351 => (if t351 = true then ((spec_l1In.f a1 0 (wrap64 (a0 - 1))).bind fun t352 => (spec_AnswerIn.j0 k a1 l2 a3 (!t352))) else (spec_AnswerIn.j0 k a1 l2 a3 true))) else (spec_AnswerIn.j0 k a1 l2 a3 true))
theorem spec_AnswerIn.mono_l : ∀ k, (∀ y0 y1 y2 y3, LeO (spec_AnswerIn.j0 k y0 y1 y2 y3) (spec_AnswerIn.j0 (k + 1) y0 y1 y2 y3))
 | 0 => fun _ _ _ _ r h => by simp [spec_AnswerIn.j0] at h
 | k + 1 => by
  have ih0 := spec_AnswerIn.mono_l k
  ·intro y0 y1 y2 y3
   unfold spec_AnswerIn.j0
   repeat' first
   | (with_reducible exact ih0 _ _ _ _)
   | (with_reducible exact spec_TermOk.mono _ _ _)
   | (with_reducible exact spec_l4May.mono _ _ _ _)
   | (with_reducible exact LeO.refl _)
   | (with_reducible exact LeO.none _)
   | (with_reducible refine LeO.ite ?_ ?_)
   | (with_reducible refine LeO.bind ?_ (fun _ => ?_))
   | exact ih0 _ _ _ _
   | exact spec_TermOk.mono _ _ _
   | exact spec_l4May.mono _ _ _ _
   | exact LeO.none _
   | refine LeO.ite ?_ ?_
   | refine LeO.bind ?_ (fun _ => ?_)
theorem spec_AnswerIn.mono : ∀ a0 a1 a2 a3 k, LeO (spec_AnswerIn.f k a0 a1 a2 a3) (spec_AnswerIn.f (k + 1) a0 a1 a2 a3) := by
 intro a0 a1 a2 a3 k
 have ih0 := spec_AnswerIn.mono_l k
 unfold spec_AnswerIn.f
 repeat' first
   | (with_reducible exact ih0 _ _ _ _)
   | (with_reducible exact spec_TermOk.mono _ _ _)
   | (with_reducible exact spec_l4May.mono _ _ _ _)
   | (with_reducible exact LeO.refl _)
   | (with_reducible exact LeO.none _)
   | (with_reducible refine LeO.ite ?_ ?_)
   | (with_reducible refine LeO.bind ?_ (fun _ => ?_))
   | exact ih0 _ _ _ _
   | exact spec_TermOk.mono _ _ _
   | exact spec_l4May.mono _ _ _ _
   | exact LeO.none _
   | refine LeO.ite ?_ ?_
   | refine LeO.bind ?_ (fun _ => ?_)
set_option maxHeartbeats 8000000 in
set_option maxRecDepth 100000 in
theorem spec_AnswerIn.calls (k : Nat) (a0 : Int) (a1 : Int) (A2 : Option Addr) (c2 : Nat) (l2 : List (S52)) (a3 : Int) (r : Int) (w : World) (hr2 : Kd.C k52 w A2 l2.length l2) (hc2 : l2.length ≤ c2) (h : spec_AnswerIn.f k a0 a1 l2 a3 = some r) :
  Calls Try.prog 31 #[.int .i64 a0, .int .i64 a1, .slice A2 l2.length c2, .int .i64 a3] w fun e w' => e = .returned (.int .i64 r) ∧ Below w.heap.size w w' := by
 have hu50 := Try.underlying50
 have HR2 := Aside0.mk hr2
 have HC2 := Aside0.mk hc2
 clear hr2 hc2
 have HB := Aside0.mk (Below.refl w.heap.size w)
 have H : ((spec_TermOk.f k a0 l2).bind fun t350 => (if t350 = true then ((spec_WorldOk.f a0 a3).bind fun t351 => (if t351 = true then ((spec_l1In.f a1 0 (wrap64 (a0 - 1))).bind fun t352 => (spec_AnswerIn.j0 k a1 l2 a3 (!t352))) else (spec_AnswerIn.j0 k a1 l2 a3 true))) else (spec_AnswerIn.j0 k a1 l2 a3 true))) = some r := h
 clear h
 have HC5 := Aside0.mk H
 clear H
 go_enter Try.func31, Try.ntmps31
 go_upto_region 1 with (fail)
 go_cut [25] (fun v25 wc => ∃ (kq : Nat) (x25_4 : Bool), v25 = .bool x25_4 ∧ Aside0 (spec_AnswerIn.j0 kq a1 l2 a3 x25_4 = some r) ∧ Aside0 (kq ≤ k) ∧ Aside0 (Below w.heap.size w wc))
 case first =>
  have H := HC5.out
  clear HC5
  replace H := Option.bind_eq_some_iff.mp H
  obtain ⟨t350, A60, H⟩ := H
  replace H : (if t350 = true then ((spec_WorldOk.f a0 a3).bind fun t351 => (if t351 = true then ((spec_l1In.f a1 0 (wrap64 (a0 - 1))).bind fun t352 => (spec_AnswerIn.j0 k a1 l2 a3 (!t352))) else (spec_AnswerIn.j0 k a1 l2 a3 true))) else (spec_AnswerIn.j0 k a1 l2 a3 true)) = some r := H
  have A6 := Aside0.mk A60
  clear A60
  by_cases c7 : t350 = true
  ·subst c7
   have H1 : ((spec_WorldOk.f a0 a3).bind fun t351 => (if t351 = true then ((spec_l1In.f a1 0 (wrap64 (a0 - 1))).bind fun t352 => (spec_AnswerIn.j0 k a1 l2 a3 (!t352))) else (spec_AnswerIn.j0 k a1 l2 a3 true))) = some r := by rw [if_pos rfl] at H; exact H
   clear H
   have H := H1
   clear H1
   replace H := Option.bind_eq_some_iff.mp H
   obtain ⟨t351, A80, H⟩ := H
   replace H : (if t351 = true then ((spec_l1In.f a1 0 (wrap64 (a0 - 1))).bind fun t352 => (spec_AnswerIn.j0 k a1 l2 a3 (!t352))) else (spec_AnswerIn.j0 k a1 l2 a3 true)) = some r := H
   have A8 := Aside0.mk A80
   clear A80
   by_cases c9 : t351 = true
   ·subst c9
    have H1 : ((spec_l1In.f a1 0 (wrap64 (a0 - 1))).bind fun t352 => (spec_AnswerIn.j0 k a1 l2 a3 (!t352))) = some r := by rw [if_pos rfl] at H; exact H
    clear H
    have H := H1
    clear H1
    replace H := Option.bind_eq_some_iff.mp H
    obtain ⟨t352, A100, H⟩ := H
    replace H : (spec_AnswerIn.j0 k a1 l2 a3 (!t352)) = some r := H
    have A10 := Aside0.mk A100
    clear A100
    have H' := Aside0.mk H
    clear H
    go_wp2_with (first | ((with_reducible refine gate_callee (f := 45) rfl ?_); refine goesL_ (some 11) rfl rfl Try.func45 (by kernel_rfl) rfl #[.int .i64 a0, .slice A2 l2.length c2] rfl (by (try simp only [List.map_toArray, List.map_cons, List.map_nil]); first | done | rfl | (simp only [List.length_drop, List.length_take]; rfl)) ?_; (with_reducible refine (spec_TermOk.calls k a0 _ _ l2 true _ ?side1 ?side2 A6.out).mono ?_); (case side1 => repeat (first | exact (Kd.C_below HR2.out HB.out) | (with_reducible refine Kd.C_alloc ?_ _) | (with_reducible refine Kd.C_drewN ?_ _) | (with_reducible refine Kd.C_drew ?_))); (case side2 => exact HC2.out); rintro e w' ⟨rfl, ⟨nd, rfl⟩⟩; refine ⟨_, rfl, ?_⟩) | (go_at_call 97; (with_reducible refine (spec_WorldOk.calls a0 a3 true _ A8.out).mono ?_); rintro e w' ⟨rfl, ⟨nd, rfl⟩⟩) | (go_at_call 98; (with_reducible refine (spec_l1In.calls a1 0 (wrap64 (a0 - 1)) t352 _ A10.out).mono ?_); rintro e w' ⟨rfl, ⟨nd, rfl⟩⟩))
    go_meet
    case rel => exact ⟨_, (!t352), (by first | rfl | (simp; done) | (simp [*]; done)), H', ⟨by first | omega | exact Nat.le_refl _⟩, ⟨by repeat (first | (with_reducible first | exact HB.out | apply below_alloc | apply pw_below_drewN | apply below_drew1) | exact HB.out)⟩⟩
   ·replace c9 := Bool.eq_false_iff.mpr c9
    subst c9
    have H1 : (spec_AnswerIn.j0 k a1 l2 a3 true) = some r := by rw [if_neg (show ¬ (false = true) by decide)] at H; exact H
    clear H
    have H := H1
    clear H1
    have H' := Aside0.mk H
    clear H
    go_wp2_with (first | ((with_reducible refine gate_callee (f := 45) rfl ?_); refine goesL_ (some 11) rfl rfl Try.func45 (by kernel_rfl) rfl #[.int .i64 a0, .slice A2 l2.length c2] rfl (by (try simp only [List.map_toArray, List.map_cons, List.map_nil]); first | done | rfl | (simp only [List.length_drop, List.length_take]; rfl)) ?_; (with_reducible refine (spec_TermOk.calls k a0 _ _ l2 true _ ?side1 ?side2 A6.out).mono ?_); (case side1 => repeat (first | exact (Kd.C_below HR2.out HB.out) | (with_reducible refine Kd.C_alloc ?_ _) | (with_reducible refine Kd.C_drewN ?_ _) | (with_reducible refine Kd.C_drew ?_))); (case side2 => exact HC2.out); rintro e w' ⟨rfl, ⟨nd, rfl⟩⟩; refine ⟨_, rfl, ?_⟩) | (go_at_call 97; (with_reducible refine (spec_WorldOk.calls a0 a3 false _ A8.out).mono ?_); rintro e w' ⟨rfl, ⟨nd, rfl⟩⟩))
    go_meet
    case rel => exact ⟨_, (true), (by first | rfl | (simp; done) | (simp [*]; done)), H', ⟨by first | omega | exact Nat.le_refl _⟩, ⟨by repeat (first | (with_reducible first | exact HB.out | apply below_alloc | apply pw_below_drewN | apply below_drew1) | exact HB.out)⟩⟩
  ·replace c7 := Bool.eq_false_iff.mpr c7
   subst c7
   have H1 : (spec_AnswerIn.j0 k a1 l2 a3 true) = some r := by rw [if_neg (show ¬ (false = true) by decide)] at H; exact H
   clear H
   have H := H1
   clear H1
   have H' := Aside0.mk H
   clear H
   go_wp2_with (first | ((with_reducible refine gate_callee (f := 45) rfl ?_); refine goesL_ (some 11) rfl rfl Try.func45 (by kernel_rfl) rfl #[.int .i64 a0, .slice A2 l2.length c2] rfl (by (try simp only [List.map_toArray, List.map_cons, List.map_nil]); first | done | rfl | (simp only [List.length_drop, List.length_take]; rfl)) ?_; (with_reducible refine (spec_TermOk.calls k a0 _ _ l2 false _ ?side1 ?side2 A6.out).mono ?_); (case side1 => repeat (first | exact (Kd.C_below HR2.out HB.out) | (with_reducible refine Kd.C_alloc ?_ _) | (with_reducible refine Kd.C_drewN ?_ _) | (with_reducible refine Kd.C_drew ?_))); (case side2 => exact HC2.out); rintro e w' ⟨rfl, ⟨nd, rfl⟩⟩; refine ⟨_, rfl, ?_⟩))
   go_meet
   case rel => exact ⟨_, (true), (by first | rfl | (simp; done) | (simp [*]; done)), H', ⟨by first | omega | exact Nat.le_refl _⟩, ⟨by repeat (first | (with_reducible first | exact HB.out | apply below_alloc | apply pw_below_drewN | apply below_drew1) | exact HB.out)⟩⟩
 case rest =>
  clear HC5
  try clear c2
  try clear p2
  try clear c3
  try clear c4
  try clear p6
  try clear c7
  try clear c9
  obtain ⟨kq, x25_4, rfl, HA, HJ4, HB⟩ := hcut
  cases kq with
  | zero => exact absurd HA.out (by simp [spec_AnswerIn.j0])
  | succ kj4 =>
   have H := HA.out
   clear HA
   simp only [spec_AnswerIn.j0] at H
   by_cases c11 : x25_4 = true
   ·subst c11
    have H1 : (some (-1)) = some r := by rw [if_pos rfl] at H; exact H
    clear H
    have H := H1
    clear H1
    obtain rfl := Option.some.inj H
    go_wp2
    go_ret
    exact ⟨by first | rfl | (simp [errW_none, errW_some] <;> rfl) | (simp [*, errW_none, errW_some] <;> rfl), by repeat (first | (with_reducible first | exact HB.out | apply below_alloc | apply pw_below_drewN | apply below_drew1) | exact HB.out)⟩
   ·replace c11 := Bool.eq_false_iff.mpr c11
    subst c11
    have H1 : ((spec_l4May.f kj4 a1 l2 a3).bind fun t353 => (if t353 = true then (some 1) else (some 0))) = some r := by rw [if_neg (show ¬ (false = true) by decide)] at H; exact H
    clear H
    have H := H1
    clear H1
    replace H := Option.bind_eq_some_iff.mp H
    obtain ⟨t353, A120, H⟩ := H
    replace H : (if t353 = true then (some 1) else (some 0)) = some r := H
    have A12 := Aside0.mk A120
    clear A120
    by_cases c13 : t353 = true
    ·subst c13
     have H1 : (some 1) = some r := by rw [if_pos rfl] at H; exact H
     clear H
     have H := H1
     clear H1
     obtain rfl := Option.some.inj H
     go_wp2_with (first | ((with_reducible refine gate_callee (f := 99) rfl ?_); refine goesL_ (some 30) rfl rfl Try.func99 (by kernel_rfl) rfl #[.agg #[.int .i64 a1, .slice A2 l2.length c2], .int .i64 a3] rfl (by (try simp only [List.map_toArray, List.map_cons, List.map_nil]); first | done | rfl | (simp only [List.length_drop, List.length_take]; rfl)) ?_; (with_reducible refine (spec_l4May.calls kj4 a1 _ _ l2 a3 true _ ?side1 ?side2 A12.out).mono ?_); (case side1 => repeat (first | exact (Kd.C_below HR2.out HB.out) | (with_reducible refine Kd.C_alloc ?_ _) | (with_reducible refine Kd.C_drewN ?_ _) | (with_reducible refine Kd.C_drew ?_))); (case side2 => exact HC2.out); rintro e w14 ⟨rfl, hb⟩; refine ⟨_, rfl, ?_⟩; have n0_ := Aside0.mk (below_step (by repeat (first | (with_reducible first | exact HB.out | apply below_alloc | apply pw_below_drewN | apply below_drew1) | exact HB.out)) hb); clear HB; have HB := n0_; clear n0_; (try clear hb); (try clear hb2); (try clear hk); (try clear hi)))
     go_ret
     exact ⟨by first | rfl | (simp [errW_none, errW_some] <;> rfl) | (simp [*, errW_none, errW_some] <;> rfl), by repeat (first | (with_reducible first | exact HB.out | apply below_alloc | apply pw_below_drewN | apply below_drew1) | exact HB.out)⟩
    ·replace c13 := Bool.eq_false_iff.mpr c13
     subst c13
     have H1 : (some 0) = some r := by rw [if_neg (show ¬ (false = true) by decide)] at H; exact H
     clear H
     have H := H1
     clear H1
     obtain rfl := Option.some.inj H
     go_wp2_with (first | ((with_reducible refine gate_callee (f := 99) rfl ?_); refine goesL_ (some 30) rfl rfl Try.func99 (by kernel_rfl) rfl #[.agg #[.int .i64 a1, .slice A2 l2.length c2], .int .i64 a3] rfl (by (try simp only [List.map_toArray, List.map_cons, List.map_nil]); first | done | rfl | (simp only [List.length_drop, List.length_take]; rfl)) ?_; (with_reducible refine (spec_l4May.calls kj4 a1 _ _ l2 a3 false _ ?side1 ?side2 A12.out).mono ?_); (case side1 => repeat (first | exact (Kd.C_below HR2.out HB.out) | (with_reducible refine Kd.C_alloc ?_ _) | (with_reducible refine Kd.C_drewN ?_ _) | (with_reducible refine Kd.C_drew ?_))); (case side2 => exact HC2.out); rintro e w15 ⟨rfl, hb⟩; refine ⟨_, rfl, ?_⟩; have n0_ := Aside0.mk (below_step (by repeat (first | (with_reducible first | exact HB.out | apply below_alloc | apply pw_below_drewN | apply below_drew1) | exact HB.out)) hb); clear HB; have HB := n0_; clear n0_; (try clear hb); (try clear hb2); (try clear hk); (try clear hi)))
     go_ret
     exact ⟨by first | rfl | (simp [errW_none, errW_some] <;> rfl) | (simp [*, errW_none, errW_some] <;> rfl), by repeat (first | (with_reducible first | exact HB.out | apply below_alloc | apply pw_below_drewN | apply below_drew1) | exact HB.out)⟩

end Go.Proofs.Ytpampekijfjlkaa.X

/- Plain laws of answers. -/
namespace Go.Proofs.Ytpampekijfjlkaa.L
open Go.RowKit Go.Proofs.Ytpampekijfjlkaa.X Go.Proofs.YtpampekijfjlkaaW.PrintWords Go.Proofs.YtpampekijfjlkaaW.PrintLast Go.Proofs.YtpampekijfjlkaaW.PrintMore

/-- What a person answers. -/
noncomputable def answer (p i : Int) (t : List M) (w : Int) : Int := if wok p w = true ∧ tok p t = true ∧ 0 ≤ i ∧ i < p then (if may i t w.toNat = true then 1 else 0) else -1
theorem answer_in {p i w : Int} {t : List M} (h : wok p w = true ∧ tok p t = true ∧ 0 ≤ i ∧ i < p) : answer p i t w = if may i t w.toNat = true then 1 else 0 := if_pos h
theorem answer_out {p i w : Int} {t : List M} (h : ¬ (wok p w = true ∧ tok p t = true ∧ 0 ≤ i ∧ i < p)) : answer p i t w = -1 := if_neg h
theorem impl_Answer_ev (p i : Int) (t : List M) (w : Int) : Ev (fun k => impl_AnswerIn.f k p i t w) (answer p i t w) := by
 unfold impl_AnswerIn.f
 have no : ¬ (wok p w = true ∧ tok p t = true ∧ 0 ≤ i ∧ i < p) → Ev (fun k => impl_AnswerIn.j0 k i t w true) (answer p i t w) := by
  intro h
  rw [answer_out h]
  refine Ev.step (fun k => by simp only [impl_AnswerIn.j0]; rfl) ?_
  exact Ev.yes (by simp) (Ev.some _)
 rw [impl_WorldOk_eq]
 simp only [Option.bind_some]
 by_cases hw : wok p w = true
 ·refine Ev.yes hw (Ev.bind (impl_TermOk_ev p t) ?_)
  by_cases hk : tok p t = true
  ·refine Ev.yes hk ?_
   by_cases h0 : i < 0
   ·exact Ev.yes h0 (no (by omega))
   refine Ev.no h0 ?_
   by_cases h1 : i ≥ p
   ·rw [decide_eq_true h1]; exact no (by omega)
   rw [decide_eq_false h1, answer_in ⟨hw, hk, by omega, by omega⟩]
   obtain ⟨v, rfl, hv, _⟩ := wok_nat hw
   have h4 := (tok_iff.1 hk).2.1
   obtain ⟨j, rfl⟩ := Int.eq_ofNat_of_zero_le (show 0 ≤ i by omega)
   refine Ev.step (fun k => by simp only [impl_AnswerIn.j0]; rfl) ?_
   refine Ev.no (by simp) (Ev.bind (impl_holds_hv hk hv) (Ev.yes (by omega) ?_))
   rw [bit_and' hv (show j < 4 by omega)]
   by_cases hm : may (j : Int) t v = true
   ·exact Ev.yes hm (Ev.cast (Ev.some _) (if_pos hm).symm)
   ·exact Ev.no hm (Ev.cast (Ev.some _) (if_neg hm).symm)
  ·exact Ev.no hk (no (fun h => hk h.2.1))
 ·exact Ev.no hw (no (fun h => hw h.1))
theorem spec_Answer_ev (p i : Int) (t : List M) (w : Int) (hl : t.length ≤ 4611686018427387904) (htw : ∀ m ∈ t, m.f1 ≤ 9223372036854775807) : Ev (fun k => spec_AnswerIn.f k p i t w) (answer p i t w) := by
 unfold spec_AnswerIn.f
 have no : ¬ (wok p w = true ∧ tok p t = true ∧ 0 ≤ i ∧ i < p) → Ev (fun k => spec_AnswerIn.j0 k i t w true) (answer p i t w) := by
  intro h
  rw [answer_out h]
  refine Ev.step (fun k => by simp only [spec_AnswerIn.j0]; rfl) ?_
  exact Ev.yes (by simp) (Ev.some _)
 simp only [l1In_eq, spec_WorldOk_eq, Option.bind_some]
 refine Ev.bind (spec_TermOk_ev p t hl htw) ?_
 by_cases hk : tok p t = true
 ·refine Ev.yes hk ?_
  have h4 := tok_iff.1 hk
  by_cases hw : wok p w = true
  ·refine Ev.yes hw ?_
   rw [w64 (by omega) (by omega)]
   by_cases h0 : 0 ≤ i ∧ i ≤ p - 1
   ·rw [decide_eq_true h0, answer_in ⟨hw, hk, by omega, by omega⟩]
    obtain ⟨v, rfl, hv, _⟩ := wok_nat hw
    refine Ev.step (fun k => by simp only [spec_AnswerIn.j0]; rfl) ?_
    refine Ev.no (by simp) (Ev.bind (spec_may_ev hk h0.1 (by omega) hv) ?_)
    rw [Int.toNat_natCast]
    by_cases hm : may i t v = true
    ·exact Ev.yes hm (Ev.cast (Ev.some _) (if_pos hm).symm)
    ·exact Ev.no hm (Ev.cast (Ev.some _) (if_neg hm).symm)
   ·rw [decide_eq_false h0]; exact no (by omega)
  ·exact Ev.no hw (no (fun h => hw h.1))
 ·exact Ev.no hk (no (fun h => hk h.2.1))
end Go.Proofs.Ytpampekijfjlkaa.L
