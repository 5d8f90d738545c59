/- Joined by a program of this session's: LMA, X89, LSA. -/
import Derived.Test.YtpampekijfjlkaaG2d41ec3c96
import Derived.Test.YtpampekijfjlkaaG68f3bf9e92
import Derived.Test.YtpampekijfjlkaaG3397e3e2ff
import Derived.Test.YtpampekijfjlkaaG3ebdca1db0

/- Plain laws of whom a term asks about. -/
namespace Go.Proofs.Ytpampekijfjlkaa.L
open Go.RowKit Go.Proofs.Ytpampekijfjlkaa.X Go.Proofs.YtpampekijfjlkaaW.PrintWords Go.Proofs.YtpampekijfjlkaaW.PrintLast Go.Proofs.YtpampekijfjlkaaW.PrintMore

theorem xorb_fin : ∀ w : Fin 16, ∀ i : Fin 4, Go.bits .xor .i64 ((w.val : Nat) : Int) (shl .i64 1 ((i.val : Nat) : Int)) = ((w.val ^^^ 2 ^ i.val : Nat) : Int) := by decide +kernel
theorem xorb {w i : Nat} (hw : w < 16) (hi : i < 4) : Go.bits .xor .i64 (w : Int) (shl .i64 1 (i : Int)) = ((w ^^^ 2 ^ i : Nat) : Int) := xorb_fin ⟨w, hw⟩ ⟨i, hi⟩
theorem xorb_lt {w i q : Nat} (hw : w < 2 ^ q) (hi : i < q) : w ^^^ 2 ^ i < 2 ^ q := Nat.xor_lt_two_pow hw (Nat.pow_lt_pow_right (by decide) hi)
/-- Whether a person matters in one of the worlds below. -/
noncomputable def dfs (t : List M) (i : Nat) : Nat → Bool
 | 0 => false
 | w + 1 => dfs t i w || (hv t w != hv t (w ^^^ 2 ^ i))
theorem dfs_iff (t : List M) (i : Nat) : ∀ n, dfs t i n = true ↔ ∃ w, w < n ∧ hv t w ≠ hv t (w ^^^ 2 ^ i)
 | 0 => by simp [dfs]
 | n + 1 => by
  rw [dfs, Bool.or_eq_true, dfs_iff t i n, bne_iff_ne]
  constructor
  ·rintro (⟨w, h1, h2⟩ | h)
   ·exact ⟨w, by omega, h2⟩
   ·exact ⟨n, by omega, h⟩
  ·rintro ⟨w, h1, h2⟩
   by_cases e : w = n
   ·subst e; exact .inr h2
   ·exact .inl ⟨w, by omega, h2⟩
theorem dfs_false {t : List M} {i n : Nat} (h : dfs t i n = false) : ∀ w, w < n → hv t w = hv t (w ^^^ 2 ^ i) := by
 intro w hw
 by_cases e : hv t w = hv t (w ^^^ 2 ^ i)
 ·exact e
 ·have := (dfs_iff t i n).2 ⟨w, hw, e⟩
  rw [h] at this
  cases this
theorem or_upd {P : Nat → Bool} {q i : Nat} (hi : i < q) : tabL P q ||| 2 ^ i = tabL (fun j => P j || decide (j = i)) q := by
 apply Nat.eq_of_testBit_eq
 intro j
 rw [Nat.testBit_or, tabL_bit, tabL_bit, Nat.testBit_two_pow]
 by_cases e : j = i
 ·subst e; simp [hi]
 ·have e' : ¬ i = j := fun h => e h.symm
  simp [e, e']
/-- What is found when a world is being looked at. -/
noncomputable def mst (t : List M) (q w i : Nat) : Nat := tabL (fun j => if j < i then dfs t j (w + 1) else dfs t j w) q
theorem mst_done (t : List M) (q w : Nat) : mst t q w q = mst t q (w + 1) 0 := tabL_congr (fun j hj => by simp [hj])
theorem mst_step {t : List M} {q w i : Nat} (hi : i < q) : mst t q w (i + 1) = if (hv t w != hv t (w ^^^ 2 ^ i)) = true then mst t q w i ||| 2 ^ i else mst t q w i := by
 by_cases h : (hv t w != hv t (w ^^^ 2 ^ i)) = true
 ·rw [if_pos h, mst, mst, or_upd hi]
  refine tabL_congr (fun j hj => ?_)
  by_cases e : j = i
  ·subst e; simp [dfs, h]
  ·by_cases e2 : j < i
   ·have : j < i + 1 := by omega
    simp [e, e2, this]
   ·have : ¬ j < i + 1 := by omega
    simp [e, e2, this]
 ·rw [if_neg h, mst, mst]
  refine tabL_congr (fun j hj => ?_)
  by_cases e : j = i
  ·subst e
   rw [Bool.not_eq_true] at h
   simp [dfs, h]
  ·by_cases e2 : j < i
   ·have : j < i + 1 := by omega
    simp [e2, this]
   ·have : ¬ j < i + 1 := by omega
    simp [e2, this]
theorem mst_lt {t : List M} {q w i : Nat} (hq : q ≤ 4) : mst t q w i < 65536 := tabL_mono (by omega)
noncomputable def matter (t : List M) (q : Nat) : Nat := tabL (fun j => dfs t j (2 ^ q)) q
theorem matter_l {q : Nat} {t : List M} (hk : tok (q : Int) t = true) (hq1 : 1 ≤ q) (hq : q ≤ 4) (hq2 : 2 ^ q ≤ 16) : ∀ d w : Nat, d + w = 2 ^ q →
  Ev (fun k => impl_MatterIn.l0 k (q : Int) t ((mst t q w 0 : Nat) : Int) ((2 ^ q : Nat) : Int) (w : Int)) ((matter t q : Nat) : Int) := by
 intro d
 induction d with
 | zero =>
  intro w hw
  rw [Nat.zero_add] at hw
  refine Ev.step (fun k => by simp only [impl_MatterIn.l0]; rfl) (Ev.no (by omega) (Ev.cast (Ev.some _) ?_))
  rw [hw, mst, matter]
  simp
 | succ d ih =>
  intro w hw
  refine Ev.step (fun k => by simp only [impl_MatterIn.l0]; rfl) (Ev.yes (by omega) ?_)
  have inner : ∀ e i : Nat, e + i = q → Ev (fun k => impl_MatterIn.l1 k (q : Int) t ((mst t q w i : Nat) : Int) (w : Int) ((2 ^ q : Nat) : Int) (w : Int) (q : Int) (i : Int)) ((matter t q : Nat) : Int) := by
   intro e
   induction e with
   | zero =>
    intro i hi
    rw [Nat.zero_add] at hi
    subst hi
    refine Ev.step (fun k => by simp only [impl_MatterIn.l1]; rfl) (Ev.no (by omega) ?_)
    rw [mst_done, w64 (by omega) (by omega), show ((w : Int) + 1) = ((w + 1 : Nat) : Int) by omega]
    exact ih (w + 1) (by omega)
   | succ e ihe =>
    intro i hi
    have hx := xorb_lt (w := w) (i := i) (q := q) (by omega) (by omega)
    have hml : mst t q w i < 65536 := mst_lt hq
    have hp : (2 : Nat) ^ i ≤ 2 ^ 4 := Nat.pow_le_pow_right (by decide) (by omega)
    refine Ev.step (fun k => by simp only [impl_MatterIn.l1]; rfl) ?_
    rw [xorb (by omega) (by omega), shl_nat (by omega), or_nat (by omega) (by omega), w64 (by omega) (by omega), show ((i : Int) + 1) = ((i + 1 : Nat) : Int) by omega]
    refine Ev.yes (by omega) (Ev.bind (impl_holds_hv hk (by omega)) (Ev.yes (by omega) (Ev.bind (impl_holds_hv hk (by omega)) ?_)))
    have h := ihe (i + 1) (by omega)
    rw [mst_step (by omega)] at h
    by_cases hb : (hv t w != hv t (w ^^^ 2 ^ i)) = true
    ·rw [if_pos hb] at h
     exact Ev.yes hb h
    ·rw [if_neg hb] at h
     exact Ev.no hb h
  exact inner q 0 (by omega)
theorem impl_MatterIn_ev (p : Int) (t : List M) : Ev (fun k => impl_MatterIn.f k p t) (if tok p t = true then ((matter t p.toNat : Nat) : Int) else -1) := by
 unfold impl_MatterIn.f
 refine Ev.bind (impl_TermOk_ev p t) ?_
 by_cases hk : tok p t = true
 ·rw [if_pos hk]
  refine Ev.yes hk ?_
  obtain ⟨hp0, hp1, _⟩ := tok_iff.1 hk
  obtain ⟨q, rfl, hq1, hq, hq2, e⟩ := people_nat hp0 hp1
  refine Ev.yes (by omega) ?_
  rw [shl_nat (by omega), e]
  have h := matter_l hk hq1 hq hq2 (2 ^ q) 0 (by omega)
  have e0 : mst t q 0 0 = 0 := by
   apply Nat.eq_of_testBit_eq
   intro j
   rw [mst, tabL_bit]
   simp [dfs]
  rw [e0] at h
  exact h
 ·rw [if_neg hk]
  exact Ev.no hk (Ev.some _)
theorem matter_bit (t : List M) (q i : Nat) : (matter t q).testBit i = (decide (i < q) && dfs t i (2 ^ q)) := tabL_bit _ _ _
theorem matter_lt {t : List M} {q : Nat} (hq : q ≤ 4) : matter t q < 16 := by
 have h := tabL_lt (fun j => dfs t j (2 ^ q)) q
 have : (2 : Nat) ^ q ≤ 2 ^ 4 := Nat.pow_le_pow_right (by decide) hq
 unfold matter
 omega
end Go.Proofs.Ytpampekijfjlkaa.L

-- printed by a program of this session's (xprint)
namespace Go.Proofs.Ytpampekijfjlkaa.X
open Go.RowKit Go.Proofs.YtpampekijfjlkaaW.PrintWords Go.Proofs.YtpampekijfjlkaaW.PrintLast Go.Proofs.YtpampekijfjlkaaW.PrintMore
attribute [local go_sem] max2_int min2_int max_two min_two max_three min_three max_four min_four   -- for this text's walks alone
set_option linter.unusedVariables false
set_option linter.unusedSimpArgs false

attribute [local go_sem high] eqA52
/-! ### laws_sameMarks: function 57 -/
def laws_sameMarks.l0 : Nat → List (S52) → List (S52) → Int → Option (Bool)
 | 0, _, _, _ => none
 | k + 1, x0, x1, x5 => if x5 < (x0.length : Int) then (if 0 ≤ x5 then (if x5 < (x1.length : Int) then (if (!(((rd_T52 x0 x5).f0) == ((rd_T52 x1 x5).f0)) || (!(((rd_T52 x0 x5).f1) == ((rd_T52 x1 x5).f1)))) = true then (some false) else (laws_sameMarks.l0 k x0 x1 (wrap64 (x5 + 1)))) else (none)) else (none)) else (some true)
def laws_sameMarks.f (k : Nat) (l0 : List (S52)) (l1 : List (S52)) : Option (Bool) := if (l0.length : Int) = (l1.length : Int) then (laws_sameMarks.l0 k l0 l1 0) else (some false)
theorem laws_sameMarks.mono_l : ∀ k, (∀ y0 y1 y2, LeO (laws_sameMarks.l0 k y0 y1 y2) (laws_sameMarks.l0 (k + 1) y0 y1 y2))
 | 0 => fun _ _ _ r h => by simp [laws_sameMarks.l0] at h
 | k + 1 => by
  have ih0 := laws_sameMarks.mono_l k
  ·intro y0 y1 y2
   unfold laws_sameMarks.l0
   repeat' first
   | (with_reducible exact ih0 _ _ _)
   | (with_reducible exact LeO.refl _)
   | (with_reducible exact LeO.none _)
   | (with_reducible refine LeO.ite ?_ ?_)
   | (with_reducible refine LeO.bind ?_ (fun _ => ?_))
   | exact ih0 _ _ _
   | exact LeO.none _
   | refine LeO.ite ?_ ?_
   | refine LeO.bind ?_ (fun _ => ?_)
theorem laws_sameMarks.mono : ∀ a0 a1 k, LeO (laws_sameMarks.f k a0 a1) (laws_sameMarks.f (k + 1) a0 a1) := by
 intro a0 a1 k
 have ih0 := laws_sameMarks.mono_l k
 unfold laws_sameMarks.f
 repeat' first
   | (with_reducible exact ih0 _ _ _)
   | (with_reducible exact LeO.refl _)
   | (with_reducible exact LeO.none _)
   | (with_reducible refine LeO.ite ?_ ?_)
   | (with_reducible refine LeO.bind ?_ (fun _ => ?_))
   | exact ih0 _ _ _
   | exact LeO.none _
   | refine LeO.ite ?_ ?_
   | refine LeO.bind ?_ (fun _ => ?_)
set_option maxHeartbeats 8000000 in
set_option maxRecDepth 100000 in
theorem laws_sameMarks.calls (k : Nat) (A0 : Option Addr) (c0 : Nat) (l0 : List (S52)) (A1 : Option Addr) (c1 : Nat) (l1 : List (S52)) (r : Bool) (w : World) (hr0 : Kd.C k52 w A0 l0.length l0) (hc0 : l0.length ≤ c0) (hr1 : Kd.C k52 w A1 l1.length l1) (hc1 : l1.length ≤ c1) (h : laws_sameMarks.f k l0 l1 = some r) :
  Calls Try.prog 57 #[.slice A0 l0.length c0, .slice A1 l1.length c1] w fun e w' => e = .returned (.bool r) ∧ Drawn0 w w' := by
 have hu52 := Try.underlying52
 have HR0 := Aside0.mk hr0
 have HC0 := Aside0.mk hc0
 clear hr0 hc0
 have HR1 := Aside0.mk hr1
 have HC1 := Aside0.mk hc1
 clear hr1 hc1
 have H : (if (l0.length : Int) = (l1.length : Int) then (laws_sameMarks.l0 k l0 l1 0) else (some false)) = some r := h
 clear h
 by_cases c3 : (l0.length : Int) = (l1.length : Int)
 ·rw [if_pos c3] at H
  have c3b0 : ((l0.length : Int) == (l1.length : Int)) = true := beq_iff_eq.mpr c3
  have c3b1 : ((l0.length : Int) != (l1.length : Int)) = false := bne_eq_false_iff_eq.mpr c3
  have c3b2 : (l0.length == l1.length) = true := by first | simpa using c3 | (simp at c3 ⊢; omega)
  clear c3
  have H' := Aside0.mk H
  clear H
  go_enter Try.func57, Try.ntmps57
  go_wp2
  repeat (go_quiet (fail); try go_wp2)
  go_loopg [5] k (fun kq v5 w' => ∃ (x5_1 : Int), v5 = .int .i64 x5_1 ∧ Aside0 (laws_sameMarks.l0 kq l0 l1 x5_1 = some r) ∧ Aside0 (kq ≤ k) ∧ Drawn0 w w')
  case atStart => exact ⟨(0), (by first | rfl | (simp; done) | (simp [*]; done)), H', ⟨Nat.le_refl _⟩, by repeat (first | exact Drawn0.refl _ | apply Drawn0.step)⟩
  case round =>
   clear H'
   try clear c1
   try clear p2
   try clear c3
   try clear c3b0
   try clear c3b1
   try clear c3b2
   obtain ⟨x5_1, rfl, HA, HK1, ⟨m1, rfl⟩⟩ := hrel
   cases gk with
   | zero => exact absurd HA.out (by simp [laws_sameMarks.l0])
   | succ k1 =>
    have H := HA.out
    clear HA
    simp only [laws_sameMarks.l0] at H
    by_cases c4 : x5_1 < (l0.length : Int)
    ·rw [if_pos c4] at H
     have c4b0 : decide (x5_1 < (l0.length : Int)) = true := decide_eq_true c4
     clear c4
     by_cases c5 : 0 ≤ x5_1
     ·rw [if_pos c5] at H
      have c5b0 : decide (0 ≤ x5_1) = true := decide_eq_true c5
      clear c5
      by_cases c6 : x5_1 < (l1.length : Int)
      ·rw [if_pos c6] at H
       have c6b0 : decide (x5_1 < (l1.length : Int)) = true := decide_eq_true c6
       clear c6
       by_cases c7 : (!(((rd_T52 l0 x5_1).f0) == ((rd_T52 l1 x5_1).f0)) || (!(((rd_T52 l0 x5_1).f1) == ((rd_T52 l1 x5_1).f1)))) = true
       ·rw [if_pos c7] at H
        have c7b0 : (!(((rd_T52 l0 x5_1).f0) == ((rd_T52 l1 x5_1).f0)) || (!(((rd_T52 l0 x5_1).f1) == ((rd_T52 l1 x5_1).f1)))) = true := c7
        clear c7
        obtain rfl := Option.some.inj H
        have p826 : 0 ≤ (x5_1 : Int) := of_decide_eq_true (by first | (with_reducible assumption) | assumption)
        have q826 : x5_1 < (l0.length : Int) := of_decide_eq_true (by first | (with_reducible assumption) | assumption)
        obtain ⟨ad826, e826, hx826_0, hx826_1⟩ := at_T52 HR0.out x5_1 p826 q826
        cases e826
        replace p826 := eq_true p826
        replace q826 := eq_true q826
        have p827 : 0 ≤ (x5_1 : Int) := of_decide_eq_true (by first | (with_reducible assumption) | assumption)
        have q827 : x5_1 < (l1.length : Int) := of_decide_eq_true (by first | (with_reducible assumption) | assumption)
        obtain ⟨ad827, e827, hx827_0, hx827_1⟩ := at_T52 HR1.out x5_1 p827 q827
        cases e827
        replace p827 := eq_true p827
        replace q827 := eq_true q827
        go_wp2
        repeat (go_quiet (fail); try go_wp2)
        go_ret
        exact ⟨by first | rfl | (simp; done) | (simp [*]; done), by repeat (first | exact Drawn0.refl _ | apply Drawn0.step)⟩
       ·rw [if_neg c7] at H
        have c7b0 : (!(((rd_T52 l0 x5_1).f0) == ((rd_T52 l1 x5_1).f0)) || (!(((rd_T52 l0 x5_1).f1) == ((rd_T52 l1 x5_1).f1)))) = false := by simpa using c7
        clear c7
        have H' := Aside0.mk H
        clear H
        have p826 : 0 ≤ (x5_1 : Int) := of_decide_eq_true (by first | (with_reducible assumption) | assumption)
        have q826 : x5_1 < (l0.length : Int) := of_decide_eq_true (by first | (with_reducible assumption) | assumption)
        obtain ⟨ad826, e826, hx826_0, hx826_1⟩ := at_T52 HR0.out x5_1 p826 q826
        cases e826
        replace p826 := eq_true p826
        replace q826 := eq_true q826
        have p827 : 0 ≤ (x5_1 : Int) := of_decide_eq_true (by first | (with_reducible assumption) | assumption)
        have q827 : x5_1 < (l1.length : Int) := of_decide_eq_true (by first | (with_reducible assumption) | assumption)
        obtain ⟨ad827, e827, hx827_0, hx827_1⟩ := at_T52 HR1.out x5_1 p827 q827
        cases e827
        replace p827 := eq_true p827
        replace q827 := eq_true q827
        go_wp2
        repeat (go_quiet (fail); try go_wp2)
        go_roundg k1
        case measure => have := HK1.out; omega
        case rel => exact ⟨(wrap64 (x5_1 + 1)), (by first | rfl | (simp; done) | (simp [*]; done)), H', ⟨by have := HK1.out; omega⟩, by repeat (first | exact Drawn0.refl _ | apply Drawn0.step)⟩
      ·rw [if_neg c6] at H
       exact absurd H (by simp)
     ·rw [if_neg c5] at H
      exact absurd H (by simp)
    ·rw [if_neg c4] at H
     have c4b0 : decide (x5_1 < (l0.length : Int)) = false := decide_eq_false c4
     clear c4
     obtain rfl := Option.some.inj H
     go_wp2
     repeat (go_quiet (fail); try go_wp2)
     go_ret
     exact ⟨by first | rfl | (simp; done) | (simp [*]; done), by repeat (first | exact Drawn0.refl _ | apply Drawn0.step)⟩
 ·rw [if_neg c3] at H
  have c3b0 : ((l0.length : Int) == (l1.length : Int)) = false := beq_eq_false_iff_ne.mpr c3
  have c3b1 : ((l0.length : Int) != (l1.length : Int)) = true := bne_iff_ne.mpr c3
  have c3b2 : (l0.length == l1.length) = false := by first | simpa using c3 | (simp at c3 ⊢; omega)
  obtain rfl := Option.some.inj H
  go_enter Try.func57, Try.ntmps57
  go_wp2
  repeat (go_quiet (fail); try go_wp2)
  go_ret
  exact ⟨by first | rfl | (simp; done) | (simp [*]; done), by repeat (first | exact Drawn0.refl _ | apply Drawn0.step)⟩

end Go.Proofs.Ytpampekijfjlkaa.X

/- Plain laws of the laws' own comparing of rows of marks, and that the program lives. -/
namespace Go.Proofs.Ytpampekijfjlkaa.L
open Go.RowKit Go.Proofs.Ytpampekijfjlkaa.X Go.Proofs.YtpampekijfjlkaaW.PrintWords Go.Proofs.YtpampekijfjlkaaW.PrintLast Go.Proofs.YtpampekijfjlkaaW.PrintMore

theorem alive_eq : laws_alive.f = some true := by decide +kernel
end Go.Proofs.Ytpampekijfjlkaa.L
