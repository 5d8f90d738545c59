/- Joined by a program of this session's: LA. -/
import Derived.Test.YtpampekijfjlkaaGb265ce0487

/- Plain laws of terms: what is a term, its tree, and what holds in a world; the program's and the reference's functions come to these. -/
namespace Go.Proofs.Ytpampekijfjlkaa.L
open Go.RowKit Go.Proofs.Ytpampekijfjlkaa.X Go.Proofs.YtpampekijfjlkaaW.PrintWords Go.Proofs.YtpampekijfjlkaaW.PrintLast Go.Proofs.YtpampekijfjlkaaW.PrintMore

abbrev M := S52

theorem w64 {x : Int} (h0 : -9223372036854775808 ≤ x) (h1 : x ≤ 9223372036854775807) : wrap64 x = x := by unfold wrap64; omega
theorem rdM_at (pre : List M) (m : M) (suf : List M) : rd_T52 (pre ++ m :: suf) ((pre.length : Nat) : Int) = m := by
 unfold rd_T52
 simp [List.getD]
theorem rdM_at' {l pre : List M} {m : M} {suf : List M} (h : l = pre ++ m :: suf) : rd_T52 l ((pre.length : Nat) : Int) = m := by rw [h]; exact rdM_at pre m suf

theorem Ev.some {α : Type} (r : α) : Ev (fun _ => Option.some r) r := Ev.now r
theorem Ev.ite {α : Type} {c : Prop} [Decidable c] {g h : Nat → Option α} {r : α} (h1 : c → Ev g r) (h2 : ¬ c → Ev h r) : Ev (fun k => if c then g k else h k) r := by
 by_cases hc : c
 ·simp only [if_pos hc]; exact h1 hc
 ·simp only [if_neg hc]; exact h2 hc
theorem Ev.yes {α : Type} {c : Prop} [Decidable c] {g h : Nat → Option α} {r : α} (hc : c) (h1 : Ev g r) : Ev (fun k => if c then g k else h k) r := by simp only [if_pos hc]; exact h1
theorem Ev.no {α : Type} {c : Prop} [Decidable c] {g h : Nat → Option α} {r : α} (hc : ¬ c) (h1 : Ev h r) : Ev (fun k => if c then g k else h k) r := by simp only [if_neg hc]; exact h1
theorem Ev.cast {α : Type} {g : Nat → Option α} {r r' : α} (h : Ev g r) (e : r = r') : Ev g r' := e ▸ h
theorem Ev.uniq {α : Type} {g : Nat → Option α} {r r' : α} (h : Ev g r) (h' : Ev g r') : r = r' := by
 obtain ⟨K, h⟩ := h
 obtain ⟨K', h'⟩ := h'
 have h1 := h (max K K') (Nat.le_max_left _ _)
 have h2 := h' (max K K') (Nat.le_max_right _ _)
 rw [h1] at h2
 exact Option.some.inj h2

theorem peopleOk_eq (p : Int) : impl_peopleOk.f p = some (decide (1 ≤ p ∧ p ≤ 4)) := by
 unfold impl_peopleOk.f
 by_cases h : p ≥ 1
 ·rw [if_pos h]; congr 1; simp; omega
 ·rw [if_neg h]; congr 1; simp; omega
/-- How many parts are left of a row of marks, if each mark finds its parts. -/
def scan (p : Int) : List M → Nat → Option Nat
 | [], n => some n
 | m :: t, n =>
  if m.f0 = 0 then (if 0 ≤ m.f1 ∧ m.f1 < p then scan p t (n + 1) else none)
  else if m.f0 = 1 then (if 0 ≤ m.f1 ∧ m.f1 ≤ p + 1 then scan p t (n + 1) else none)
  else if m.f0 = 2 then (if m.f1 = 0 ∧ 1 ≤ n then scan p t n else none)
  else if m.f0 = 3 ∨ m.f0 = 4 ∨ m.f0 = 5 then (if m.f1 = 0 ∧ 2 ≤ n then scan p t (n - 1) else none)
  else none
/-- A term for so many people. -/
def tok (p : Int) (t : List M) : Bool := decide (1 ≤ p ∧ p ≤ 4 ∧ 1 ≤ t.length ∧ t.length ≤ 15 ∧ scan p t 0 = some 1)
theorem tok_iff {p : Int} {t : List M} : tok p t = true ↔ 1 ≤ p ∧ p ≤ 4 ∧ 1 ≤ t.length ∧ t.length ≤ 15 ∧ scan p t 0 = some 1 := by unfold tok; simp

theorem impl_TermOk_l0 (p : Int) (hp0 : 1 ≤ p) (hp1 : p ≤ 4) : ∀ (suf pre : List M) (n : Nat), n ≤ pre.length → pre.length + suf.length ≤ 15 →
  Ev (fun k => impl_TermOk.l0 k p (n : Int) (pre ++ suf) (((pre ++ suf).length : Nat) : Int) ((pre.length : Nat) : Int)) (decide (scan p suf n = some 1)) := by
 intro suf
 induction suf with
 | nil =>
  intro pre n hn hl
  refine Ev.step (fun k => by simp only [impl_TermOk.l0]; rfl) ?_
  refine Ev.no (by simp) ?_
  refine Ev.cast (Ev.some _) ?_
  simp only [scan]
  by_cases h : n = 1
  ·subst h; simp
  ·simp [h]; omega
 | cons m t ih =>
  intro pre n hn hl
  have hl' : pre.length + (t.length + 1) ≤ 15 := by simpa using hl
  have hm : rd_T52 (pre ++ m :: t) ((pre.length : Nat) : Int) = m := rdM_at pre m t
  have hlen : (((pre ++ m :: t).length : Nat) : Int) = (pre.length : Int) + t.length + 1 := by simp; omega
  have hnext : wrap64 (((pre.length : Nat) : Int) + 1) = (((pre ++ [m]).length : Nat) : Int) := by rw [w64 (by omega) (by omega)]; simp
  have ih' := fun n' hn' => ih (pre ++ [m]) n' hn' (by simp; omega)
  have happ : pre ++ [m] ++ t = pre ++ m :: t := by simp
  rw [happ] at ih'
  refine Ev.step (fun k => by simp only [impl_TermOk.l0]; rfl) ?_
  refine Ev.yes (by rw [hlen]; omega) (Ev.yes (by omega) (Ev.yes (by rw [hlen]; omega) ?_))
  simp only [hm, hnext]
  by_cases h0 : m.f0 = 0
  ·refine Ev.yes h0 ?_
   simp only [scan, if_pos h0]
   by_cases h1 : 0 ≤ m.f1 ∧ m.f1 < p
   ·rw [if_pos h1]
    refine Ev.no (by omega) (Ev.no (by omega) ?_)
    rw [w64 (by omega) (by omega), show ((n : Int) + 1) = ((n + 1 : Nat) : Int) by simp]
    exact ih' (n + 1) (by simp; omega)
   ·rw [if_neg h1]
    refine Ev.ite (fun _ => Ev.cast (Ev.some _) (by simp)) (fun h2 => Ev.yes (by omega) (Ev.cast (Ev.some _) (by simp)))
  refine Ev.no h0 ?_
  by_cases h1 : m.f0 = 1
  ·refine Ev.yes h1 ?_
   simp only [scan, if_neg h0, if_pos h1]
   rw [w64 (by omega) (by omega)]
   by_cases h2 : 0 ≤ m.f1 ∧ m.f1 ≤ p + 1
   ·rw [if_pos h2]
    refine Ev.no (by omega) (Ev.no (by omega) ?_)
    rw [w64 (by omega) (by omega), show ((n : Int) + 1) = ((n + 1 : Nat) : Int) by simp]
    exact ih' (n + 1) (by simp; omega)
   ·rw [if_neg h2]
    refine Ev.ite (fun _ => Ev.cast (Ev.some _) (by simp)) (fun h3 => Ev.yes (by omega) (Ev.cast (Ev.some _) (by simp)))
  refine Ev.no h1 ?_
  by_cases h2 : m.f0 = 2
  ·refine Ev.yes h2 ?_
   simp only [scan, if_neg h0, if_neg h1, if_pos h2]
   by_cases h3 : m.f1 = 0
   ·refine Ev.yes h3 ?_
    by_cases h4 : 1 ≤ n
    ·rw [if_pos ⟨h3, h4⟩]
     refine Ev.no (by omega) ?_
     exact ih' n (by simp; omega)
    ·rw [if_neg (fun h => h4 h.2)]
     exact Ev.yes (by omega) (Ev.cast (Ev.some _) (by simp))
   ·rw [if_neg (fun h => h3 h.1)]
    exact Ev.no h3 (Ev.cast (Ev.some _) (by simp))
  refine Ev.no h2 ?_
  have hj2 : ∀ b : Bool, b = decide (m.f0 = 3 ∨ m.f0 = 4 ∨ m.f0 = 5) →
    Ev (fun k => impl_TermOk.j2 k p (n : Int) (pre ++ m :: t) (((pre ++ m :: t).length : Nat) : Int) ((pre.length : Nat) : Int) b m.f0 m.f1) (decide (scan p (m :: t) n = some 1)) := by
   intro b hb
   refine Ev.step (fun k => by simp only [impl_TermOk.j2]; rfl) ?_
   simp only [scan, if_neg h0, if_neg h1, if_neg h2, hnext]
   by_cases h3 : m.f0 = 3 ∨ m.f0 = 4 ∨ m.f0 = 5
   ·rw [if_pos h3]
    refine Ev.yes (by rw [hb]; simp [h3]) ?_
    by_cases h4 : m.f1 = 0
    ·refine Ev.yes h4 ?_
     by_cases h5 : 2 ≤ n
     ·rw [if_pos ⟨h4, h5⟩]
      refine Ev.no (by omega) ?_
      rw [w64 (by omega) (by omega), show ((n : Int) - 1) = ((n - 1 : Nat) : Int) by omega]
      exact ih' (n - 1) (by simp; omega)
     ·rw [if_neg (fun h => h5 h.2)]
      exact Ev.yes (by omega) (Ev.cast (Ev.some _) (by simp))
    ·rw [if_neg (fun h => h4 h.1)]
     exact Ev.no h4 (Ev.cast (Ev.some _) (by simp))
   ·rw [if_neg h3]
    exact Ev.no (by rw [hb]; simp [h3]) (Ev.cast (Ev.some _) (by simp))
  by_cases h3 : m.f0 = 3
  ·exact Ev.yes h3 (hj2 _ (by simp [h3]))
  refine Ev.no h3 ?_
  by_cases h4 : m.f0 = 4
  ·exact Ev.yes h4 (hj2 _ (by simp [h4]))
  ·exact Ev.no h4 (hj2 _ (by
    by_cases h5 : m.f0 = 5
    ·simp [h5]
    ·simp [h3, h4, h5]))

theorem impl_TermOk_ev (p : Int) (t : List M) : Ev (fun k => impl_TermOk.f k p t) (tok p t) := by
 have hj : ∀ b : Bool, (b = false → 1 ≤ p ∧ p ≤ 4 ∧ 1 ≤ t.length ∧ t.length ≤ 15) → (b = true → tok p t = false) → Ev (fun k => impl_TermOk.j0 k p t b) (tok p t) := by
  intro b hb1 hb2
  refine Ev.step (fun k => by simp only [impl_TermOk.j0]; rfl) ?_
  cases b with
  | true => exact Ev.yes rfl (Ev.cast (Ev.some _) (hb2 rfl).symm)
  | false =>
   refine Ev.no (by simp) ?_
   obtain ⟨h1, h2, h3, h4⟩ := hb1 rfl
   have h := impl_TermOk_l0 p h1 h2 t [] 0 (Nat.zero_le _) (by simpa using h4)
   refine Ev.cast h ?_
   unfold tok
   simp [h1, h2, h3, h4]
 have hno : ¬ (1 ≤ p ∧ p ≤ 4 ∧ 1 ≤ t.length ∧ t.length ≤ 15) → tok p t = false := by
  intro h
  unfold tok
  exact decide_eq_false (fun ⟨a, b, c, d, _⟩ => h ⟨a, b, c, d⟩)
 unfold impl_TermOk.f
 simp only [peopleOk_eq, Option.bind_some]
 by_cases hp : 1 ≤ p ∧ p ≤ 4
 ·refine Ev.yes (by simp [hp]) ?_
  by_cases h1 : (t.length : Int) < 1
  ·exact Ev.yes h1 (hj true (by simp) (fun _ => hno (by omega)))
  ·refine Ev.no h1 (hj _ (fun h => ?_) (fun h => hno ?_))
   ·have := of_decide_eq_false h; omega
   ·have := of_decide_eq_true h; omega
 ·exact Ev.no (by simp [hp]) (hj true (by simp) (fun _ => hno (fun h => hp ⟨h.1, h.2.1⟩)))

end Go.Proofs.Ytpampekijfjlkaa.L
