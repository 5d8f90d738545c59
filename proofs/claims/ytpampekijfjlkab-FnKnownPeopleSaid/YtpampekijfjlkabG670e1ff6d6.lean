/- Joined by a program of this session's: LDC, LDSTO, LH, LTB, LTY, LO, LCB, LST, LSM, LCBS, LSTS, LDKP, LWS, LBI, LSTI, LKP, LSTT, LKPS, LKPW, LSB, LWM, LSAB. -/
import Derived.Test.YtpampekijfjlkabG35a8070d72
import Derived.Test.YtpampekijfjlkabGbbf6d552f7
import Derived.Test.YtpampekijfjlkabG94a3972a95
import Derived.Laws.BitsLemmas
import Derived.Test.YtpampekijfjlkabGf2363df7c0
import Derived.Test.YtpampekijfjlkabG23a3ca1ba1
import Derived.Test.YtpampekijfjlkabG59ebc9ab1a

/- Drawn claims. -/
namespace Go.Proofs.Ytpampekijfjlkab.L
open Go.RowKit Go.Proofs.Ytpampekijfjlkab.X Go.Proofs.YtpampekijfjlkabW.PrintWords Go.Proofs.YtpampekijfjlkabW.PrintLast Go.Proofs.YtpampekijfjlkabW.PrintMore

theorem l20Claim_ev {s : List Int} (hs : Rd s) {n : Int} (h0 : 0 ≤ n) (h1 : n ≤ 500000) (P m : Int) (hP : P ≤ 1000) (hm0 : -1000 ≤ m) (hm : m ≤ 400) :
  ∃ (i : Int) (t : List M) (n' : Int), Ev (fun k => spec_l20Claim.f k s n P m) (i, t, n') ∧ -1 ≤ i ∧ i ≤ 1000 ∧ t.length ≤ 16 ∧ Sm t ∧ n ≤ n' ∧ n' ≤ n + 100 := by
 have hmx : 1 ≤ mx P 1 ∧ mx P 1 ≤ 1000 := by unfold mx; split <;> omega
 obtain ⟨a, ha, ha0, ha1⟩ := pick_ev hs (p := n) (by omega) (by omega) (mx P 1) (by omega)
 have ha2 := ha1 (by omega)
 obtain ⟨t, p', ht, h2, h3, h4, h5⟩ := l20Term_ev hs (p := n + 1) (by omega) (by omega) P (m * 2) (by omega)
 obtain ⟨b, p2, hb, hb0, hb1⟩ := odd_ev hs (p := p') (by omega) (by omega) m (by omega)
 cases b with
 | false =>
  refine ⟨a, t, p2, ?_, by omega, by omega, h2, h3, by omega, by omega⟩
  unfold spec_l20Claim.f
  simp only [w64 (x := m * 2) (by omega) (by omega)]
  exact Ev.bind ha (Ev.bind ht (Ev.bind hb (Ev.no (by simp) (Ev.some _))))
 | true =>
  obtain ⟨c, hc, hc0, hc1⟩ := pick_ev hs (p := p2) (by omega) (by omega) 2 (by omega)
  have hc2 := hc1 (by omega)
  refine ⟨rd [-1, 4] c, t, p2 + 1, ?_, ?_, ?_, h2, h3, by omega, by omega⟩
  ·unfold spec_l20Claim.f
   simp only [w64 (x := m * 2) (by omega) (by omega), Option.bind_some]
   exact Ev.bind ha (Ev.bind ht (Ev.bind hb (Ev.yes rfl (Ev.bind hc (Ev.yes hc0 (Ev.yes (by simpa using hc2) (Ev.some _)))))))
  ·obtain rfl | rfl : c = 0 ∨ c = 1 := by omega
   ·decide
   ·decide
  ·obtain rfl | rfl : c = 0 ∨ c = 1 := by omega
   ·decide
   ·decide
end Go.Proofs.Ytpampekijfjlkab.L

/- Drawn stories. -/
namespace Go.Proofs.Ytpampekijfjlkab.L
open Go.RowKit Go.Proofs.Ytpampekijfjlkab.X Go.Proofs.YtpampekijfjlkabW.PrintWords Go.Proofs.YtpampekijfjlkabW.PrintLast Go.Proofs.YtpampekijfjlkabW.PrintMore

/-- Claims with small terms. -/
def SmC (l : List S36) : Prop := ∀ c ∈ l, c.f1.length ≤ 16 ∧ Sm c.f1
theorem SmC.snoc {l : List S36} {c : S36} (h : SmC l) (h1 : c.f1.length ≤ 16) (h2 : Sm c.f1) : SmC (l ++ [c]) := by
 intro x hx
 rcases List.mem_append.1 hx with hx | hx
 ·exact h x hx
 ·rw [List.mem_singleton.1 hx]; exact ⟨h1, h2⟩
theorem story_l1 {s : List Int} (P n : Int) : ∀ (d : Nat) (l : List S36), l.length + d = 7 → SmC l → ∃ l' : List S36, Ev (fun k => spec_l20Story.l1 k P l s n) (P, l', n) ∧ l'.length ≤ 7 ∧ SmC l' := by
 intro d
 induction d with
 | zero =>
  intro l hl hs
  exact ⟨l, Ev.step (fun k => by simp only [spec_l20Story.l1]; rfl) (Ev.no (by omega) (Ev.some _)), by omega, hs⟩
 | succ d ih =>
  intro l hl hs
  obtain ⟨l', h1, h2, h3⟩ := ih (l ++ [⟨0, [⟨0, 0⟩]⟩]) (by simp; omega) (hs.snoc (by simp) (Sm.one (by simp)))
  exact ⟨l', Ev.step (fun k => by simp only [spec_l20Story.l1]; rfl) (Ev.yes (by omega) (Ev.yes (by omega) h1)), h2, h3⟩
theorem story_l0 {s : List Int} (hs : Rd s) (m P : Int) (hm0 : 0 ≤ m) (hm : m ≤ 100) (hP : P ≤ 1000) : ∀ (d : Nat) (l : List S36) (n : Int), l.length + d ≤ 6 → SmC l → 0 ≤ n → n ≤ 10000 - 200 * d →
  ∃ (l' : List S36) (n' : Int), Ev (fun k => spec_l20Story.l0 k m P l (d : Int) s n) (P, l', n') ∧ l'.length ≤ 7 ∧ SmC l' ∧ 0 ≤ n' ∧ n' ≤ 20000 := by
 intro d
 induction d with
 | zero =>
  intro l n hl hsm h0 h1
  obtain ⟨b, p1, hb, hp1, hp2⟩ := odd_ev hs h0 (by omega) m (by omega)
  cases b with
  | false => exact ⟨l, p1, Ev.step (fun k => by simp only [spec_l20Story.l0]; rfl) (Ev.no (by omega) (Ev.bind hb (Ev.no Bool.false_ne_true (Ev.some _)))), by omega, hsm, by omega, by omega⟩
  | true =>
   obtain ⟨l', h1', h2, h3⟩ := story_l1 (s := s) P p1 (7 - l.length) l (by omega) hsm
   exact ⟨l', p1, Ev.step (fun k => by simp only [spec_l20Story.l0]; rfl) (Ev.no (by omega) (Ev.bind hb (Ev.yes rfl h1'))), h2, h3, by omega, by omega⟩
 | succ d ih =>
  intro l n hl hsm h0 h1
  obtain ⟨i, t, n', hc, hi0, hi1, ht, hst, hn0, hn1⟩ := l20Claim_ev hs (n := n) h0 (by omega) P (m * 3) hP (by omega) (by omega)
  obtain ⟨l', n2, h1', h2, h3, h4, h5⟩ := ih (l ++ [⟨i, t⟩]) n' (by simp; omega) (hsm.snoc ht hst) (by omega) (by omega)
  refine ⟨l', n2, Ev.step (fun k => by simp only [spec_l20Story.l0]; rfl) ?_, h2, h3, h4, h5⟩
  rw [w64 (x := m * 3) (by omega) (by omega), w64 (by omega) (by omega), show (((d + 1 : Nat) : Int) - 1) = (d : Int) by omega]
  exact Ev.yes (by omega) (Ev.bind hc (Ev.yes (by omega) h1'))
theorem l20Story_ev {s : List Int} (hs : Rd s) (m : Int) (hm0 : 0 ≤ m) (hm : m ≤ 100) : ∃ (p : Int) (l : List S36) (n : Int), Ev (fun k => spec_l20Story.f k s 0 m) (p, l, n) ∧ 1 ≤ p ∧ p ≤ 4 ∧ l.length ≤ 7 ∧ SmC l ∧ 0 ≤ n ∧ n ≤ 20000 := by
 obtain ⟨a, ha, ha0, ha1⟩ := pick_ev hs (p := 0) (by omega) (by omega) 4 (by omega)
 have ha2 := ha1 (by omega)
 obtain ⟨b, hb, hb0, hb1⟩ := pick_ev hs (p := 0 + 1) (by omega) (by omega) 5 (by omega)
 have hb2 := hb1 (by omega)
 obtain ⟨d, rfl⟩ := Int.eq_ofNat_of_zero_le hb0
 obtain ⟨l, n, h1, h2, h3, h4, h5⟩ := story_l0 hs m (1 + a) hm0 hm (by omega) d [] (0 + 1 + 1) (by simp; omega) (fun c hc => by cases hc) (by omega) (by omega)
 refine ⟨1 + a, l, n, ?_, by omega, by omega, h2, h3, h4, h5⟩
 unfold spec_l20Story.f
 refine Ev.bind ha (Ev.bind hb ?_)
 simp only [w64 (x := 1 + a) (by omega) (by omega)]
 exact h1
end Go.Proofs.Ytpampekijfjlkab.L

/- Plain laws of terms, third text: what a valid row of marks says in a world, as a function of the row alone. -/
namespace Go.Proofs.Ytpampekijfjlkab.L
open Go.RowKit Go.Proofs.Ytpampekijfjlkab.X Go.Proofs.YtpampekijfjlkabW.PrintWords Go.Proofs.YtpampekijfjlkabW.PrintLast Go.Proofs.YtpampekijfjlkabW.PrintMore

theorem Tm.good_four {p : Int} (hp : p ≤ 4) : ∀ a : Tm, a.good p → a.good 4
 | .tell i, h => by have h' : (i : Int) < p := h; show (i : Int) < 4; omega
 | .cnt n, h => by have h' : (n : Int) ≤ p + 1 := h; show (n : Int) ≤ 4 + 1; omega
 | .neg a, h => good_four hp a h
 | .bin o a b, h => ⟨h.1, good_four hp a h.2.1, good_four hp b h.2.2⟩
open Classical in
/-- The tree of a row of marks. -/
noncomputable def tree (t : List M) : Tm := if h : ∃ a : Tm, a.good 4 ∧ t = a.post then Classical.choose h else .tell 0
theorem tree_post {a : Tm} (h : a.good 4) : (tree a.post).good 4 ∧ a.post = (tree a.post).post := by
 have h' : ∃ b : Tm, b.good 4 ∧ a.post = b.post := ⟨a, h, rfl⟩
 unfold tree
 rw [dif_pos h']
 exact Classical.choose_spec h'
/-- Whether a row of marks holds in a world. -/
noncomputable def hv (t : List M) (w : Nat) : Bool := (tree t).ev w
theorem hv_post {a : Tm} (h : a.good 4) (hl : a.post.length ≤ 500) {w : Nat} (hw : w < 16) : hv a.post w = a.ev w := by
 obtain ⟨h1, h2⟩ := tree_post h
 have e1 := impl_holds_ev (by decide) hw h hl
 have e2 := impl_holds_ev (by decide) hw h1 (by rw [← h2]; exact hl)
 rw [← h2] at e2
 exact Ev.uniq e2 e1
theorem tok_tree {p : Int} {t : List M} (h : tok p t = true) : ∃ a : Tm, a.good p ∧ t = a.post ∧ a.good 4 ∧ t.length ≤ 15 := by
 obtain ⟨a, h1, h2⟩ := parse h
 obtain ⟨_, h3, _, h4, _⟩ := tok_iff.1 h
 exact ⟨a, h1, h2, a.good_four h3 h1, h4⟩
theorem impl_holds_hv {p : Int} {t : List M} (h : tok p t = true) {w : Nat} (hw : w < 16) : Ev (fun k => impl_holds.f k t (w : Int)) (hv t w) := by
 obtain ⟨a, _, rfl, h4, hl⟩ := tok_tree h
 rw [hv_post h4 (by omega) hw]
 exact impl_holds_ev (by decide) hw h4 (by omega)
theorem spec_holds_hv {p : Int} {t : List M} (h : tok p t = true) {w : Nat} (hw : w < 16) : Ev (fun k => spec_l3Holds.f k t (w : Int)) (hv t w) := by
 obtain ⟨a, _, rfl, h4, hl⟩ := tok_tree h
 rw [hv_post h4 (by omega) hw]
 exact l3Holds_ev (by decide) hw a h4 (by omega)
/-- Whether a claim may be made in a world. -/
noncomputable def may (i : Int) (t : List M) (w : Nat) : Bool := hv t w == w.testBit i.toNat
end Go.Proofs.Ytpampekijfjlkab.L

/- Plain laws of tables: the worlds in which something holds, as the bits of a number. -/
namespace Go.Proofs.Ytpampekijfjlkab.L
open Go.RowKit Go.Proofs.Ytpampekijfjlkab.X Go.Proofs.YtpampekijfjlkabW.PrintWords Go.Proofs.YtpampekijfjlkabW.PrintLast Go.Proofs.YtpampekijfjlkabW.PrintMore

/-- The worlds below n in which P holds, as bits. -/
def tabL (P : Nat → Bool) : Nat → Nat
 | 0 => 0
 | n + 1 => tabL P n ||| (if P n = true then 2 ^ n else 0)
theorem tabL_bit (P : Nat → Bool) : ∀ n w, (tabL P n).testBit w = (decide (w < n) && P w)
 | 0, w => by simp [tabL]
 | n + 1, w => by
  rw [tabL, Nat.testBit_or, tabL_bit P n w]
  by_cases e : w = n
  ·subst e
   by_cases h : P w = true
   ·rw [if_pos h, Nat.testBit_two_pow_self, h]; simp
   ·rw [if_neg h, Nat.zero_testBit]; simp at h; simp [h]
  ·have h1 : (if P n = true then 2 ^ n else 0).testBit w = false := by
    by_cases h : P n = true
    ·rw [if_pos h, Nat.testBit_two_pow]; simp; omega
    ·rw [if_neg h, Nat.zero_testBit]
   rw [h1, Bool.or_false]
   congr 1
   exact decide_eq_decide.mpr (by omega)
theorem lt_of_bits {x n : Nat} (h : ∀ w, n ≤ w → x.testBit w = false) : x < 2 ^ n := Nat.lt_pow_two_of_testBit x (fun w hw => h w hw)
theorem tabL_lt (P : Nat → Bool) (n : Nat) : tabL P n < 2 ^ n := lt_of_bits (fun w hw => by rw [tabL_bit]; simp; omega)
theorem tabL_mono {P : Nat → Bool} {n : Nat} (hn : n ≤ 16) : tabL P n < 65536 := by
 have := tabL_lt P n
 have h : (2 : Nat) ^ n ≤ 2 ^ 16 := Nat.pow_le_pow_right (by decide) hn
 omega
theorem wrap_i64_small (n : Int) (h0 : 0 ≤ n) (h1 : n < 2 ^ 32) : IntKind.i64.wrap n = n := by rw [IntKind.wrap_i64]; omega
theorem or_nat {a b : Nat} (ha : a < 2 ^ 32) (hb : b < 2 ^ 32) : Go.bits .or .i64 (a : Int) (b : Int) = ((a ||| b : Nat) : Int) := (bits_nat .i64 32 (by decide) wrap_i64_small a b ha hb).2
theorem and_nat {a b : Nat} (ha : a < 2 ^ 32) (hb : b < 2 ^ 32) : Go.bits .and .i64 (a : Int) (b : Int) = ((a &&& b : Nat) : Int) := (bits_nat .i64 32 (by decide) wrap_i64_small a b ha hb).1
theorem shl_fin : ∀ i : Fin 31, shl .i64 1 ((i.val : Nat) : Int) = ((2 ^ i.val : Nat) : Int) := by decide +kernel
theorem shl_nat {i : Nat} (hi : i < 31) : shl .i64 1 (i : Int) = ((2 ^ i : Nat) : Int) := shl_fin ⟨i, hi⟩
theorem or_step {P : Nat → Bool} {i : Nat} (hi : i < 16) (h : P i = true) : Go.bits .or .i64 ((tabL P i : Nat) : Int) (shl .i64 1 (i : Int)) = ((tabL P (i + 1) : Nat) : Int) := by
 have h1 := tabL_lt P i
 have h2 : (2 : Nat) ^ i < 2 ^ 16 := Nat.pow_lt_pow_right (by decide) hi
 rw [shl_nat (by omega), or_nat (by omega) (by omega), tabL, if_pos h]
theorem not_step {P : Nat → Bool} {i : Nat} (h : ¬ P i = true) : tabL P (i + 1) = tabL P i := by rw [tabL, if_neg h, Nat.or_zero]
theorem people_nat {p : Int} (h0 : 1 ≤ p) (h1 : p ≤ 4) : ∃ q : Nat, p = (q : Int) ∧ 1 ≤ q ∧ q ≤ 4 ∧ 2 ^ q ≤ 16 ∧ p.toNat = q := by
 obtain ⟨q, rfl⟩ := Int.eq_ofNat_of_zero_le (show 0 ≤ p by omega)
 refine ⟨q, rfl, by omega, by omega, ?_, by simp⟩
 have : (2 : Nat) ^ q ≤ 2 ^ 4 := Nat.pow_le_pow_right (by decide) (by omega)
 omega
end Go.Proofs.Ytpampekijfjlkab.L

/- Plain law of the program's maker of tables. -/
namespace Go.Proofs.Ytpampekijfjlkab.L
open Go.RowKit Go.Proofs.Ytpampekijfjlkab.X Go.Proofs.YtpampekijfjlkabW.PrintWords Go.Proofs.YtpampekijfjlkabW.PrintLast Go.Proofs.YtpampekijfjlkabW.PrintMore

theorem tableBy_l0 {F : Nat → Int → Option Bool} {P : Nat → Bool} {n : Nat} (hn : n ≤ 16) (hF : ∀ w : Nat, w < n → Ev (fun k => F k (w : Int)) (P w)) : ∀ d i, d + i = n →
  Ev (fun k => impl_tableBy.l0 F k ((tabL P i : Nat) : Int) (n : Int) (i : Int)) ((tabL P n : Nat) : Int) := by
 intro d
 induction d with
 | zero =>
  intro i hi
  rw [Nat.zero_add] at hi
  subst hi
  exact Ev.step (fun k => by simp only [impl_tableBy.l0]; rfl) (Ev.no (by omega) (Ev.some _))
 | succ d ih =>
  intro i hi
  refine Ev.step (fun k => by simp only [impl_tableBy.l0]; rfl) ?_
  refine Ev.yes (by omega) (Ev.bind (hF i (by omega)) ?_)
  rw [w64 (by omega) (by omega), show ((i : Int) + 1) = ((i + 1 : Nat) : Int) by omega]
  by_cases h : P i = true
  ·refine Ev.yes h (Ev.yes (by omega) ?_)
   rw [or_step (by omega) h]
   exact ih (i + 1) (by omega)
  ·refine Ev.no h ?_
   have := ih (i + 1) (by omega)
   rwa [not_step h] at this
theorem tableBy_ev {F : Nat → Int → Option Bool} {P : Nat → Bool} {q : Nat} (hq : q ≤ 4) (hF : ∀ w : Nat, w < 2 ^ q → Ev (fun k => F k (w : Int)) (P w)) : Ev (fun k => impl_tableBy.f F k (q : Int)) ((tabL P (2 ^ q) : Nat) : Int) := by
 unfold impl_tableBy.f
 refine Ev.yes (by omega) ?_
 rw [shl_nat (by omega)]
 have h16 : (2 : Nat) ^ q ≤ 2 ^ 4 := Nat.pow_le_pow_right (by decide) hq
 exact tableBy_l0 (by omega) hF (2 ^ q) 0 (by omega)
end Go.Proofs.Ytpampekijfjlkab.L

/- Plain laws of claims: which are ones. -/
namespace Go.Proofs.Ytpampekijfjlkab.L
open Go.RowKit Go.Proofs.Ytpampekijfjlkab.X Go.Proofs.YtpampekijfjlkabW.PrintWords Go.Proofs.YtpampekijfjlkabW.PrintLast Go.Proofs.YtpampekijfjlkabW.PrintMore

/-- A claim by one of so many people. -/
def clok (p i : Int) (t : List M) : Bool := decide (0 ≤ i ∧ i < p) && (tok p t && decide (t.length ≤ 13))
theorem clok_iff {p i : Int} {t : List M} : clok p i t = true ↔ 0 ≤ i ∧ i < p ∧ tok p t = true ∧ t.length ≤ 13 := by
 unfold clok
 simp only [Bool.and_eq_true, decide_eq_true_eq]
 exact ⟨fun h => ⟨h.1.1, h.1.2, h.2.1, h.2.2⟩, fun h => ⟨⟨h.1, h.2.1⟩, h.2.2.1, h.2.2.2⟩⟩
theorem clok_false {p i : Int} {t : List M} (h : ¬ (0 ≤ i ∧ i < p ∧ tok p t = true ∧ t.length ≤ 13)) : false = clok p i t := by
 cases e : clok p i t with
 | false => rfl
 | true => exact absurd (clok_iff.1 e) h
theorem impl_ClaimOk_ev (p i : Int) (t : List M) : Ev (fun k => impl_ClaimOk.f k p i t) (clok p i t) := by
 unfold impl_ClaimOk.f
 simp only [peopleOk_eq, Option.bind_some]
 by_cases h0 : 1 ≤ p ∧ p ≤ 4
 ·refine Ev.yes (decide_eq_true h0) ?_
  by_cases h1 : i ≥ 0
  ·refine Ev.yes h1 ?_
   by_cases h2 : i < p
   ·refine Ev.yes h2 (Ev.bind (impl_TermOk_ev p t) ?_)
    by_cases h3 : tok p t = true
    ·refine Ev.yes h3 (Ev.cast (Ev.some _) ?_)
     by_cases h4 : t.length ≤ 13
     ·rw [clok_iff.2 ⟨h1, h2, h3, h4⟩]; exact decide_eq_true (by omega)
     ·rw [← clok_false (fun h => h4 h.2.2.2)]; exact decide_eq_false (by omega)
    ·exact Ev.no h3 (Ev.cast (Ev.some _) (clok_false (fun h => h3 h.2.2.1)))
   ·exact Ev.no h2 (Ev.cast (Ev.some _) (clok_false (fun h => h2 h.2.1)))
  ·exact Ev.no h1 (Ev.cast (Ev.some _) (clok_false (fun h => h1 h.1)))
 ·refine Ev.no (by simpa using h0) (Ev.cast (Ev.some _) (clok_false (fun h => h0 ?_)))
  have := tok_iff.1 h.2.2.1
  omega
theorem spec_ClaimOk_ev (p i : Int) (t : List M) (hl : t.length ≤ 4611686018427387904) (hw : ∀ m ∈ t, m.f1 ≤ 9223372036854775807) : Ev (fun k => spec_ClaimOk.f k p i t) (clok p i t) := by
 unfold spec_ClaimOk.f
 by_cases h1 : i ≥ 0
 ·refine Ev.yes h1 ?_
  by_cases h2 : i < p
  ·refine Ev.yes h2 (Ev.bind (spec_TermOk_ev p t hl hw) ?_)
   by_cases h3 : tok p t = true
   ·refine Ev.yes h3 (Ev.cast (Ev.some _) ?_)
    by_cases h4 : t.length ≤ 13
    ·rw [clok_iff.2 ⟨h1, h2, h3, h4⟩]; exact decide_eq_true (by omega)
    ·rw [← clok_false (fun h => h4 h.2.2.2)]; exact decide_eq_false (by omega)
   ·exact Ev.no h3 (Ev.cast (Ev.some _) (clok_false (fun h => h3 h.2.2.1)))
  ·exact Ev.no h2 (Ev.cast (Ev.some _) (clok_false (fun h => h2 h.2.1)))
 ·exact Ev.no h1 (Ev.cast (Ev.some _) (clok_false (fun h => h1 h.1)))
end Go.Proofs.Ytpampekijfjlkab.L

/- Plain laws of the tables of claims. -/
namespace Go.Proofs.Ytpampekijfjlkab.L
open Go.RowKit Go.Proofs.Ytpampekijfjlkab.X Go.Proofs.YtpampekijfjlkabW.PrintWords Go.Proofs.YtpampekijfjlkabW.PrintLast Go.Proofs.YtpampekijfjlkabW.PrintMore

theorem impl_maySay_ev {p i : Int} {t : List M} (h : clok p i t = true) {w : Nat} (hw : w < 16) : Ev (fun k => impl_maySay.f k i t (w : Int)) (may i t w) := by
 obtain ⟨h0, h1, h2, _⟩ := clok_iff.1 h
 have h4 := (tok_iff.1 h2).2.1
 obtain ⟨j, rfl⟩ := Int.eq_ofNat_of_zero_le h0
 unfold impl_maySay.f
 refine Ev.bind (impl_holds_hv h2 hw) (Ev.yes h0 (Ev.cast (Ev.some _) ?_))
 rw [bit_and' hw (show j < 4 by omega)]
 rfl
/-- The table of a claim. -/
noncomputable def ctab (p i : Int) (t : List M) : Nat := tabL (may i t) (2 ^ p.toNat)
theorem impl_ClaimTable_ev (p i : Int) (t : List M) : Ev (fun k => impl_ClaimTable.f k p i t) (if clok p i t = true then ((ctab p i t : Nat) : Int) else -1) := by
 unfold impl_ClaimTable.f
 refine Ev.bind (impl_ClaimOk_ev p i t) ?_
 by_cases h : clok p i t = true
 ·rw [if_pos h]
  refine Ev.yes h ?_
  obtain ⟨hp0, hp1, _⟩ := tok_iff.1 (clok_iff.1 h).2.2.1
  obtain ⟨q, rfl, _, hq, hq2, _⟩ := people_nat hp0 hp1
  exact tableBy_ev hq (fun w hw => impl_maySay_ev h (by omega))
 ·rw [if_neg h]
  exact Ev.no h (Ev.some _)
end Go.Proofs.Ytpampekijfjlkab.L

/- Plain laws of stories: which are ones, and their tables; the program's. -/
namespace Go.Proofs.Ytpampekijfjlkab.L
open Go.RowKit Go.Proofs.Ytpampekijfjlkab.X Go.Proofs.YtpampekijfjlkabW.PrintWords Go.Proofs.YtpampekijfjlkabW.PrintLast Go.Proofs.YtpampekijfjlkabW.PrintMore

abbrev C := S36
theorem rdC_at (pre : List C) (c : C) (suf : List C) : rd_T36 (pre ++ c :: suf) ((pre.length : Nat) : Int) = c := by
 unfold rd_T36
 simp [List.getD]
/-- A story of so many people. -/
def sok (p : Int) (l : List C) : Bool := l.all (fun c => clok p c.f0 c.f1) && decide (1 ≤ p ∧ p ≤ 4 ∧ l.length ≤ 6)
theorem sok_iff {p : Int} {l : List C} : sok p l = true ↔ (∀ c ∈ l, clok p c.f0 c.f1 = true) ∧ 1 ≤ p ∧ p ≤ 4 ∧ l.length ≤ 6 := by
 unfold sok
 rw [Bool.and_eq_true, List.all_eq_true, decide_eq_true_eq]
theorem impl_StoryOk_l0 {p : Int} {l : List C} (hl : l.length ≤ 4611686018427387904) : ∀ (suf pre : List C), l = pre ++ suf →
  Ev (fun k => impl_StoryOk.l0 k p l l ((l.length : Nat) : Int) ((pre.length : Nat) : Int)) (suf.all (fun c => clok p c.f0 c.f1) && decide (1 ≤ p ∧ p ≤ 4 ∧ l.length ≤ 6)) := by
 intro suf
 induction suf with
 | nil =>
  intro pre he
  have hle : l.length = pre.length := by rw [he]; simp
  refine Ev.step (fun k => by simp only [impl_StoryOk.l0]; rfl) ?_
  refine Ev.no (by omega) ?_
  simp only [peopleOk_eq, Option.bind_some, List.all_nil, Bool.true_and]
  by_cases h : 1 ≤ p ∧ p ≤ 4
  ·refine Ev.yes (decide_eq_true h) (Ev.cast (Ev.some _) ?_)
   exact decide_eq_decide.mpr (by omega)
  ·refine Ev.no (by simpa using h) (Ev.cast (Ev.some _) ?_)
   exact (decide_eq_false (fun hh => h ⟨hh.1, hh.2.1⟩)).symm
 | cons c t ih =>
  intro pre he
  have hle : l.length = pre.length + (t.length + 1) := by rw [he]; simp
  have hc : rd_T36 l ((pre.length : Nat) : Int) = c := by rw [he]; exact rdC_at pre c t
  refine Ev.step (fun k => by simp only [impl_StoryOk.l0]; rfl) ?_
  rw [hc, w64 (by omega) (by omega), show (((pre.length : Nat) : Int) + 1) = (((pre ++ [c]).length : Nat) : Int) by simp]
  refine Ev.yes (by omega) (Ev.yes (by omega) (Ev.yes (by omega) (Ev.bind (impl_ClaimOk_ev p c.f0 c.f1) ?_)))
  by_cases h : clok p c.f0 c.f1 = true
  ·exact Ev.yes h (Ev.cast (ih (pre ++ [c]) (by rw [he]; simp)) (by rw [List.all_cons, h, Bool.true_and]))
  ·rw [Bool.not_eq_true] at h
   rw [h]
   exact Ev.no (by simp) (Ev.cast (Ev.some _) (by rw [List.all_cons, h]; simp))
theorem impl_StoryOk_ev (p : Int) (l : List C) (hl : l.length ≤ 4611686018427387904) : Ev (fun k => impl_StoryOk.f k p l) (sok p l) := by
 unfold impl_StoryOk.f
 exact impl_StoryOk_l0 hl l [] rfl
/-- All worlds, as bits. -/
def fullT (q : Nat) : Nat := 2 ^ (2 ^ q) - 1
theorem full_eq {q : Nat} (h1 : 1 ≤ q) (h4 : q ≤ 4) : wrap64 (shl .i64 1 (shl .u64 1 (q : Int)) - 1) = ((fullT q : Nat) : Int) := by
 have : ∀ q : Fin 5, 1 ≤ q.val → wrap64 (shl .i64 1 (shl .u64 1 ((q.val : Nat) : Int)) - 1) = ((fullT q.val : Nat) : Int) := by decide +kernel
 exact this ⟨q, by omega⟩ h1
theorem full_lt {q : Nat} (h4 : q ≤ 4) : fullT q < 65536 := by
 have : (2 : Nat) ^ q ≤ 2 ^ 4 := Nat.pow_le_pow_right (by decide) h4
 have h2 : (2 : Nat) ^ (2 ^ q) ≤ 2 ^ 16 := Nat.pow_le_pow_right (by decide) (by omega)
 unfold fullT
 omega
/-- The table of a story, from some worlds on. -/
noncomputable def stabFrom (p : Int) : Nat → List C → Nat
 | a, [] => a
 | a, c :: l => stabFrom p (a &&& ctab p c.f0 c.f1) l
noncomputable def stab (p : Int) (l : List C) : Nat := stabFrom p (fullT p.toNat) l
theorem and_lt {a b n : Nat} (h : a < n) : a &&& b < n := Nat.lt_of_le_of_lt Nat.and_le_left h
theorem ctab_lt' {p i : Int} {t : List M} (h : clok p i t = true) : ctab p i t < 65536 := by
 obtain ⟨hp0, hp1, _⟩ := tok_iff.1 (clok_iff.1 h).2.2.1
 obtain ⟨q, rfl, _, hq, hq2, e⟩ := people_nat hp0 hp1
 unfold ctab
 rw [e]
 exact tabL_mono hq2
theorem impl_storyTable_l0 {p : Int} {l : List C} (hl : l.length ≤ 4611686018427387904) : ∀ (suf pre : List C) (a : Nat), l = pre ++ suf → (∀ c ∈ suf, clok p c.f0 c.f1 = true) → a < 65536 →
  Ev (fun k => impl_storyTable.l0 k p (a : Int) l ((l.length : Nat) : Int) ((pre.length : Nat) : Int)) ((stabFrom p a suf : Nat) : Int) := by
 intro suf
 induction suf with
 | nil =>
  intro pre a he _ _
  have hle : l.length = pre.length := by rw [he]; simp
  exact Ev.step (fun k => by simp only [impl_storyTable.l0]; rfl) (Ev.no (by omega) (Ev.some _))
 | cons c t ih =>
  intro pre a he hc0 ha
  have hle : l.length = pre.length + (t.length + 1) := by rw [he]; simp
  have hc : rd_T36 l ((pre.length : Nat) : Int) = c := by rw [he]; exact rdC_at pre c t
  have hk := hc0 c (by simp)
  refine Ev.step (fun k => by simp only [impl_storyTable.l0]; rfl) ?_
  rw [hc, w64 (by omega) (by omega), show (((pre.length : Nat) : Int) + 1) = (((pre ++ [c]).length : Nat) : Int) by simp]
  refine Ev.yes (by omega) (Ev.yes (by omega) (Ev.yes (by omega) (Ev.bind (impl_ClaimTable_ev p c.f0 c.f1) ?_)))
  rw [if_pos hk]
  have hb := ctab_lt' hk
  rw [and_nat (by omega) (by omega)]
  exact ih (pre ++ [c]) _ (by rw [he]; simp) (fun x hx => hc0 x (List.mem_cons_of_mem _ hx)) (and_lt ha)
theorem impl_storyTable_ev {p : Int} {l : List C} (h : sok p l = true) : Ev (fun k => impl_storyTable.f k p l) ((stab p l : Nat) : Int) := by
 obtain ⟨h1, hp0, hp1, h6⟩ := sok_iff.1 h
 obtain ⟨q, rfl, hq1, hq, hq2, e⟩ := people_nat hp0 hp1
 unfold impl_storyTable.f stab
 rw [full_eq hq1 hq, e]
 exact Ev.yes (by omega) (impl_storyTable_l0 (by omega) l [] _ rfl h1 (full_lt hq))
end Go.Proofs.Ytpampekijfjlkab.L

/- Plain law of the reference's test whether a claim may be made. -/
namespace Go.Proofs.Ytpampekijfjlkab.L
open Go.RowKit Go.Proofs.Ytpampekijfjlkab.X Go.Proofs.YtpampekijfjlkabW.PrintWords Go.Proofs.YtpampekijfjlkabW.PrintLast Go.Proofs.YtpampekijfjlkabW.PrintMore

theorem spec_may_ev {p i : Int} {t : List M} (h2 : tok p t = true) (h0 : 0 ≤ i) (h1 : i < p) {w : Nat} (hw : w < 16) : Ev (fun k => spec_l4May.f k i t (w : Int)) (may i t w) := by
 have h4 := (tok_iff.1 h2).2.1
 obtain ⟨j, rfl⟩ := Int.eq_ofNat_of_zero_le h0
 unfold spec_l4May.f
 refine Ev.yes h0 (Ev.bind (spec_holds_hv h2 hw) (Ev.cast (Ev.some _) ?_))
 rw [bit_mod' hw (show j < 4 by omega)]
 unfold may
 exact Bool.beq_comm
end Go.Proofs.Ytpampekijfjlkab.L

/- Plain laws of the reference's tables of claims. -/
namespace Go.Proofs.Ytpampekijfjlkab.L
open Go.RowKit Go.Proofs.Ytpampekijfjlkab.X Go.Proofs.YtpampekijfjlkabW.PrintWords Go.Proofs.YtpampekijfjlkabW.PrintLast Go.Proofs.YtpampekijfjlkabW.PrintMore

theorem spec_l4May_ev {p i : Int} {t : List M} (h : clok p i t = true) {w : Nat} (hw : w < 16) : Ev (fun k => spec_l4May.f k i t (w : Int)) (may i t w) := by
 obtain ⟨h0, h1, h2, _⟩ := clok_iff.1 h
 exact spec_may_ev h2 h0 h1 hw
theorem l4Table_l0 {q : Nat} {i : Int} {t : List M} (hq : q ≤ 4) (hq2 : 2 ^ q ≤ 16) (h : clok (q : Int) i t = true) : ∀ d j, d + j = 2 ^ q →
  Ev (fun k => spec_l4Table.l0 k (q : Int) ((tabL (may i t) j : Nat) : Int) (j : Int) i t) ((tabL (may i t) (2 ^ q) : Nat) : Int) := by
 intro d
 induction d with
 | zero =>
  intro j hj
  rw [Nat.zero_add] at hj
  refine Ev.step (fun k => by simp only [spec_l4Table.l0]; rfl) ?_
  rw [shl_nat (by omega)]
  refine Ev.yes (by omega) (Ev.no (by omega) (Ev.cast (Ev.some _) ?_))
  rw [hj]
 | succ d ih =>
  intro j hj
  refine Ev.step (fun k => by simp only [spec_l4Table.l0]; rfl) ?_
  rw [shl_nat (by omega)]
  refine Ev.yes (by omega) (Ev.yes (by omega) (Ev.bind (spec_l4May_ev h (by omega)) ?_))
  rw [w64 (by omega) (by omega), show ((j : Int) + 1) = ((j + 1 : Nat) : Int) by omega]
  by_cases hb : may i t j = true
  ·refine Ev.yes hb (Ev.yes (by omega) ?_)
   rw [or_step (by omega) hb]
   exact ih (j + 1) (by omega)
  ·refine Ev.no hb ?_
   have := ih (j + 1) (by omega)
   rwa [not_step hb] at this
theorem spec_l4Table_ev {p i : Int} {t : List M} (h : clok p i t = true) : Ev (fun k => spec_l4Table.f k p i t) ((ctab p i t : Nat) : Int) := by
 unfold spec_l4Table.f
 obtain ⟨hp0, hp1, _⟩ := tok_iff.1 (clok_iff.1 h).2.2.1
 obtain ⟨q, rfl, _, hq, hq2, _⟩ := people_nat hp0 hp1
 exact l4Table_l0 hq hq2 h (2 ^ q) 0 (by omega)
end Go.Proofs.Ytpampekijfjlkab.L

/- Plain laws of the reference's stories and their tables. -/
namespace Go.Proofs.Ytpampekijfjlkab.L
open Go.RowKit Go.Proofs.Ytpampekijfjlkab.X Go.Proofs.YtpampekijfjlkabW.PrintWords Go.Proofs.YtpampekijfjlkabW.PrintLast Go.Proofs.YtpampekijfjlkabW.PrintMore

/-- Small enough for the reference's tests. -/
def Fit (l : List C) : Prop := ∀ c ∈ l, c.f1.length ≤ 4611686018427387904 ∧ ∀ m ∈ c.f1, m.f1 ≤ 9223372036854775807
theorem spec_StoryOk_l0 {p : Int} {l : List C} (hl : l.length ≤ 4611686018427387904) : ∀ (suf pre : List C), l = pre ++ suf → Fit suf →
  Ev (fun k => spec_StoryOk.l0 k p l ((pre.length : Nat) : Int)) (suf.all (fun c => clok p c.f0 c.f1) && decide (1 ≤ p ∧ p ≤ 4 ∧ l.length ≤ 6)) := by
 intro suf
 induction suf with
 | nil =>
  intro pre he _
  have hle : l.length = pre.length := by rw [he]; simp
  refine Ev.step (fun k => by simp only [spec_StoryOk.l0]; rfl) ?_
  refine Ev.no (by omega) ?_
  simp only [l1In_eq, Option.bind_some, List.all_nil, Bool.true_and]
  by_cases h : 1 ≤ p ∧ p ≤ 4
  ·refine Ev.yes (decide_eq_true h) (Ev.cast (Ev.some _) ?_)
   exact decide_eq_decide.mpr (by omega)
  ·refine Ev.no (by simpa using h) (Ev.cast (Ev.some _) ?_)
   exact (decide_eq_false (fun hh => h ⟨hh.1, hh.2.1⟩)).symm
 | cons c t ih =>
  intro pre he hf
  have hle : l.length = pre.length + (t.length + 1) := by rw [he]; simp
  have hc : rd_T36 l ((pre.length : Nat) : Int) = c := by rw [he]; exact rdC_at pre c t
  have hfc := hf c (by simp)
  refine Ev.step (fun k => by simp only [spec_StoryOk.l0]; rfl) ?_
  rw [hc, w64 (by omega) (by omega), show (((pre.length : Nat) : Int) + 1) = (((pre ++ [c]).length : Nat) : Int) by simp]
  refine Ev.yes (by omega) (Ev.yes (by omega) (Ev.bind (spec_ClaimOk_ev p c.f0 c.f1 hfc.1 hfc.2) ?_))
  by_cases h : clok p c.f0 c.f1 = true
  ·exact Ev.yes h (Ev.cast (ih (pre ++ [c]) (by rw [he]; simp) (fun x hx => hf x (List.mem_cons_of_mem _ hx))) (by rw [List.all_cons, h, Bool.true_and]))
  ·rw [Bool.not_eq_true] at h
   rw [h]
   exact Ev.no (by simp) (Ev.cast (Ev.some _) (by rw [List.all_cons, h]; simp))
theorem spec_StoryOk_ev (p : Int) (l : List C) (hl : l.length ≤ 4611686018427387904) (hf : Fit l) : Ev (fun k => spec_StoryOk.f k p l) (sok p l) := by
 unfold spec_StoryOk.f
 exact spec_StoryOk_l0 hl l [] rfl hf
theorem spec_l4Story_l0 {p : Int} {l : List C} (hl : l.length ≤ 4611686018427387904) : ∀ (suf pre : List C) (a : Nat), l = pre ++ suf → (∀ c ∈ suf, clok p c.f0 c.f1 = true) → a < 65536 →
  Ev (fun k => spec_l4Story.l0 k p l (a : Int) ((pre.length : Nat) : Int)) ((stabFrom p a suf : Nat) : Int) := by
 intro suf
 induction suf with
 | nil =>
  intro pre a he _ _
  have hle : l.length = pre.length := by rw [he]; simp
  exact Ev.step (fun k => by simp only [spec_l4Story.l0]; rfl) (Ev.no (by omega) (Ev.some _))
 | cons c t ih =>
  intro pre a he hc0 ha
  have hle : l.length = pre.length + (t.length + 1) := by rw [he]; simp
  have hc : rd_T36 l ((pre.length : Nat) : Int) = c := by rw [he]; exact rdC_at pre c t
  have hk := hc0 c (by simp)
  refine Ev.step (fun k => by simp only [spec_l4Story.l0]; rfl) ?_
  rw [hc, w64 (by omega) (by omega), show (((pre.length : Nat) : Int) + 1) = (((pre ++ [c]).length : Nat) : Int) by simp]
  refine Ev.yes (by omega) (Ev.yes (by omega) (Ev.bind (spec_l4Table_ev hk) ?_))
  have hb := ctab_lt' hk
  rw [and_nat (by omega) (by omega)]
  exact ih (pre ++ [c]) _ (by rw [he]; simp) (fun x hx => hc0 x (List.mem_cons_of_mem _ hx)) (and_lt ha)
theorem spec_l4Story_ev {p : Int} {l : List C} (h : sok p l = true) : Ev (fun k => spec_l4Story.f k p l) ((stab p l : Nat) : Int) := by
 obtain ⟨h1, hp0, hp1, h6⟩ := sok_iff.1 h
 obtain ⟨q, rfl, hq1, hq, hq2, e⟩ := people_nat hp0 hp1
 unfold spec_l4Story.f stab
 rw [full_eq hq1 hq, e]
 exact Ev.yes (by omega) (spec_l4Story_l0 (by omega) l [] _ rfl h1 (full_lt hq))
end Go.Proofs.Ytpampekijfjlkab.L

/- Drawn stories of which is asked what is known. -/
namespace Go.Proofs.Ytpampekijfjlkab.L
open Go.RowKit Go.Proofs.Ytpampekijfjlkab.X Go.Proofs.YtpampekijfjlkabW.PrintWords Go.Proofs.YtpampekijfjlkabW.PrintLast Go.Proofs.YtpampekijfjlkabW.PrintMore

theorem DrawKnownPeople_ev {l : List Int} (hw : ∀ x ∈ l, (Lit.int .u8 x).wf = true) : ∃ (p : Int) (c : List S36), Ev (fun k => spec_DrawKnownPeople.f k l) (p, c) ∧ 1 ≤ p ∧ p ≤ 4 ∧ c.length ≤ 7 ∧ SmC c := by
 obtain ⟨s, hs, ho⟩ := open_eq hw
 obtain ⟨p, c, n, h, h1, h2, h3, h4, _⟩ := l20Story_ev hs 12 (by omega) (by omega)
 refine ⟨p, c, ?_, h1, h2, h3, h4⟩
 unfold spec_DrawKnownPeople.f
 rw [ho]
 simp only [Option.bind_some]
 exact Ev.bind h (Ev.some _)
theorem SmC.fit' {c : List S36} (h : SmC c) : Fit c := fun x hx => ⟨by have := (h x hx).1; omega, (h x hx).2.wf⟩
end Go.Proofs.Ytpampekijfjlkab.L

/- Plain laws of the worlds in a table. -/
namespace Go.Proofs.Ytpampekijfjlkab.L
open Go.RowKit Go.Proofs.Ytpampekijfjlkab.X Go.Proofs.YtpampekijfjlkabW.PrintWords Go.Proofs.YtpampekijfjlkabW.PrintLast Go.Proofs.YtpampekijfjlkabW.PrintMore

/-- A table of worlds of so many people. -/
def tabok (p x : Int) : Bool := decide (1 ≤ p ∧ p ≤ 4 ∧ 0 ≤ x ∧ x < ((2 ^ (2 ^ p.toNat) : Nat) : Int))
theorem tabok_iff {p x : Int} : tabok p x = true ↔ 1 ≤ p ∧ p ≤ 4 ∧ 0 ≤ x ∧ x < ((2 ^ (2 ^ p.toNat) : Nat) : Int) := by unfold tabok; simp
theorem two_pow {q : Nat} (h1 : 1 ≤ q) (h4 : q ≤ 4) : shl .i64 1 (shl .u64 1 (q : Int)) = ((2 ^ (2 ^ q) : Nat) : Int) ∧ 2 ^ (2 ^ q) ≤ 65536 := by
 have : ∀ q : Fin 5, 1 ≤ q.val → shl .i64 1 (shl .u64 1 ((q.val : Nat) : Int)) = ((2 ^ (2 ^ q.val) : Nat) : Int) ∧ 2 ^ (2 ^ q.val) ≤ 65536 := by decide +kernel
 exact this ⟨q, by omega⟩ h1
theorem impl_TableOk_eq (p x : Int) : impl_TableOk.f p x = some (tabok p x) := by
 unfold impl_TableOk.f
 simp only [peopleOk_eq, Option.bind_some]
 by_cases h : 1 ≤ p ∧ p ≤ 4
 ·obtain ⟨q, rfl, hq1, hq4, hq, e⟩ := people_nat h.1 h.2
  rw [if_pos (decide_eq_true h)]
  by_cases h0 : x ≥ 0
  ·rw [if_pos h0, if_pos (by omega), (two_pow hq1 hq4).1]
   congr 1
   unfold tabok
   rw [e]
   exact decide_eq_decide.mpr ⟨fun hw => ⟨h.1, h.2, h0, hw⟩, fun hw => hw.2.2.2⟩
  ·rw [if_neg h0]
   congr 1
   exact (decide_eq_false (fun hw => h0 hw.2.2.1)).symm
 ·rw [if_neg (by simpa using h)]
  congr 1
  exact (decide_eq_false (fun hw => h ⟨hw.1, hw.2.1⟩)).symm
theorem spec_TableOk_eq (p x : Int) : spec_TableOk.f p x = some (tabok p x) := by
 unfold spec_TableOk.f
 simp only [l1In_eq, Option.bind_some]
 by_cases h : 1 ≤ p ∧ p ≤ 4
 ·obtain ⟨q, rfl, hq1, hq4, hq, e⟩ := people_nat h.1 h.2
  obtain ⟨e1, e2⟩ := two_pow hq1 hq4
  have hpos : 1 ≤ 2 ^ (2 ^ q) := Nat.one_le_two_pow
  rw [if_pos (decide_eq_true h), if_pos (by omega), e1, w64 (by omega) (by omega)]
  congr 1
  unfold tabok
  rw [e]
  exact decide_eq_decide.mpr ⟨fun hw => ⟨h.1, h.2, hw.1, by omega⟩, fun hw => ⟨hw.2.2.1, by omega⟩⟩
 ·rw [if_neg (by simpa using h)]
  congr 1
  exact (decide_eq_false (fun hw => h ⟨hw.1, hw.2.1⟩)).symm
theorem shr_nat {x j : Nat} (hj : j ≤ 63) : shr .i64 (x : Int) (j : Int) = ((x / 2 ^ j : Nat) : Int) := by
 show (x : Int) / 2 ^ min ((j : Int)).toNat 64 = _
 rw [Int.toNat_natCast, Nat.min_eq_left (by omega)]
 simp
theorem bit_one {x j : Nat} (hx : x < 65536) (hj : j < 16) : Go.bits .and .i64 (shr .i64 (x : Int) (j : Int)) 1 = if x.testBit j then 1 else 0 := by
 have hle : x / 2 ^ j ≤ x := Nat.div_le_self _ _
 rw [shr_nat (by omega), show (1 : Int) = ((1 : Nat) : Int) from rfl, and_nat (by omega) (by decide), Nat.and_one_is_mod, Nat.testBit_eq_decide_div_mod_eq]
 rcases Nat.mod_two_eq_zero_or_one (x / 2 ^ j) with e | e <;> simp [e]
theorem bit_two {x j : Nat} (_hx : x < 65536) (hj : j < 16) : Int.tmod (shr .i64 (x : Int) (j : Int)) 2 = if x.testBit j then 1 else 0 := by
 rw [shr_nat (by omega), show Int.tmod ((x / 2 ^ j : Nat) : Int) 2 = ((x / 2 ^ j % 2 : Nat) : Int) from rfl, Nat.testBit_eq_decide_div_mod_eq]
 rcases Nat.mod_two_eq_zero_or_one (x / 2 ^ j) with e | e <;> simp [e]
/-- The worlds in a table, from one on. -/
def wls (x : Nat) : Nat → Nat → List Int → List Int
 | 0, _, acc => acc
 | d + 1, j, acc => wls x d (j + 1) (if x.testBit j then acc ++ [(j : Int)] else acc)
def worldsIn (p x : Int) : List Int := if tabok p x = true then wls x.toNat (2 ^ p.toNat) 0 [] else []
theorem impl_WorldsIn_l0 {x q : Nat} (hx : x < 65536) (hq2 : 2 ^ q ≤ 16) : ∀ (d j : Nat) (acc : List Int), d + j = 2 ^ q → acc.length ≤ j → Ev (fun k => impl_WorldsIn.l0 k (x : Int) acc ((2 ^ q : Nat) : Int) (j : Int)) (wls x d j acc) := by
 intro d
 induction d with
 | zero => intro j acc hj _; exact Ev.step (fun k => by simp only [impl_WorldsIn.l0]; rfl) (Ev.no (by omega) (Ev.some _))
 | succ d ih =>
  intro j acc hj ha
  refine Ev.step (fun k => by simp only [impl_WorldsIn.l0]; rfl) ?_
  rw [bit_one hx (by omega), w64 (by omega) (by omega), show ((j : Int) + 1) = ((j + 1 : Nat) : Int) by omega, wls]
  refine Ev.yes (by omega) (Ev.yes (by omega) ?_)
  by_cases h : x.testBit j = true
  ·have e1 : (if x.testBit j = true then (1 : Int) else 0) = 1 := if_pos h
   rw [e1, if_pos h]
   exact Ev.yes rfl (Ev.yes (by omega) (ih (j + 1) _ (by omega) (by simp; omega)))
  ·have e1 : (if x.testBit j = true then (1 : Int) else 0) = 0 := if_neg h
   rw [e1, if_neg h]
   exact Ev.no (by decide) (ih (j + 1) _ (by omega) (by omega))
theorem impl_WorldsIn_ev (p x : Int) : Ev (fun k => impl_WorldsIn.f k p x) (worldsIn p x) := by
 unfold impl_WorldsIn.f
 rw [impl_TableOk_eq]
 simp only [Option.bind_some]
 by_cases h : tabok p x = true
 ·obtain ⟨h0, h1, h2, h3⟩ := tabok_iff.1 h
  rw [worldsIn, if_pos h]
  obtain ⟨q, rfl, hq1, hq4, hq, e⟩ := people_nat h0 h1
  obtain ⟨v, rfl⟩ := Int.eq_ofNat_of_zero_le h2
  have := (two_pow hq1 hq4).2
  rw [e] at h3 ⊢
  refine Ev.yes h (Ev.yes (by omega) ?_)
  rw [shl_nat (by omega), Int.toNat_natCast]
  exact impl_WorldsIn_l0 (by omega) hq (2 ^ q) 0 [] (by omega) (by simp)
 ·rw [worldsIn, if_neg h]
  exact Ev.no h (Ev.some _)
theorem spec_WorldsIn_l0 {x q : Nat} (hok : tabok (q : Int) (x : Int) = true) (hx : x < 65536) (hq4 : q ≤ 4) (hq2 : 2 ^ q ≤ 16) : ∀ (d j : Nat) (acc : List Int), d + j = 2 ^ q → acc.length ≤ j → Ev (fun k => spec_WorldsIn.l0 k (q : Int) (x : Int) acc (j : Int)) (wls x d j acc) := by
 intro d
 induction d with
 | zero =>
  intro j acc hj _
  refine Ev.step (fun k => by simp only [spec_WorldsIn.l0]; rfl) ?_
  rw [spec_TableOk_eq, shl_nat (by omega)]
  simp only [Option.bind_some]
  refine Ev.yes hok (Ev.yes (by omega) ?_)
  rw [decide_eq_false (by omega)]
  exact Ev.step (fun k => by simp only [spec_WorldsIn.j1]; rfl) (Ev.no (by simp) (Ev.some _))
 | succ d ih =>
  intro j acc hj ha
  refine Ev.step (fun k => by simp only [spec_WorldsIn.l0]; rfl) ?_
  rw [spec_TableOk_eq, shl_nat (by omega)]
  simp only [Option.bind_some]
  refine Ev.yes hok (Ev.yes (by omega) ?_)
  rw [decide_eq_true (by omega)]
  refine Ev.step (fun k => by simp only [spec_WorldsIn.j1]; rfl) ?_
  rw [bit_two hx (by omega), w64 (by omega) (by omega), show ((j : Int) + 1) = ((j + 1 : Nat) : Int) by omega, wls]
  refine Ev.yes (by simp) (Ev.yes (by omega) ?_)
  by_cases h : x.testBit j = true
  ·have e1 : (if x.testBit j = true then (1 : Int) else 0) = 1 := if_pos h
   rw [e1, if_pos h]
   exact Ev.yes rfl (Ev.yes (by omega) (ih (j + 1) _ (by omega) (by simp; omega)))
  ·have e1 : (if x.testBit j = true then (1 : Int) else 0) = 0 := if_neg h
   rw [e1, if_neg h]
   exact Ev.no (by decide) (ih (j + 1) _ (by omega) (by omega))
theorem spec_WorldsIn_ev (p x : Int) : Ev (fun k => spec_WorldsIn.f k p x) (worldsIn p x) := by
 unfold spec_WorldsIn.f
 by_cases h : tabok p x = true
 ·obtain ⟨h0, h1, h2, h3⟩ := tabok_iff.1 h
  rw [worldsIn, if_pos h]
  obtain ⟨q, rfl, hq1, hq4, hq, e⟩ := people_nat h0 h1
  obtain ⟨v, rfl⟩ := Int.eq_ofNat_of_zero_le h2
  have := (two_pow hq1 hq4).2
  rw [e] at h3 ⊢
  rw [Int.toNat_natCast]
  exact spec_WorldsIn_l0 h (by omega) hq4 hq (2 ^ q) 0 [] (by omega) (by simp)
 ·rw [worldsIn, if_neg h]
  refine Ev.step (fun k => by simp only [spec_WorldsIn.l0]; rfl) ?_
  rw [spec_TableOk_eq]
  simp only [Option.bind_some]
  refine Ev.no h ?_
  exact Ev.step (fun k => by simp only [spec_WorldsIn.j1]; rfl) (Ev.no (by simp) (Ev.some _))
end Go.Proofs.Ytpampekijfjlkab.L

/- Bits of a world as numbers. -/
namespace Go.Proofs.Ytpampekijfjlkab.L
open Go.RowKit Go.Proofs.Ytpampekijfjlkab.X Go.Proofs.YtpampekijfjlkabW.PrintWords Go.Proofs.YtpampekijfjlkabW.PrintLast Go.Proofs.YtpampekijfjlkabW.PrintMore

theorem bit_int {w i : Nat} (hw : w < 16) (hi : i < 4) : Int.tmod (shr .i64 (w : Int) (i : Int)) 2 = if w.testBit i then 1 else 0 := by
 have : ∀ w : Fin 16, ∀ i : Fin 4, Int.tmod (shr .i64 ((w.val : Nat) : Int) ((i.val : Nat) : Int)) 2 = if w.val.testBit i.val then 1 else 0 := by decide +kernel
 exact this ⟨w, hw⟩ ⟨i, hi⟩
end Go.Proofs.Ytpampekijfjlkab.L

/- Plain law of the program's table of a story, whole. -/
namespace Go.Proofs.Ytpampekijfjlkab.L
open Go.RowKit Go.Proofs.Ytpampekijfjlkab.X Go.Proofs.YtpampekijfjlkabW.PrintWords Go.Proofs.YtpampekijfjlkabW.PrintLast Go.Proofs.YtpampekijfjlkabW.PrintMore

theorem impl_StoryTable_ev (p : Int) (l : List C) (hl : l.length ≤ 4611686018427387904) : Ev (fun k => impl_StoryTable.f k p l) (if sok p l = true then ((stab p l : Nat) : Int) else -1) := by
 unfold impl_StoryTable.f
 refine Ev.bind (impl_StoryOk_ev p l hl) ?_
 by_cases h : sok p l = true
 ·rw [if_pos h]
  exact Ev.yes h (Ev.bind (impl_storyTable_ev h) (Ev.some _))
 ·rw [if_neg h]
  exact Ev.no h (Ev.some _)
end Go.Proofs.Ytpampekijfjlkab.L

/- Plain laws of what is known of people: the program's and the reference's rows are the same. -/
namespace Go.Proofs.Ytpampekijfjlkab.L
open Go.RowKit Go.Proofs.Ytpampekijfjlkab.X Go.Proofs.YtpampekijfjlkabW.PrintWords Go.Proofs.YtpampekijfjlkabW.PrintLast Go.Proofs.YtpampekijfjlkabW.PrintMore

/-- Worlds, as numbers below 16. -/
def Wl (W : List Int) : Prop := ∀ x ∈ W, ∃ v : Nat, x = (v : Int) ∧ v < 16
/-- What is known of a person in some worlds. -/
def knownOf (W : List Int) (i : Nat) : Int := if (∀ x ∈ W, x.toNat.testBit i = true) then 1 else if (∀ x ∈ W, x.toNat.testBit i = false) then 0 else -1
theorem wls_wl (x : Nat) : ∀ (d j : Nat) (acc : List Int), d + j ≤ 16 → Wl acc → Wl (wls x d j acc)
 | 0, _, _, _, h => h
 | d + 1, j, acc, hj, h => by
  rw [wls]
  refine wls_wl x d (j + 1) _ (by omega) ?_
  split
  ·intro y hy
   rcases List.mem_append.1 hy with hy | hy
   ·exact h y hy
   ·exact ⟨j, List.mem_singleton.1 hy, by omega⟩
  ·exact h
theorem worldsIn_wl (p x : Int) : Wl (worldsIn p x) := by
 unfold worldsIn
 split
 ·rename_i h
  obtain ⟨h0, h1, _⟩ := tabok_iff.1 h
  obtain ⟨q, rfl, _, hq4, hq2, e⟩ := people_nat h0 h1
  rw [e]
  exact wls_wl _ _ 0 [] (by omega) (fun y hy => by cases hy)
 ·exact fun y hy => by cases hy
theorem bit_and1 {w i : Nat} (hw : w < 16) (hi : i < 4) : Go.bits .and .i64 (shr .i64 (w : Int) (i : Int)) 1 = if w.testBit i then 1 else 0 := by
 have : ∀ w : Fin 16, ∀ i : Fin 4, Go.bits .and .i64 (shr .i64 ((w.val : Nat) : Int) ((i.val : Nat) : Int)) 1 = if w.val.testBit i.val then 1 else 0 := by decide +kernel
 exact this ⟨w, hw⟩ ⟨i, hi⟩
/-- The row of what is known. -/
def knownRow (W : List Int) : Nat → Nat → List Int → List Int
 | 0, _, acc => acc
 | d + 1, i, acc => knownRow W d (i + 1) (acc ++ [knownOf W i])
theorem knownRow_length (W : List Int) : ∀ (d i : Nat) (acc : List Int), (knownRow W d i acc).length = acc.length + d
 | 0, _, _ => rfl
 | d + 1, i, acc => by rw [knownRow, knownRow_length W d]; simp; omega
theorem rdW (pre : List Int) (x : Int) (suf : List Int) : rd (pre ++ x :: suf) ((pre.length : Nat) : Int) = x := by
 unfold rd
 simp [List.getD]
theorem impl_Known_l {q : Nat} (hq4 : q ≤ 4) {W : List Int} (hW : Wl W) (hne : 0 < W.length) (hlen : W.length ≤ 100000) : ∀ (d i : Nat) (acc : List Int), d + i = q → acc.length ≤ i →
  Ev (fun k => impl_KnownPeople.l0 k W acc (q : Int) (i : Int)) (knownRow W d i acc) := by
 intro d
 induction d with
 | zero => intro i acc hi _; exact Ev.step (fun k => by simp only [impl_KnownPeople.l0]; rfl) (Ev.no (by omega) (Ev.some _))
 | succ d ih =>
  intro i acc hi ha
  obtain ⟨x0, W', rfl⟩ : ∃ x0 W', W = x0 :: W' := by cases W with | nil => simp at hne | cons a b => exact ⟨a, b, rfl⟩
  obtain ⟨v0, rfl, hv0⟩ := hW x0 (by simp)
  have h0 : rd ((v0 : Int) :: W') 0 = (v0 : Int) := rdW [] _ _
  have hnx := fun y : Int => ih (i + 1) (acc ++ [y]) (by omega) (by simp; omega)
  refine Ev.step (fun k => by simp only [impl_KnownPeople.l0]; rfl) ?_
  rw [h0, bit_and1 hv0 (by omega)]
  refine Ev.yes (by omega) (Ev.yes (by simp <;> omega) (Ev.yes (by omega) ?_))
  generalize hb : (if v0.testBit i then (1 : Int) else 0) = b
  have inner : ∀ (suf pre : List Int), ((v0 : Int) :: W') = pre ++ suf → (∀ x ∈ pre, (if x.toNat.testBit i then (1 : Int) else 0) = b) →
    Ev (fun k => impl_KnownPeople.l1 k ((v0 : Int) :: W') acc (i : Int) b (q : Int) (i : Int) ((v0 : Int) :: W') ((((v0 : Int) :: W').length : Nat) : Int) ((pre.length : Nat) : Int)) (knownRow ((v0 : Int) :: W') (d + 1) i acc) := by
   intro suf
   induction suf with
   | nil =>
    intro pre he hp
    rw [List.append_nil] at he
    have hle : ((v0 : Int) :: W').length = pre.length := by rw [he]
    refine Ev.step (fun k => by simp only [impl_KnownPeople.l1]; rfl) (Ev.no (by omega) (Ev.yes (by omega) ?_))
    rw [w64 (by omega) (by omega), show ((i : Int) + 1) = ((i + 1 : Nat) : Int) by omega, knownRow]
    have hk : knownOf ((v0 : Int) :: W') i = b := by
     rw [he]
     unfold knownOf
     by_cases hvb : v0.testBit i = true
     ·rw [if_pos hvb] at hb
      rw [if_pos (fun x hx => by have := hp x hx; rw [← hb] at this; by_cases e : x.toNat.testBit i = true; exact e; rw [if_neg e] at this; omega)]
      exact hb
     ·rw [if_neg hvb] at hb
      have hall : ∀ x ∈ pre, x.toNat.testBit i = false := fun x hx => by have := hp x hx; rw [← hb] at this; cases e : x.toNat.testBit i with | false => rfl | true => rw [e] at this; simp at this
      have hv : (v0 : Int) ∈ pre := by rw [← he]; simp
      rw [if_neg (fun h => by have h1 := h _ hv; rw [hall _ hv] at h1; cases h1), if_pos hall]
      exact hb
    rw [hk]
    exact hnx b
   | cons x suf ihs =>
    intro pre he hp
    have hle : ((v0 : Int) :: W').length = pre.length + (suf.length + 1) := by rw [he]; simp
    have hx : rd ((v0 : Int) :: W') ((pre.length : Nat) : Int) = x := by rw [he]; exact rdW pre x suf
    obtain ⟨v, rfl, hv⟩ := hW x (by rw [he]; simp)
    refine Ev.step (fun k => by simp only [impl_KnownPeople.l1]; rfl) ?_
    rw [hx, bit_and1 hv (by omega)]
    refine Ev.yes (by omega) (Ev.yes (by omega) (Ev.yes (by omega) (Ev.yes (by omega) ?_)))
    by_cases e : (if v.testBit i then (1 : Int) else 0) = b
    ·refine Ev.yes e ?_
     rw [w64 (by omega) (by omega), show (((pre.length : Nat) : Int) + 1) = (((pre ++ [(v : Int)]).length : Nat) : Int) by simp]
     exact ihs (pre ++ [(v : Int)]) (by rw [he]; simp) (fun y hy => by
      rcases List.mem_append.1 hy with hy | hy
      ·exact hp y hy
      ·rw [List.mem_singleton.1 hy, Int.toNat_natCast]; exact e)
    ·refine Ev.no e (Ev.yes (by omega) ?_)
     rw [w64 (by omega) (by omega), show ((i : Int) + 1) = ((i + 1 : Nat) : Int) by omega, knownRow]
     have hk : knownOf ((v0 : Int) :: W') i = -1 := by
      have m0 : (v0 : Int) ∈ ((v0 : Int) :: W') := by simp
      have m1 : (v : Int) ∈ ((v0 : Int) :: W') := by rw [he]; simp
      unfold knownOf
      rw [if_neg (fun h => e (by have h0 := h _ m0; have h1 := h _ m1; rw [Int.toNat_natCast] at h0 h1; rw [← hb, h0, h1])), if_neg (fun h => e (by have h0 := h _ m0; have h1 := h _ m1; rw [Int.toNat_natCast] at h0 h1; rw [← hb, h0, h1]))]
     rw [hk]
     exact hnx (-1)
  exact inner ((v0 : Int) :: W') [] rfl (fun x hx => by cases hx)
end Go.Proofs.Ytpampekijfjlkab.L

/- Plain law of the reference's table of a story, whole. -/
namespace Go.Proofs.Ytpampekijfjlkab.L
open Go.RowKit Go.Proofs.Ytpampekijfjlkab.X Go.Proofs.YtpampekijfjlkabW.PrintWords Go.Proofs.YtpampekijfjlkabW.PrintLast Go.Proofs.YtpampekijfjlkabW.PrintMore

theorem spec_StoryTable_ev (p : Int) (l : List C) (hl : l.length ≤ 4611686018427387904) (hf : Fit l) : Ev (fun k => spec_StoryTable.f k p l) (if sok p l = true then ((stab p l : Nat) : Int) else -1) := by
 unfold spec_StoryTable.f
 refine Ev.bind (spec_StoryOk_ev p l hl hf) ?_
 by_cases h : sok p l = true
 ·rw [if_pos h]
  exact Ev.yes h (Ev.bind (spec_l4Story_ev h) (Ev.some _))
 ·rw [if_neg h]
  exact Ev.no h (Ev.some _)
end Go.Proofs.Ytpampekijfjlkab.L

/- Plain laws of what is known of people: the reference's row. -/
namespace Go.Proofs.Ytpampekijfjlkab.L
open Go.RowKit Go.Proofs.Ytpampekijfjlkab.X Go.Proofs.YtpampekijfjlkabW.PrintWords Go.Proofs.YtpampekijfjlkabW.PrintLast Go.Proofs.YtpampekijfjlkabW.PrintMore

/-- In how many worlds a person tells the truth. -/
def cnt1 (i : Nat) : List Int → Nat
 | [] => 0
 | x :: l => (if x.toNat.testBit i then 1 else 0) + cnt1 i l
theorem cnt1_app (i : Nat) : ∀ a b : List Int, cnt1 i (a ++ b) = cnt1 i a + cnt1 i b
 | [], b => by simp [cnt1]
 | x :: a, b => by rw [List.cons_append, cnt1, cnt1, cnt1_app i a b]; omega
theorem cnt1_le (i : Nat) : ∀ a : List Int, cnt1 i a ≤ a.length
 | [] => Nat.le_refl 0
 | x :: a => by have := cnt1_le i a; rw [cnt1, List.length_cons]; split <;> omega
theorem cnt1_zero (i : Nat) : ∀ a : List Int, cnt1 i a = 0 ↔ ∀ x ∈ a, x.toNat.testBit i = false
 | [] => by simp [cnt1]
 | x :: a => by
  rw [cnt1]
  have ih := cnt1_zero i a
  by_cases h : x.toNat.testBit i = true
  ·rw [if_pos h]
   exact ⟨fun e => by omega, fun e => by have := e x (by simp); rw [h] at this; cases this⟩
  ·rw [if_neg h, Nat.zero_add, ih]
   rw [Bool.not_eq_true] at h
   exact ⟨fun e y hy => by rcases List.mem_cons.1 hy with rfl | hy; exact h; exact e y hy, fun e y hy => e y (List.mem_cons_of_mem _ hy)⟩
theorem cnt1_all (i : Nat) : ∀ a : List Int, cnt1 i a = a.length ↔ ∀ x ∈ a, x.toNat.testBit i = true
 | [] => by simp [cnt1]
 | x :: a => by
  rw [cnt1, List.length_cons]
  have ih := cnt1_all i a
  have hle := cnt1_le i a
  by_cases h : x.toNat.testBit i = true
  ·rw [if_pos h]
   exact ⟨fun e y hy => by rcases List.mem_cons.1 hy with rfl | hy; exact h; exact ih.1 (by omega) y hy, fun e => by have := ih.2 (fun y hy => e y (List.mem_cons_of_mem _ hy)); omega⟩
  ·rw [if_neg h]
   exact ⟨fun e => by omega, fun e => absurd (e x (by simp)) h⟩
theorem spec_Known_l {q : Nat} (hq4 : q ≤ 4) {W : List Int} (hW : Wl W) (hne : 0 < W.length) (hlen : W.length ≤ 100000) : ∀ (d i : Nat) (acc : List Int), d + i = q → acc.length ≤ i →
  Ev (fun k => spec_KnownPeople.l0 k (q : Int) acc W (i : Int)) (knownRow W d i acc) := by
 intro d
 induction d with
 | zero =>
  intro i acc hi _
  refine Ev.step (fun k => by simp only [spec_KnownPeople.l0]; rfl) (Ev.no (by omega) ?_)
  exact Ev.step (fun k => by simp only [spec_KnownPeople.j1]; rfl) (Ev.no (by simp) (Ev.some _))
 | succ d ih =>
  intro i acc hi ha
  have hnx := fun y : Int => ih (i + 1) (acc ++ [y]) (by omega) (by simp; omega)
  have inner : ∀ (suf pre : List Int), W = pre ++ suf → Ev (fun k => spec_KnownPeople.l1 k (q : Int) acc W (i : Int) ((cnt1 i pre : Nat) : Int) ((pre.length : Nat) : Int)) (knownRow W (d + 1) i acc) := by
   intro suf
   induction suf with
   | nil =>
    intro pre he
    rw [List.append_nil] at he
    subst he
    refine Ev.step (fun k => by simp only [spec_KnownPeople.l1]; rfl) (Ev.no (by omega) ?_)
    rw [w64 (by omega) (by omega), show ((i : Int) + 1) = ((i + 1 : Nat) : Int) by omega, knownRow]
    by_cases h0 : cnt1 i W = 0
    ·have hall := (cnt1_zero i W).1 h0
     have hk : knownOf W i = 0 := by
      unfold knownOf
      rw [if_neg (fun h => by have := (cnt1_all i W).2 h; omega), if_pos hall]
     rw [hk]
     exact Ev.yes (by omega) (Ev.yes (by omega) (hnx 0))
    ·refine Ev.no (by omega) ?_
     by_cases h1 : cnt1 i W = W.length
     ·have hk : knownOf W i = 1 := if_pos ((cnt1_all i W).1 h1)
      rw [hk]
      exact Ev.yes (by omega) (Ev.yes (by omega) (hnx 1))
     ·have hk : knownOf W i = -1 := by
       unfold knownOf
       rw [if_neg (fun h => h1 ((cnt1_all i W).2 h)), if_neg (fun h => h0 ((cnt1_zero i W).2 h))]
      rw [hk]
      exact Ev.no (by omega) (Ev.yes (by omega) (hnx (-1)))
   | cons x suf ihs =>
    intro pre he
    have hle : W.length = pre.length + (suf.length + 1) := by rw [he]; simp
    have hx : rd W ((pre.length : Nat) : Int) = x := by rw [he]; exact rdW pre x suf
    obtain ⟨v, rfl, hv⟩ := hW x (by rw [he]; simp)
    have hcl := cnt1_le i pre
    have h := ihs (pre ++ [(v : Int)]) (by rw [he]; simp)
    refine Ev.step (fun k => by simp only [spec_KnownPeople.l1]; rfl) ?_
    rw [hx, bit_int hv (by omega)]
    refine Ev.yes (by omega) (Ev.yes (by omega) (Ev.yes (by omega) ?_))
    have e : ((cnt1 i pre : Nat) : Int) + (if v.testBit i then 1 else 0) = ((cnt1 i (pre ++ [(v : Int)]) : Nat) : Int) := by
     rw [cnt1_app, cnt1, cnt1, Int.toNat_natCast]
     split <;> omega
    rw [e, w64 (by omega) (by have := cnt1_le i (pre ++ [(v : Int)]); simp at this; omega), w64 (by omega) (by omega), show (((pre.length : Nat) : Int) + 1) = (((pre ++ [(v : Int)]).length : Nat) : Int) by simp]
    exact h
  refine Ev.step (fun k => by simp only [spec_KnownPeople.l0]; rfl) (Ev.yes (by omega) ?_)
  rw [decide_eq_true (by omega)]
  exact Ev.step (fun k => by simp only [spec_KnownPeople.j1]; rfl) (Ev.yes (by simp) (inner W [] rfl))
end Go.Proofs.Ytpampekijfjlkab.L

/- What is known of people, whole: both functions. -/
namespace Go.Proofs.Ytpampekijfjlkab.L
open Go.RowKit Go.Proofs.Ytpampekijfjlkab.X Go.Proofs.YtpampekijfjlkabW.PrintWords Go.Proofs.YtpampekijfjlkabW.PrintLast Go.Proofs.YtpampekijfjlkabW.PrintMore

noncomputable def storyV (p : Int) (l : List C) : Int := if sok p l = true then ((stab p l : Nat) : Int) else -1
noncomputable def knownP (p : Int) (l : List C) : List Int := if worldsIn p (storyV p l) = [] then [] else knownRow (worldsIn p (storyV p l)) p.toNat 0 []
theorem wls_len (x : Nat) : ∀ (d j : Nat) (acc : List Int), (wls x d j acc).length ≤ acc.length + d
 | 0, _, _ => Nat.le_refl _
 | d + 1, j, acc => by
  rw [wls]
  have := wls_len x d (j + 1) (if x.testBit j then acc ++ [(j : Int)] else acc)
  have h2 : (if x.testBit j then acc ++ [(j : Int)] else acc).length ≤ acc.length + 1 := by split <;> simp
  omega
theorem worldsIn_len (p x : Int) : (worldsIn p x).length ≤ 16 := by
 unfold worldsIn
 split
 ·rename_i h
  obtain ⟨h0, h1, _⟩ := tabok_iff.1 h
  obtain ⟨q, rfl, _, hq4, hq2, e⟩ := people_nat h0 h1
  rw [e]
  have := wls_len x.toNat (2 ^ q) 0 []
  simp at this
  omega
 ·simp
theorem worldsIn_people {p x : Int} (h : worldsIn p x ≠ []) : 1 ≤ p ∧ p ≤ 4 := by
 unfold worldsIn at h
 by_cases hh : tabok p x = true
 ·have := tabok_iff.1 hh
  exact ⟨this.1, this.2.1⟩
 ·rw [if_neg hh] at h
  exact absurd rfl h
theorem impl_Known_ev (p : Int) (l : List C) (hl : l.length ≤ 4611686018427387904) : Ev (fun k => impl_KnownPeople.f k p l) (knownP p l) := by
 unfold impl_KnownPeople.f
 have hs := impl_StoryTable_ev p l hl
 change Ev _ (storyV p l) at hs
 refine Ev.bind hs (Ev.bind (impl_WorldsIn_ev p _) ?_)
 have hwl := worldsIn_wl p (storyV p l)
 have hlen := worldsIn_len p (storyV p l)
 have hpp := @worldsIn_people p (storyV p l)
 unfold knownP
 generalize worldsIn p (storyV p l) = W at *
 by_cases h : W = []
 ·rw [if_pos h, h]
  exact Ev.yes (by simp) (Ev.some _)
 ·rw [if_neg h]
  have hne : 0 < W.length := List.length_pos_iff.2 h
  obtain ⟨h0, h1⟩ := hpp h
  obtain ⟨q, rfl, _, hq4, hq2, e⟩ := people_nat h0 h1
  rw [e]
  exact Ev.no (by omega) (impl_Known_l hq4 hwl hne (by omega) q 0 [] (by omega) (by simp))
theorem spec_Known_ev (p : Int) (l : List C) (hl : l.length ≤ 4611686018427387904) (hf : Fit l) : Ev (fun k => spec_KnownPeople.f k p l) (knownP p l) := by
 unfold spec_KnownPeople.f
 have hs := spec_StoryTable_ev p l hl hf
 change Ev _ (storyV p l) at hs
 refine Ev.bind hs (Ev.bind (spec_WorldsIn_ev p _) ?_)
 have hwl := worldsIn_wl p (storyV p l)
 have hlen := worldsIn_len p (storyV p l)
 have hpp := @worldsIn_people p (storyV p l)
 unfold knownP
 generalize worldsIn p (storyV p l) = W at *
 by_cases h : W = []
 ·rw [if_pos h, h]
  refine Ev.step (fun k => by simp only [spec_KnownPeople.l0]; rfl) ?_
  have hj : Ev (fun k => spec_KnownPeople.j1 k p [] [] 0 false) [] := Ev.step (fun k => by simp only [spec_KnownPeople.j1]; rfl) (Ev.no (by simp) (Ev.some _))
  exact Ev.ite (fun _ => by simpa using hj) (fun _ => hj)
 ·rw [if_neg h]
  have hne : 0 < W.length := List.length_pos_iff.2 h
  obtain ⟨h0, h1⟩ := hpp h
  obtain ⟨q, rfl, _, hq4, hq2, e⟩ := people_nat h0 h1
  rw [e]
  exact spec_Known_l hq4 hwl hne (by omega) q 0 [] (by omega) (by simp)
end Go.Proofs.Ytpampekijfjlkab.L

/- Stories as sets of worlds: what is left out of a story, and what that does to its worlds. -/
namespace Go.Proofs.Ytpampekijfjlkab.L
open Go.RowKit Go.Proofs.Ytpampekijfjlkab.X Go.Proofs.YtpampekijfjlkabW.PrintWords Go.Proofs.YtpampekijfjlkabW.PrintLast Go.Proofs.YtpampekijfjlkabW.PrintMore

end Go.Proofs.Ytpampekijfjlkab.L

/- Which worlds a story has, as a list. -/
namespace Go.Proofs.Ytpampekijfjlkab.L
open Go.RowKit Go.Proofs.Ytpampekijfjlkab.X Go.Proofs.YtpampekijfjlkabW.PrintWords Go.Proofs.YtpampekijfjlkabW.PrintLast Go.Proofs.YtpampekijfjlkabW.PrintMore

theorem knownRow_pre (W : List Int) : ∀ (d i : Nat) (acc : List Int), ∃ z, knownRow W d i acc = acc ++ z
 | 0, _, acc => ⟨[], by simp [knownRow]⟩
 | d + 1, i, acc => by
  obtain ⟨z, hz⟩ := knownRow_pre W d (i + 1) (acc ++ [knownOf W i])
  exact ⟨knownOf W i :: z, by rw [knownRow, hz]; simp⟩
theorem knownRow_get (W : List Int) : ∀ (d i : Nat) (acc : List Int) (j : Nat), j < d → rd (knownRow W d i acc) ((acc.length + j : Nat) : Int) = knownOf W (i + j)
 | 0, _, _, _, h => by omega
 | d + 1, i, acc, 0, _ => by
  obtain ⟨z, hz⟩ := knownRow_pre W d (i + 1) (acc ++ [knownOf W i])
  rw [knownRow, hz, List.append_assoc]
  exact rdW acc _ z
 | d + 1, i, acc, j + 1, h => by
  rw [knownRow]
  have := knownRow_get W d (i + 1) (acc ++ [knownOf W i]) j (by omega)
  rw [List.length_append, List.length_singleton] at this
  rw [show acc.length + (j + 1) = acc.length + 1 + j by omega, this, show i + 1 + j = i + (j + 1) by omega]
theorem known_get {p : Int} {l : List C} (h : worldsIn p (storyV p l) ≠ []) {j : Nat} (hj : j < p.toNat) : rd (knownP p l) (j : Int) = knownOf (worldsIn p (storyV p l)) j := by
 rw [knownP, if_neg h]
 have := knownRow_get (worldsIn p (storyV p l)) p.toNat 0 [] j hj
 simpa using this
theorem known_len {p : Int} {l : List C} : (knownP p l).length = if worldsIn p (storyV p l) = [] then 0 else p.toNat := by
 rw [knownP]
 split
 ·rfl
 ·rw [knownRow_length]; simp
end Go.Proofs.Ytpampekijfjlkab.L

/- That the program lives. -/
namespace Go.Proofs.Ytpampekijfjlkab.L
open Go.RowKit Go.Proofs.Ytpampekijfjlkab.X Go.Proofs.YtpampekijfjlkabW.PrintWords Go.Proofs.YtpampekijfjlkabW.PrintLast Go.Proofs.YtpampekijfjlkabW.PrintMore

theorem alive_eq' : laws_alive.f = some true := by decide +kernel
end Go.Proofs.Ytpampekijfjlkab.L
