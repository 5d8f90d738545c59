/- Joined by a program of this session's: LDSTO, LH, LTB, LTY, LO, LCB, LST, LSM, LCBS, LSTS, LDST, LSTI, LSTT, LSAB. -/
import Derived.Test.YtpampekijfjlkabG9bad073ded
import Derived.Test.YtpampekijfjlkabG2ede86bccd
import Derived.Laws.BitsLemmas
import Derived.Test.YtpampekijfjlkabG9ef44cfec1
import Derived.Test.YtpampekijfjlkabG447a7550ad

/- Drawn stories. -/
namespace Go.Proofs.Ytpampekijfjlkab.L
open Go.RowKit Go.Proofs.Ytpampekijfjlkab.X Go.Proofs.YtpampekijfjlkabW.PrintWords Go.Proofs.YtpampekijfjlkabW.PrintLast Go.Proofs.YtpampekijfjlkabW.PrintMore

/-- Claims with small terms. -/
def SmC (l : List S36) : Prop := ∀ c ∈ l, c.f1.length ≤ 16 ∧ Sm c.f1
theorem SmC.snoc {l : List S36} {c : S36} (h : SmC l) (h1 : c.f1.length ≤ 16) (h2 : Sm c.f1) : SmC (l ++ [c]) := by
 intro x hx
 rcases List.mem_append.1 hx with hx | hx
 ·exact h x hx
 ·rw [List.mem_singleton.1 hx]; exact ⟨h1, h2⟩
theorem story_l1 {s : List Int} (P n : Int) : ∀ (d : Nat) (l : List S36), l.length + d = 7 → SmC l → ∃ l' : List S36, Ev (fun k => spec_l20Story.l1 k P l s n) (P, l', n) ∧ l'.length ≤ 7 ∧ SmC l' := by
 intro d
 induction d with
 | zero =>
  intro l hl hs
  exact ⟨l, Ev.step (fun k => by simp only [spec_l20Story.l1]; rfl) (Ev.no (by omega) (Ev.some _)), by omega, hs⟩
 | succ d ih =>
  intro l hl hs
  obtain ⟨l', h1, h2, h3⟩ := ih (l ++ [⟨0, [⟨0, 0⟩]⟩]) (by simp; omega) (hs.snoc (by simp) (Sm.one (by simp)))
  exact ⟨l', Ev.step (fun k => by simp only [spec_l20Story.l1]; rfl) (Ev.yes (by omega) (Ev.yes (by omega) h1)), h2, h3⟩
theorem story_l0 {s : List Int} (hs : Rd s) (m P : Int) (hm0 : 0 ≤ m) (hm : m ≤ 100) (hP : P ≤ 1000) : ∀ (d : Nat) (l : List S36) (n : Int), l.length + d ≤ 6 → SmC l → 0 ≤ n → n ≤ 10000 - 200 * d →
  ∃ (l' : List S36) (n' : Int), Ev (fun k => spec_l20Story.l0 k m P l (d : Int) s n) (P, l', n') ∧ l'.length ≤ 7 ∧ SmC l' ∧ 0 ≤ n' ∧ n' ≤ 20000 := by
 intro d
 induction d with
 | zero =>
  intro l n hl hsm h0 h1
  obtain ⟨b, p1, hb, hp1, hp2⟩ := odd_ev hs h0 (by omega) m (by omega)
  cases b with
  | false => exact ⟨l, p1, Ev.step (fun k => by simp only [spec_l20Story.l0]; rfl) (Ev.no (by omega) (Ev.bind hb (Ev.no Bool.false_ne_true (Ev.some _)))), by omega, hsm, by omega, by omega⟩
  | true =>
   obtain ⟨l', h1', h2, h3⟩ := story_l1 (s := s) P p1 (7 - l.length) l (by omega) hsm
   exact ⟨l', p1, Ev.step (fun k => by simp only [spec_l20Story.l0]; rfl) (Ev.no (by omega) (Ev.bind hb (Ev.yes rfl h1'))), h2, h3, by omega, by omega⟩
 | succ d ih =>
  intro l n hl hsm h0 h1
  obtain ⟨i, t, n', hc, hi0, hi1, ht, hst, hn0, hn1⟩ := l20Claim_ev hs (n := n) h0 (by omega) P (m * 3) hP (by omega) (by omega)
  obtain ⟨l', n2, h1', h2, h3, h4, h5⟩ := ih (l ++ [⟨i, t⟩]) n' (by simp; omega) (hsm.snoc ht hst) (by omega) (by omega)
  refine ⟨l', n2, Ev.step (fun k => by simp only [spec_l20Story.l0]; rfl) ?_, h2, h3, h4, h5⟩
  rw [w64 (x := m * 3) (by omega) (by omega), w64 (by omega) (by omega), show (((d + 1 : Nat) : Int) - 1) = (d : Int) by omega]
  exact Ev.yes (by omega) (Ev.bind hc (Ev.yes (by omega) h1'))
theorem l20Story_ev {s : List Int} (hs : Rd s) (m : Int) (hm0 : 0 ≤ m) (hm : m ≤ 100) : ∃ (p : Int) (l : List S36) (n : Int), Ev (fun k => spec_l20Story.f k s 0 m) (p, l, n) ∧ 1 ≤ p ∧ p ≤ 4 ∧ l.length ≤ 7 ∧ SmC l ∧ 0 ≤ n ∧ n ≤ 20000 := by
 obtain ⟨a, ha, ha0, ha1⟩ := pick_ev hs (p := 0) (by omega) (by omega) 4 (by omega)
 have ha2 := ha1 (by omega)
 obtain ⟨b, hb, hb0, hb1⟩ := pick_ev hs (p := 0 + 1) (by omega) (by omega) 5 (by omega)
 have hb2 := hb1 (by omega)
 obtain ⟨d, rfl⟩ := Int.eq_ofNat_of_zero_le hb0
 obtain ⟨l, n, h1, h2, h3, h4, h5⟩ := story_l0 hs m (1 + a) hm0 hm (by omega) d [] (0 + 1 + 1) (by simp; omega) (fun c hc => by cases hc) (by omega) (by omega)
 refine ⟨1 + a, l, n, ?_, by omega, by omega, h2, h3, h4, h5⟩
 unfold spec_l20Story.f
 refine Ev.bind ha (Ev.bind hb ?_)
 simp only [w64 (x := 1 + a) (by omega) (by omega)]
 exact h1
end Go.Proofs.Ytpampekijfjlkab.L

/- Plain laws of terms, third text: what a valid row of marks says in a world, as a function of the row alone. -/
namespace Go.Proofs.Ytpampekijfjlkab.L
open Go.RowKit Go.Proofs.Ytpampekijfjlkab.X Go.Proofs.YtpampekijfjlkabW.PrintWords Go.Proofs.YtpampekijfjlkabW.PrintLast Go.Proofs.YtpampekijfjlkabW.PrintMore

theorem Tm.good_four {p : Int} (hp : p ≤ 4) : ∀ a : Tm, a.good p → a.good 4
 | .tell i, h => by have h' : (i : Int) < p := h; show (i : Int) < 4; omega
 | .cnt n, h => by have h' : (n : Int) ≤ p + 1 := h; show (n : Int) ≤ 4 + 1; omega
 | .neg a, h => good_four hp a h
 | .bin o a b, h => ⟨h.1, good_four hp a h.2.1, good_four hp b h.2.2⟩
open Classical in
/-- The tree of a row of marks. -/
noncomputable def tree (t : List M) : Tm := if h : ∃ a : Tm, a.good 4 ∧ t = a.post then Classical.choose h else .tell 0
theorem tree_post {a : Tm} (h : a.good 4) : (tree a.post).good 4 ∧ a.post = (tree a.post).post := by
 have h' : ∃ b : Tm, b.good 4 ∧ a.post = b.post := ⟨a, h, rfl⟩
 unfold tree
 rw [dif_pos h']
 exact Classical.choose_spec h'
/-- Whether a row of marks holds in a world. -/
noncomputable def hv (t : List M) (w : Nat) : Bool := (tree t).ev w
theorem hv_post {a : Tm} (h : a.good 4) (hl : a.post.length ≤ 500) {w : Nat} (hw : w < 16) : hv a.post w = a.ev w := by
 obtain ⟨h1, h2⟩ := tree_post h
 have e1 := impl_holds_ev (by decide) hw h hl
 have e2 := impl_holds_ev (by decide) hw h1 (by rw [← h2]; exact hl)
 rw [← h2] at e2
 exact Ev.uniq e2 e1
theorem tok_tree {p : Int} {t : List M} (h : tok p t = true) : ∃ a : Tm, a.good p ∧ t = a.post ∧ a.good 4 ∧ t.length ≤ 15 := by
 obtain ⟨a, h1, h2⟩ := parse h
 obtain ⟨_, h3, _, h4, _⟩ := tok_iff.1 h
 exact ⟨a, h1, h2, a.good_four h3 h1, h4⟩
theorem impl_holds_hv {p : Int} {t : List M} (h : tok p t = true) {w : Nat} (hw : w < 16) : Ev (fun k => impl_holds.f k t (w : Int)) (hv t w) := by
 obtain ⟨a, _, rfl, h4, hl⟩ := tok_tree h
 rw [hv_post h4 (by omega) hw]
 exact impl_holds_ev (by decide) hw h4 (by omega)
theorem spec_holds_hv {p : Int} {t : List M} (h : tok p t = true) {w : Nat} (hw : w < 16) : Ev (fun k => spec_l3Holds.f k t (w : Int)) (hv t w) := by
 obtain ⟨a, _, rfl, h4, hl⟩ := tok_tree h
 rw [hv_post h4 (by omega) hw]
 exact l3Holds_ev (by decide) hw a h4 (by omega)
/-- Whether a claim may be made in a world. -/
noncomputable def may (i : Int) (t : List M) (w : Nat) : Bool := hv t w == w.testBit i.toNat
end Go.Proofs.Ytpampekijfjlkab.L

/- Plain laws of tables: the worlds in which something holds, as the bits of a number. -/
namespace Go.Proofs.Ytpampekijfjlkab.L
open Go.RowKit Go.Proofs.Ytpampekijfjlkab.X Go.Proofs.YtpampekijfjlkabW.PrintWords Go.Proofs.YtpampekijfjlkabW.PrintLast Go.Proofs.YtpampekijfjlkabW.PrintMore

/-- The worlds below n in which P holds, as bits. -/
def tabL (P : Nat → Bool) : Nat → Nat
 | 0 => 0
 | n + 1 => tabL P n ||| (if P n = true then 2 ^ n else 0)
theorem tabL_bit (P : Nat → Bool) : ∀ n w, (tabL P n).testBit w = (decide (w < n) && P w)
 | 0, w => by simp [tabL]
 | n + 1, w => by
  rw [tabL, Nat.testBit_or, tabL_bit P n w]
  by_cases e : w = n
  ·subst e
   by_cases h : P w = true
   ·rw [if_pos h, Nat.testBit_two_pow_self, h]; simp
   ·rw [if_neg h, Nat.zero_testBit]; simp at h; simp [h]
  ·have h1 : (if P n = true then 2 ^ n else 0).testBit w = false := by
    by_cases h : P n = true
    ·rw [if_pos h, Nat.testBit_two_pow]; simp; omega
    ·rw [if_neg h, Nat.zero_testBit]
   rw [h1, Bool.or_false]
   congr 1
   exact decide_eq_decide.mpr (by omega)
theorem lt_of_bits {x n : Nat} (h : ∀ w, n ≤ w → x.testBit w = false) : x < 2 ^ n := Nat.lt_pow_two_of_testBit x (fun w hw => h w hw)
theorem tabL_lt (P : Nat → Bool) (n : Nat) : tabL P n < 2 ^ n := lt_of_bits (fun w hw => by rw [tabL_bit]; simp; omega)
theorem tabL_mono {P : Nat → Bool} {n : Nat} (hn : n ≤ 16) : tabL P n < 65536 := by
 have := tabL_lt P n
 have h : (2 : Nat) ^ n ≤ 2 ^ 16 := Nat.pow_le_pow_right (by decide) hn
 omega
theorem wrap_i64_small (n : Int) (h0 : 0 ≤ n) (h1 : n < 2 ^ 32) : IntKind.i64.wrap n = n := by rw [IntKind.wrap_i64]; omega
theorem or_nat {a b : Nat} (ha : a < 2 ^ 32) (hb : b < 2 ^ 32) : Go.bits .or .i64 (a : Int) (b : Int) = ((a ||| b : Nat) : Int) := (bits_nat .i64 32 (by decide) wrap_i64_small a b ha hb).2
theorem and_nat {a b : Nat} (ha : a < 2 ^ 32) (hb : b < 2 ^ 32) : Go.bits .and .i64 (a : Int) (b : Int) = ((a &&& b : Nat) : Int) := (bits_nat .i64 32 (by decide) wrap_i64_small a b ha hb).1
theorem shl_fin : ∀ i : Fin 31, shl .i64 1 ((i.val : Nat) : Int) = ((2 ^ i.val : Nat) : Int) := by decide +kernel
theorem shl_nat {i : Nat} (hi : i < 31) : shl .i64 1 (i : Int) = ((2 ^ i : Nat) : Int) := shl_fin ⟨i, hi⟩
theorem or_step {P : Nat → Bool} {i : Nat} (hi : i < 16) (h : P i = true) : Go.bits .or .i64 ((tabL P i : Nat) : Int) (shl .i64 1 (i : Int)) = ((tabL P (i + 1) : Nat) : Int) := by
 have h1 := tabL_lt P i
 have h2 : (2 : Nat) ^ i < 2 ^ 16 := Nat.pow_lt_pow_right (by decide) hi
 rw [shl_nat (by omega), or_nat (by omega) (by omega), tabL, if_pos h]
theorem not_step {P : Nat → Bool} {i : Nat} (h : ¬ P i = true) : tabL P (i + 1) = tabL P i := by rw [tabL, if_neg h, Nat.or_zero]
theorem people_nat {p : Int} (h0 : 1 ≤ p) (h1 : p ≤ 4) : ∃ q : Nat, p = (q : Int) ∧ 1 ≤ q ∧ q ≤ 4 ∧ 2 ^ q ≤ 16 ∧ p.toNat = q := by
 obtain ⟨q, rfl⟩ := Int.eq_ofNat_of_zero_le (show 0 ≤ p by omega)
 refine ⟨q, rfl, by omega, by omega, ?_, by simp⟩
 have : (2 : Nat) ^ q ≤ 2 ^ 4 := Nat.pow_le_pow_right (by decide) (by omega)
 omega
end Go.Proofs.Ytpampekijfjlkab.L

/- Plain law of the program's maker of tables. -/
namespace Go.Proofs.Ytpampekijfjlkab.L
open Go.RowKit Go.Proofs.Ytpampekijfjlkab.X Go.Proofs.YtpampekijfjlkabW.PrintWords Go.Proofs.YtpampekijfjlkabW.PrintLast Go.Proofs.YtpampekijfjlkabW.PrintMore

theorem tableBy_l0 {F : Nat → Int → Option Bool} {P : Nat → Bool} {n : Nat} (hn : n ≤ 16) (hF : ∀ w : Nat, w < n → Ev (fun k => F k (w : Int)) (P w)) : ∀ d i, d + i = n →
  Ev (fun k => impl_tableBy.l0 F k ((tabL P i : Nat) : Int) (n : Int) (i : Int)) ((tabL P n : Nat) : Int) := by
 intro d
 induction d with
 | zero =>
  intro i hi
  rw [Nat.zero_add] at hi
  subst hi
  exact Ev.step (fun k => by simp only [impl_tableBy.l0]; rfl) (Ev.no (by omega) (Ev.some _))
 | succ d ih =>
  intro i hi
  refine Ev.step (fun k => by simp only [impl_tableBy.l0]; rfl) ?_
  refine Ev.yes (by omega) (Ev.bind (hF i (by omega)) ?_)
  rw [w64 (by omega) (by omega), show ((i : Int) + 1) = ((i + 1 : Nat) : Int) by omega]
  by_cases h : P i = true
  ·refine Ev.yes h (Ev.yes (by omega) ?_)
   rw [or_step (by omega) h]
   exact ih (i + 1) (by omega)
  ·refine Ev.no h ?_
   have := ih (i + 1) (by omega)
   rwa [not_step h] at this
theorem tableBy_ev {F : Nat → Int → Option Bool} {P : Nat → Bool} {q : Nat} (hq : q ≤ 4) (hF : ∀ w : Nat, w < 2 ^ q → Ev (fun k => F k (w : Int)) (P w)) : Ev (fun k => impl_tableBy.f F k (q : Int)) ((tabL P (2 ^ q) : Nat) : Int) := by
 unfold impl_tableBy.f
 refine Ev.yes (by omega) ?_
 rw [shl_nat (by omega)]
 have h16 : (2 : Nat) ^ q ≤ 2 ^ 4 := Nat.pow_le_pow_right (by decide) hq
 exact tableBy_l0 (by omega) hF (2 ^ q) 0 (by omega)
end Go.Proofs.Ytpampekijfjlkab.L

/- Plain laws of claims: which are ones. -/
namespace Go.Proofs.Ytpampekijfjlkab.L
open Go.RowKit Go.Proofs.Ytpampekijfjlkab.X Go.Proofs.YtpampekijfjlkabW.PrintWords Go.Proofs.YtpampekijfjlkabW.PrintLast Go.Proofs.YtpampekijfjlkabW.PrintMore

/-- A claim by one of so many people. -/
def clok (p i : Int) (t : List M) : Bool := decide (0 ≤ i ∧ i < p) && (tok p t && decide (t.length ≤ 13))
theorem clok_iff {p i : Int} {t : List M} : clok p i t = true ↔ 0 ≤ i ∧ i < p ∧ tok p t = true ∧ t.length ≤ 13 := by
 unfold clok
 simp only [Bool.and_eq_true, decide_eq_true_eq]
 exact ⟨fun h => ⟨h.1.1, h.1.2, h.2.1, h.2.2⟩, fun h => ⟨⟨h.1, h.2.1⟩, h.2.2.1, h.2.2.2⟩⟩
theorem clok_false {p i : Int} {t : List M} (h : ¬ (0 ≤ i ∧ i < p ∧ tok p t = true ∧ t.length ≤ 13)) : false = clok p i t := by
 cases e : clok p i t with
 | false => rfl
 | true => exact absurd (clok_iff.1 e) h
theorem impl_ClaimOk_ev (p i : Int) (t : List M) : Ev (fun k => impl_ClaimOk.f k p i t) (clok p i t) := by
 unfold impl_ClaimOk.f
 simp only [peopleOk_eq, Option.bind_some]
 by_cases h0 : 1 ≤ p ∧ p ≤ 4
 ·refine Ev.yes (decide_eq_true h0) ?_
  by_cases h1 : i ≥ 0
  ·refine Ev.yes h1 ?_
   by_cases h2 : i < p
   ·refine Ev.yes h2 (Ev.bind (impl_TermOk_ev p t) ?_)
    by_cases h3 : tok p t = true
    ·refine Ev.yes h3 (Ev.cast (Ev.some _) ?_)
     by_cases h4 : t.length ≤ 13
     ·rw [clok_iff.2 ⟨h1, h2, h3, h4⟩]; exact decide_eq_true (by omega)
     ·rw [← clok_false (fun h => h4 h.2.2.2)]; exact decide_eq_false (by omega)
    ·exact Ev.no h3 (Ev.cast (Ev.some _) (clok_false (fun h => h3 h.2.2.1)))
   ·exact Ev.no h2 (Ev.cast (Ev.some _) (clok_false (fun h => h2 h.2.1)))
  ·exact Ev.no h1 (Ev.cast (Ev.some _) (clok_false (fun h => h1 h.1)))
 ·refine Ev.no (by simpa using h0) (Ev.cast (Ev.some _) (clok_false (fun h => h0 ?_)))
  have := tok_iff.1 h.2.2.1
  omega
theorem spec_ClaimOk_ev (p i : Int) (t : List M) (hl : t.length ≤ 4611686018427387904) (hw : ∀ m ∈ t, m.f1 ≤ 9223372036854775807) : Ev (fun k => spec_ClaimOk.f k p i t) (clok p i t) := by
 unfold spec_ClaimOk.f
 by_cases h1 : i ≥ 0
 ·refine Ev.yes h1 ?_
  by_cases h2 : i < p
  ·refine Ev.yes h2 (Ev.bind (spec_TermOk_ev p t hl hw) ?_)
   by_cases h3 : tok p t = true
   ·refine Ev.yes h3 (Ev.cast (Ev.some _) ?_)
    by_cases h4 : t.length ≤ 13
    ·rw [clok_iff.2 ⟨h1, h2, h3, h4⟩]; exact decide_eq_true (by omega)
    ·rw [← clok_false (fun h => h4 h.2.2.2)]; exact decide_eq_false (by omega)
   ·exact Ev.no h3 (Ev.cast (Ev.some _) (clok_false (fun h => h3 h.2.2.1)))
  ·exact Ev.no h2 (Ev.cast (Ev.some _) (clok_false (fun h => h2 h.2.1)))
 ·exact Ev.no h1 (Ev.cast (Ev.some _) (clok_false (fun h => h1 h.1)))
end Go.Proofs.Ytpampekijfjlkab.L

/- Plain laws of the tables of claims. -/
namespace Go.Proofs.Ytpampekijfjlkab.L
open Go.RowKit Go.Proofs.Ytpampekijfjlkab.X Go.Proofs.YtpampekijfjlkabW.PrintWords Go.Proofs.YtpampekijfjlkabW.PrintLast Go.Proofs.YtpampekijfjlkabW.PrintMore

theorem impl_maySay_ev {p i : Int} {t : List M} (h : clok p i t = true) {w : Nat} (hw : w < 16) : Ev (fun k => impl_maySay.f k i t (w : Int)) (may i t w) := by
 obtain ⟨h0, h1, h2, _⟩ := clok_iff.1 h
 have h4 := (tok_iff.1 h2).2.1
 obtain ⟨j, rfl⟩ := Int.eq_ofNat_of_zero_le h0
 unfold impl_maySay.f
 refine Ev.bind (impl_holds_hv h2 hw) (Ev.yes h0 (Ev.cast (Ev.some _) ?_))
 rw [bit_and' hw (show j < 4 by omega)]
 rfl
/-- The table of a claim. -/
noncomputable def ctab (p i : Int) (t : List M) : Nat := tabL (may i t) (2 ^ p.toNat)
theorem impl_ClaimTable_ev (p i : Int) (t : List M) : Ev (fun k => impl_ClaimTable.f k p i t) (if clok p i t = true then ((ctab p i t : Nat) : Int) else -1) := by
 unfold impl_ClaimTable.f
 refine Ev.bind (impl_ClaimOk_ev p i t) ?_
 by_cases h : clok p i t = true
 ·rw [if_pos h]
  refine Ev.yes h ?_
  obtain ⟨hp0, hp1, _⟩ := tok_iff.1 (clok_iff.1 h).2.2.1
  obtain ⟨q, rfl, _, hq, hq2, _⟩ := people_nat hp0 hp1
  exact tableBy_ev hq (fun w hw => impl_maySay_ev h (by omega))
 ·rw [if_neg h]
  exact Ev.no h (Ev.some _)
end Go.Proofs.Ytpampekijfjlkab.L

/- Plain laws of stories: which are ones, and their tables; the program's. -/
namespace Go.Proofs.Ytpampekijfjlkab.L
open Go.RowKit Go.Proofs.Ytpampekijfjlkab.X Go.Proofs.YtpampekijfjlkabW.PrintWords Go.Proofs.YtpampekijfjlkabW.PrintLast Go.Proofs.YtpampekijfjlkabW.PrintMore

abbrev C := S36
theorem rdC_at (pre : List C) (c : C) (suf : List C) : rd_T36 (pre ++ c :: suf) ((pre.length : Nat) : Int) = c := by
 unfold rd_T36
 simp [List.getD]
/-- A story of so many people. -/
def sok (p : Int) (l : List C) : Bool := l.all (fun c => clok p c.f0 c.f1) && decide (1 ≤ p ∧ p ≤ 4 ∧ l.length ≤ 6)
theorem sok_iff {p : Int} {l : List C} : sok p l = true ↔ (∀ c ∈ l, clok p c.f0 c.f1 = true) ∧ 1 ≤ p ∧ p ≤ 4 ∧ l.length ≤ 6 := by
 unfold sok
 rw [Bool.and_eq_true, List.all_eq_true, decide_eq_true_eq]
theorem impl_StoryOk_l0 {p : Int} {l : List C} (hl : l.length ≤ 4611686018427387904) : ∀ (suf pre : List C), l = pre ++ suf →
  Ev (fun k => impl_StoryOk.l0 k p l l ((l.length : Nat) : Int) ((pre.length : Nat) : Int)) (suf.all (fun c => clok p c.f0 c.f1) && decide (1 ≤ p ∧ p ≤ 4 ∧ l.length ≤ 6)) := by
 intro suf
 induction suf with
 | nil =>
  intro pre he
  have hle : l.length = pre.length := by rw [he]; simp
  refine Ev.step (fun k => by simp only [impl_StoryOk.l0]; rfl) ?_
  refine Ev.no (by omega) ?_
  simp only [peopleOk_eq, Option.bind_some, List.all_nil, Bool.true_and]
  by_cases h : 1 ≤ p ∧ p ≤ 4
  ·refine Ev.yes (decide_eq_true h) (Ev.cast (Ev.some _) ?_)
   exact decide_eq_decide.mpr (by omega)
  ·refine Ev.no (by simpa using h) (Ev.cast (Ev.some _) ?_)
   exact (decide_eq_false (fun hh => h ⟨hh.1, hh.2.1⟩)).symm
 | cons c t ih =>
  intro pre he
  have hle : l.length = pre.length + (t.length + 1) := by rw [he]; simp
  have hc : rd_T36 l ((pre.length : Nat) : Int) = c := by rw [he]; exact rdC_at pre c t
  refine Ev.step (fun k => by simp only [impl_StoryOk.l0]; rfl) ?_
  rw [hc, w64 (by omega) (by omega), show (((pre.length : Nat) : Int) + 1) = (((pre ++ [c]).length : Nat) : Int) by simp]
  refine Ev.yes (by omega) (Ev.yes (by omega) (Ev.yes (by omega) (Ev.bind (impl_ClaimOk_ev p c.f0 c.f1) ?_)))
  by_cases h : clok p c.f0 c.f1 = true
  ·exact Ev.yes h (Ev.cast (ih (pre ++ [c]) (by rw [he]; simp)) (by rw [List.all_cons, h, Bool.true_and]))
  ·rw [Bool.not_eq_true] at h
   rw [h]
   exact Ev.no (by simp) (Ev.cast (Ev.some _) (by rw [List.all_cons, h]; simp))
theorem impl_StoryOk_ev (p : Int) (l : List C) (hl : l.length ≤ 4611686018427387904) : Ev (fun k => impl_StoryOk.f k p l) (sok p l) := by
 unfold impl_StoryOk.f
 exact impl_StoryOk_l0 hl l [] rfl
/-- All worlds, as bits. -/
def fullT (q : Nat) : Nat := 2 ^ (2 ^ q) - 1
theorem full_eq {q : Nat} (h1 : 1 ≤ q) (h4 : q ≤ 4) : wrap64 (shl .i64 1 (shl .u64 1 (q : Int)) - 1) = ((fullT q : Nat) : Int) := by
 have : ∀ q : Fin 5, 1 ≤ q.val → wrap64 (shl .i64 1 (shl .u64 1 ((q.val : Nat) : Int)) - 1) = ((fullT q.val : Nat) : Int) := by decide +kernel
 exact this ⟨q, by omega⟩ h1
theorem full_lt {q : Nat} (h4 : q ≤ 4) : fullT q < 65536 := by
 have : (2 : Nat) ^ q ≤ 2 ^ 4 := Nat.pow_le_pow_right (by decide) h4
 have h2 : (2 : Nat) ^ (2 ^ q) ≤ 2 ^ 16 := Nat.pow_le_pow_right (by decide) (by omega)
 unfold fullT
 omega
/-- The table of a story, from some worlds on. -/
noncomputable def stabFrom (p : Int) : Nat → List C → Nat
 | a, [] => a
 | a, c :: l => stabFrom p (a &&& ctab p c.f0 c.f1) l
noncomputable def stab (p : Int) (l : List C) : Nat := stabFrom p (fullT p.toNat) l
theorem and_lt {a b n : Nat} (h : a < n) : a &&& b < n := Nat.lt_of_le_of_lt Nat.and_le_left h
theorem ctab_lt' {p i : Int} {t : List M} (h : clok p i t = true) : ctab p i t < 65536 := by
 obtain ⟨hp0, hp1, _⟩ := tok_iff.1 (clok_iff.1 h).2.2.1
 obtain ⟨q, rfl, _, hq, hq2, e⟩ := people_nat hp0 hp1
 unfold ctab
 rw [e]
 exact tabL_mono hq2
theorem stabFrom_lt {p : Int} : ∀ (l : List C) (a : Nat), a < 65536 → stabFrom p a l < 65536
 | [], _, h => h
 | _ :: l, _, h => stabFrom_lt l _ (and_lt h)
theorem impl_storyTable_l0 {p : Int} {l : List C} (hl : l.length ≤ 4611686018427387904) : ∀ (suf pre : List C) (a : Nat), l = pre ++ suf → (∀ c ∈ suf, clok p c.f0 c.f1 = true) → a < 65536 →
  Ev (fun k => impl_storyTable.l0 k p (a : Int) l ((l.length : Nat) : Int) ((pre.length : Nat) : Int)) ((stabFrom p a suf : Nat) : Int) := by
 intro suf
 induction suf with
 | nil =>
  intro pre a he _ _
  have hle : l.length = pre.length := by rw [he]; simp
  exact Ev.step (fun k => by simp only [impl_storyTable.l0]; rfl) (Ev.no (by omega) (Ev.some _))
 | cons c t ih =>
  intro pre a he hc0 ha
  have hle : l.length = pre.length + (t.length + 1) := by rw [he]; simp
  have hc : rd_T36 l ((pre.length : Nat) : Int) = c := by rw [he]; exact rdC_at pre c t
  have hk := hc0 c (by simp)
  refine Ev.step (fun k => by simp only [impl_storyTable.l0]; rfl) ?_
  rw [hc, w64 (by omega) (by omega), show (((pre.length : Nat) : Int) + 1) = (((pre ++ [c]).length : Nat) : Int) by simp]
  refine Ev.yes (by omega) (Ev.yes (by omega) (Ev.yes (by omega) (Ev.bind (impl_ClaimTable_ev p c.f0 c.f1) ?_)))
  rw [if_pos hk]
  have hb := ctab_lt' hk
  rw [and_nat (by omega) (by omega)]
  exact ih (pre ++ [c]) _ (by rw [he]; simp) (fun x hx => hc0 x (List.mem_cons_of_mem _ hx)) (and_lt ha)
theorem impl_storyTable_ev {p : Int} {l : List C} (h : sok p l = true) : Ev (fun k => impl_storyTable.f k p l) ((stab p l : Nat) : Int) := by
 obtain ⟨h1, hp0, hp1, h6⟩ := sok_iff.1 h
 obtain ⟨q, rfl, hq1, hq, hq2, e⟩ := people_nat hp0 hp1
 unfold impl_storyTable.f stab
 rw [full_eq hq1 hq, e]
 exact Ev.yes (by omega) (impl_storyTable_l0 (by omega) l [] _ rfl h1 (full_lt hq))
end Go.Proofs.Ytpampekijfjlkab.L

/- Plain law of the reference's test whether a claim may be made. -/
namespace Go.Proofs.Ytpampekijfjlkab.L
open Go.RowKit Go.Proofs.Ytpampekijfjlkab.X Go.Proofs.YtpampekijfjlkabW.PrintWords Go.Proofs.YtpampekijfjlkabW.PrintLast Go.Proofs.YtpampekijfjlkabW.PrintMore

theorem spec_may_ev {p i : Int} {t : List M} (h2 : tok p t = true) (h0 : 0 ≤ i) (h1 : i < p) {w : Nat} (hw : w < 16) : Ev (fun k => spec_l4May.f k i t (w : Int)) (may i t w) := by
 have h4 := (tok_iff.1 h2).2.1
 obtain ⟨j, rfl⟩ := Int.eq_ofNat_of_zero_le h0
 unfold spec_l4May.f
 refine Ev.yes h0 (Ev.bind (spec_holds_hv h2 hw) (Ev.cast (Ev.some _) ?_))
 rw [bit_mod' hw (show j < 4 by omega)]
 unfold may
 exact Bool.beq_comm
end Go.Proofs.Ytpampekijfjlkab.L

/- Plain laws of the reference's tables of claims. -/
namespace Go.Proofs.Ytpampekijfjlkab.L
open Go.RowKit Go.Proofs.Ytpampekijfjlkab.X Go.Proofs.YtpampekijfjlkabW.PrintWords Go.Proofs.YtpampekijfjlkabW.PrintLast Go.Proofs.YtpampekijfjlkabW.PrintMore

theorem spec_l4May_ev {p i : Int} {t : List M} (h : clok p i t = true) {w : Nat} (hw : w < 16) : Ev (fun k => spec_l4May.f k i t (w : Int)) (may i t w) := by
 obtain ⟨h0, h1, h2, _⟩ := clok_iff.1 h
 exact spec_may_ev h2 h0 h1 hw
theorem l4Table_l0 {q : Nat} {i : Int} {t : List M} (hq : q ≤ 4) (hq2 : 2 ^ q ≤ 16) (h : clok (q : Int) i t = true) : ∀ d j, d + j = 2 ^ q →
  Ev (fun k => spec_l4Table.l0 k (q : Int) ((tabL (may i t) j : Nat) : Int) (j : Int) i t) ((tabL (may i t) (2 ^ q) : Nat) : Int) := by
 intro d
 induction d with
 | zero =>
  intro j hj
  rw [Nat.zero_add] at hj
  refine Ev.step (fun k => by simp only [spec_l4Table.l0]; rfl) ?_
  rw [shl_nat (by omega)]
  refine Ev.yes (by omega) (Ev.no (by omega) (Ev.cast (Ev.some _) ?_))
  rw [hj]
 | succ d ih =>
  intro j hj
  refine Ev.step (fun k => by simp only [spec_l4Table.l0]; rfl) ?_
  rw [shl_nat (by omega)]
  refine Ev.yes (by omega) (Ev.yes (by omega) (Ev.bind (spec_l4May_ev h (by omega)) ?_))
  rw [w64 (by omega) (by omega), show ((j : Int) + 1) = ((j + 1 : Nat) : Int) by omega]
  by_cases hb : may i t j = true
  ·refine Ev.yes hb (Ev.yes (by omega) ?_)
   rw [or_step (by omega) hb]
   exact ih (j + 1) (by omega)
  ·refine Ev.no hb ?_
   have := ih (j + 1) (by omega)
   rwa [not_step hb] at this
theorem spec_l4Table_ev {p i : Int} {t : List M} (h : clok p i t = true) : Ev (fun k => spec_l4Table.f k p i t) ((ctab p i t : Nat) : Int) := by
 unfold spec_l4Table.f
 obtain ⟨hp0, hp1, _⟩ := tok_iff.1 (clok_iff.1 h).2.2.1
 obtain ⟨q, rfl, _, hq, hq2, _⟩ := people_nat hp0 hp1
 exact l4Table_l0 hq hq2 h (2 ^ q) 0 (by omega)
end Go.Proofs.Ytpampekijfjlkab.L

/- Plain laws of the reference's stories and their tables. -/
namespace Go.Proofs.Ytpampekijfjlkab.L
open Go.RowKit Go.Proofs.Ytpampekijfjlkab.X Go.Proofs.YtpampekijfjlkabW.PrintWords Go.Proofs.YtpampekijfjlkabW.PrintLast Go.Proofs.YtpampekijfjlkabW.PrintMore

/-- Small enough for the reference's tests. -/
def Fit (l : List C) : Prop := ∀ c ∈ l, c.f1.length ≤ 4611686018427387904 ∧ ∀ m ∈ c.f1, m.f1 ≤ 9223372036854775807
theorem spec_StoryOk_l0 {p : Int} {l : List C} (hl : l.length ≤ 4611686018427387904) : ∀ (suf pre : List C), l = pre ++ suf → Fit suf →
  Ev (fun k => spec_StoryOk.l0 k p l ((pre.length : Nat) : Int)) (suf.all (fun c => clok p c.f0 c.f1) && decide (1 ≤ p ∧ p ≤ 4 ∧ l.length ≤ 6)) := by
 intro suf
 induction suf with
 | nil =>
  intro pre he _
  have hle : l.length = pre.length := by rw [he]; simp
  refine Ev.step (fun k => by simp only [spec_StoryOk.l0]; rfl) ?_
  refine Ev.no (by omega) ?_
  simp only [l1In_eq, Option.bind_some, List.all_nil, Bool.true_and]
  by_cases h : 1 ≤ p ∧ p ≤ 4
  ·refine Ev.yes (decide_eq_true h) (Ev.cast (Ev.some _) ?_)
   exact decide_eq_decide.mpr (by omega)
  ·refine Ev.no (by simpa using h) (Ev.cast (Ev.some _) ?_)
   exact (decide_eq_false (fun hh => h ⟨hh.1, hh.2.1⟩)).symm
 | cons c t ih =>
  intro pre he hf
  have hle : l.length = pre.length + (t.length + 1) := by rw [he]; simp
  have hc : rd_T36 l ((pre.length : Nat) : Int) = c := by rw [he]; exact rdC_at pre c t
  have hfc := hf c (by simp)
  refine Ev.step (fun k => by simp only [spec_StoryOk.l0]; rfl) ?_
  rw [hc, w64 (by omega) (by omega), show (((pre.length : Nat) : Int) + 1) = (((pre ++ [c]).length : Nat) : Int) by simp]
  refine Ev.yes (by omega) (Ev.yes (by omega) (Ev.bind (spec_ClaimOk_ev p c.f0 c.f1 hfc.1 hfc.2) ?_))
  by_cases h : clok p c.f0 c.f1 = true
  ·exact Ev.yes h (Ev.cast (ih (pre ++ [c]) (by rw [he]; simp) (fun x hx => hf x (List.mem_cons_of_mem _ hx))) (by rw [List.all_cons, h, Bool.true_and]))
  ·rw [Bool.not_eq_true] at h
   rw [h]
   exact Ev.no (by simp) (Ev.cast (Ev.some _) (by rw [List.all_cons, h]; simp))
theorem spec_StoryOk_ev (p : Int) (l : List C) (hl : l.length ≤ 4611686018427387904) (hf : Fit l) : Ev (fun k => spec_StoryOk.f k p l) (sok p l) := by
 unfold spec_StoryOk.f
 exact spec_StoryOk_l0 hl l [] rfl hf
theorem spec_l4Story_l0 {p : Int} {l : List C} (hl : l.length ≤ 4611686018427387904) : ∀ (suf pre : List C) (a : Nat), l = pre ++ suf → (∀ c ∈ suf, clok p c.f0 c.f1 = true) → a < 65536 →
  Ev (fun k => spec_l4Story.l0 k p l (a : Int) ((pre.length : Nat) : Int)) ((stabFrom p a suf : Nat) : Int) := by
 intro suf
 induction suf with
 | nil =>
  intro pre a he _ _
  have hle : l.length = pre.length := by rw [he]; simp
  exact Ev.step (fun k => by simp only [spec_l4Story.l0]; rfl) (Ev.no (by omega) (Ev.some _))
 | cons c t ih =>
  intro pre a he hc0 ha
  have hle : l.length = pre.length + (t.length + 1) := by rw [he]; simp
  have hc : rd_T36 l ((pre.length : Nat) : Int) = c := by rw [he]; exact rdC_at pre c t
  have hk := hc0 c (by simp)
  refine Ev.step (fun k => by simp only [spec_l4Story.l0]; rfl) ?_
  rw [hc, w64 (by omega) (by omega), show (((pre.length : Nat) : Int) + 1) = (((pre ++ [c]).length : Nat) : Int) by simp]
  refine Ev.yes (by omega) (Ev.yes (by omega) (Ev.bind (spec_l4Table_ev hk) ?_))
  have hb := ctab_lt' hk
  rw [and_nat (by omega) (by omega)]
  exact ih (pre ++ [c]) _ (by rw [he]; simp) (fun x hx => hc0 x (List.mem_cons_of_mem _ hx)) (and_lt ha)
theorem spec_l4Story_ev {p : Int} {l : List C} (h : sok p l = true) : Ev (fun k => spec_l4Story.f k p l) ((stab p l : Nat) : Int) := by
 obtain ⟨h1, hp0, hp1, h6⟩ := sok_iff.1 h
 obtain ⟨q, rfl, hq1, hq, hq2, e⟩ := people_nat hp0 hp1
 unfold spec_l4Story.f stab
 rw [full_eq hq1 hq, e]
 exact Ev.yes (by omega) (spec_l4Story_l0 (by omega) l [] _ rfl h1 (full_lt hq))
end Go.Proofs.Ytpampekijfjlkab.L

/- Drawn stories, by the code. -/
namespace Go.Proofs.Ytpampekijfjlkab.L
open Go.RowKit Go.Proofs.Ytpampekijfjlkab.X Go.Proofs.YtpampekijfjlkabW.PrintWords Go.Proofs.YtpampekijfjlkabW.PrintLast Go.Proofs.YtpampekijfjlkabW.PrintMore

theorem DrawStoryTable_ev {l : List Int} (hw : ∀ x ∈ l, (Lit.int .u8 x).wf = true) : ∃ (p : Int) (c : List S36), Ev (fun k => spec_DrawStoryTable.f k l) (p, c) ∧ 1 ≤ p ∧ p ≤ 4 ∧ c.length ≤ 7 ∧ SmC c := by
 obtain ⟨s, hs, ho⟩ := open_eq hw
 obtain ⟨p, c, n, h, h1, h2, h3, h4, _⟩ := l20Story_ev hs 12 (by omega) (by omega)
 refine ⟨p, c, ?_, h1, h2, h3, h4⟩
 unfold spec_DrawStoryTable.f
 rw [ho]
 simp only [Option.bind_some]
 exact Ev.bind h (Ev.some _)
theorem SmC.fit {c : List S36} (h : SmC c) : Fit c := fun x hx => ⟨by have := (h x hx).1; omega, (h x hx).2.wf⟩
end Go.Proofs.Ytpampekijfjlkab.L

/- Plain law of the program's table of a story, whole. -/
namespace Go.Proofs.Ytpampekijfjlkab.L
open Go.RowKit Go.Proofs.Ytpampekijfjlkab.X Go.Proofs.YtpampekijfjlkabW.PrintWords Go.Proofs.YtpampekijfjlkabW.PrintLast Go.Proofs.YtpampekijfjlkabW.PrintMore

theorem impl_StoryTable_ev (p : Int) (l : List C) (hl : l.length ≤ 4611686018427387904) : Ev (fun k => impl_StoryTable.f k p l) (if sok p l = true then ((stab p l : Nat) : Int) else -1) := by
 unfold impl_StoryTable.f
 refine Ev.bind (impl_StoryOk_ev p l hl) ?_
 by_cases h : sok p l = true
 ·rw [if_pos h]
  exact Ev.yes h (Ev.bind (impl_storyTable_ev h) (Ev.some _))
 ·rw [if_neg h]
  exact Ev.no h (Ev.some _)
end Go.Proofs.Ytpampekijfjlkab.L

/- Plain law of the reference's table of a story, whole. -/
namespace Go.Proofs.Ytpampekijfjlkab.L
open Go.RowKit Go.Proofs.Ytpampekijfjlkab.X Go.Proofs.YtpampekijfjlkabW.PrintWords Go.Proofs.YtpampekijfjlkabW.PrintLast Go.Proofs.YtpampekijfjlkabW.PrintMore

theorem spec_StoryTable_ev (p : Int) (l : List C) (hl : l.length ≤ 4611686018427387904) (hf : Fit l) : Ev (fun k => spec_StoryTable.f k p l) (if sok p l = true then ((stab p l : Nat) : Int) else -1) := by
 unfold spec_StoryTable.f
 refine Ev.bind (spec_StoryOk_ev p l hl hf) ?_
 by_cases h : sok p l = true
 ·rw [if_pos h]
  exact Ev.yes h (Ev.bind (spec_l4Story_ev h) (Ev.some _))
 ·rw [if_neg h]
  exact Ev.no h (Ev.some _)
end Go.Proofs.Ytpampekijfjlkab.L

/- That the program lives. -/
namespace Go.Proofs.Ytpampekijfjlkab.L
open Go.RowKit Go.Proofs.Ytpampekijfjlkab.X Go.Proofs.YtpampekijfjlkabW.PrintWords Go.Proofs.YtpampekijfjlkabW.PrintLast Go.Proofs.YtpampekijfjlkabW.PrintMore

theorem alive_eq' : laws_alive.f = some true := by decide +kernel
end Go.Proofs.Ytpampekijfjlkab.L
