/- Joined by a program of this session's: LC, LH, LHW, LCL, LTB, LTY, LTO, LTS, LSAB. -/
import Derived.Test.YtofcmhpoebbnoaaG56dfae8737
import Derived.Test.YtofcmhpoebbnoaaGd7aac5f820
import Derived.Laws.BitsLemmas
import Derived.Test.YtofcmhpoebbnoaaG54d165df4d

/- Plain laws of chains: tricks of tricks; the program's chain. -/
namespace Go.Proofs.Ytofcmhpoebbnoaa.L
open Go.RowKit Go.Proofs.Ytofcmhpoebbnoaa.X Go.Proofs.YtofcmhpoebbnoaaW.PrintWords Go.Proofs.YtofcmhpoebbnoaaW.PrintLast Go.Proofs.YtofcmhpoebbnoaaW.PrintMore

/-- A term within the tricks of a list. -/
def wrapAll : List Int → List M → List M
 | [], t => t
 | i :: l, t => wrapM i (wrapAll l t)
theorem wrapAll_length : ∀ (l : List Int) (t : List M), (wrapAll l t).length = t.length + 2 * l.length
 | [], t => by simp [wrapAll]
 | i :: l, t => by rw [wrapAll, wrapM_length, wrapAll_length l t, List.length_cons]; omega
theorem wrapAll_app : ∀ (a b : List Int) (t : List M), wrapAll (a ++ b) t = wrapAll a (wrapAll b t)
 | [], _, _ => rfl
 | i :: a, b, t => by simp only [List.cons_append, wrapAll, wrapAll_app a b t]
theorem wrapAll_form : ∀ (l : List Int) (t : List M), ∃ z : List M, wrapAll l t = l.map (fun i => ⟨0, i⟩) ++ (t ++ z)
 | [], t => ⟨[], by simp [wrapAll]⟩
 | i :: l, t => by
  obtain ⟨z, hz⟩ := wrapAll_form l t
  exact ⟨z ++ [⟨5, 0⟩], by rw [wrapAll, wrapM, hz]; simp⟩
theorem scan_bad {p : Int} : ∀ (l : List Int) (s : List M) (n : Nat), (∃ i ∈ l, ¬ (0 ≤ i ∧ i < p)) → scan p (l.map (fun i => ⟨0, i⟩) ++ s) n = none
 | [], s, n, h => by obtain ⟨i, hi, _⟩ := h; cases hi
 | i :: l, s, n, h => by
  simp only [List.map_cons, List.cons_append, scan, if_true]
  by_cases hi : 0 ≤ i ∧ i < p
  ·rw [if_pos hi]
   refine scan_bad l s _ ?_
   obtain ⟨j, hj, hb⟩ := h
   rcases List.mem_cons.1 hj with rfl | hj
   ·exact absurd hi hb
   ·exact ⟨j, hj, hb⟩
  ·rw [if_neg hi]
theorem tok_bad {p : Int} {l : List Int} {t : List M} (h : ∃ i ∈ l, ¬ (0 ≤ i ∧ i < p)) : tok p (wrapAll l t) ≠ true := by
 intro hk
 obtain ⟨_, _, _, _, hs⟩ := tok_iff.1 hk
 obtain ⟨z, hz⟩ := wrapAll_form l t
 rw [hz, scan_bad l _ 0 h] at hs
 cases hs
theorem tok_long {p : Int} {t : List M} (h : 15 < t.length) : tok p t ≠ true := fun hk => by have := tok_iff.1 hk; omega
/-- What both functions of chains come to. -/
def chainR (p : Int) (l : List Int) (t : List M) : List M × Bool := if tok p t = true ∧ tok p (wrapAll l t) = true then (wrapAll l t, true) else ([], false)
theorem chainR_length {p : Int} {l : List Int} {t : List M} : (chainR p l t).1.length ≤ 15 := by
 unfold chainR
 split
 ·rename_i h; exact (tok_iff.1 h.2).2.2.2.1
 ·simp
theorem rdI_at' (pre : List Int) (x : Int) (suf : List Int) : rd (pre ++ x :: suf) ((pre.length : Nat) : Int) = x := by
 unfold rd
 simp [List.getD]
theorem impl_Chain_l0 {p : Int} {l : List Int} {t : List M} (hl : l.length ≤ 1048576) (hk : tok p t = true) : ∀ (n : Nat) (pre suf : List Int), l = pre ++ suf → pre.length = n →
  (wrapAll suf t).length ≤ 17 → Ev (fun k => impl_ChainTerm.l0 k p l (wrapAll suf t) ((n : Int) - 1)) (chainR p l t) := by
 intro n
 induction n with
 | zero =>
  intro pre suf he hn hb
  have hp : pre = [] := List.length_eq_zero_iff.1 hn
  subst hp
  rw [List.nil_append] at he
  subst he
  refine Ev.step (fun k => by simp only [impl_ChainTerm.l0]; rfl) ?_
  refine Ev.no (by simp) (Ev.bind (impl_TermOk_ev p _) ?_)
  by_cases hz : tok p (wrapAll l t) = true
  ·exact Ev.yes hz (Ev.cast (Ev.some _) (if_pos ⟨hk, hz⟩).symm)
  ·exact Ev.no hz (Ev.cast (Ev.some _) (if_neg (fun h => hz h.2)).symm)
 | succ n ih =>
  intro pre suf he hn hb
  obtain ⟨pre', x, rfl⟩ : ∃ pre' x, pre = pre' ++ [x] := ⟨pre.dropLast, pre.getLast (by intro h; rw [h] at hn; simp at hn), (List.dropLast_concat_getLast _).symm⟩
  have hn' : pre'.length = n := by simpa using hn
  have he' : l = pre' ++ x :: suf := by rw [he]; simp
  have hx : rd l (((n + 1 : Nat) : Int) - 1) = x := by
   rw [show (((n + 1 : Nat) : Int) - 1) = ((pre'.length : Nat) : Int) by omega, he']
   exact rdI_at' pre' x suf
  have hlen : l.length = n + 1 + suf.length := by rw [he']; simp; omega
  have hmem : x ∈ l := by rw [he']; simp
  have bad : tok p (wrapAll l t) ≠ true → Ev (fun _ : Nat => Option.some (([] : List M), false)) (chainR p l t) := fun h => Ev.cast (Ev.some _) (if_neg (fun h' => h h'.2)).symm
  refine Ev.step (fun k => by simp only [impl_ChainTerm.l0]; rfl) ?_
  rw [hx]
  refine Ev.yes (by omega) (Ev.yes (by omega) (Ev.yes (by omega) ?_))
  by_cases h0 : x < 0
  ·exact Ev.yes h0 (bad (tok_bad ⟨x, hmem, by omega⟩))
  refine Ev.no h0 ?_
  by_cases h1 : x ≥ p
  ·exact Ev.yes h1 (bad (tok_bad ⟨x, hmem, by omega⟩))
  refine Ev.no h1 ?_
  by_cases h2 : ((wrapAll suf t).length : Int) > 15
  ·refine Ev.yes h2 (bad (tok_long ?_))
   rw [wrapAll_length] at h2 ⊢
   rw [hlen]
   omega
  refine Ev.no h2 ?_
  rw [trick_eq _ _ (by omega)]
  simp only [Option.bind_some]
  rw [w64 (by omega) (by omega), show (((n + 1 : Nat) : Int) - 1 - 1) = (n : Int) - 1 by omega]
  exact ih pre' (x :: suf) he' hn' (by rw [wrapAll, wrapM_length]; omega)
theorem clone_eq (t : List M) (ht : t.length ≤ 4611686018427) : impl_Mark.f t = some t := by
 unfold impl_Mark.f
 simp only [Option.bind_some, List.length_nil, List.nil_append]
 rw [if_pos (by omega)]
theorem impl_Chain_ev {p : Int} {l : List Int} {t : List M} (hl : l.length ≤ 1048576) : Ev (fun k => impl_ChainTerm.f k p l t) (chainR p l t) := by
 unfold impl_ChainTerm.f
 refine Ev.bind (impl_TermOk_ev p t) ?_
 by_cases hk : tok p t = true
 ·refine Ev.yes hk ?_
  have h15 := (tok_iff.1 hk).2.2.2.1
  rw [clone_eq t (by omega)]
  simp only [Option.bind_some]
  rw [w64 (by omega) (by omega)]
  exact impl_Chain_l0 hl hk l.length l [] (by simp) rfl (by simp only [wrapAll]; omega)
 ·exact Ev.no hk (Ev.cast (Ev.some _) (if_neg (fun h => hk h.1)).symm)
end Go.Proofs.Ytofcmhpoebbnoaa.L

/- Plain laws of terms, third text: what a valid row of marks says in a world, as a function of the row alone. -/
namespace Go.Proofs.Ytofcmhpoebbnoaa.L
open Go.RowKit Go.Proofs.Ytofcmhpoebbnoaa.X Go.Proofs.YtofcmhpoebbnoaaW.PrintWords Go.Proofs.YtofcmhpoebbnoaaW.PrintLast Go.Proofs.YtofcmhpoebbnoaaW.PrintMore

theorem Tm.good_four {p : Int} (hp : p ≤ 4) : ∀ a : Tm, a.good p → a.good 4
 | .tell i, h => by have h' : (i : Int) < p := h; show (i : Int) < 4; omega
 | .cnt n, h => by have h' : (n : Int) ≤ p + 1 := h; show (n : Int) ≤ 4 + 1; omega
 | .neg a, h => good_four hp a h
 | .bin o a b, h => ⟨h.1, good_four hp a h.2.1, good_four hp b h.2.2⟩
open Classical in
/-- The tree of a row of marks. -/
noncomputable def tree (t : List M) : Tm := if h : ∃ a : Tm, a.good 4 ∧ t = a.post then Classical.choose h else .tell 0
theorem tree_post {a : Tm} (h : a.good 4) : (tree a.post).good 4 ∧ a.post = (tree a.post).post := by
 have h' : ∃ b : Tm, b.good 4 ∧ a.post = b.post := ⟨a, h, rfl⟩
 unfold tree
 rw [dif_pos h']
 exact Classical.choose_spec h'
/-- Whether a row of marks holds in a world. -/
noncomputable def hv (t : List M) (w : Nat) : Bool := (tree t).ev w
theorem hv_post {a : Tm} (h : a.good 4) (hl : a.post.length ≤ 500) {w : Nat} (hw : w < 16) : hv a.post w = a.ev w := by
 obtain ⟨h1, h2⟩ := tree_post h
 have e1 := impl_holds_ev (by decide) hw h hl
 have e2 := impl_holds_ev (by decide) hw h1 (by rw [← h2]; exact hl)
 rw [← h2] at e2
 exact Ev.uniq e2 e1
theorem tok_tree {p : Int} {t : List M} (h : tok p t = true) : ∃ a : Tm, a.good p ∧ t = a.post ∧ a.good 4 ∧ t.length ≤ 15 := by
 obtain ⟨a, h1, h2⟩ := parse h
 obtain ⟨_, h3, _, h4, _⟩ := tok_iff.1 h
 exact ⟨a, h1, h2, a.good_four h3 h1, h4⟩
theorem impl_holds_hv {p : Int} {t : List M} (h : tok p t = true) {w : Nat} (hw : w < 16) : Ev (fun k => impl_holds.f k t (w : Int)) (hv t w) := by
 obtain ⟨a, _, rfl, h4, hl⟩ := tok_tree h
 rw [hv_post h4 (by omega) hw]
 exact impl_holds_ev (by decide) hw h4 (by omega)
theorem spec_holds_hv {p : Int} {t : List M} (h : tok p t = true) {w : Nat} (hw : w < 16) : Ev (fun k => spec_l3Holds.f k t (w : Int)) (hv t w) := by
 obtain ⟨a, _, rfl, h4, hl⟩ := tok_tree h
 rw [hv_post h4 (by omega) hw]
 exact l3Holds_ev (by decide) hw a h4 (by omega)
/-- Whether a claim may be made in a world. -/
noncomputable def may (i : Int) (t : List M) (w : Nat) : Bool := hv t w == w.testBit i.toNat
/-- The trick: a person's mark ahead, and the mark of sameness behind. -/
def wrapT (i : Int) (t : List M) : List M := ⟨0, i⟩ :: (t ++ [⟨5, 0⟩])
theorem scan_app {p : Int} : ∀ (s t : List M) (n m : Nat), scan p s n = some m → scan p (s ++ t) n = scan p t m
 | [], t, n, m, h => by simp only [scan] at h; cases h; rfl
 | ⟨f0, f1⟩ :: s, t, n, m, h => by
  simp only [scan, List.cons_append] at h ⊢
  by_cases h0 : f0 = 0
  ·rw [if_pos h0] at h ⊢
   by_cases h1 : 0 ≤ f1 ∧ f1 < p
   ·rw [if_pos h1] at h ⊢; exact scan_app s t _ m h
   ·rw [if_neg h1] at h; cases h
  rw [if_neg h0] at h ⊢
  by_cases h1 : f0 = 1
  ·rw [if_pos h1] at h ⊢
   by_cases h2 : 0 ≤ f1 ∧ f1 ≤ p + 1
   ·rw [if_pos h2] at h ⊢; exact scan_app s t _ m h
   ·rw [if_neg h2] at h; cases h
  rw [if_neg h1] at h ⊢
  by_cases h2 : f0 = 2
  ·rw [if_pos h2] at h ⊢
   by_cases h3 : f1 = 0 ∧ 1 ≤ n
   ·rw [if_pos h3] at h ⊢; exact scan_app s t _ m h
   ·rw [if_neg h3] at h; cases h
  rw [if_neg h2] at h ⊢
  by_cases h3 : f0 = 3 ∨ f0 = 4 ∨ f0 = 5
  ·rw [if_pos h3] at h ⊢
   by_cases h4 : f1 = 0 ∧ 2 ≤ n
   ·rw [if_pos h4] at h ⊢; exact scan_app s t _ m h
   ·rw [if_neg h4] at h; cases h
  ·rw [if_neg h3] at h; cases h
theorem scan_up {p : Int} : ∀ (s : List M) (n m d : Nat), scan p s n = some m → scan p s (n + d) = some (m + d)
 | [], n, m, d, h => by simp only [scan] at h ⊢; cases h; rfl
 | ⟨f0, f1⟩ :: s, n, m, d, h => by
  simp only [scan] at h ⊢
  by_cases h0 : f0 = 0
  ·rw [if_pos h0] at h ⊢
   by_cases h1 : 0 ≤ f1 ∧ f1 < p
   ·rw [if_pos h1] at h ⊢; rw [show n + d + 1 = n + 1 + d by omega]; exact scan_up s _ m d h
   ·rw [if_neg h1] at h; cases h
  rw [if_neg h0] at h ⊢
  by_cases h1 : f0 = 1
  ·rw [if_pos h1] at h ⊢
   by_cases h2 : 0 ≤ f1 ∧ f1 ≤ p + 1
   ·rw [if_pos h2] at h ⊢; rw [show n + d + 1 = n + 1 + d by omega]; exact scan_up s _ m d h
   ·rw [if_neg h2] at h; cases h
  rw [if_neg h1] at h ⊢
  by_cases h2 : f0 = 2
  ·rw [if_pos h2] at h ⊢
   by_cases h3 : f1 = 0 ∧ 1 ≤ n
   ·rw [if_pos h3] at h; rw [if_pos ⟨h3.1, by omega⟩]; exact scan_up s _ m d h
   ·rw [if_neg h3] at h; cases h
  rw [if_neg h2] at h ⊢
  by_cases h3 : f0 = 3 ∨ f0 = 4 ∨ f0 = 5
  ·rw [if_pos h3] at h ⊢
   by_cases h4 : f1 = 0 ∧ 2 ≤ n
   ·rw [if_pos h4] at h; rw [if_pos ⟨h4.1, by omega⟩, show n + d - 1 = n - 1 + d by omega]; exact scan_up s _ m d h
   ·rw [if_neg h4] at h; cases h
  ·rw [if_neg h3] at h; cases h
end Go.Proofs.Ytofcmhpoebbnoaa.L

/- What tricks and denials say. -/
namespace Go.Proofs.Ytofcmhpoebbnoaa.L
open Go.RowKit Go.Proofs.Ytofcmhpoebbnoaa.X Go.Proofs.YtofcmhpoebbnoaaW.PrintWords Go.Proofs.YtofcmhpoebbnoaaW.PrintLast Go.Proofs.YtofcmhpoebbnoaaW.PrintMore

theorem hv_wrap {p i : Int} {t : List M} (hk : tok p t = true) (h0 : 0 ≤ i) (h1 : i < p) {w : Nat} (hw : w < 16) : hv (wrapM i t) w = (w.testBit i.toNat == hv t w) := by
 obtain ⟨a, hg, rfl, h4, hl⟩ := tok_tree hk
 have hp4 := (tok_iff.1 hk).2.1
 obtain ⟨j, rfl⟩ := Int.eq_ofNat_of_zero_le h0
 have e : wrapM (j : Int) a.post = (Tm.bin 5 (.tell j) a).post := by simp [wrapM, Tm.post]
 rw [e, hv_post (a := .bin 5 (.tell j) a) ⟨by omega, by show (j : Int) < 4; omega, h4⟩ (by rw [← e, wrapM_length]; omega) hw, hv_post h4 (by omega) hw]
 simp [Tm.ev, bop]
theorem hv_not {p : Int} {t : List M} (hk : tok p t = true) {w : Nat} (hw : w < 16) : hv (t ++ [⟨2, 0⟩]) w = !hv t w := by
 obtain ⟨a, hg, rfl, h4, hl⟩ := tok_tree hk
 have e : a.post ++ [⟨2, 0⟩] = (Tm.neg a).post := by simp [Tm.post]
 rw [e, hv_post (a := .neg a) h4 (by rw [← e]; simp; omega) hw, hv_post h4 (by omega) hw]
 simp [Tm.ev]
theorem hv_tell {j w : Nat} (hj : j < 4) (hw : w < 16) : hv [⟨0, (j : Int)⟩] w = w.testBit j := by
 have e : ([⟨0, (j : Int)⟩] : List M) = (Tm.tell j).post := rfl
 rw [e, hv_post (a := .tell j) (by show (j : Int) < 4; omega) (by simp [Tm.post]) hw]
 rfl
theorem may_wrap {p i : Int} {t : List M} (hk : tok p t = true) (h0 : 0 ≤ i) (h1 : i < p) {w : Nat} (hw : w < 16) : may i (wrapM i t) w = hv t w := by
 unfold may
 rw [hv_wrap hk h0 h1 hw]
 cases w.testBit i.toNat <;> cases hv t w <;> rfl
end Go.Proofs.Ytofcmhpoebbnoaa.L

/- What chains say. -/
namespace Go.Proofs.Ytofcmhpoebbnoaa.L
open Go.RowKit Go.Proofs.Ytofcmhpoebbnoaa.X Go.Proofs.YtofcmhpoebbnoaaW.PrintWords Go.Proofs.YtofcmhpoebbnoaaW.PrintLast Go.Proofs.YtofcmhpoebbnoaaW.PrintMore

theorem chain_tree {p : Int} : ∀ (l : List Int) (a : Tm), (∀ i ∈ l, 0 ≤ i ∧ i < p) → a.good p → ∃ b : Tm, b.good p ∧ wrapAll l a.post = b.post ∧ ∀ w, b.ev w = l.foldr (fun i r => w.testBit i.toNat == r) (a.ev w)
 | [], a, _, hg => ⟨a, hg, rfl, fun w => rfl⟩
 | i :: l, a, hl, hg => by
  obtain ⟨b, h1, h2, h3⟩ := chain_tree l a (fun x hx => hl x (List.mem_cons_of_mem _ hx)) hg
  obtain ⟨hi0, hi1⟩ := hl i (by simp)
  obtain ⟨n, rfl⟩ := Int.eq_ofNat_of_zero_le hi0
  refine ⟨.bin 5 (.tell n) b, ⟨by omega, hi1, h1⟩, ?_, fun w => ?_⟩
  ·rw [wrapAll, h2]; simp [wrapM, Tm.post]
  ·simp [Tm.ev, bop, h3 w]
theorem hv_wrapAll {p : Int} {l : List Int} {t : List M} (hk : tok p t = true) (hz : tok p (wrapAll l t) = true) (hl : ∀ i ∈ l, 0 ≤ i ∧ i < p) {w : Nat} (hw : w < 16) : hv (wrapAll l t) w = l.foldr (fun i r => w.testBit i.toNat == r) (hv t w) := by
 obtain ⟨a, hg, rfl, h4, hl'⟩ := tok_tree hk
 obtain ⟨b, h1, h2, h3⟩ := chain_tree l a hl hg
 have h15 := (tok_iff.1 hz).2.2.2.1
 rw [h2] at h15 ⊢
 rw [hv_post (b.good_four (tok_iff.1 hk).2.1 h1) (by omega) hw, hv_post h4 (by omega) hw, h3]
/-- How many of a list lie in a world. -/
def lies (w : Nat) : List Int → Nat
 | [] => 0
 | i :: l => lies w l + (if w.testBit i.toNat then 0 else 1)
theorem lies_app (w : Nat) : ∀ a b : List Int, lies w (a ++ b) = lies w a + lies w b
 | [], b => by simp [lies]
 | i :: a, b => by rw [List.cons_append, lies, lies, lies_app w a b]; omega
theorem lies_le (w : Nat) : ∀ a : List Int, lies w a ≤ a.length
 | [] => Nat.le_refl 0
 | i :: a => by have := lies_le w a; rw [lies, List.length_cons]; split <;> omega
theorem fold_lies (w : Nat) (b : Bool) : ∀ l : List Int, l.foldr (fun i r => w.testBit i.toNat == r) b = (b == decide (lies w l % 2 = 0))
 | [] => by simp [lies]
 | i :: l => by
  rw [List.foldr_cons, fold_lies w b l, lies]
  by_cases h : w.testBit i.toNat = true
  ·rw [h]; simp
  ·rw [Bool.not_eq_true] at h
   rw [h]
   rcases Nat.mod_two_eq_zero_or_one (lies w l) with e | e
   ·have e2 : (lies w l + 1) % 2 = 1 := by omega
    simp [e, e2]
   ·have e2 : (lies w l + 1) % 2 = 0 := by omega
    simp [e, e2]
theorem lies_rev (w : Nat) : ∀ l : List Int, lies w l.reverse = lies w l
 | [] => rfl
 | i :: l => by rw [List.reverse_cons, lies_app, lies_rev w l, lies, lies, lies]; omega
theorem tok_chain {p : Int} {l : List Int} {t : List M} (hk : tok p t = true) (hl : ∀ i ∈ l, 0 ≤ i ∧ i < p) (h15 : t.length + 2 * l.length ≤ 15) : tok p (wrapAll l t) = true := by
 obtain ⟨a, hg, rfl, h4, hl'⟩ := tok_tree hk
 obtain ⟨b, h1, h2, h3⟩ := chain_tree l a hl hg
 have e := wrapAll_length l a.post
 rw [h2] at e ⊢
 have h := tok_iff.1 hk
 exact tok_post h.1 h.2.1 h1 (by omega)
theorem chain_in {p : Int} {l : List Int} {t : List M} (h : tok p (wrapAll l t) = true) : ∀ i ∈ l, 0 ≤ i ∧ i < p := by
 intro i hi
 by_cases hh : 0 ≤ i ∧ i < p
 ·exact hh
 ·exact absurd h (tok_bad ⟨i, hi, hh⟩)
theorem tok_rev {p : Int} {l : List Int} {t : List M} (hk : tok p t = true) (h : tok p (wrapAll l t) = true) : tok p (wrapAll l.reverse t) = true := by
 have h15 := (tok_iff.1 h).2.2.2.1
 rw [wrapAll_length] at h15
 exact tok_chain hk (fun i hi => chain_in h i (List.mem_reverse.1 hi)) (by rw [List.length_reverse]; exact h15)
end Go.Proofs.Ytofcmhpoebbnoaa.L

/- Plain laws of tables: the worlds in which something holds, as the bits of a number. -/
namespace Go.Proofs.Ytofcmhpoebbnoaa.L
open Go.RowKit Go.Proofs.Ytofcmhpoebbnoaa.X Go.Proofs.YtofcmhpoebbnoaaW.PrintWords Go.Proofs.YtofcmhpoebbnoaaW.PrintLast Go.Proofs.YtofcmhpoebbnoaaW.PrintMore

/-- The worlds below n in which P holds, as bits. -/
def tabL (P : Nat → Bool) : Nat → Nat
 | 0 => 0
 | n + 1 => tabL P n ||| (if P n = true then 2 ^ n else 0)
theorem tabL_bit (P : Nat → Bool) : ∀ n w, (tabL P n).testBit w = (decide (w < n) && P w)
 | 0, w => by simp [tabL]
 | n + 1, w => by
  rw [tabL, Nat.testBit_or, tabL_bit P n w]
  by_cases e : w = n
  ·subst e
   by_cases h : P w = true
   ·rw [if_pos h, Nat.testBit_two_pow_self, h]; simp
   ·rw [if_neg h, Nat.zero_testBit]; simp at h; simp [h]
  ·have h1 : (if P n = true then 2 ^ n else 0).testBit w = false := by
    by_cases h : P n = true
    ·rw [if_pos h, Nat.testBit_two_pow]; simp; omega
    ·rw [if_neg h, Nat.zero_testBit]
   rw [h1, Bool.or_false]
   congr 1
   exact decide_eq_decide.mpr (by omega)
theorem lt_of_bits {x n : Nat} (h : ∀ w, n ≤ w → x.testBit w = false) : x < 2 ^ n := Nat.lt_pow_two_of_testBit x (fun w hw => h w hw)
theorem tabL_lt (P : Nat → Bool) (n : Nat) : tabL P n < 2 ^ n := lt_of_bits (fun w hw => by rw [tabL_bit]; simp; omega)
theorem tabL_congr {P Q : Nat → Bool} {n : Nat} (h : ∀ w, w < n → P w = Q w) : tabL P n = tabL Q n := by
 apply Nat.eq_of_testBit_eq
 intro w
 rw [tabL_bit, tabL_bit]
 by_cases hw : w < n
 ·rw [h w hw]
 ·simp [hw]
theorem tabL_inj {P Q : Nat → Bool} {n : Nat} (h : tabL P n = tabL Q n) : ∀ w, w < n → P w = Q w := by
 intro w hw
 have := tabL_bit P n w
 rw [h, tabL_bit] at this
 simpa [hw] using this.symm
theorem tabL_mono {P : Nat → Bool} {n : Nat} (hn : n ≤ 16) : tabL P n < 65536 := by
 have := tabL_lt P n
 have h : (2 : Nat) ^ n ≤ 2 ^ 16 := Nat.pow_le_pow_right (by decide) hn
 omega
/-! ### The machine's words of bits -/
theorem wrap_i64_small (n : Int) (h0 : 0 ≤ n) (h1 : n < 2 ^ 32) : IntKind.i64.wrap n = n := by rw [IntKind.wrap_i64]; omega
theorem or_nat {a b : Nat} (ha : a < 2 ^ 32) (hb : b < 2 ^ 32) : Go.bits .or .i64 (a : Int) (b : Int) = ((a ||| b : Nat) : Int) := (bits_nat .i64 32 (by decide) wrap_i64_small a b ha hb).2
theorem and_nat {a b : Nat} (ha : a < 2 ^ 32) (hb : b < 2 ^ 32) : Go.bits .and .i64 (a : Int) (b : Int) = ((a &&& b : Nat) : Int) := (bits_nat .i64 32 (by decide) wrap_i64_small a b ha hb).1
theorem shl_fin : ∀ i : Fin 31, shl .i64 1 ((i.val : Nat) : Int) = ((2 ^ i.val : Nat) : Int) := by decide +kernel
theorem shl_nat {i : Nat} (hi : i < 31) : shl .i64 1 (i : Int) = ((2 ^ i : Nat) : Int) := shl_fin ⟨i, hi⟩
theorem shlu_fin : ∀ i : Fin 6, shl .u64 1 ((i.val : Nat) : Int) = ((2 ^ i.val : Nat) : Int) := by decide +kernel
theorem shlu_nat {i : Nat} (hi : i < 6) : shl .u64 1 (i : Int) = ((2 ^ i : Nat) : Int) := shlu_fin ⟨i, hi⟩
theorem or_step {P : Nat → Bool} {i : Nat} (hi : i < 16) (h : P i = true) : Go.bits .or .i64 ((tabL P i : Nat) : Int) (shl .i64 1 (i : Int)) = ((tabL P (i + 1) : Nat) : Int) := by
 have h1 := tabL_lt P i
 have h2 : (2 : Nat) ^ i < 2 ^ 16 := Nat.pow_lt_pow_right (by decide) hi
 rw [shl_nat (by omega), or_nat (by omega) (by omega), tabL, if_pos h]
theorem not_step {P : Nat → Bool} {i : Nat} (h : ¬ P i = true) : tabL P (i + 1) = tabL P i := by rw [tabL, if_neg h, Nat.or_zero]
theorem people_nat {p : Int} (h0 : 1 ≤ p) (h1 : p ≤ 4) : ∃ q : Nat, p = (q : Int) ∧ 1 ≤ q ∧ q ≤ 4 ∧ 2 ^ q ≤ 16 ∧ p.toNat = q := by
 obtain ⟨q, rfl⟩ := Int.eq_ofNat_of_zero_le (show 0 ≤ p by omega)
 refine ⟨q, rfl, by omega, by omega, ?_, by simp⟩
 have : (2 : Nat) ^ q ≤ 2 ^ 4 := Nat.pow_le_pow_right (by decide) (by omega)
 omega
end Go.Proofs.Ytofcmhpoebbnoaa.L

/- Plain law of the program's maker of tables. -/
namespace Go.Proofs.Ytofcmhpoebbnoaa.L
open Go.RowKit Go.Proofs.Ytofcmhpoebbnoaa.X Go.Proofs.YtofcmhpoebbnoaaW.PrintWords Go.Proofs.YtofcmhpoebbnoaaW.PrintLast Go.Proofs.YtofcmhpoebbnoaaW.PrintMore

theorem tableBy_l0 {F : Nat → Int → Option Bool} {P : Nat → Bool} {n : Nat} (hn : n ≤ 16) (hF : ∀ w : Nat, w < n → Ev (fun k => F k (w : Int)) (P w)) : ∀ d i, d + i = n →
  Ev (fun k => impl_tableBy.l0 F k ((tabL P i : Nat) : Int) (n : Int) (i : Int)) ((tabL P n : Nat) : Int) := by
 intro d
 induction d with
 | zero =>
  intro i hi
  rw [Nat.zero_add] at hi
  subst hi
  exact Ev.step (fun k => by simp only [impl_tableBy.l0]; rfl) (Ev.no (by omega) (Ev.some _))
 | succ d ih =>
  intro i hi
  refine Ev.step (fun k => by simp only [impl_tableBy.l0]; rfl) ?_
  refine Ev.yes (by omega) (Ev.bind (hF i (by omega)) ?_)
  rw [w64 (by omega) (by omega), show ((i : Int) + 1) = ((i + 1 : Nat) : Int) by omega]
  by_cases h : P i = true
  ·refine Ev.yes h (Ev.yes (by omega) ?_)
   rw [or_step (by omega) h]
   exact ih (i + 1) (by omega)
  ·refine Ev.no h ?_
   have := ih (i + 1) (by omega)
   rwa [not_step h] at this
theorem tableBy_ev {F : Nat → Int → Option Bool} {P : Nat → Bool} {q : Nat} (hq : q ≤ 4) (hF : ∀ w : Nat, w < 2 ^ q → Ev (fun k => F k (w : Int)) (P w)) : Ev (fun k => impl_tableBy.f F k (q : Int)) ((tabL P (2 ^ q) : Nat) : Int) := by
 unfold impl_tableBy.f
 refine Ev.yes (by omega) ?_
 rw [shl_nat (by omega)]
 have h16 : (2 : Nat) ^ q ≤ 2 ^ 4 := Nat.pow_le_pow_right (by decide) hq
 exact tableBy_l0 (by omega) hF (2 ^ q) 0 (by omega)
end Go.Proofs.Ytofcmhpoebbnoaa.L

/- Plain laws of the tables of terms, and of terms with the same table. -/
namespace Go.Proofs.Ytofcmhpoebbnoaa.L
open Go.RowKit Go.Proofs.Ytofcmhpoebbnoaa.X Go.Proofs.YtofcmhpoebbnoaaW.PrintWords Go.Proofs.YtofcmhpoebbnoaaW.PrintLast Go.Proofs.YtofcmhpoebbnoaaW.PrintMore

/-- The table of a term. -/
noncomputable def ttab (p : Int) (t : List M) : Nat := tabL (hv t) (2 ^ p.toNat)
theorem impl_TableOf_ev (p : Int) (t : List M) : Ev (fun k => impl_TableOf.f k p t) (if tok p t = true then ((ttab p t : Nat) : Int) else -1) := by
 unfold impl_TableOf.f
 refine Ev.bind (impl_TermOk_ev p t) ?_
 by_cases h : tok p t = true
 ·rw [if_pos h]
  refine Ev.yes h ?_
  obtain ⟨hp0, hp1, _⟩ := tok_iff.1 h
  obtain ⟨q, rfl, _, hq, hq2, _⟩ := people_nat hp0 hp1
  exact tableBy_ev hq (fun w hw => impl_holds_hv h (by omega))
 ·rw [if_neg h]
  exact Ev.no h (Ev.some _)
end Go.Proofs.Ytofcmhpoebbnoaa.L

/- Plain law of terms with the same table. -/
namespace Go.Proofs.Ytofcmhpoebbnoaa.L
open Go.RowKit Go.Proofs.Ytofcmhpoebbnoaa.X Go.Proofs.YtofcmhpoebbnoaaW.PrintWords Go.Proofs.YtofcmhpoebbnoaaW.PrintLast Go.Proofs.YtofcmhpoebbnoaaW.PrintMore

noncomputable def sameT (p : Int) (a b : List M) : Bool := if tok p a = true ∧ tok p b = true then decide (ttab p a = ttab p b) else false
theorem impl_SameOk_ev (p : Int) (a b : List M) : Ev (fun k => impl_SameOk.f k p a b) (sameT p a b) := by
 unfold impl_SameOk.f
 refine Ev.bind (impl_TermOk_ev p a) ?_
 by_cases ha : tok p a = true
 ·refine Ev.yes ha (Ev.bind (impl_TermOk_ev p b) ?_)
  by_cases hb : tok p b = true
  ·refine Ev.yes hb (Ev.bind (impl_TableOf_ev p a) (Ev.bind (impl_TableOf_ev p b) (Ev.cast (Ev.some _) ?_)))
   rw [if_pos ha, if_pos hb, sameT, if_pos ⟨ha, hb⟩]
   by_cases e : ttab p a = ttab p b
   ·rw [e]; simp
   ·rw [decide_eq_false e]
    exact beq_eq_false_iff_ne.2 (by omega)
  ·exact Ev.no hb (Ev.cast (Ev.some _) (if_neg (fun h => hb h.2)).symm)
 ·exact Ev.no ha (Ev.cast (Ev.some _) (if_neg (fun h => ha h.1)).symm)
end Go.Proofs.Ytofcmhpoebbnoaa.L

/- That the program lives. -/
namespace Go.Proofs.Ytofcmhpoebbnoaa.L
open Go.RowKit Go.Proofs.Ytofcmhpoebbnoaa.X Go.Proofs.YtofcmhpoebbnoaaW.PrintWords Go.Proofs.YtofcmhpoebbnoaaW.PrintLast Go.Proofs.YtofcmhpoebbnoaaW.PrintMore

theorem alive_eq' : laws_alive.f = some true := by decide +kernel
end Go.Proofs.Ytofcmhpoebbnoaa.L
