/- Joined by a program of this session's: LO, LOB, LTR, LNC, LM, LME, LMD, LMC. -/
import Derived.Test.YtofcmhpoebbnoaaGae7c3afe2a
import Derived.Test.YtofcmhpoebbnoaaG734b1a454c
import Derived.Test.YtofcmhpoebbnoaaGcc10b886ef
import Derived.Test.YtofcmhpoebbnoaaGcc01708d74

/- Plain laws of claims: which are ones. -/
namespace Go.Proofs.Ytofcmhpoebbnoaa.L
open Go.RowKit Go.Proofs.Ytofcmhpoebbnoaa.X Go.Proofs.YtofcmhpoebbnoaaW.PrintWords Go.Proofs.YtofcmhpoebbnoaaW.PrintLast Go.Proofs.YtofcmhpoebbnoaaW.PrintMore

/-- A claim by one of so many people. -/
def clok (p i : Int) (t : List M) : Bool := decide (0 ≤ i ∧ i < p) && (tok p t && decide (t.length ≤ 13))
theorem clok_iff {p i : Int} {t : List M} : clok p i t = true ↔ 0 ≤ i ∧ i < p ∧ tok p t = true ∧ t.length ≤ 13 := by
  unfold clok
  simp only [Bool.and_eq_true, decide_eq_true_eq]
  exact ⟨fun h => ⟨h.1.1, h.1.2, h.2.1, h.2.2⟩, fun h => ⟨⟨h.1, h.2.1⟩, h.2.2.1, h.2.2.2⟩⟩
theorem clok_false {p i : Int} {t : List M} (h : ¬ (0 ≤ i ∧ i < p ∧ tok p t = true ∧ t.length ≤ 13)) : false = clok p i t := by
  cases e : clok p i t with
  | false => rfl
  | true => exact absurd (clok_iff.1 e) h
theorem impl_ClaimOk_ev (p i : Int) (t : List M) : Ev (fun k => impl_ClaimOk.f k p i t) (clok p i t) := by
  unfold impl_ClaimOk.f
  simp only [peopleOk_eq, Option.bind_some]
  by_cases h0 : 1 ≤ p ∧ p ≤ 4
  · refine Ev.yes (decide_eq_true h0) ?_
    by_cases h1 : i ≥ 0
    · refine Ev.yes h1 ?_
      by_cases h2 : i < p
      · refine Ev.yes h2 (Ev.bind (impl_TermOk_ev p t) ?_)
        by_cases h3 : tok p t = true
        · refine Ev.yes h3 (Ev.cast (Ev.some _) ?_)
          by_cases h4 : t.length ≤ 13
          · rw [clok_iff.2 ⟨h1, h2, h3, h4⟩]; exact decide_eq_true (by omega)
          · rw [← clok_false (fun h => h4 h.2.2.2)]; exact decide_eq_false (by omega)
        · exact Ev.no h3 (Ev.cast (Ev.some _) (clok_false (fun h => h3 h.2.2.1)))
      · exact Ev.no h2 (Ev.cast (Ev.some _) (clok_false (fun h => h2 h.2.1)))
    · exact Ev.no h1 (Ev.cast (Ev.some _) (clok_false (fun h => h1 h.1)))
  · refine Ev.no (by simpa using h0) (Ev.cast (Ev.some _) (clok_false (fun h => h0 ?_)))
    have := tok_iff.1 h.2.2.1
    omega
theorem spec_ClaimOk_ev (p i : Int) (t : List M) (hl : t.length ≤ 4611686018427387904) (hw : ∀ m ∈ t, m.f1 ≤ 9223372036854775807) : Ev (fun k => spec_ClaimOk.f k p i t) (clok p i t) := by
  unfold spec_ClaimOk.f
  by_cases h1 : i ≥ 0
  · refine Ev.yes h1 ?_
    by_cases h2 : i < p
    · refine Ev.yes h2 (Ev.bind (spec_TermOk_ev p t hl hw) ?_)
      by_cases h3 : tok p t = true
      · refine Ev.yes h3 (Ev.cast (Ev.some _) ?_)
        by_cases h4 : t.length ≤ 13
        · rw [clok_iff.2 ⟨h1, h2, h3, h4⟩]; exact decide_eq_true (by omega)
        · rw [← clok_false (fun h => h4 h.2.2.2)]; exact decide_eq_false (by omega)
      · exact Ev.no h3 (Ev.cast (Ev.some _) (clok_false (fun h => h3 h.2.2.1)))
    · exact Ev.no h2 (Ev.cast (Ev.some _) (clok_false (fun h => h2 h.2.1)))
  · exact Ev.no h1 (Ev.cast (Ev.some _) (clok_false (fun h => h1 h.1)))
/-- A claim, and whether it is one. -/
def claimR (p i : Int) (t : List M) : Int × List M × Bool := if clok p i t = true then (i, t, true) else (0, [], false)
theorem claimR_length {p i : Int} {t : List M} : (claimR p i t).2.1.length ≤ 13 := by
  unfold claimR
  split
  · rename_i h; exact (clok_iff.1 h).2.2.2
  · simp
end Go.Proofs.Ytofcmhpoebbnoaa.L

/- Plain law of making a claim. -/
namespace Go.Proofs.Ytofcmhpoebbnoaa.L
open Go.RowKit Go.Proofs.Ytofcmhpoebbnoaa.X Go.Proofs.YtofcmhpoebbnoaaW.PrintWords Go.Proofs.YtofcmhpoebbnoaaW.PrintLast Go.Proofs.YtofcmhpoebbnoaaW.PrintMore

theorem clone_eq' (t : List M) (ht : t.length ≤ 4611686018427) : impl_Mark.f t = some t := by
  unfold impl_Mark.f
  simp only [Option.bind_some, List.length_nil, List.nil_append]
  rw [if_pos (by omega)]
theorem claimBy_ev (p i : Int) (t : List M) (ht : t.length ≤ 4611686018427) : Ev (fun k => impl_claimBy.f k p i t) (claimR p i t) := by
  unfold impl_claimBy.f
  rw [clone_eq' t ht]
  simp only [Option.bind_some]
  refine Ev.bind (impl_ClaimOk_ev p i t) ?_
  by_cases h : clok p i t = true
  · exact Ev.yes h (Ev.cast (Ev.some _) (if_pos h).symm)
  · exact Ev.no h (Ev.cast (Ev.some _) (if_neg h).symm)
end Go.Proofs.Ytofcmhpoebbnoaa.L

/- Plain law of the trick: a mark of a person ahead, and the mark of sameness behind. -/
namespace Go.Proofs.Ytofcmhpoebbnoaa.L
open Go.RowKit Go.Proofs.Ytofcmhpoebbnoaa.X Go.Proofs.YtofcmhpoebbnoaaW.PrintWords Go.Proofs.YtofcmhpoebbnoaaW.PrintLast Go.Proofs.YtofcmhpoebbnoaaW.PrintMore

/-- The trick of a row of marks. -/
def wrapM (i : Int) (t : List M) : List M := ⟨0, i⟩ :: (t ++ [⟨5, 0⟩])
theorem wrapM_length (i : Int) (t : List M) : (wrapM i t).length = t.length + 2 := by simp [wrapM]
theorem trick_eq (i : Int) (t : List M) (ht : t.length ≤ 4611686018427) : impl_trick.f i t = some (wrapM i t) := by
  unfold impl_trick.f
  simp only [Option.bind_some, List.length_cons, List.length_nil, List.length_append]
  rw [if_pos (by omega), if_pos (by omega)]
  rfl
end Go.Proofs.Ytofcmhpoebbnoaa.L

/- Plain laws of claims of claims. -/
namespace Go.Proofs.Ytofcmhpoebbnoaa.L
open Go.RowKit Go.Proofs.Ytofcmhpoebbnoaa.X Go.Proofs.YtofcmhpoebbnoaaW.PrintWords Go.Proofs.YtofcmhpoebbnoaaW.PrintLast Go.Proofs.YtofcmhpoebbnoaaW.PrintMore

def nestR (p j i : Int) (t : List M) : Int × List M × Bool := if clok p i t = true then claimR p j (wrapM i t) else (0, [], false)
theorem nestR_length {p j i : Int} {t : List M} : (nestR p j i t).2.1.length ≤ 13 := by
  unfold nestR
  split
  · exact claimR_length
  · simp
theorem impl_Nested_ev (p j i : Int) (t : List M) : Ev (fun k => impl_NestedClaim.f k p j i t) (nestR p j i t) := by
  unfold impl_NestedClaim.f
  refine Ev.bind (impl_ClaimOk_ev p i t) ?_
  by_cases h : clok p i t = true
  · refine Ev.yes h ?_
    have hl := (clok_iff.1 h).2.2.2
    rw [trick_eq i t (by omega)]
    simp only [Option.bind_some]
    refine Ev.bind (claimBy_ev p j (wrapM i t) (by rw [wrapM_length]; omega)) (Ev.cast (Ev.some _) ?_)
    exact (if_pos h).symm
  · exact Ev.no h (Ev.cast (Ev.some _) (if_neg h).symm)
theorem spec_Nested_ev (p j i : Int) (t : List M) (hl : t.length ≤ 1048576) (hw : ∀ m ∈ t, m.f1 ≤ 9223372036854775807) (hi : i ≤ 9223372036854775807) : Ev (fun k => spec_NestedClaim.f k p j i t) (nestR p j i t) := by
  unfold spec_NestedClaim.f
  have hc : Ev (fun k => spec_ClaimTerm.f k p i t) (if clok p i t = true then wrapM i t else []) := by
    unfold spec_ClaimTerm.f
    refine Ev.bind (spec_ClaimOk_ev p i t (by omega) hw) ?_
    by_cases h : clok p i t = true
    · refine Ev.yes h ?_
      simp only [Option.bind_some, List.length_append, List.length_cons, List.length_nil]
      exact Ev.yes (by omega) (Ev.yes (by omega) (Ev.cast (Ev.some _) (by rw [if_pos h]; simp [wrapM])))
    · exact Ev.no h (Ev.cast (Ev.some _) (if_neg h).symm)
  refine Ev.bind hc (Ev.bind (spec_ClaimOk_ev p i t (by omega) hw) ?_)
  by_cases h : clok p i t = true
  · refine Ev.yes h ?_
    rw [if_pos h]
    refine Ev.bind (spec_ClaimOk_ev p j (wrapM i t) (by rw [wrapM_length]; omega) ?_) ?_
    · intro m hm
      simp only [wrapM, List.mem_cons, List.mem_append, List.not_mem_nil, or_false] at hm
      rcases hm with rfl | hm | rfl
      · exact hi
      · exact hw m hm
      · decide
    by_cases hz : clok p j (wrapM i t) = true
    · exact Ev.yes hz (Ev.cast (Ev.some _) (by rw [nestR, if_pos h, claimR, if_pos hz]))
    · exact Ev.no hz (Ev.cast (Ev.some _) (by rw [nestR, if_pos h, claimR, if_neg hz]))
  · exact Ev.no h (Ev.cast (Ev.some _) (if_neg h).symm)
end Go.Proofs.Ytofcmhpoebbnoaa.L

/- Plain laws of the exact laws' own helpers at rows of marks: copied, compared, marked and held. -/
namespace Go.Proofs.Ytofcmhpoebbnoaa.L
open Go.RowKit Go.Proofs.Ytofcmhpoebbnoaa.X Go.Proofs.YtofcmhpoebbnoaaW.PrintWords Go.Proofs.YtofcmhpoebbnoaaW.PrintLast Go.Proofs.YtofcmhpoebbnoaaW.PrintMore

/-- A row of the law's marks as one of the program's. -/
def conv (l : List S85) : List M := l.map fun m => ⟨m.f0, m.f1⟩
theorem conv_length (l : List S85) : (conv l).length = l.length := by simp [conv]
theorem i64_wf {x : Int} (h : (Lit.int .i64 x).wf = true) : -9223372036854775808 ≤ x ∧ x ≤ 9223372036854775807 := by
  simp only [Lit.wf, IntKind.min, IntKind.max, IntKind.signed, IntKind.bits, Bool.and_eq_true, decide_eq_true_eq, if_true] at h
  simp at h
  omega
theorem conv_wf {l : List S85} (h : ∀ y ∈ l, wf85 y) : ∀ m ∈ conv l, m.f1 ≤ 9223372036854775807 := by
  intro m hm
  obtain ⟨y, hy, rfl⟩ := List.mem_map.1 hm
  exact (i64_wf (h y hy).2).2
theorem rdLM_at (pre : List S85) (m : S85) (suf : List S85) : rd_T85 (pre ++ m :: suf) ((pre.length : Nat) : Int) = m := by
  unfold rd_T85
  simp [List.getD]
theorem szMarkS_eq (l : List S85) (n : Nat) (hn : n ≤ 1048576) (hl : l.length ≤ 9223372036854775807) : laws_szMarkS.f l (n : Int) = some (if (n : Int) - l.length < 0 then -1 else (n : Int) - l.length) := by
  unfold laws_szMarkS.f
  rw [w64 (by omega) (by omega)]
  by_cases h : (n : Int) - l.length < 0
  · rw [if_pos h, if_pos h]
  · rw [if_neg h, if_neg h]
theorem szMarkS_big (l : List S85) (hl : l.length ≤ 9223372036854775807) : laws_szMarkS.f l 1048576 = some (if (1048576 : Int) - l.length < 0 then (-1 : Int) else (1048576 : Int) - l.length) := szMarkS_eq l 1048576 (by omega) hl
theorem toMarkS_l0 (l : List S85) (hl : l.length ≤ 4611686018427387904) : ∀ (suf pre : List S85), l = pre ++ suf →
    Ev (fun k => laws_toMarkS.l0 k l (conv pre ++ List.replicate suf.length z83) ((pre.length : Nat) : Int)) (conv l) := by
  intro suf
  induction suf with
  | nil =>
    intro pre he
    have hle : l.length = pre.length := by rw [he]; simp
    refine Ev.step (fun k => by simp only [laws_toMarkS.l0]; rfl) ?_
    exact Ev.no (by omega) (Ev.cast (Ev.some _) (by rw [he]; simp))
  | cons m t ih =>
    intro pre he
    have hle : l.length = pre.length + (t.length + 1) := by rw [he]; simp
    have hm : rd_T85 l ((pre.length : Nat) : Int) = m := by rw [he]; exact rdLM_at pre m t
    have hnext : wrap64 (((pre.length : Nat) : Int) + 1) = (((pre ++ [m]).length : Nat) : Int) := by rw [w64 (by omega) (by omega)]; simp
    refine Ev.step (fun k => by simp only [laws_toMarkS.l0]; rfl) ?_
    refine Ev.yes (by omega) (Ev.yes (by omega) ?_)
    simp only [laws_toMark.f, Option.bind_some, hm, hnext]
    refine Ev.yes (by simp [conv]; omega) ?_
    have e : (conv pre ++ List.replicate (m :: t).length z83).set ((pre.length : Nat) : Int).toNat ⟨m.f0, m.f1⟩ = conv (pre ++ [m]) ++ List.replicate t.length z83 := by
      have : pre.length = (conv pre).length := by simp [conv]
      rw [Int.toNat_natCast, this, List.set_append_right _ _ (Nat.le_refl _)]
      simp [List.replicate_succ, conv]
    rw [e]
    exact ih (pre ++ [m]) (by rw [he]; simp)
theorem toMarkS_ev (l : List S85) (hl : l.length ≤ 1048576) : Ev (fun k => laws_toMarkS.f k l) (conv l) := by
  unfold laws_toMarkS.f
  refine Ev.yes (by omega) (Ev.yes (by omega) ?_)
  have := toMarkS_l0 l (by omega) l [] rfl
  simpa [conv] using this
theorem eqMarkS_l0 (l : List M) (hl : l.length ≤ 4611686018427387904) : ∀ (suf pre : List M), l = pre ++ suf → Ev (fun k => laws_eqMarkS.l0 k l l ((pre.length : Nat) : Int)) true := by
  intro suf
  induction suf with
  | nil =>
    intro pre he
    have hle : l.length = pre.length := by rw [he]; simp
    refine Ev.step (fun k => by simp only [laws_eqMarkS.l0]; rfl) ?_
    exact Ev.no (by omega) (Ev.some _)
  | cons m t ih =>
    intro pre he
    have hle : l.length = pre.length + (t.length + 1) := by rw [he]; simp
    have hnext : wrap64 (((pre.length : Nat) : Int) + 1) = (((pre ++ [m]).length : Nat) : Int) := by rw [w64 (by omega) (by omega)]; simp
    refine Ev.step (fun k => by simp only [laws_eqMarkS.l0]; rfl) ?_
    refine Ev.yes (by omega) (Ev.yes (by omega) (Ev.yes (by omega) ?_))
    simp only [laws_eqMark.f, if_true, Option.bind_some]
    rw [hnext]
    exact ih (pre ++ [m]) (by rw [he]; simp)
theorem eqMarkS_ev (l : List M) (hl : l.length ≤ 4611686018427387904) : Ev (fun k => laws_eqMarkS.f k l l) true := by
  unfold laws_eqMarkS.f
  exact Ev.yes rfl (eqMarkS_l0 l hl l [] rfl)
/-- So many marks with numbers one behind the other. -/
def mkd : Nat → Int → List M
  | 0, _ => []
  | d + 1, n => ⟨n, n + 1⟩ :: mkd d (n + 1 + 1)
theorem mkd_length : ∀ (d : Nat) (n : Int), (mkd d n).length = d
  | 0, _ => rfl
  | d + 1, n => by simp [mkd, mkd_length d]
theorem markMarkS_l0 : ∀ (suf pre : List M) (n : Int), pre.length + suf.length ≤ 2000000 → 0 ≤ n → n ≤ 1000000000000 - 2 * suf.length →
    Ev (fun k => laws_markMarkS.l0 k (pre ++ suf) n ((pre.length : Nat) : Int)) (n + 2 * suf.length, pre ++ mkd suf.length n) := by
  intro suf
  induction suf with
  | nil =>
    intro pre n hl h0 h1
    refine Ev.step (fun k => by simp only [laws_markMarkS.l0]; rfl) ?_
    exact Ev.no (by simp) (Ev.cast (Ev.some _) (by simp [mkd]))
  | cons m t ih =>
    intro pre n hl h0 h1
    simp only [List.length_cons] at hl h1
    have hnext : wrap64 (((pre.length : Nat) : Int) + 1) = (((pre ++ [(⟨n, n + 1⟩ : M)]).length : Nat) : Int) := by rw [w64 (by omega) (by omega)]; simp
    refine Ev.step (fun k => by simp only [laws_markMarkS.l0]; rfl) ?_
    refine Ev.yes (by simp; omega) (Ev.yes (by omega) ?_)
    have hw : wrap64 (n + 1) = n + 1 := w64 (by omega) (by omega)
    have hw2 : wrap64 (n + 1 + 1) = n + 1 + 1 := w64 (by omega) (by omega)
    have e1 : (pre ++ m :: t).set ((pre.length : Nat) : Int).toNat (⟨n, (rd_T83 (pre ++ m :: t) ((pre.length : Nat) : Int)).f1⟩ : M) = pre ++ ⟨n, m.f1⟩ :: t := by rw [rdM_at]; simp
    have e2 : (pre ++ (⟨n, m.f1⟩ : M) :: t).set ((pre.length : Nat) : Int).toNat (⟨(rd_T83 (pre ++ (⟨n, m.f1⟩ : M) :: t) ((pre.length : Nat) : Int)).f0, n + 1⟩ : M) = (pre ++ [⟨n, n + 1⟩]) ++ t := by rw [rdM_at]; simp
    simp only [Option.bind_some, hw, hw2, e1, e2, hnext]
    refine Ev.cast (ih (pre ++ [⟨n, n + 1⟩]) (n + 1 + 1) (by simp; omega) (by omega) (by omega)) ?_
    simp [mkd]
    omega
theorem markMarkS_ev (l : List M) (hl : l.length ≤ 2000000) : Ev (fun k => laws_markMarkS.f k l 1) (1 + 2 * (l.length : Int), mkd l.length 1) := by
  have := markMarkS_l0 l [] 1 (by simpa using hl) (by omega) (by omega)
  unfold laws_markMarkS.f
  simpa using this
theorem heldMarkS_l0 : ∀ (d : Nat) (pre : List M) (n : Int), pre.length + d ≤ 2000000 → 0 ≤ n → n ≤ 1000000000000 - 2 * d →
    Ev (fun k => laws_heldMarkS.l0 k (pre ++ mkd d n) n ((pre.length : Nat) : Int)) (n + 2 * d) := by
  intro d
  induction d with
  | zero =>
    intro pre n hl h0 h1
    refine Ev.step (fun k => by simp only [laws_heldMarkS.l0]; rfl) ?_
    exact Ev.no (by simp [mkd]) (Ev.cast (Ev.some _) (by simp))
  | succ d ih =>
    intro pre n hl h0 h1
    have hnext : wrap64 (((pre.length : Nat) : Int) + 1) = (((pre ++ [(⟨n, n + 1⟩ : M)]).length : Nat) : Int) := by rw [w64 (by omega) (by omega)]; simp
    have hm : rd_T83 (pre ++ mkd (d + 1) n) ((pre.length : Nat) : Int) = ⟨n, n + 1⟩ := rdM_at pre _ _
    have hw : wrap64 (n + 1) = n + 1 := w64 (by omega) (by omega)
    have hw2 : wrap64 (n + 1 + 1) = n + 1 + 1 := w64 (by omega) (by omega)
    refine Ev.step (fun k => by simp only [laws_heldMarkS.l0]; rfl) ?_
    refine Ev.yes (by simp [mkd_length]; omega) (Ev.yes (by omega) ?_)
    simp only [hm, hw, hw2, hnext]
    refine Ev.yes trivial (Ev.yes trivial ?_)
    have e : pre ++ mkd (d + 1) n = (pre ++ [⟨n, n + 1⟩]) ++ mkd d (n + 1 + 1) := by simp [mkd]
    rw [e]
    refine Ev.cast (ih (pre ++ [⟨n, n + 1⟩]) (n + 1 + 1) (by simp; omega) (by omega) (by omega)) (by omega)
theorem heldMarkS_ev (d : Nat) (hd : d ≤ 2000000) : Ev (fun k => laws_heldMarkS.f k (mkd d 1) 1) (1 + 2 * (d : Int)) := by
  have := heldMarkS_l0 d [] 1 (by simpa using hd) (by omega) (by omega)
  unfold laws_heldMarkS.f
  simpa using this
end Go.Proofs.Ytofcmhpoebbnoaa.L

/- Plain law of comparing claims. -/
namespace Go.Proofs.Ytofcmhpoebbnoaa.L
open Go.RowKit Go.Proofs.Ytofcmhpoebbnoaa.X Go.Proofs.YtofcmhpoebbnoaaW.PrintWords Go.Proofs.YtofcmhpoebbnoaaW.PrintLast Go.Proofs.YtofcmhpoebbnoaaW.PrintMore

theorem eqClaim_ev (i : Int) (l : List M) (hl : l.length ≤ 4611686018427387904) : Ev (fun k => laws_eqClaim.f k i l i l) true := by
  unfold laws_eqClaim.f
  exact Ev.yes rfl (Ev.bind (eqMarkS_ev l hl) (Ev.yes rfl (Ev.some _)))
end Go.Proofs.Ytofcmhpoebbnoaa.L

/- Plain laws of the exact laws' own helpers at claims that come in. -/
namespace Go.Proofs.Ytofcmhpoebbnoaa.L
open Go.RowKit Go.Proofs.Ytofcmhpoebbnoaa.X Go.Proofs.YtofcmhpoebbnoaaW.PrintWords Go.Proofs.YtofcmhpoebbnoaaW.PrintLast Go.Proofs.YtofcmhpoebbnoaaW.PrintMore

theorem szClaim_big (i : Int) (l : List S85) (hl : l.length ≤ 9223372036854775807) : laws_szClaim.f i l 1048576 = some (if (1048576 : Int) - l.length < 0 then (-1 : Int) else (1048576 : Int) - l.length) := by
  unfold laws_szClaim.f
  rw [szMarkS_big l hl, Option.bind_some]
  by_cases h : (1048576 : Int) - l.length < 0
  · rw [if_pos h, if_pos (by omega)]
  · rw [if_neg h, if_neg h]
theorem toClaim_ev (i : Int) (l : List S85) (hl : l.length ≤ 1048576) : Ev (fun k => laws_toClaim.f k i l) (i, conv l) := by
  unfold laws_toClaim.f
  exact Ev.bind (toMarkS_ev l hl) (Ev.some _)
end Go.Proofs.Ytofcmhpoebbnoaa.L

/- Plain laws of the exact laws' own helpers at claims. -/
namespace Go.Proofs.Ytofcmhpoebbnoaa.L
open Go.RowKit Go.Proofs.Ytofcmhpoebbnoaa.X Go.Proofs.YtofcmhpoebbnoaaW.PrintWords Go.Proofs.YtofcmhpoebbnoaaW.PrintLast Go.Proofs.YtofcmhpoebbnoaaW.PrintMore

theorem markClaim_ev (i : Int) (l : List M) (hl : l.length ≤ 2000000) : Ev (fun k => laws_markClaim.f k i l 1) (1 + 2 * (l.length : Int), mkd l.length 1) := by
  unfold laws_markClaim.f
  exact Ev.bind (markMarkS_ev l hl) (Ev.some _)
theorem heldClaim_ev (i : Int) (d : Nat) (hd : d ≤ 2000000) : Ev (fun k => laws_heldClaim.f k i (mkd d 1) 1) (1 + 2 * (d : Int)) := by
  unfold laws_heldClaim.f
  exact Ev.bind (heldMarkS_ev d hd) (Ev.no (by omega) (Ev.some _))
end Go.Proofs.Ytofcmhpoebbnoaa.L
