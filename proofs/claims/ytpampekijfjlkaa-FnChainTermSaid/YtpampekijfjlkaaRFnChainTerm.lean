/- The given statement FnChainTermSaid: the law laws.FnChainTerm returns true for all arguments (each liar turns it round once: for every code). Conditions: none but those that the statement itself names. Joined by a program of this session's: PureFnChainTerm, LawFnChainTerm. -/
import Derived.Test.YtpampekijfjlkaaGdcfb0026d9
import Derived.Test.YtpampekijfjlkaaRows
import Derived.Test.YtpampekijfjlkaaG0faf919d28
import Derived.WalkKit
import Derived.ProofKit
import Derived.OpenShut
import Derived.ShutString
import Derived.ChangeOld
import Derived.Below
import Derived.SizedLaws
import Derived.Test.YtpampekijfjlkaaVa262ada62f

/- Each liar turns it round once: for every code. -/
namespace Go.Proofs.Ytpampekijfjlkaa.Pure
open Go.RowKit Go.Proofs.Ytpampekijfjlkaa.X Go.Proofs.Ytpampekijfjlkaa.L Go.Proofs.YtpampekijfjlkaaW.PrintWords Go.Proofs.YtpampekijfjlkaaW.PrintLast Go.Proofs.YtpampekijfjlkaaW.PrintMore
theorem chain_tree {p : Int} : ∀ (l : List Int) (a : Tm), (∀ i ∈ l, 0 ≤ i ∧ i < p) → a.good p → ∃ b : Tm, b.good p ∧ wrapAll l a.post = b.post ∧ ∀ w, b.ev w = l.foldr (fun i r => w.testBit i.toNat == r) (a.ev w)
 | [], a, _, hg => ⟨a, hg, rfl, fun w => rfl⟩
 | i :: l, a, hl, hg => by
  obtain ⟨b, h1, h2, h3⟩ := chain_tree l a (fun x hx => hl x (List.mem_cons_of_mem _ hx)) hg
  obtain ⟨hi0, hi1⟩ := hl i (by simp)
  obtain ⟨n, rfl⟩ := Int.eq_ofNat_of_zero_le hi0
  refine ⟨.bin 5 (.tell n) b, ⟨by omega, hi1, h1⟩, ?_, fun w => ?_⟩
  ·rw [wrapAll, h2]; simp [wrapM, Tm.post]
  ·simp [Tm.ev, bop, h3 w]
theorem hv_wrapAll {p : Int} {l : List Int} {t : List M} (hk : tok p t = true) (hz : tok p (wrapAll l t) = true) (hl : ∀ i ∈ l, 0 ≤ i ∧ i < p) {w : Nat} (hw : w < 16) : hv (wrapAll l t) w = l.foldr (fun i r => w.testBit i.toNat == r) (hv t w) := by
 obtain ⟨a, hg, rfl, h4, hl'⟩ := tok_tree hk
 obtain ⟨b, h1, h2, h3⟩ := chain_tree l a hl hg
 have h15 := (tok_iff.1 hz).2.2.2.1
 rw [h2] at h15 ⊢
 rw [hv_post (b.good_four (tok_iff.1 hk).2.1 h1) (by omega) hw, hv_post h4 (by omega) hw, h3]
/-- How many of a list lie in a world. -/
def lies (w : Nat) : List Int → Nat
 | [] => 0
 | i :: l => lies w l + (if w.testBit i.toNat then 0 else 1)
theorem lies_app (w : Nat) : ∀ a b : List Int, lies w (a ++ b) = lies w a + lies w b
 | [], b => by simp [lies]
 | i :: a, b => by rw [List.cons_append, lies, lies, lies_app w a b]; omega
theorem lies_le (w : Nat) : ∀ a : List Int, lies w a ≤ a.length
 | [] => Nat.le_refl 0
 | i :: a => by have := lies_le w a; rw [lies, List.length_cons]; split <;> omega
theorem fold_lies (w : Nat) (b : Bool) : ∀ l : List Int, l.foldr (fun i r => w.testBit i.toNat == r) b = (b == decide (lies w l % 2 = 0))
 | [] => by simp [lies]
 | i :: l => by
  rw [List.foldr_cons, fold_lies w b l, lies]
  by_cases h : w.testBit i.toNat = true
  ·rw [h]; simp
  ·rw [Bool.not_eq_true] at h
   rw [h]
   rcases Nat.mod_two_eq_zero_or_one (lies w l) with e | e
   ·have e2 : (lies w l + 1) % 2 = 1 := by omega
    simp [e, e2]
   ·have e2 : (lies w l + 1) % 2 = 0 := by omega
    simp [e, e2]
theorem bit_int {w i : Nat} (hw : w < 16) (hi : i < 4) : Int.tmod (shr .i64 (w : Int) (i : Int)) 2 = if w.testBit i then 1 else 0 := by
 have : ∀ w : Fin 16, ∀ i : Fin 4, Int.tmod (shr .i64 ((w.val : Nat) : Int) ((i.val : Nat) : Int)) 2 = if w.val.testBit i.val then 1 else 0 := by decide +kernel
 exact this ⟨w, hw⟩ ⟨i, hi⟩
theorem count_ {q w : Nat} {li : List Int} {t x : List M} (h4 : q ≤ 4) (hw : w < 16) (hli : li.length ≤ 15) (hr : ∀ i ∈ li, 0 ≤ i ∧ i < (q : Int)) (r : Bool)
  (hfin : Ev (fun k => laws_FnChainTerm.l1 k (q : Int) li t x (w : Int) ((lies w li : Nat) : Int) ((li.length : Nat) : Int)) r) :
  ∀ (suf pre : List Int), li = pre ++ suf → Ev (fun k => laws_FnChainTerm.l1 k (q : Int) li t x (w : Int) ((lies w pre : Nat) : Int) ((pre.length : Nat) : Int)) r := by
 intro suf
 induction suf with
 | nil =>
  intro pre he
  rw [List.append_nil] at he
  rw [← he]
  exact hfin
 | cons i suf ih =>
  intro pre he
  have hlen : li.length = pre.length + (suf.length + 1) := by rw [he]; simp
  have hi : rd li ((pre.length : Nat) : Int) = i := by rw [he]; exact rdI_at' pre i suf
  obtain ⟨hi0, hi1⟩ := hr i (by rw [he]; simp)
  obtain ⟨n, rfl⟩ := Int.eq_ofNat_of_zero_le hi0
  have hlp := lies_le w pre
  have h := ih (pre ++ [(n : Int)]) (by rw [he]; simp)
  refine Ev.step (fun k => by simp only [laws_FnChainTerm.l1]; rfl) ?_
  rw [hi]
  refine Ev.yes (by omega) (Ev.yes (by omega) (Ev.yes (by omega) ?_))
  rw [bit_int hw (by omega), w64 (x := ((lies w pre : Nat) : Int) + 1) (by omega) (by omega)]
  have e : ((lies w pre : Nat) : Int) + 1 - (if w.testBit n then 1 else 0) = ((lies w (pre ++ [(n : Int)]) : Nat) : Int) := by
   rw [lies_app, lies, lies, Int.toNat_natCast]
   split <;> omega
  rw [e, w64 (by omega) (by have := lies_le w (pre ++ [(n : Int)]); simp at this; omega), w64 (by omega) (by omega), show (((pre.length : Nat) : Int) + 1) = (((pre ++ [(n : Int)]).length : Nat) : Int) by simp]
  exact h
theorem worlds_ {q : Nat} {li : List Int} {t : List M} (hq : 1 ≤ q) (h4 : q ≤ 4) (hk : tok (q : Int) t = true) (hz : tok (q : Int) (wrapAll li t) = true) (hr : ∀ i ∈ li, 0 ≤ i ∧ i < (q : Int)) (hli : li.length ≤ 15) : ∀ d w : Nat, d + w = 2 ^ q →
  Ev (fun k => laws_FnChainTerm.l0 k (q : Int) li t (wrapAll li t) (w : Int)) true := by
 have hp2 : 2 ^ q ≤ 2 ^ 4 := Nat.pow_le_pow_right (by decide) h4
 have hl := (tok_iff.1 hk).2.2.2.1
 intro d
 induction d with
 | zero =>
  intro w hw
  refine Ev.step (fun k => by simp only [laws_FnChainTerm.l0]; rfl) ?_
  rw [shl_nat (by omega)]
  refine Ev.yes (by omega) (Ev.no (by omega) (Ev.bind (impl_TermOk_ev _ _) (Ev.yes hz ?_)))
  by_cases h0 : (li.length : Int) > 0
  ·exact Ev.yes h0 (Ev.some _)
  ·refine Ev.no h0 ?_
   have : li = [] := List.length_eq_zero_iff.1 (by omega)
   subst this
   exact Ev.bind (sameMarks_ev t (by omega)) (Ev.some _)
 | succ d ih =>
  intro w hw
  refine Ev.step (fun k => by simp only [laws_FnChainTerm.l0]; rfl) ?_
  rw [shl_nat (by omega)]
  refine Ev.yes (by omega) (Ev.yes (by omega) ?_)
  refine count_ h4 (by omega) hli hr true ?_ li [] (by simp)
  have hll := lies_le w li
  refine Ev.step (fun k => by simp only [laws_FnChainTerm.l1]; rfl) ?_
  refine Ev.no (by omega) (Ev.bind (impl_HoldsIn_ev _ _ _) (Ev.bind (impl_HoldsIn_ev _ _ _) (Ev.no ?_ ?_)))
  ·rw [holdsIn_of hk (by omega), holdsIn_of hz (by omega), hv_wrapAll hk hz hr (by omega), fold_lies]
   have e : (Int.tmod ((lies w li : Nat) : Int) 2 == 0) = decide (lies w li % 2 = 0) := by
    have : Int.tmod ((lies w li : Nat) : Int) 2 = ((lies w li % 2 : Nat) : Int) := rfl
    rw [this]
    rcases Nat.mod_two_eq_zero_or_one (lies w li) with e | e <;> simp [e]
   rw [e]
   simp
  ·rw [w64 (by omega) (by omega), show ((w : Int) + 1) = ((w + 1 : Nat) : Int) by omega]
   exact ih (w + 1) (by omega)
theorem FnChainTerm : laws_FnChainTerm.Pure := by
 intro l h1 h2 h3
 refine Ev.rounds (r := true) ?_
 unfold laws_FnChainTerm.f
 by_cases h : (l.length : Int) > 1048576
 ·exact Ev.yes h (Ev.some _)
 refine Ev.no h ?_
 obtain ⟨p, li, t, hd, hp1, hp4, hll, hlx, htl, hsm⟩ := DrawChainTerm_ev h3
 have hr := chainR_length (p := p) (l := li) (t := t)
 refine Ev.bind hd (Ev.bind (impl_Chain_ev (p := p) (l := li) (t := t) (by omega)) (Ev.bind (spec_Chain_ev (p := p) (l := li) (t := t) (by omega) (by omega) (fun x hx => by have := hlx x hx; omega) hsm.wf) (Ev.bind (sameMarks_ev (chainR p li t).1 (by omega)) (Ev.yes rfl ?_))))
 refine Ev.step (fun k => by simp only [laws_FnChainTerm.j0]; rfl) ?_
 refine Ev.no (by simp) ?_
 by_cases hz : tok p t = true ∧ tok p (wrapAll li t) = true
 ·have e : chainR p li t = (wrapAll li t, true) := if_pos hz
  rw [e]
  have hb : ∀ i ∈ li, 0 ≤ i ∧ i < p := by
   intro i hi
   by_cases hh : 0 ≤ i ∧ i < p
   ·exact hh
   ·exact absurd hz.2 (tok_bad ⟨i, hi, hh⟩)
  obtain ⟨q, rfl, hq1, hq4, hq2, _⟩ := people_nat hp1 hp4
  exact Ev.yes rfl (worlds_ hq1 hq4 hz.1 hz.2 hb (by omega) (2 ^ q) 0 (by omega))
 ·have e : chainR p li t = ([], false) := if_neg hz
  rw [e]
  refine Ev.no (by simp) (Ev.yes (by simp) ?_)
  rw [alive_eq]
  exact Ev.some _
end Go.Proofs.Ytpampekijfjlkaa.Pure

-- printed by a program of this session's (xprint)
namespace Go.Proofs.Ytpampekijfjlkaa.fnChainTerm
open Go.ChangeShapes Go.WideShapes Go.ChangeAt Go.RowKit
open Go.ChangeMaps (open_string shut_string)
set_option linter.unusedVariables false
theorem own : ownKnob Try.prog.godebug = none := by kernel_rfl
theorem laidOut : laidOutB Try.prog = true := by kernel_rfl
def IsRow (k : IntKind) (w : World) (a : Option Addr) (len cap : Nat) (zs : List Int) : Prop :=
 (a = none ∧ len = 0 ∧ cap = 0 ∧ zs = []) ∨
 ∃ x, a = some x ∧ len ≤ cap ∧ cap ≤ maxLen ∧ zs.length = cap ∧ (∀ i, i < zs.length → w.cell? (x.add i) = some (.int k (zs.getD i 0))) ∧ ∀ n ∈ zs, (Lit.int k n).wf = true
set_option maxRecDepth 100000 in
theorem lifted (os : Os) (started : os.Started) (H : Type) (enc : TypeId × Value → H) :
  ReturnsInHanded {} Try.checked os 10 .any (Rows.fnChainTermSpec.pre6 enc Try.prog Try.f10 Rows.fnChainTermRow.domain false) (Rows.fnChainTermSpec.post enc Try.prog Try.f10 false true false false) := by
 refine returnsInHanded_of_change_sized (C := Try.checked) own started (by kernel_rfl) Try.func10
  (ChangeSpec.witness6 (enc := enc) (C := Try.checked) false ⟨#[], #[.slice none 0 0], []⟩ 8 (by kernel_rfl) (by kernel_rfl) (by kernel_rfl) (by kernel_rfl)) ?_
 intro W base args ds gs before hval0 hW hcnd hsz0 _
 have hsz : (DataW.weightsEach Try.prog (Try.f10.params.toList ++ Rows.fnChainTermSpec.plain.varTypes Try.prog) (ds ++ gs)).all (· ≤ reachBytes) = true := hsz0
 have hval : ∀ (j : Nat) t v, Try.f10.params[j]? = some t → args[j]? = some v → Value.okWide Try.prog W .any base t v := hval0
 have hW' := hW
 obtain ⟨p, q, hA0, hV, rfl, hfz, hnd⟩ := hW
 have hA : DataW.TrodAll enc Try.prog W 0 (fun _ => true) true Try.f10.params.toList args.toList ds p := hA0
 rw [Try.params10] at hA hval hsz
 obtain ⟨v0, vs0, d0, ds0, p0, q0, hargs, rfl, rfl, h0, r0⟩ := trodAll_cons hA
 obtain ⟨rfl, rfl, rfl⟩ := trodAll_nil r0
 obtain rfl : args = #[v0] := by cases args; simp_all
 obtain ⟨rfl, rfl⟩ := trodVars_none hV
 obtain ⟨a0, len0, cap0, rfl⟩ := okWide_slice Try.underlying38 (hval 0 38 v0 rfl rfl)
 have k0 := h0
 have lt0 : ∀ x ∈ p0, x.block < W.heap.size := by obtain ⟨m, hm⟩ := k0; exact DataW.trod_lt m _ _ _ hm
 obtain ⟨z0, w0⟩ : ∃ zs, IsRow .u8 W a0 len0 cap0 zs := by
  obtain ⟨fuel, hf⟩ := h0
  rcases open_ints Try.underlying38 Try.underlying5 (by kernel_rfl) hf with ⟨hcs, _⟩ | ⟨x, l, c, zs, hcs, _, hl, hm, hz, _, hcell, hwz⟩
  ·simp [Value.cells] at hcs
   obtain ⟨rfl, rfl, rfl⟩ := hcs
   exact ⟨[], .inl ⟨rfl, rfl, rfl, rfl⟩⟩
  ·simp [Value.cells] at hcs
   obtain ⟨rfl, rfl, rfl⟩ := hcs
   exact ⟨zs, .inr ⟨_, rfl, hl, hm, by simpa using hz, hcell, hwz⟩⟩
 have y0 : len0 * 1 ≤ 140737488351232 := Go.Proofs.YtpampekijfjlkaaW.PrintWords.sized_ints hsz (j := 0) (t := 38) rfl rfl Try.underlying38 Try.underlying5 (by kernel_rfl) (by kernel_rfl) h0
 clear hA0 hval0 hsz0 hsz
 refine (X.laws_FnChainTerm.walk Pure.FnChainTerm a0 len0 cap0 z0 W w0 y0).mono fun e W' ⟨he, bel⟩ => ?_
 subst he
 exact ⟨_, rfl, _, _, _, [], _, [], hW', trodAll_mk1 (shut_bool Try.underlying4 _), (trodAll_cons_mk (Below.trod laidOut (by kernel_rfl) (of_decide_eq_true (by kernel_rfl)) k0 bel lt0) trodAll_mk0), rfl, bel.frame _, fun h => by cases h⟩
theorem closed_ : joinedFacts Try.pinned.checked.prog 10 Try.f10 Rows.fnChainTermSpec Rows.fnChainTermRow = true := by
 unfold joinedFacts
 rw [X.may_, X.fin_, X.make_]
 kernel_rfl
theorem over : Rows.fnChainTermRow.holds Try.pinned (OpenSpec.ofChange Rows.fnChainTermSpec) :=
 OpenClaim.holds_of_wide 10 Try.f10 rfl rfl rfl rfl rfl rfl rfl ⟨rfl, rfl, rfl, rfl, rfl⟩ rfl rfl rfl rfl rfl (by kernel_rfl) Try.func10 closed_
  (of_decide_eq_true (by kernel_rfl)) (by unfold Func.isWrapper; first | (rw [if_pos (by decide +kernel)]; kernel_rfl) | (rw [if_neg (by decide +kernel)]; exact ⟨rfl, rfl⟩))
  (fun os started H enc _ => lifted os started H enc)
theorem proved : Rows.FnChainTermSaid := over
#print axioms proved
end Go.Proofs.Ytpampekijfjlkaa.fnChainTerm
namespace Go.Proofs.Ytpampekijfjlkaa
/-- The row, under a short name, for the claim. -/
theorem fnChainTerm_holds : Rows.FnChainTermSaid := fnChainTerm.proved
end Go.Proofs.Ytpampekijfjlkaa
