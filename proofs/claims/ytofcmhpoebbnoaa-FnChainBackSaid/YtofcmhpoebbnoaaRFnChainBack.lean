/- The given statement FnChainBackSaid: the law laws.FnChainBack returns true for all arguments (chains are turned round as wholes: for every code). Conditions: none but those that the statement itself names. Joined by a program of this session's: PureFnChainBack, LawFnChainBack. -/
import Derived.Test.YtofcmhpoebbnoaaG56dfae8737
import Derived.Test.YtofcmhpoebbnoaaG6f35d08e85
import Derived.Test.YtofcmhpoebbnoaaRows
import Derived.WalkKit
import Derived.ProofKit
import Derived.OpenShut
import Derived.ShutString
import Derived.ChangeOld
import Derived.Below
import Derived.SizedLaws
import Derived.Test.YtofcmhpoebbnoaaWSized

/- Chains are turned round as wholes: for every code. -/
namespace Go.Proofs.Ytofcmhpoebbnoaa.Pure
open Go.RowKit Go.Proofs.Ytofcmhpoebbnoaa.X Go.Proofs.Ytofcmhpoebbnoaa.L Go.Proofs.YtofcmhpoebbnoaaW.PrintWords Go.Proofs.YtofcmhpoebbnoaaW.PrintLast Go.Proofs.YtofcmhpoebbnoaaW.PrintMore
theorem back_ {p : Int} {li : List Int} {t : List M} (hli : li.length ≤ 1000) (hfin : Ev (fun k => laws_FnChainBack.l0 k p li t li.reverse ((li.length : Nat) : Int)) true) : ∀ (suf pre : List Int), li = pre ++ suf →
  Ev (fun k => laws_FnChainBack.l0 k p li t pre.reverse ((pre.length : Nat) : Int)) true := by
 intro suf
 induction suf with
 | nil =>
  intro pre he
  rw [List.append_nil] at he
  rw [← he]
  exact hfin
 | cons i suf ih =>
  intro pre he
  have hlen : li.length = pre.length + (suf.length + 1) := by rw [he]; simp
  have hi : rd li ((pre.length : Nat) : Int) = i := by rw [he]; exact rdI_at' pre i suf
  have h := ih (pre ++ [i]) (by rw [he]; simp)
  refine Ev.step (fun k => by simp only [laws_FnChainBack.l0]; rfl) ?_
  refine Ev.yes (by omega) (Ev.yes (by omega) ?_)
  simp only [hi, Option.bind_some]
  refine Ev.yes (by simp; omega) ?_
  rw [w64 (by omega) (by omega), show (((pre.length : Nat) : Int) + 1) = (((pre ++ [i]).length : Nat) : Int) by simp]
  rw [List.reverse_append, List.reverse_singleton] at h
  exact h
theorem FnChainBack : laws_FnChainBack.Pure := by
 intro l h1 h2 h3
 refine Ev.rounds (r := true) ?_
 unfold laws_FnChainBack.f
 by_cases h : (l.length : Int) > 1048576
 ·exact Ev.yes h (Ev.some _)
 refine Ev.no h ?_
 obtain ⟨p, li, t, hd, hp1, hp4, hll, hlx, htl, hsm⟩ := DrawChainTerm_ev h3
 refine Ev.bind hd ?_
 refine back_ (p := p) (li := li) (t := t) (by omega) ?_ li [] (by simp)
 refine Ev.step (fun k => by simp only [laws_FnChainBack.l0]; rfl) ?_
 refine Ev.no (by omega) (Ev.bind (impl_Chain_ev (p := p) (l := li) (t := t) (by omega)) (Ev.bind (impl_Chain_ev (p := p) (l := li.reverse) (t := t) (by rw [List.length_reverse]; omega)) ?_))
 have out : ∀ (x y : List M) (b : Bool), Ev (fun k => laws_FnChainBack.j1 k p x b y b true) true := by
  intro x y b
  refine Ev.step (fun k => by simp only [laws_FnChainBack.j1]; rfl) ?_
  refine Ev.yes (by simp) (Ev.yes (by simp) ?_)
  rw [alive_eq']
  exact Ev.some _
 by_cases hz : tok p t = true ∧ tok p (wrapAll li t) = true
 ·have hz2 : tok p t = true ∧ tok p (wrapAll li.reverse t) = true := ⟨hz.1, tok_rev hz.1 hz.2⟩
  have e : chainR p li t = (wrapAll li t, true) := if_pos hz
  have e2 : chainR p li.reverse t = (wrapAll li.reverse t, true) := if_pos hz2
  rw [e, e2]
  obtain ⟨q, rfl, hq1, hq4, hq2, eq⟩ := people_nat hp1 hp4
  refine Ev.yes rfl ?_
  refine Ev.step (fun k => by simp only [laws_FnChainBack.j1]; rfl) ?_
  rw [alive_eq']
  simp only [Option.bind_some]
  refine Ev.no (by simp) (Ev.yes (by simp) (Ev.bind (impl_SameOk_ev _ _ _) (Ev.cast (Ev.some _) ?_)))
  rw [sameT, if_pos ⟨hz.2, hz2.2⟩]
  refine decide_eq_true ?_
  unfold ttab
  rw [eq]
  refine tabL_congr (fun w hw => ?_)
  rw [hv_wrapAll hz.1 hz.2 (chain_in hz.2) (by omega), hv_wrapAll hz.1 hz2.2 (chain_in hz2.2) (by omega), fold_lies, fold_lies, lies_rev]
 ·have hz2 : ¬ (tok p t = true ∧ tok p (wrapAll li.reverse t) = true) := by
   intro h
   have := tok_rev h.1 h.2
   rw [List.reverse_reverse] at this
   exact hz ⟨h.1, this⟩
  have e : chainR p li t = ([], false) := if_neg hz
  have e2 : chainR p li.reverse t = ([], false) := if_neg hz2
  rw [e, e2]
  exact Ev.no (by simp) (out _ _ _)
end Go.Proofs.Ytofcmhpoebbnoaa.Pure

-- printed by a program of this session's (xprint)
namespace Go.Proofs.Ytofcmhpoebbnoaa.fnChainBack
open Go.ChangeShapes Go.WideShapes Go.ChangeAt Go.RowKit
open Go.ChangeMaps (open_string shut_string)
set_option linter.unusedVariables false
theorem own : ownKnob Try.prog.godebug = none := by kernel_rfl
theorem laidOut : laidOutB Try.prog = true := by kernel_rfl
def IsRow (k : IntKind) (w : World) (a : Option Addr) (len cap : Nat) (zs : List Int) : Prop :=
 (a = none ∧ len = 0 ∧ cap = 0 ∧ zs = []) ∨
 ∃ x, a = some x ∧ len ≤ cap ∧ cap ≤ maxLen ∧ zs.length = cap ∧ (∀ i, i < zs.length → w.cell? (x.add i) = some (.int k (zs.getD i 0))) ∧ ∀ n ∈ zs, (Lit.int k n).wf = true
set_option maxRecDepth 100000 in
theorem lifted (os : Os) (started : os.Started) (H : Type) (enc : TypeId × Value → H) :
  ReturnsInHanded {} Try.checked os 13 .any (Rows.fnChainBackSpec.pre6 enc Try.prog Try.f13 Rows.fnChainBackRow.domain false) (Rows.fnChainBackSpec.post enc Try.prog Try.f13 false true false false) := by
 refine returnsInHanded_of_change_sized (C := Try.checked) own started (by kernel_rfl) Try.func13
  (ChangeSpec.witness6 (enc := enc) (C := Try.checked) false ⟨#[], #[.slice none 0 0], []⟩ 8 (by kernel_rfl) (by kernel_rfl) (by kernel_rfl) (by kernel_rfl)) ?_
 intro W base args ds gs before hval0 hW hcnd hsz0 _
 have hsz : (DataW.weightsEach Try.prog (Try.f13.params.toList ++ Rows.fnChainBackSpec.plain.varTypes Try.prog) (ds ++ gs)).all (· ≤ reachBytes) = true := hsz0
 have hval : ∀ (j : Nat) t v, Try.f13.params[j]? = some t → args[j]? = some v → Value.okWide Try.prog W .any base t v := hval0
 have hW' := hW
 obtain ⟨p, q, hA0, hV, rfl, hfz, hnd⟩ := hW
 have hA : DataW.TrodAll enc Try.prog W 0 (fun _ => true) true Try.f13.params.toList args.toList ds p := hA0
 rw [Try.params13] at hA hval hsz
 obtain ⟨v0, vs0, d0, ds0, p0, q0, hargs, rfl, rfl, h0, r0⟩ := trodAll_cons hA
 obtain ⟨rfl, rfl, rfl⟩ := trodAll_nil r0
 obtain rfl : args = #[v0] := by cases args; simp_all
 obtain ⟨rfl, rfl⟩ := trodVars_none hV
 obtain ⟨a0, len0, cap0, rfl⟩ := okWide_slice Try.underlying26 (hval 0 26 v0 rfl rfl)
 have k0 := h0
 have lt0 : ∀ x ∈ p0, x.block < W.heap.size := by obtain ⟨m, hm⟩ := k0; exact DataW.trod_lt m _ _ _ hm
 obtain ⟨z0, w0⟩ : ∃ zs, IsRow .u8 W a0 len0 cap0 zs := by
  obtain ⟨fuel, hf⟩ := h0
  rcases open_ints Try.underlying26 Try.underlying5 (by kernel_rfl) hf with ⟨hcs, _⟩ | ⟨x, l, c, zs, hcs, _, hl, hm, hz, _, hcell, hwz⟩
  ·simp [Value.cells] at hcs
   obtain ⟨rfl, rfl, rfl⟩ := hcs
   exact ⟨[], .inl ⟨rfl, rfl, rfl, rfl⟩⟩
  ·simp [Value.cells] at hcs
   obtain ⟨rfl, rfl, rfl⟩ := hcs
   exact ⟨zs, .inr ⟨_, rfl, hl, hm, by simpa using hz, hcell, hwz⟩⟩
 have y0 : len0 * 1 ≤ 140737488351232 := Go.Proofs.YtofcmhpoebbnoaaW.PrintWords.sized_ints hsz (j := 0) (t := 26) rfl rfl Try.underlying26 Try.underlying5 (by kernel_rfl) (by kernel_rfl) h0
 clear hA0 hval0 hsz0 hsz
 refine (X.laws_FnChainBack.walk Pure.FnChainBack a0 len0 cap0 z0 W w0 y0).mono fun e W' ⟨he, bel⟩ => ?_
 subst he
 exact ⟨_, rfl, _, _, _, [], _, [], hW', trodAll_mk1 (shut_bool Try.underlying4 _), (trodAll_cons_mk (Below.trod laidOut (by kernel_rfl) (of_decide_eq_true (by kernel_rfl)) k0 bel lt0) trodAll_mk0), rfl, bel.frame _, fun h => by cases h⟩
theorem closed_ : joinedFacts Try.pinned.checked.prog 13 Try.f13 Rows.fnChainBackSpec Rows.fnChainBackRow = true := by
 unfold joinedFacts
 rw [X.may_, X.fin_, X.make_]
 kernel_rfl
theorem over : Rows.fnChainBackRow.holds Try.pinned (OpenSpec.ofChange Rows.fnChainBackSpec) :=
 OpenClaim.holds_of_wide 13 Try.f13 rfl rfl rfl rfl rfl rfl rfl ⟨rfl, rfl, rfl, rfl, rfl⟩ rfl rfl rfl rfl rfl (by kernel_rfl) Try.func13 closed_
  (of_decide_eq_true (by kernel_rfl)) (by unfold Func.isWrapper; first | (rw [if_pos (by decide +kernel)]; kernel_rfl) | (rw [if_neg (by decide +kernel)]; exact ⟨rfl, rfl⟩))
  (fun os started H enc _ => lifted os started H enc)
theorem proved : Rows.FnChainBackSaid := over
#print axioms proved
end Go.Proofs.Ytofcmhpoebbnoaa.fnChainBack
namespace Go.Proofs.Ytofcmhpoebbnoaa
/-- The row, under a short name, for the claim. -/
theorem fnChainBack_holds : Rows.FnChainBackSaid := fnChainBack.proved
end Go.Proofs.Ytofcmhpoebbnoaa
