/- The given statement FnTrickTermSaid: the law laws.FnTrickTerm returns true for all arguments (one question to anybody is enough: for every code). Conditions: none but those that the statement itself names. Joined by a program of this session's: PureFnTrickTerm, LawFnTrickTerm. -/
import Derived.Test.YtpampekijfjlkaaGa11b0cd6a6
import Derived.Test.YtpampekijfjlkaaRows
import Derived.Test.YtpampekijfjlkaaG55e4b08296
import Derived.WalkKit
import Derived.ProofKit
import Derived.OpenShut
import Derived.ShutString
import Derived.ChangeOld
import Derived.Below
import Derived.SizedLaws
import Derived.Test.YtpampekijfjlkaaVa262ada62f

/- One question to anybody is enough: for every code. -/
namespace Go.Proofs.Ytpampekijfjlkaa.Pure
open Go.RowKit Go.Proofs.Ytpampekijfjlkaa.X Go.Proofs.Ytpampekijfjlkaa.L Go.Proofs.YtpampekijfjlkaaW.PrintWords Go.Proofs.YtpampekijfjlkaaW.PrintLast Go.Proofs.YtpampekijfjlkaaW.PrintMore
theorem worlds_ {q j : Nat} {t : List M} (hk : tok (q : Int) t = true) (hz : tok (q : Int) (wrapM (j : Int) t) = true) (h4 : q ≤ 4) (hj : j < q) : ∀ d w : Nat, d + w = 2 ^ q →
  Ev (fun k => laws_FnTrickTerm.l0 k (q : Int) (j : Int) t (wrapM (j : Int) t) (w : Int)) true := by
 have hp2 : 2 ^ q ≤ 2 ^ 4 := Nat.pow_le_pow_right (by decide) h4
 have hl := (tok_iff.1 hk).2.2.2.1
 intro d
 induction d with
 | zero =>
  intro w hw
  refine Ev.step (fun k => by simp only [laws_FnTrickTerm.l0]; rfl) ?_
  rw [shl_nat (by omega)]
  refine Ev.yes (by omega) (Ev.no (by omega) (Ev.bind (impl_TermOk_ev _ _) (Ev.yes hz (Ev.cast (Ev.some _) ?_))))
  rw [wrapM_length, w64 (by omega) (by omega)]
  simp
 | succ d ih =>
  intro w hw
  refine Ev.step (fun k => by simp only [laws_FnTrickTerm.l0]; rfl) ?_
  rw [shl_nat (by omega), w64 (by omega) (by omega), show ((w : Int) + 1) = ((w + 1 : Nat) : Int) by omega]
  refine Ev.yes (by omega) (Ev.yes (by omega) (Ev.bind (impl_Answer_ev _ _ _ _) (Ev.bind (impl_HoldsIn_ev _ _ _) (Ev.no ?_ (ih (w + 1) (by omega))))))
  rw [answer_in ⟨wok_of (by omega) h4 (by omega), hz, by omega, by omega⟩, holdsIn_of hk (by omega), Int.toNat_natCast, may_wrap hk (by omega) (by omega) (by omega)]
  cases hv t w <;> simp
theorem FnTrickTerm : laws_FnTrickTerm.Pure := by
 intro l h1 h2 h3
 refine Ev.rounds (r := true) ?_
 unfold laws_FnTrickTerm.f
 by_cases h : (l.length : Int) > 1048576
 ·exact Ev.yes h (Ev.some _)
 refine Ev.no h ?_
 obtain ⟨p, i, t, hd, hp1, hp4, hi0, hi1, htl, hsm⟩ := DrawTrickTerm_ev h3
 have hr := chainR_length (p := p) (l := [i]) (t := t)
 refine Ev.bind hd (Ev.bind (impl_Trick_ev (p := p) (i := i) (t := t)) (Ev.bind (spec_Trick_ev (p := p) (i := i) (t := t) (by omega) (by omega) hsm.wf) (Ev.bind (sameMarks_ev (chainR p [i] t).1 (by omega)) (Ev.yes rfl ?_))))
 refine Ev.step (fun k => by simp only [laws_FnTrickTerm.j0]; rfl) ?_
 refine Ev.no (by simp) ?_
 by_cases hz : tok p t = true ∧ tok p (wrapAll [i] t) = true
 ·have e : chainR p [i] t = (wrapAll [i] t, true) := if_pos hz
  rw [e]
  have hi : 0 ≤ i ∧ i < p := by
   by_cases hh : 0 ≤ i ∧ i < p
   ·exact hh
   ·exact absurd hz.2 (tok_bad ⟨i, by simp, hh⟩)
  obtain ⟨q, rfl, hq1, hq4, hq2, e⟩ := people_nat hp1 hp4
  obtain ⟨j, rfl⟩ := Int.eq_ofNat_of_zero_le hi0
  exact Ev.yes rfl (worlds_ hz.1 hz.2 hq4 (by omega) (2 ^ q) 0 (by omega))
 ·have e : chainR p [i] t = ([], false) := if_neg hz
  rw [e]
  refine Ev.no (by simp) (Ev.yes (by simp) ?_)
  rw [alive_eq]
  exact Ev.some _
end Go.Proofs.Ytpampekijfjlkaa.Pure

-- printed by a program of this session's (xprint)
namespace Go.Proofs.Ytpampekijfjlkaa.fnTrickTerm
open Go.ChangeShapes Go.WideShapes Go.ChangeAt Go.RowKit
open Go.ChangeMaps (open_string shut_string)
set_option linter.unusedVariables false
theorem own : ownKnob Try.prog.godebug = none := by kernel_rfl
theorem laidOut : laidOutB Try.prog = true := by kernel_rfl
def IsRow (k : IntKind) (w : World) (a : Option Addr) (len cap : Nat) (zs : List Int) : Prop :=
 (a = none ∧ len = 0 ∧ cap = 0 ∧ zs = []) ∨
 ∃ x, a = some x ∧ len ≤ cap ∧ cap ≤ maxLen ∧ zs.length = cap ∧ (∀ i, i < zs.length → w.cell? (x.add i) = some (.int k (zs.getD i 0))) ∧ ∀ n ∈ zs, (Lit.int k n).wf = true
set_option maxRecDepth 100000 in
theorem lifted (os : Os) (started : os.Started) (H : Type) (enc : TypeId × Value → H) :
  ReturnsInHanded {} Try.checked os 11 .any (Rows.fnTrickTermSpec.pre6 enc Try.prog Try.f11 Rows.fnTrickTermRow.domain false) (Rows.fnTrickTermSpec.post enc Try.prog Try.f11 false true false false) := by
 refine returnsInHanded_of_change_sized (C := Try.checked) own started (by kernel_rfl) Try.func11
  (ChangeSpec.witness6 (enc := enc) (C := Try.checked) false ⟨#[], #[.slice none 0 0], []⟩ 8 (by kernel_rfl) (by kernel_rfl) (by kernel_rfl) (by kernel_rfl)) ?_
 intro W base args ds gs before hval0 hW hcnd hsz0 _
 have hsz : (DataW.weightsEach Try.prog (Try.f11.params.toList ++ Rows.fnTrickTermSpec.plain.varTypes Try.prog) (ds ++ gs)).all (· ≤ reachBytes) = true := hsz0
 have hval : ∀ (j : Nat) t v, Try.f11.params[j]? = some t → args[j]? = some v → Value.okWide Try.prog W .any base t v := hval0
 have hW' := hW
 obtain ⟨p, q, hA0, hV, rfl, hfz, hnd⟩ := hW
 have hA : DataW.TrodAll enc Try.prog W 0 (fun _ => true) true Try.f11.params.toList args.toList ds p := hA0
 rw [Try.params11] at hA hval hsz
 obtain ⟨v0, vs0, d0, ds0, p0, q0, hargs, rfl, rfl, h0, r0⟩ := trodAll_cons hA
 obtain ⟨rfl, rfl, rfl⟩ := trodAll_nil r0
 obtain rfl : args = #[v0] := by cases args; simp_all
 obtain ⟨rfl, rfl⟩ := trodVars_none hV
 obtain ⟨a0, len0, cap0, rfl⟩ := okWide_slice Try.underlying38 (hval 0 38 v0 rfl rfl)
 have k0 := h0
 have lt0 : ∀ x ∈ p0, x.block < W.heap.size := by obtain ⟨m, hm⟩ := k0; exact DataW.trod_lt m _ _ _ hm
 obtain ⟨z0, w0⟩ : ∃ zs, IsRow .u8 W a0 len0 cap0 zs := by
  obtain ⟨fuel, hf⟩ := h0
  rcases open_ints Try.underlying38 Try.underlying5 (by kernel_rfl) hf with ⟨hcs, _⟩ | ⟨x, l, c, zs, hcs, _, hl, hm, hz, _, hcell, hwz⟩
  ·simp [Value.cells] at hcs
   obtain ⟨rfl, rfl, rfl⟩ := hcs
   exact ⟨[], .inl ⟨rfl, rfl, rfl, rfl⟩⟩
  ·simp [Value.cells] at hcs
   obtain ⟨rfl, rfl, rfl⟩ := hcs
   exact ⟨zs, .inr ⟨_, rfl, hl, hm, by simpa using hz, hcell, hwz⟩⟩
 have y0 : len0 * 1 ≤ 140737488351232 := Go.Proofs.YtpampekijfjlkaaW.PrintWords.sized_ints hsz (j := 0) (t := 38) rfl rfl Try.underlying38 Try.underlying5 (by kernel_rfl) (by kernel_rfl) h0
 clear hA0 hval0 hsz0 hsz
 refine (X.laws_FnTrickTerm.walk Pure.FnTrickTerm a0 len0 cap0 z0 W w0 y0).mono fun e W' ⟨he, bel⟩ => ?_
 subst he
 exact ⟨_, rfl, _, _, _, [], _, [], hW', trodAll_mk1 (shut_bool Try.underlying4 _), (trodAll_cons_mk (Below.trod laidOut (by kernel_rfl) (of_decide_eq_true (by kernel_rfl)) k0 bel lt0) trodAll_mk0), rfl, bel.frame _, fun h => by cases h⟩
theorem closed_ : joinedFacts Try.pinned.checked.prog 11 Try.f11 Rows.fnTrickTermSpec Rows.fnTrickTermRow = true := by
 unfold joinedFacts
 rw [X.may_, X.fin_, X.make_]
 kernel_rfl
theorem over : Rows.fnTrickTermRow.holds Try.pinned (OpenSpec.ofChange Rows.fnTrickTermSpec) :=
 OpenClaim.holds_of_wide 11 Try.f11 rfl rfl rfl rfl rfl rfl rfl ⟨rfl, rfl, rfl, rfl, rfl⟩ rfl rfl rfl rfl rfl (by kernel_rfl) Try.func11 closed_
  (of_decide_eq_true (by kernel_rfl)) (by unfold Func.isWrapper; first | (rw [if_pos (by decide +kernel)]; kernel_rfl) | (rw [if_neg (by decide +kernel)]; exact ⟨rfl, rfl⟩))
  (fun os started H enc _ => lifted os started H enc)
theorem proved : Rows.FnTrickTermSaid := over
#print axioms proved
end Go.Proofs.Ytpampekijfjlkaa.fnTrickTerm
namespace Go.Proofs.Ytpampekijfjlkaa
/-- The row, under a short name, for the claim. -/
theorem fnTrickTerm_holds : Rows.FnTrickTermSaid := fnTrickTerm.proved
end Go.Proofs.Ytpampekijfjlkaa
