/- The given statement FnStrangeTermSaid: the law laws.FnStrangeTerm returns true for all arguments (one question in any language is enough: for every code). Conditions: none but those that the statement itself names. Joined by a program of this session's: PureFnStrangeTerm, LawFnStrangeTerm. -/
import Derived.Test.YtpampekijfjlkaaGbfef5b14b1
import Derived.Test.YtpampekijfjlkaaG3f989a087e
import Derived.Test.YtpampekijfjlkaaRows
import Derived.Test.YtpampekijfjlkaaGf3b4ea1890
import Derived.WalkKit
import Derived.ProofKit
import Derived.OpenShut
import Derived.ShutString
import Derived.ChangeOld
import Derived.Below
import Derived.SizedLaws
import Derived.Test.YtpampekijfjlkaaVa262ada62f

/- One question in any language is enough: for every code. -/
namespace Go.Proofs.Ytpampekijfjlkaa.Pure
open Go.RowKit Go.Proofs.Ytpampekijfjlkaa.X Go.Proofs.Ytpampekijfjlkaa.L Go.Proofs.YtpampekijfjlkaaW.PrintWords Go.Proofs.YtpampekijfjlkaaW.PrintLast Go.Proofs.YtpampekijfjlkaaW.PrintMore
theorem tok_mid {p i j : Int} {t : List M} (hk : tok p t = true) (h : tok p (wrapM i (wrapM j t)) = true) (hj0 : 0 ≤ j) (hj1 : j < p) : tok p (wrapM j t) = true := by
 obtain ⟨a, hg, rfl, h4, hl⟩ := tok_tree hk
 obtain ⟨h0, h1, _⟩ := tok_iff.1 hk
 obtain ⟨_, _, _, h15, _⟩ := tok_iff.1 h
 obtain ⟨n, rfl⟩ := Int.eq_ofNat_of_zero_le hj0
 have e : wrapM (n : Int) a.post = (Tm.bin 5 (.tell n) a).post := by simp [wrapM, Tm.post]
 rw [wrapM_length] at h15
 rw [e] at h15 ⊢
 exact tok_post h0 h1 ⟨by omega, hj1, hg⟩ (by omega)
theorem worlds_ {q j : Nat} {t : List M} (hk : tok (q : Int) t = true) (hq : 2 ≤ q) (h4 : q ≤ 4) (hj : (j : Int) < (q : Int) - 1) (hz : tok (q : Int) (wrapM (j : Int) (wrapM ((q : Int) - 1) t)) = true) : ∀ d w : Nat, d + w = 2 ^ q →
  Ev (fun k => laws_FnStrangeTerm.l0 k (q : Int) (j : Int) t (wrapM (j : Int) (wrapM ((q : Int) - 1) t)) (w : Int)) true := by
 have hp2 : 2 ^ q ≤ 2 ^ 4 := Nat.pow_le_pow_right (by decide) h4
 have hl := (tok_iff.1 hk).2.2.2.1
 have hm := tok_mid hk hz (by omega) (by omega)
 intro d
 induction d with
 | zero =>
  intro w hw
  refine Ev.step (fun k => by simp only [laws_FnStrangeTerm.l0]; rfl) ?_
  rw [shl_nat (by omega)]
  refine Ev.yes (by omega) (Ev.no (by omega) (Ev.bind (impl_TermOk_ev _ _) (Ev.yes hz (Ev.cast (Ev.some _) ?_))))
  rw [wrapM_length, wrapM_length, w64 (by omega) (by omega)]
  simp
  omega
 | succ d ih =>
  intro w hw
  refine Ev.step (fun k => by simp only [laws_FnStrangeTerm.l0]; rfl) ?_
  rw [shl_nat (by omega), w64 (by omega) (by omega), show ((w : Int) + 1) = ((w + 1 : Nat) : Int) by omega]
  refine Ev.yes (by omega) (Ev.yes (by omega) (Ev.bind (impl_Word_ev _ _ _ _ (by omega)) (Ev.bind (impl_HoldsIn_ev _ _ _) (Ev.no ?_ (ih (w + 1) (by omega))))))
  rw [holdsIn_of hk (by omega), word, if_pos ⟨by omega, hj, by omega, wok_of (by omega) h4 (by omega), hz⟩]
  rw [Int.toNat_natCast, Int.toNat_natCast, may_wrap hm (by omega) (by omega) (by omega), hv_wrap hk (by omega) (by omega) (by omega), show ((q : Int) - 1).toNat = q - 1 by omega]
  cases w.testBit (q - 1) <;> cases hv t w <;> simp
theorem FnStrangeTerm : laws_FnStrangeTerm.Pure := by
 intro l h1 h2 h3
 refine Ev.rounds (r := true) ?_
 unfold laws_FnStrangeTerm.f
 by_cases h : (l.length : Int) > 1048576
 ·exact Ev.yes h (Ev.some _)
 refine Ev.no h ?_
 obtain ⟨p, i, t, hd, hp1, hp4, hi0, hi1, htl, hsm⟩ := DrawStrangeTerm_ev h3
 have hr := strange_length (p := p) (i := i) (t := t) (by omega)
 refine Ev.bind hd (Ev.bind (impl_Strange_ev (p := p) (i := i) (t := t) (by omega) (by omega)) (Ev.bind (spec_Strange_ev (p := p) (i := i) (t := t) (by omega) (by omega) (by omega) hsm.wf) (Ev.bind (sameMarks_ev (strange p i t).1 (by omega)) (Ev.yes rfl ?_))))
 refine Ev.step (fun k => by simp only [laws_FnStrangeTerm.j0]; rfl) ?_
 refine Ev.no (by simp) ?_
 by_cases hz : 2 ≤ p ∧ tok p t = true ∧ 0 ≤ i ∧ i < p - 1 ∧ tok p (wrapM i (wrapM (p - 1) t)) = true
 ·have e : strange p i t = (wrapM i (wrapM (p - 1) t), true) := if_pos hz
  rw [e]
  obtain ⟨q, rfl, hq1, hq4, hq2, _⟩ := people_nat hp1 hp4
  obtain ⟨j, rfl⟩ := Int.eq_ofNat_of_zero_le hi0
  exact Ev.yes rfl (worlds_ hz.2.1 (by omega) hq4 hz.2.2.2.1 hz.2.2.2.2 (2 ^ q) 0 (by omega))
 ·have e : strange p i t = ([], false) := if_neg hz
  rw [e]
  refine Ev.no (by simp) (Ev.yes (by simp) ?_)
  rw [alive_eq]
  exact Ev.some _
end Go.Proofs.Ytpampekijfjlkaa.Pure

-- printed by a program of this session's (xprint)
namespace Go.Proofs.Ytpampekijfjlkaa.fnStrangeTerm
open Go.ChangeShapes Go.WideShapes Go.ChangeAt Go.RowKit
open Go.ChangeMaps (open_string shut_string)
set_option linter.unusedVariables false
theorem own : ownKnob Try.prog.godebug = none := by kernel_rfl
theorem laidOut : laidOutB Try.prog = true := by kernel_rfl
def IsRow (k : IntKind) (w : World) (a : Option Addr) (len cap : Nat) (zs : List Int) : Prop :=
 (a = none ∧ len = 0 ∧ cap = 0 ∧ zs = []) ∨
 ∃ x, a = some x ∧ len ≤ cap ∧ cap ≤ maxLen ∧ zs.length = cap ∧ (∀ i, i < zs.length → w.cell? (x.add i) = some (.int k (zs.getD i 0))) ∧ ∀ n ∈ zs, (Lit.int k n).wf = true
set_option maxRecDepth 100000 in
theorem lifted (os : Os) (started : os.Started) (H : Type) (enc : TypeId × Value → H) :
  ReturnsInHanded {} Try.checked os 13 .any (Rows.fnStrangeTermSpec.pre6 enc Try.prog Try.f13 Rows.fnStrangeTermRow.domain false) (Rows.fnStrangeTermSpec.post enc Try.prog Try.f13 false true false false) := by
 refine returnsInHanded_of_change_sized (C := Try.checked) own started (by kernel_rfl) Try.func13
  (ChangeSpec.witness6 (enc := enc) (C := Try.checked) false ⟨#[], #[.slice none 0 0], []⟩ 8 (by kernel_rfl) (by kernel_rfl) (by kernel_rfl) (by kernel_rfl)) ?_
 intro W base args ds gs before hval0 hW hcnd hsz0 _
 have hsz : (DataW.weightsEach Try.prog (Try.f13.params.toList ++ Rows.fnStrangeTermSpec.plain.varTypes Try.prog) (ds ++ gs)).all (· ≤ reachBytes) = true := hsz0
 have hval : ∀ (j : Nat) t v, Try.f13.params[j]? = some t → args[j]? = some v → Value.okWide Try.prog W .any base t v := hval0
 have hW' := hW
 obtain ⟨p, q, hA0, hV, rfl, hfz, hnd⟩ := hW
 have hA : DataW.TrodAll enc Try.prog W 0 (fun _ => true) true Try.f13.params.toList args.toList ds p := hA0
 rw [Try.params13] at hA hval hsz
 obtain ⟨v0, vs0, d0, ds0, p0, q0, hargs, rfl, rfl, h0, r0⟩ := trodAll_cons hA
 obtain ⟨rfl, rfl, rfl⟩ := trodAll_nil r0
 obtain rfl : args = #[v0] := by cases args; simp_all
 obtain ⟨rfl, rfl⟩ := trodVars_none hV
 obtain ⟨a0, len0, cap0, rfl⟩ := okWide_slice Try.underlying38 (hval 0 38 v0 rfl rfl)
 have k0 := h0
 have lt0 : ∀ x ∈ p0, x.block < W.heap.size := by obtain ⟨m, hm⟩ := k0; exact DataW.trod_lt m _ _ _ hm
 obtain ⟨z0, w0⟩ : ∃ zs, IsRow .u8 W a0 len0 cap0 zs := by
  obtain ⟨fuel, hf⟩ := h0
  rcases open_ints Try.underlying38 Try.underlying5 (by kernel_rfl) hf with ⟨hcs, _⟩ | ⟨x, l, c, zs, hcs, _, hl, hm, hz, _, hcell, hwz⟩
  ·simp [Value.cells] at hcs
   obtain ⟨rfl, rfl, rfl⟩ := hcs
   exact ⟨[], .inl ⟨rfl, rfl, rfl, rfl⟩⟩
  ·simp [Value.cells] at hcs
   obtain ⟨rfl, rfl, rfl⟩ := hcs
   exact ⟨zs, .inr ⟨_, rfl, hl, hm, by simpa using hz, hcell, hwz⟩⟩
 have y0 : len0 * 1 ≤ 140737488351232 := Go.Proofs.YtpampekijfjlkaaW.PrintWords.sized_ints hsz (j := 0) (t := 38) rfl rfl Try.underlying38 Try.underlying5 (by kernel_rfl) (by kernel_rfl) h0
 clear hA0 hval0 hsz0 hsz
 refine (X.laws_FnStrangeTerm.walk Pure.FnStrangeTerm a0 len0 cap0 z0 W w0 y0).mono fun e W' ⟨he, bel⟩ => ?_
 subst he
 exact ⟨_, rfl, _, _, _, [], _, [], hW', trodAll_mk1 (shut_bool Try.underlying4 _), (trodAll_cons_mk (Below.trod laidOut (by kernel_rfl) (of_decide_eq_true (by kernel_rfl)) k0 bel lt0) trodAll_mk0), rfl, bel.frame _, fun h => by cases h⟩
theorem closed_ : joinedFacts Try.pinned.checked.prog 13 Try.f13 Rows.fnStrangeTermSpec Rows.fnStrangeTermRow = true := by
 unfold joinedFacts
 rw [X.may_, X.fin_, X.make_]
 kernel_rfl
theorem over : Rows.fnStrangeTermRow.holds Try.pinned (OpenSpec.ofChange Rows.fnStrangeTermSpec) :=
 OpenClaim.holds_of_wide 13 Try.f13 rfl rfl rfl rfl rfl rfl rfl ⟨rfl, rfl, rfl, rfl, rfl⟩ rfl rfl rfl rfl rfl (by kernel_rfl) Try.func13 closed_
  (of_decide_eq_true (by kernel_rfl)) (by unfold Func.isWrapper; first | (rw [if_pos (by decide +kernel)]; kernel_rfl) | (rw [if_neg (by decide +kernel)]; exact ⟨rfl, rfl⟩))
  (fun os started H enc _ => lifted os started H enc)
theorem proved : Rows.FnStrangeTermSaid := over
#print axioms proved
end Go.Proofs.Ytpampekijfjlkaa.fnStrangeTerm
namespace Go.Proofs.Ytpampekijfjlkaa
/-- The row, under a short name, for the claim. -/
theorem fnStrangeTerm_holds : Rows.FnStrangeTermSaid := fnStrangeTerm.proved
end Go.Proofs.Ytpampekijfjlkaa
