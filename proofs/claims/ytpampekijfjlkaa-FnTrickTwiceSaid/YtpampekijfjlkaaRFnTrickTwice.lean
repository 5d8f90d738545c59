/- The given statement FnTrickTwiceSaid: the law laws.FnTrickTwice returns true for all arguments (a trick of a trick is the question itself: for every code). Conditions: none but those that the statement itself names. Joined by a program of this session's: PureFnTrickTwice, LawFnTrickTwice. -/
import Derived.Test.YtpampekijfjlkaaG58c5880f4d
import Derived.Test.YtpampekijfjlkaaG3a3ea5a4d7
import Derived.Test.YtpampekijfjlkaaRows
import Derived.Test.YtpampekijfjlkaaG6f5345e18b
import Derived.WalkKit
import Derived.ProofKit
import Derived.OpenShut
import Derived.ShutString
import Derived.ChangeOld
import Derived.Below
import Derived.SizedLaws
import Derived.Test.YtpampekijfjlkaaV3a2a2591db

/- A trick of a trick is the question itself: for every code. -/
namespace Go.Proofs.Ytpampekijfjlkaa.Pure
open Go.RowKit Go.Proofs.Ytpampekijfjlkaa.X Go.Proofs.Ytpampekijfjlkaa.L Go.Proofs.YtpampekijfjlkaaW.PrintWords Go.Proofs.YtpampekijfjlkaaW.PrintLast Go.Proofs.YtpampekijfjlkaaW.PrintMore
theorem alike_dfs {q i : Nat} {t : List M} (hk : tok (q : Int) t = true) (_hq : q ≤ 4) (hq2 : 2 ^ q ≤ 16) (hi : i < q) : ∀ d j : Nat, d + j = 2 ^ q →
  (alikeFrom q i (wrapM (i : Int) t) d j = true ↔ ∀ w, j ≤ w → w < 2 ^ q → hv t w = hv t (w ^^^ 2 ^ i)) := by
 intro d
 induction d with
 | zero =>
  intro j hj
  rw [alikeFrom]
  exact ⟨fun _ w h1 h2 => by omega, fun _ => rfl⟩
 | succ d ih =>
  intro j hj
  have hx := alk_lt (w := j) (i := i) (q := q) (by omega) hi
  rw [alikeFrom, Bool.and_eq_true, ih (j + 1) (by omega), may_wrap hk (by omega) (by omega) (by omega), may_wrap hk (by omega) (by omega) (by omega), beq_iff_eq]
  constructor
  ·rintro ⟨e, h⟩ w h1 h2
   by_cases e2 : w = j
   ·rw [e2]; exact e
   ·exact h w (by omega) h2
  ·intro h
   exact ⟨h j (Nat.le_refl _) (by omega), fun w h1 h2 => h w (by omega) h2⟩
theorem FnTrickTwice : laws_FnTrickTwice.Pure := by
 intro l h1 h2 h3
 refine Ev.rounds (r := true) ?_
 unfold laws_FnTrickTwice.f
 by_cases h : (l.length : Int) > 1048576
 ·exact Ev.yes h (Ev.some _)
 refine Ev.no h ?_
 obtain ⟨p, i, t, hd, hp1, hp4, hi0, hi1, htl, hsm⟩ := DrawTrickTerm_ev h3
 refine Ev.bind hd (Ev.bind (impl_Trick_ev (p := p) (i := i) (t := t)) (Ev.bind (impl_Trick_ev (p := p) (i := i) (t := (chainR p [i] t).1)) ?_))
 have out : ∀ (x : List M) (y : List M), Ev (fun k => laws_FnTrickTwice.j0 k p i t x y true) true := by
  intro x y
  refine Ev.step (fun k => by simp only [laws_FnTrickTwice.j0]; rfl) ?_
  refine Ev.yes (by simp) ?_
  rw [alive_eq]
  exact Ev.some _
 by_cases hz : tok p t = true ∧ tok p (wrapAll [i] t) = true
 ·have e : chainR p [i] t = (wrapM i t, true) := if_pos hz
  rw [e]
  refine Ev.yes rfl ?_
  by_cases hy : tok p (wrapM i t) = true ∧ tok p (wrapAll [i] (wrapM i t)) = true
  ·have e2 : chainR p [i] (wrapM i t) = (wrapM i (wrapM i t), true) := if_pos hy
   simp only [e2]
   have hi : 0 ≤ i ∧ i < p := by
    by_cases hh : 0 ≤ i ∧ i < p
    ·exact hh
    ·exact absurd hz.2 (tok_bad ⟨i, by simp, hh⟩)
   obtain ⟨q, rfl, hq1, hq4, hq2, eq⟩ := people_nat hp1 hp4
   obtain ⟨j, rfl⟩ := Int.eq_ofNat_of_zero_le hi0
   have hzz : tok (q : Int) (wrapM (j : Int) (wrapM (j : Int) t)) = true := hy.2
   refine Ev.step (fun k => by simp only [laws_FnTrickTwice.j0]; rfl) ?_
   rw [alive_eq]
   simp only [Option.bind_some]
   refine Ev.no (by simp) (Ev.yes (by simp) (Ev.bind (impl_SameOk_ev _ _ _) (Ev.yes ?_ (Ev.bind (impl_Alike_ev _ _ _) (Ev.bind (impl_MatterIn_ev _ _) (Ev.yes (by omega) (Ev.cast (Ev.some _) ?_)))))))
   ·rw [sameT, if_pos ⟨hzz, hz.1⟩]
    refine decide_eq_true ?_
    unfold ttab
    rw [eq]
    refine tabL_congr (fun w hw => ?_)
    rw [hv_wrap hy.1 (by omega) (by omega) (by omega), hv_wrap hz.1 (by omega) (by omega) (by omega)]
    cases w.testBit (j : Int).toNat <;> cases hv t w <;> rfl
   ·rw [if_pos hz.1, eq, alike, if_pos ⟨hy.1, by omega, by omega⟩, Int.toNat_natCast, Int.toNat_natCast, bit_int (matter_lt hq4) (by omega), matter_bit]
    have hjq : j < q := by omega
    have hal := alike_dfs hz.1 hq4 hq2 hjq (2 ^ q) 0 (by omega)
    cases ed : dfs t j (2 ^ q) with
    | false =>
     rw [hal.2 (fun w _ hw => dfs_false ed w hw)]
     simp
    | true =>
     have : alikeFrom q j (wrapM (j : Int) t) (2 ^ q) 0 = false := by
      rw [Bool.eq_false_iff]
      intro hc
      obtain ⟨w, hw, hne⟩ := (dfs_iff t j (2 ^ q)).1 ed
      exact hne (hal.1 hc w (by omega) hw)
     rw [this]
     simp [hjq]
  ·have e2 : chainR p [i] (wrapM i t) = ([], false) := if_neg hy
   simp only [e2]
   exact out _ _
 ·have e : chainR p [i] t = ([], false) := if_neg hz
  rw [e]
  exact Ev.no (by simp) (out _ _)
end Go.Proofs.Ytpampekijfjlkaa.Pure

-- printed by a program of this session's (xprint)
namespace Go.Proofs.Ytpampekijfjlkaa.fnTrickTwice
open Go.ChangeShapes Go.WideShapes Go.ChangeAt Go.RowKit
open Go.ChangeMaps (open_string shut_string)
set_option linter.unusedVariables false
theorem own : ownKnob Try.prog.godebug = none := by kernel_rfl
theorem laidOut : laidOutB Try.prog = true := by kernel_rfl
def IsRow (k : IntKind) (w : World) (a : Option Addr) (len cap : Nat) (zs : List Int) : Prop :=
 (a = none ∧ len = 0 ∧ cap = 0 ∧ zs = []) ∨
 ∃ x, a = some x ∧ len ≤ cap ∧ cap ≤ maxLen ∧ zs.length = cap ∧ (∀ i, i < zs.length → w.cell? (x.add i) = some (.int k (zs.getD i 0))) ∧ ∀ n ∈ zs, (Lit.int k n).wf = true
set_option maxRecDepth 100000 in
theorem lifted (os : Os) (started : os.Started) (H : Type) (enc : TypeId × Value → H) :
  ReturnsInHanded {} Try.checked os 12 .any (Rows.fnTrickTwiceSpec.pre6 enc Try.prog Try.f12 Rows.fnTrickTwiceRow.domain false) (Rows.fnTrickTwiceSpec.post enc Try.prog Try.f12 false true false false) := by
 refine returnsInHanded_of_change_sized (C := Try.checked) own started (by kernel_rfl) Try.func12
  (ChangeSpec.witness6 (enc := enc) (C := Try.checked) false ⟨#[], #[.slice none 0 0], []⟩ 8 (by kernel_rfl) (by kernel_rfl) (by kernel_rfl) (by kernel_rfl)) ?_
 intro W base args ds gs before hval0 hW hcnd hsz0 _
 have hsz : (DataW.weightsEach Try.prog (Try.f12.params.toList ++ Rows.fnTrickTwiceSpec.plain.varTypes Try.prog) (ds ++ gs)).all (· ≤ reachBytes) = true := hsz0
 have hval : ∀ (j : Nat) t v, Try.f12.params[j]? = some t → args[j]? = some v → Value.okWide Try.prog W .any base t v := hval0
 have hW' := hW
 obtain ⟨p, q, hA0, hV, rfl, hfz, hnd⟩ := hW
 have hA : DataW.TrodAll enc Try.prog W 0 (fun _ => true) true Try.f12.params.toList args.toList ds p := hA0
 rw [Try.params12] at hA hval hsz
 obtain ⟨v0, vs0, d0, ds0, p0, q0, hargs, rfl, rfl, h0, r0⟩ := trodAll_cons hA
 obtain ⟨rfl, rfl, rfl⟩ := trodAll_nil r0
 obtain rfl : args = #[v0] := by cases args; simp_all
 obtain ⟨rfl, rfl⟩ := trodVars_none hV
 obtain ⟨a0, len0, cap0, rfl⟩ := okWide_slice Try.underlying38 (hval 0 38 v0 rfl rfl)
 have k0 := h0
 have lt0 : ∀ x ∈ p0, x.block < W.heap.size := by obtain ⟨m, hm⟩ := k0; exact DataW.trod_lt m _ _ _ hm
 obtain ⟨z0, w0⟩ : ∃ zs, IsRow .u8 W a0 len0 cap0 zs := by
  obtain ⟨fuel, hf⟩ := h0
  rcases open_ints Try.underlying38 Try.underlying5 (by kernel_rfl) hf with ⟨hcs, _⟩ | ⟨x, l, c, zs, hcs, _, hl, hm, hz, _, hcell, hwz⟩
  ·simp [Value.cells] at hcs
   obtain ⟨rfl, rfl, rfl⟩ := hcs
   exact ⟨[], .inl ⟨rfl, rfl, rfl, rfl⟩⟩
  ·simp [Value.cells] at hcs
   obtain ⟨rfl, rfl, rfl⟩ := hcs
   exact ⟨zs, .inr ⟨_, rfl, hl, hm, by simpa using hz, hcell, hwz⟩⟩
 have y0 : len0 * 1 ≤ 140737488351232 := Go.Proofs.YtpampekijfjlkaaW.PrintWords.sized_ints hsz (j := 0) (t := 38) rfl rfl Try.underlying38 Try.underlying5 (by kernel_rfl) (by kernel_rfl) h0
 clear hA0 hval0 hsz0 hsz
 refine (X.laws_FnTrickTwice.walk Pure.FnTrickTwice a0 len0 cap0 z0 W w0 y0).mono fun e W' ⟨he, bel⟩ => ?_
 subst he
 exact ⟨_, rfl, _, _, _, [], _, [], hW', trodAll_mk1 (shut_bool Try.underlying4 _), (trodAll_cons_mk (Below.trod laidOut (by kernel_rfl) (of_decide_eq_true (by kernel_rfl)) k0 bel lt0) trodAll_mk0), rfl, bel.frame _, fun h => by cases h⟩
theorem closed_ : joinedFacts Try.pinned.checked.prog 12 Try.f12 Rows.fnTrickTwiceSpec Rows.fnTrickTwiceRow = true := by
 unfold joinedFacts
 rw [X.may_, X.fin_, X.make_]
 kernel_rfl
theorem over : Rows.fnTrickTwiceRow.holds Try.pinned (OpenSpec.ofChange Rows.fnTrickTwiceSpec) :=
 OpenClaim.holds_of_wide 12 Try.f12 rfl rfl rfl rfl rfl rfl rfl ⟨rfl, rfl, rfl, rfl, rfl⟩ rfl rfl rfl rfl rfl (by kernel_rfl) Try.func12 closed_
  (of_decide_eq_true (by kernel_rfl)) (by unfold Func.isWrapper; first | (rw [if_pos (by decide +kernel)]; kernel_rfl) | (rw [if_neg (by decide +kernel)]; exact ⟨rfl, rfl⟩))
  (fun os started H enc _ => lifted os started H enc)
theorem proved : Rows.FnTrickTwiceSaid := over
#print axioms proved
end Go.Proofs.Ytpampekijfjlkaa.fnTrickTwice
namespace Go.Proofs.Ytpampekijfjlkaa
/-- The row, under a short name, for the claim. -/
theorem fnTrickTwice_holds : Rows.FnTrickTwiceSaid := fnTrickTwice.proved
end Go.Proofs.Ytpampekijfjlkaa
