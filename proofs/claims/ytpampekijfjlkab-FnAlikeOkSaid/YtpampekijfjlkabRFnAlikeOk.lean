/- The given statement FnAlikeOkSaid: the law laws.FnAlikeOk returns true for all arguments (tricks are answered alike, if they ask of others: for every code). Conditions: none but those that the statement itself names. Joined by a program of this session's: PureFnAlikeOk, LawFnAlikeOk. -/
import Derived.Test.YtpampekijfjlkabGb916a9c163
import Derived.Test.YtpampekijfjlkabRows
import Derived.Test.YtpampekijfjlkabG9a6cbb595c
import Derived.WalkKit
import Derived.ProofKit
import Derived.OpenShut
import Derived.ShutString
import Derived.ChangeOld
import Derived.Below
import Derived.SizedLaws
import Derived.Test.YtpampekijfjlkabV4e744e3d11

/- Tricks are answered alike, if they ask of others: for every code. -/
namespace Go.Proofs.Ytpampekijfjlkab.Pure
open Go.RowKit Go.Proofs.Ytpampekijfjlkab.X Go.Proofs.Ytpampekijfjlkab.L Go.Proofs.YtpampekijfjlkabW.PrintWords Go.Proofs.YtpampekijfjlkabW.PrintLast Go.Proofs.YtpampekijfjlkabW.PrintMore
theorem alike_dfs {q i : Nat} {t : List M} (hk : tok (q : Int) t = true) (_hq : q ≤ 4) (hq2 : 2 ^ q ≤ 16) (hi : i < q) : ∀ d j : Nat, d + j = 2 ^ q →
  (alikeFrom q i (wrapM (i : Int) t) d j = true ↔ ∀ w, j ≤ w → w < 2 ^ q → hv t w = hv t (w ^^^ 2 ^ i)) := by
 intro d
 induction d with
 | zero =>
  intro j hj
  rw [alikeFrom]
  exact ⟨fun _ w h1 h2 => by omega, fun _ => rfl⟩
 | succ d ih =>
  intro j hj
  have hx := alk_lt (w := j) (i := i) (q := q) (by omega) hi
  rw [alikeFrom, Bool.and_eq_true, ih (j + 1) (by omega), may_wrap hk (by omega) (by omega) (by omega), may_wrap hk (by omega) (by omega) (by omega), beq_iff_eq]
  constructor
  ·rintro ⟨e, h⟩ w h1 h2
   by_cases e2 : w = j
   ·rw [e2]; exact e
   ·exact h w (by omega) h2
  ·intro h
   exact ⟨h j (Nat.le_refl _) (by omega), fun w h1 h2 => h w (by omega) h2⟩
theorem flip0 : ∀ q : Fin 5, ∀ i : Fin 4, i.val < q.val → 0 < 2 ^ q.val ∧ (0 ^^^ 2 ^ i.val).testBit i.val = true := by decide +kernel
/-- Who answers alike is asked something for which the person matters. -/
theorem alike_matters {q i : Nat} {t : List M} (hq : q ≤ 4) (hi : i < q) (h : alikeFrom q i t (2 ^ q) 0 = true) : dfs t i (2 ^ q) = true := by
 obtain ⟨h0', hb'⟩ := flip0 ⟨q, by omega⟩ ⟨i, by omega⟩ hi
 have h0 : 0 < 2 ^ q := h0'
 have hb : (0 ^^^ 2 ^ i).testBit i = true := hb'
 refine (dfs_iff t i (2 ^ q)).2 ⟨0, h0, fun he => ?_⟩
 obtain ⟨d, hd⟩ : ∃ d, 2 ^ q = d + 1 := ⟨2 ^ q - 1, by have := Nat.one_le_two_pow (n := q); omega⟩
 rw [hd, alikeFrom, Bool.and_eq_true, beq_iff_eq] at h
 have h1 := h.1
 unfold may at h1
 rw [← he, Int.toNat_natCast, hb, Nat.zero_testBit] at h1
 cases hv t 0 <;> simp at h1
theorem out_ (p i : Int) (t : List M) : Ev (fun k => laws_FnAlikeOk.j0 k p i t false true) true := by
 refine Ev.step (fun k => by simp only [laws_FnAlikeOk.j0]; rfl) (Ev.yes trivial (Ev.no (by simp) ?_))
 rw [alive_eq']
 exact Ev.some _
theorem in_ {q i : Nat} {t : List M} (hk : tok (q : Int) t = true) (hi : i < q) : Ev (fun k => laws_FnAlikeOk.j0 k (q : Int) (i : Int) t (alike (q : Int) (i : Int) t) false) true := by
 obtain ⟨h0, h1, _⟩ := tok_iff.1 hk
 have hq4 : q ≤ 4 := by omega
 have hq2 : (2 : Nat) ^ q ≤ 2 ^ 4 := Nat.pow_le_pow_right (by decide) hq4
 have ea : alike (q : Int) (i : Int) t = alikeFrom q i t (2 ^ q) 0 := by
  rw [alike, if_pos ⟨hk, by omega, by omega⟩, Int.toNat_natCast, Int.toNat_natCast]
 have em : (Int.tmod (shr .i64 ((matter t q : Nat) : Int) (i : Int)) 2) = if dfs t i (2 ^ q) = true then 1 else 0 := by
  rw [bit_int (matter_lt hq4) (by omega), matter_bit, decide_eq_true hi, Bool.true_and]
 have hmat := impl_MatterIn_ev (q : Int) t
 rw [if_pos hk, Int.toNat_natCast] at hmat
 have htr := impl_Trick_ev (p := (q : Int)) (i := (i : Int)) (t := t)
 -- behind the first test
 have part : Ev (fun _ => if alike (q : Int) (i : Int) t = true then (if (Int.tmod (shr .i64 ((matter t q : Nat) : Int) (i : Int)) 2) = 1 then ((laws_alive.f).bind fun t963 => (some t963)) else (some false)) else ((laws_alive.f).bind fun t964 => (some t964))) true := by
  rw [alive_eq', em, ea]
  by_cases hal : alikeFrom q i t (2 ^ q) 0 = true
  ·rw [alike_matters hq4 hi hal]
   exact Ev.yes hal (Ev.yes rfl (Ev.some _))
  ·exact Ev.no hal (Ev.some _)
 refine Ev.step (fun k => by simp only [laws_FnAlikeOk.j0]; rfl) (Ev.no (by simp) ?_)
 by_cases hz : tok (q : Int) t = true ∧ tok (q : Int) (wrapAll [(i : Int)] t) = true
 ·have e : chainR (q : Int) [(i : Int)] t = (wrapM (i : Int) t, true) := if_pos hz
  rw [e] at htr
  have hal2 := impl_Alike_ev (q : Int) (i : Int) (wrapM (i : Int) t)
  have ea2 : alike (q : Int) (i : Int) (wrapM (i : Int) t) = !dfs t i (2 ^ q) := by
   have hz2 : tok (q : Int) (wrapM (i : Int) t) = true := hz.2
   rw [alike, if_pos ⟨hz2, by omega, by omega⟩, Int.toNat_natCast, Int.toNat_natCast]
   have hal := alike_dfs hk hq4 (by omega) hi (2 ^ q) 0 (by omega)
   cases ed : dfs t i (2 ^ q) with
   | false => exact hal.2 (fun w _ hw => dfs_false ed w hw)
   | true =>
    rw [Bool.not_true, Bool.eq_false_iff]
    intro hc
    obtain ⟨w, hw, hne⟩ := (dfs_iff t i (2 ^ q)).1 ed
    exact hne (hal.1 hc w (by omega) hw)
  rw [ea2] at hal2
  generalize wrapM (i : Int) t = x at htr hal2
  refine Ev.bind htr (Ev.bind hmat (Ev.yes (by omega) (Ev.yes rfl (Ev.bind hal2 (Ev.yes ?_ part)))))
  rw [em]
  cases dfs t i (2 ^ q) <;> rfl
 ·have e : chainR (q : Int) [(i : Int)] t = ([], false) := if_neg hz
  rw [e] at htr
  exact Ev.bind htr (Ev.bind hmat (Ev.yes (by omega) (Ev.no (by simp) part)))
theorem FnAlikeOk : laws_FnAlikeOk.Pure := by
 intro l h1 h2 h3
 refine Ev.rounds (r := true) ?_
 unfold laws_FnAlikeOk.f
 by_cases h : (l.length : Int) > 1048576
 ·exact Ev.yes h (Ev.some _)
 refine Ev.no h ?_
 obtain ⟨p, i, t, hd, hp1, hp4, hi0, hi1, htl, hsm⟩ := DrawAlikeOk_ev h3
 refine Ev.bind hd (Ev.bind (impl_Alike_ev p i t) (Ev.bind (spec_Alike_ev p i t (by omega) hsm.wf) ?_))
 refine Ev.no (by simp) (Ev.bind (spec_TermOk_ev p t (by omega) hsm.wf) ?_)
 by_cases hk : tok p t = true
 ·refine Ev.yes hk (Ev.no (show ¬ i < 0 by omega) ?_)
  by_cases hp : i ≥ p
  ·have e0 : alike p i t = false := if_neg (fun h => by omega)
   rw [decide_eq_true hp, e0]
   exact out_ p i t
  ·obtain ⟨q, rfl, hq1, hq4, hq2, e⟩ := people_nat hp1 hp4
   obtain ⟨j, rfl⟩ := Int.eq_ofNat_of_zero_le hi0
   rw [decide_eq_false hp]
   exact in_ hk (by omega)
 ·have e0 : alike p i t = false := if_neg (fun h => hk h.1)
  rw [e0]
  exact Ev.no hk (out_ p i t)
end Go.Proofs.Ytpampekijfjlkab.Pure
namespace Go.Proofs.Ytpampekijfjlkab.fnAlikeOk
open Go.ChangeShapes Go.WideShapes Go.ChangeAt Go.RowKit
open Go.ChangeMaps (open_string shut_string)
set_option linter.unusedVariables false
theorem own : ownKnob Try.prog.godebug = none := by kernel_rfl
theorem laidOut : laidOutB Try.prog = true := by kernel_rfl
def IsRow (k : IntKind) (w : World) (a : Option Addr) (len cap : Nat) (zs : List Int) : Prop :=
 (a = none ∧ len = 0 ∧ cap = 0 ∧ zs = []) ∨
 ∃ x, a = some x ∧ len ≤ cap ∧ cap ≤ maxLen ∧ zs.length = cap ∧ (∀ i, i < zs.length → w.cell? (x.add i) = some (.int k (zs.getD i 0))) ∧ ∀ n ∈ zs, (Lit.int k n).wf = true
set_option maxRecDepth 100000 in
theorem lifted (os : Os) (started : os.Started) (H : Type) (enc : TypeId × Value → H) :
  ReturnsInHanded {} Try.checked os 11 .any (Rows.fnAlikeOkSpec.pre6 enc Try.prog Try.f11 Rows.fnAlikeOkRow.domain false) (Rows.fnAlikeOkSpec.post enc Try.prog Try.f11 false true false false) := by
 refine returnsInHanded_of_change_sized (C := Try.checked) own started (by kernel_rfl) Try.func11
  (ChangeSpec.witness6 (enc := enc) (C := Try.checked) false ⟨#[], #[.slice none 0 0], []⟩ 8 (by kernel_rfl) (by kernel_rfl) (by kernel_rfl) (by kernel_rfl)) ?_
 intro W base args ds gs before hval0 hW hcnd hsz0 _
 have hsz : (DataW.weightsEach Try.prog (Try.f11.params.toList ++ Rows.fnAlikeOkSpec.plain.varTypes Try.prog) (ds ++ gs)).all (· ≤ reachBytes) = true := hsz0
 have hval : ∀ (j : Nat) t v, Try.f11.params[j]? = some t → args[j]? = some v → Value.okWide Try.prog W .any base t v := hval0
 have hW' := hW
 obtain ⟨p, q, hA0, hV, rfl, hfz, hnd⟩ := hW
 have hA : DataW.TrodAll enc Try.prog W 0 (fun _ => true) true Try.f11.params.toList args.toList ds p := hA0
 rw [Try.params11] at hA hval hsz
 obtain ⟨v0, vs0, d0, ds0, p0, q0, hargs, rfl, rfl, h0, r0⟩ := trodAll_cons hA
 obtain ⟨rfl, rfl, rfl⟩ := trodAll_nil r0
 obtain rfl : args = #[v0] := by cases args; simp_all
 obtain ⟨rfl, rfl⟩ := trodVars_none hV
 obtain ⟨a0, len0, cap0, rfl⟩ := okWide_slice Try.underlying22 (hval 0 22 v0 rfl rfl)
 have k0 := h0
 have lt0 : ∀ x ∈ p0, x.block < W.heap.size := by obtain ⟨m, hm⟩ := k0; exact DataW.trod_lt m _ _ _ hm
 obtain ⟨z0, w0⟩ : ∃ zs, IsRow .u8 W a0 len0 cap0 zs := by
  obtain ⟨fuel, hf⟩ := h0
  rcases open_ints Try.underlying22 Try.underlying5 (by kernel_rfl) hf with ⟨hcs, _⟩ | ⟨x, l, c, zs, hcs, _, hl, hm, hz, _, hcell, hwz⟩
  ·simp [Value.cells] at hcs
   obtain ⟨rfl, rfl, rfl⟩ := hcs
   exact ⟨[], .inl ⟨rfl, rfl, rfl, rfl⟩⟩
  ·simp [Value.cells] at hcs
   obtain ⟨rfl, rfl, rfl⟩ := hcs
   exact ⟨zs, .inr ⟨_, rfl, hl, hm, by simpa using hz, hcell, hwz⟩⟩
 have y0 : len0 * 1 ≤ 140737488351232 := Go.Proofs.YtpampekijfjlkabW.PrintWords.sized_ints hsz (j := 0) (t := 22) rfl rfl Try.underlying22 Try.underlying5 (by kernel_rfl) (by kernel_rfl) h0
 clear hA0 hval0 hsz0 hsz
 refine (X.laws_FnAlikeOk.walk Pure.FnAlikeOk a0 len0 cap0 z0 W w0 y0).mono fun e W' ⟨he, bel⟩ => ?_
 subst he
 exact ⟨_, rfl, _, _, _, [], _, [], hW', trodAll_mk1 (shut_bool Try.underlying4 _), (trodAll_cons_mk (Below.trod laidOut (by kernel_rfl) (of_decide_eq_true (by kernel_rfl)) k0 bel lt0) trodAll_mk0), rfl, bel.frame _, fun h => by cases h⟩
theorem closed_ : joinedFacts Try.pinned.checked.prog 11 Try.f11 Rows.fnAlikeOkSpec Rows.fnAlikeOkRow = true := by
 unfold joinedFacts
 rw [X.may_, X.fin_, X.make_]
 kernel_rfl
theorem over : Rows.fnAlikeOkRow.holds Try.pinned (OpenSpec.ofChange Rows.fnAlikeOkSpec) :=
 OpenClaim.holds_of_wide 11 Try.f11 rfl rfl rfl rfl rfl rfl rfl ⟨rfl, rfl, rfl, rfl, rfl⟩ rfl rfl rfl rfl rfl (by kernel_rfl) Try.func11 closed_
  (of_decide_eq_true (by kernel_rfl)) (by unfold Func.isWrapper; first | (rw [if_pos (by decide +kernel)]; kernel_rfl) | (rw [if_neg (by decide +kernel)]; exact ⟨rfl, rfl⟩))
  (fun os started H enc _ => lifted os started H enc)
theorem proved : Rows.FnAlikeOkSaid := over
#print axioms proved
end Go.Proofs.Ytpampekijfjlkab.fnAlikeOk
namespace Go.Proofs.Ytpampekijfjlkab
/-- The row, under a short name, for the claim. -/
theorem fnAlikeOk_holds : Rows.FnAlikeOkSaid := fnAlikeOk.proved
end Go.Proofs.Ytpampekijfjlkab
