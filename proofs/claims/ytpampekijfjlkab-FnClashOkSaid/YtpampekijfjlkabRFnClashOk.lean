/- The given statement FnClashOkSaid: the law laws.FnClashOk returns true for all arguments (what has no world stays so: for every code). Conditions: none but those that the statement itself names. Joined by a program of this session's: PureFnClashOk, LawFnClashOk. -/
import Derived.Test.YtpampekijfjlkabG2485aa07de
import Derived.Test.YtpampekijfjlkabG81519fb5a0
import Derived.Test.YtpampekijfjlkabRows
import Derived.Test.YtpampekijfjlkabG77f7959157
import Derived.WalkKit
import Derived.ProofKit
import Derived.OpenShut
import Derived.ShutString
import Derived.ChangeOld
import Derived.Below
import Derived.SizedLaws
import Derived.Test.YtpampekijfjlkabV52576a1208

/- What has no world stays so: for every code. -/
namespace Go.Proofs.Ytpampekijfjlkab.Pure
open Go.RowKit Go.Proofs.Ytpampekijfjlkab.X Go.Proofs.Ytpampekijfjlkab.L Go.Proofs.YtpampekijfjlkabW.PrintWords Go.Proofs.YtpampekijfjlkabW.PrintLast Go.Proofs.YtpampekijfjlkabW.PrintMore
def liar : C := ⟨0, [⟨0, 0⟩, ⟨2, 0⟩]⟩
theorem liar_may {w : Nat} (hw : w < 16) : may liar.f0 liar.f1 w = false := by
 have hk : tok 1 [(⟨0, 0⟩ : M)] = true := by decide
 have h1 := hv_not hk hw
 have h2 := hv_tell (j := 0) (w := w) (by omega) hw
 have e : liar.f1 = [(⟨0, 0⟩ : M)] ++ [⟨2, 0⟩] := rfl
 unfold may
 rw [e, h1, show ([(⟨0, 0⟩ : M)]) = [⟨0, ((0 : Nat) : Int)⟩] from rfl, h2]
 show ((!w.testBit 0) == w.testBit 0) = false
 cases w.testBit 0 <;> rfl
theorem fin_ {q : Nat} (h1 : 1 ≤ q) (h4 : q ≤ 4) : Ev (fun k => (impl_ClashOk.f k (q : Int) []).bind fun t => (some (!t))) true := by
 have hs : sok (q : Int) [] = true := sok_iff.2 ⟨fun c hc => (by cases hc), by omega, by omega, by simp⟩
 have hf : clash (q : Int) [] = false := by
  rw [clash, if_pos hs]
  refine beq_eq_false_iff_ne.2 (fun h => ?_)
  have e : stab (q : Int) [] = fullT q := by rw [stab, Int.toNat_natCast]; rfl
  have h2 : (2 : Nat) ^ 1 ≤ 2 ^ (2 ^ q) := Nat.pow_le_pow_right (by decide) Nat.one_le_two_pow
  rw [e, fullT] at h
  omega
 have := impl_ClashOk_ev (q : Int) [] (by simp)
 rw [hf] at this
 exact Ev.bind this (Ev.some _)
theorem clash_more {q : Nat} {c : List C} (h4 : q ≤ 4) (hs : sok (q : Int) (c ++ [liar]) = true) : clash (q : Int) (c ++ [liar]) = true := by
 rw [clash, if_pos hs]
 have hq2 : (2 : Nat) ^ q ≤ 2 ^ 4 := Nat.pow_le_pow_right (by decide) h4
 have : stab (q : Int) (c ++ [liar]) = stab (q : Int) (c ++ [liar]) := rfl
 have e : stab (q : Int) (c ++ [liar]) = 0 := by
  apply Nat.eq_of_testBit_eq
  intro w
  rw [stab_tab, tabL_bit, Nat.zero_testBit, Int.toNat_natCast]
  by_cases hw : w < 2 ^ q
  ·rw [allMay_app, allMay_one, liar_may (by omega), Bool.and_false, Bool.and_false]
  ·rw [decide_eq_false hw, Bool.false_and]
 rw [e]
 rfl
theorem clash_again {p : Int} {c : List C} {x : C} (hx : x ∈ c) (hc : sok p c = true) (hs : sok p (c ++ [x]) = true) : clash p (c ++ [x]) = clash p c := by
 rw [clash, clash, if_pos hs, if_pos hc]
 have e : stab p (c ++ [x]) = stab p c := by
  rw [stab_eq]
  intro w _
  rw [allMay_app, allMay_one]
  cases h : allMay c w with
  | false => rfl
  | true =>
   unfold allMay at h
   rw [List.all_eq_true] at h
   rw [h x hx]
   rfl
 rw [e]
theorem j0_ {q : Nat} {c again : List C} (h1 : 1 ≤ q) (h4 : q ≤ 4) (hcl : c.length ≤ 7) (hal : again.length ≤ 8) (hfm : Fit (c ++ [liar])) (hfa : Fit again) (hag : sok (q : Int) again = true → clash (q : Int) again = clash (q : Int) c) :
  Ev (fun k => laws_FnClashOk.j0 k (q : Int) (clash (q : Int) c) (c ++ [liar]) again) true := by
 have hfin := fin_ h1 h4
 have part : Ev (fun k => (spec_StoryOk.f k (q : Int) again).bind fun t861 => (if t861 = true then ((impl_ClashOk.f k (q : Int) again).bind fun t862 => (if (t862 == clash (q : Int) c) = true then ((impl_ClashOk.f k (q : Int) (([] : List C))).bind fun t866 => (some (!t866))) else (some false))) else ((impl_ClashOk.f k (q : Int) (([] : List C))).bind fun t870 => (some (!t870))))) true := by
  refine Ev.bind (spec_StoryOk_ev (q : Int) again (by omega) hfa) ?_
  by_cases hs : sok (q : Int) again = true
  ·refine Ev.yes hs (Ev.bind (impl_ClashOk_ev (q : Int) again (by omega)) ?_)
   rw [hag hs]
   exact Ev.yes (beq_self_eq_true _) hfin
  ·exact Ev.no hs hfin
 refine Ev.step (fun k => by simp only [laws_FnClashOk.j0]; rfl) (Ev.bind (spec_StoryOk_ev (q : Int) (c ++ [liar]) (by simp; omega) hfm) ?_)
 by_cases hm : sok (q : Int) (c ++ [liar]) = true
 ·refine Ev.yes hm (Ev.bind (impl_ClashOk_ev (q : Int) (c ++ [liar]) (by simp; omega)) ?_)
  rw [clash_more h4 hm]
  exact Ev.yes rfl part
 ·exact Ev.no hm part
theorem fit_snoc {c : List C} {x : C} (h : Fit c) (hx : x.f1.length ≤ 4611686018427387904 ∧ ∀ m ∈ x.f1, m.f1 ≤ 9223372036854775807) : Fit (c ++ [x]) := by
 intro y hy
 rcases List.mem_append.1 hy with hy | hy
 ·exact h y hy
 ·rw [List.mem_singleton.1 hy]; exact hx
theorem FnClashOk : laws_FnClashOk.Pure := by
 intro l h1 h2 h3
 refine Ev.rounds (r := true) ?_
 unfold laws_FnClashOk.f
 by_cases h : (l.length : Int) > 1048576
 ·exact Ev.yes h (Ev.some _)
 refine Ev.no h ?_
 obtain ⟨p, c, hd, hp1, hp4, hcl, hsm⟩ := DrawClashOk_ev h3
 obtain ⟨q, rfl, hq1, hq4, hq2, e⟩ := people_nat hp1 hp4
 have hfit := hsm.fitK
 refine Ev.bind hd (Ev.bind (impl_ClashOk_ev (q : Int) c (by omega)) (Ev.bind (spec_ClashOk_ev (q : Int) c (by omega) hfit) ?_))
 refine Ev.no (by simp) (Ev.bind (spec_StoryOk_ev (q : Int) c (by omega) hfit) ?_)
 by_cases hs : sok (q : Int) c = true
 ·refine Ev.yes hs ?_
  simp only [Option.bind_some, List.nil_append, List.length_nil, List.length_cons]
  have hfm : Fit (c ++ [liar]) := fit_snoc hfit ⟨by decide, by decide⟩
  refine Ev.yes (by omega) (Ev.yes (by omega) (Ev.yes (by omega) ?_))
  by_cases h0 : (c.length : Int) > 0
  ·obtain ⟨x, r, rfl⟩ : ∃ x r, c = x :: r := by cases c with | nil => simp at h0 | cons a b => exact ⟨a, b, rfl⟩
   have hx : rd_T36 (x :: r) 0 = x := rdC_at [] x r
   rw [hx]
   refine Ev.yes h0 (Ev.yes (by omega) (Ev.yes (by omega) ?_))
   exact j0_ hq1 hq4 hcl (by simp at hcl ⊢; omega) hfm (fit_snoc hfit (hfit x (by simp))) (fun hss => clash_again (by simp) hs hss)
  ·exact Ev.no h0 (j0_ hq1 hq4 hcl (by omega) hfm hfit (fun _ => rfl))
 ·have e0 : clash (q : Int) c = false := if_neg hs
  rw [e0, alive_eq']
  exact Ev.no hs (Ev.no (by simp) (Ev.some _))
end Go.Proofs.Ytpampekijfjlkab.Pure
namespace Go.Proofs.Ytpampekijfjlkab.fnClashOk
open Go.ChangeShapes Go.WideShapes Go.ChangeAt Go.RowKit
open Go.ChangeMaps (open_string shut_string)
set_option linter.unusedVariables false
theorem own : ownKnob Try.prog.godebug = none := by kernel_rfl
theorem laidOut : laidOutB Try.prog = true := by kernel_rfl
def IsRow (k : IntKind) (w : World) (a : Option Addr) (len cap : Nat) (zs : List Int) : Prop :=
 (a = none ∧ len = 0 ∧ cap = 0 ∧ zs = []) ∨
 ∃ x, a = some x ∧ len ≤ cap ∧ cap ≤ maxLen ∧ zs.length = cap ∧ (∀ i, i < zs.length → w.cell? (x.add i) = some (.int k (zs.getD i 0))) ∧ ∀ n ∈ zs, (Lit.int k n).wf = true
set_option maxRecDepth 100000 in
theorem lifted (os : Os) (started : os.Started) (H : Type) (enc : TypeId × Value → H) :
  ReturnsInHanded {} Try.checked os 10 .any (Rows.fnClashOkSpec.pre6 enc Try.prog Try.f10 Rows.fnClashOkRow.domain false) (Rows.fnClashOkSpec.post enc Try.prog Try.f10 false true false false) := by
 refine returnsInHanded_of_change_sized (C := Try.checked) own started (by kernel_rfl) Try.func10
  (ChangeSpec.witness6 (enc := enc) (C := Try.checked) false ⟨#[], #[.slice none 0 0], []⟩ 8 (by kernel_rfl) (by kernel_rfl) (by kernel_rfl) (by kernel_rfl)) ?_
 intro W base args ds gs before hval0 hW hcnd hsz0 _
 have hsz : (DataW.weightsEach Try.prog (Try.f10.params.toList ++ Rows.fnClashOkSpec.plain.varTypes Try.prog) (ds ++ gs)).all (· ≤ reachBytes) = true := hsz0
 have hval : ∀ (j : Nat) t v, Try.f10.params[j]? = some t → args[j]? = some v → Value.okWide Try.prog W .any base t v := hval0
 have hW' := hW
 obtain ⟨p, q, hA0, hV, rfl, hfz, hnd⟩ := hW
 have hA : DataW.TrodAll enc Try.prog W 0 (fun _ => true) true Try.f10.params.toList args.toList ds p := hA0
 rw [Try.params10] at hA hval hsz
 obtain ⟨v0, vs0, d0, ds0, p0, q0, hargs, rfl, rfl, h0, r0⟩ := trodAll_cons hA
 obtain ⟨rfl, rfl, rfl⟩ := trodAll_nil r0
 obtain rfl : args = #[v0] := by cases args; simp_all
 obtain ⟨rfl, rfl⟩ := trodVars_none hV
 obtain ⟨a0, len0, cap0, rfl⟩ := okWide_slice Try.underlying22 (hval 0 22 v0 rfl rfl)
 have k0 := h0
 have lt0 : ∀ x ∈ p0, x.block < W.heap.size := by obtain ⟨m, hm⟩ := k0; exact DataW.trod_lt m _ _ _ hm
 obtain ⟨z0, w0⟩ : ∃ zs, IsRow .u8 W a0 len0 cap0 zs := by
  obtain ⟨fuel, hf⟩ := h0
  rcases open_ints Try.underlying22 Try.underlying5 (by kernel_rfl) hf with ⟨hcs, _⟩ | ⟨x, l, c, zs, hcs, _, hl, hm, hz, _, hcell, hwz⟩
  ·simp [Value.cells] at hcs
   obtain ⟨rfl, rfl, rfl⟩ := hcs
   exact ⟨[], .inl ⟨rfl, rfl, rfl, rfl⟩⟩
  ·simp [Value.cells] at hcs
   obtain ⟨rfl, rfl, rfl⟩ := hcs
   exact ⟨zs, .inr ⟨_, rfl, hl, hm, by simpa using hz, hcell, hwz⟩⟩
 have y0 : len0 * 1 ≤ 140737488351232 := Go.Proofs.YtpampekijfjlkabW.PrintWords.sized_ints hsz (j := 0) (t := 22) rfl rfl Try.underlying22 Try.underlying5 (by kernel_rfl) (by kernel_rfl) h0
 clear hA0 hval0 hsz0 hsz
 refine (X.laws_FnClashOk.walk Pure.FnClashOk a0 len0 cap0 z0 W w0 y0).mono fun e W' ⟨he, bel⟩ => ?_
 subst he
 exact ⟨_, rfl, _, _, _, [], _, [], hW', trodAll_mk1 (shut_bool Try.underlying4 _), (trodAll_cons_mk (Below.trod laidOut (by kernel_rfl) (of_decide_eq_true (by kernel_rfl)) k0 bel lt0) trodAll_mk0), rfl, bel.frame _, fun h => by cases h⟩
theorem closed_ : joinedFacts Try.pinned.checked.prog 10 Try.f10 Rows.fnClashOkSpec Rows.fnClashOkRow = true := by
 unfold joinedFacts
 rw [X.may_, X.fin_, X.make_]
 kernel_rfl
theorem over : Rows.fnClashOkRow.holds Try.pinned (OpenSpec.ofChange Rows.fnClashOkSpec) :=
 OpenClaim.holds_of_wide 10 Try.f10 rfl rfl rfl rfl rfl rfl rfl ⟨rfl, rfl, rfl, rfl, rfl⟩ rfl rfl rfl rfl rfl (by kernel_rfl) Try.func10 closed_
  (of_decide_eq_true (by kernel_rfl)) (by unfold Func.isWrapper; first | (rw [if_pos (by decide +kernel)]; kernel_rfl) | (rw [if_neg (by decide +kernel)]; exact ⟨rfl, rfl⟩))
  (fun os started H enc _ => lifted os started H enc)
theorem proved : Rows.FnClashOkSaid := over
#print axioms proved
end Go.Proofs.Ytpampekijfjlkab.fnClashOk
namespace Go.Proofs.Ytpampekijfjlkab
/-- The row, under a short name, for the claim. -/
theorem fnClashOk_holds : Rows.FnClashOkSaid := fnClashOk.proved
end Go.Proofs.Ytpampekijfjlkab
