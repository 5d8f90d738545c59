/- The given statement FnExactClashOkSaid: the law laws.FnExactClashOk returns true for all arguments (the program's ClashOk returns what the reference's returns, for all arguments). Conditions: none but those that the statement itself names. Joined by a program of this session's: PureFnExactClashOk, LawFnExactClashOk. -/
import Derived.Test.YtpampekijfjlkabG1eb1a86446
import Derived.Test.YtpampekijfjlkabRows
import Derived.Test.YtpampekijfjlkabG5e649942bf
import Derived.WalkKit
import Derived.ProofKit
import Derived.OpenShut
import Derived.ShutString
import Derived.ChangeOld
import Derived.Below
import Derived.SizedLaws
import Derived.Test.YtpampekijfjlkabV833f1a2751

/- The program's ClashOk returns what the reference's returns, for all arguments. -/
namespace Go.Proofs.Ytpampekijfjlkab.Pure
open Go.RowKit Go.Proofs.Ytpampekijfjlkab.X Go.Proofs.Ytpampekijfjlkab.L Go.Proofs.YtpampekijfjlkabW.PrintWords Go.Proofs.YtpampekijfjlkabW.PrintLast Go.Proofs.YtpampekijfjlkabW.PrintMore
theorem FnExactClashOk : laws_FnExactClashOk.Pure := by
 intro p l hp hl hw hin
 refine Ev.rounds (r := true) ?_
 unfold laws_FnExactClashOk.f
 obtain ⟨r, hr, hx⟩ := szClaimS_ev l hl hin
 refine Ev.bind hr ?_
 by_cases h : r < 0
 ·exact Ev.yes h (Ev.some _)
 refine Ev.no h ?_
 obtain ⟨hl', hb⟩ : l.length ≤ 1048576 ∧ ∀ y ∈ l, y.f1.length ≤ 1048576 := by rcases hx with hx | hx; exact absurd hx h; exact hx
 have hcl : (convC l).length ≤ 1048576 := by rw [convC_length]; exact hl'
 have hto := toClaimS_ev l hl' hb
 have hfit := convC_fit hw hb
 refine Ev.bind hto (Ev.bind (spec_ClashOk_ev p (convC l) (by omega) hfit) (Ev.bind hto (Ev.bind (impl_ClashOk_ev p (convC l) (by omega)) (Ev.no (by simp) (Ev.bind hto (Ev.bind (eqClaimS_ev (convC l) (by omega) (convC_len hb)) (Ev.yes rfl (Ev.some _))))))))
end Go.Proofs.Ytpampekijfjlkab.Pure

-- printed by a program of this session's (xprint)
namespace Go.Proofs.Ytpampekijfjlkab.fnExactClashOk
open Go.ChangeShapes Go.WideShapes Go.ChangeAt Go.RowKit
open Go.ChangeMaps (open_string shut_string)
set_option linter.unusedVariables false
theorem own : ownKnob Try.prog.godebug = none := by kernel_rfl
theorem laidOut : laidOutB Try.prog = true := by kernel_rfl
def IsRow (k : IntKind) (w : World) (a : Option Addr) (len cap : Nat) (zs : List Int) : Prop :=
 (a = none ∧ len = 0 ∧ cap = 0 ∧ zs = []) ∨
 ∃ x, a = some x ∧ len ≤ cap ∧ cap ≤ maxLen ∧ zs.length = cap ∧ (∀ i, i < zs.length → w.cell? (x.add i) = some (.int k (zs.getD i 0))) ∧ ∀ n ∈ zs, (Lit.int k n).wf = true
set_option maxRecDepth 100000 in
theorem lifted (os : Os) (started : os.Started) (H : Type) (enc : TypeId × Value → H) :
  ReturnsInHanded {} Try.checked os 13 .any (Rows.fnExactClashOkSpec.pre6 enc Try.prog Try.f13 Rows.fnExactClashOkRow.domain false) (Rows.fnExactClashOkSpec.post enc Try.prog Try.f13 false true false false) := by
 refine returnsInHanded_of_change_sized (C := Try.checked) own started (by kernel_rfl) Try.func13
  (ChangeSpec.witness6 (enc := enc) (C := Try.checked) false ⟨#[], #[.int .i64 0, .slice none 0 0], []⟩ 8 (by kernel_rfl) (by kernel_rfl) (by kernel_rfl) (by kernel_rfl)) ?_
 intro W base args ds gs before hval0 hW hcnd hsz0 _
 have hsz : (DataW.weightsEach Try.prog (Try.f13.params.toList ++ Rows.fnExactClashOkSpec.plain.varTypes Try.prog) (ds ++ gs)).all (· ≤ reachBytes) = true := hsz0
 have hval : ∀ (j : Nat) t v, Try.f13.params[j]? = some t → args[j]? = some v → Value.okWide Try.prog W .any base t v := hval0
 have hW' := hW
 obtain ⟨p, q, hA0, hV, rfl, hfz, hnd⟩ := hW
 have hA : DataW.TrodAll enc Try.prog W 0 (fun _ => true) true Try.f13.params.toList args.toList ds p := hA0
 rw [Try.params13] at hA hval hsz
 obtain ⟨v0, vs0, d0, ds0, p0, q0, hargs, rfl, rfl, h0, r0⟩ := trodAll_cons hA
 obtain ⟨v1, vs1, d1, ds1, p1, q1, rfl, rfl, rfl, h1, r1⟩ := trodAll_cons r0
 obtain ⟨rfl, rfl, rfl⟩ := trodAll_nil r1
 obtain rfl : args = #[v0, v1] := by cases args; simp_all
 obtain ⟨rfl, rfl⟩ := trodVars_none hV
 obtain ⟨a0, rfl, rfl, rfl, w0⟩ := open_int Try.underlying3 (hval 0 3 v0 rfl rfl) h0
 obtain ⟨a1, len1, cap1, rfl⟩ := okWide_slice Try.underlying71 (hval 1 71 v1 rfl rfl)
 have k1 := h1
 have lt1 : ∀ x ∈ p1, x.block < W.heap.size := by obtain ⟨m, hm⟩ := k1; exact DataW.trod_lt m _ _ _ hm
 obtain ⟨fuel1, hf1⟩ := h1
 obtain ⟨l1, ⟨A1, c1, hcs1, hl1, hC1⟩, hw1⟩ := (Go.Proofs.Ytpampekijfjlkab.X.opens_slice Try.underlying71 (by kernel_rfl) Go.Proofs.Ytpampekijfjlkab.X.opens40) hf1
 simp [Value.cells] at hcs1
 obtain ⟨rfl, rfl, rfl⟩ := hcs1
 clear hA0 hval0 hsz0 hsz
 refine (X.laws_FnExactClashOk.walk Pure.FnExactClashOk a0 a1 cap1 l1 W w0 hC1 hl1 hw1).mono fun e W' ⟨he, bel⟩ => ?_
 subst he
 exact ⟨_, rfl, _, _, _, [], _, [], hW', trodAll_mk1 (shut_bool Try.underlying4 _), (trodAll_cons_mk (shut_int Try.underlying3 w0) (trodAll_cons_mk (Below.trod laidOut (by kernel_rfl) (of_decide_eq_true (by kernel_rfl)) k1 bel lt1) trodAll_mk0)), rfl, bel.frame _, fun h => by cases h⟩
theorem closed_ : joinedFacts Try.pinned.checked.prog 13 Try.f13 Rows.fnExactClashOkSpec Rows.fnExactClashOkRow = true := by
 unfold joinedFacts
 rw [X.may_, X.fin_, X.make_]
 kernel_rfl
theorem over : Rows.fnExactClashOkRow.holds Try.pinned (OpenSpec.ofChange Rows.fnExactClashOkSpec) :=
 OpenClaim.holds_of_wide 13 Try.f13 rfl rfl rfl rfl rfl rfl rfl ⟨rfl, rfl, rfl, rfl, rfl⟩ rfl rfl rfl rfl rfl (by kernel_rfl) Try.func13 closed_
  (of_decide_eq_true (by kernel_rfl)) (by unfold Func.isWrapper; first | (rw [if_pos (by decide +kernel)]; kernel_rfl) | (rw [if_neg (by decide +kernel)]; exact ⟨rfl, rfl⟩))
  (fun os started H enc _ => lifted os started H enc)
theorem proved : Rows.FnExactClashOkSaid := over
#print axioms proved
end Go.Proofs.Ytpampekijfjlkab.fnExactClashOk
namespace Go.Proofs.Ytpampekijfjlkab
/-- The row, under a short name, for the claim. -/
theorem fnExactClashOk_holds : Rows.FnExactClashOkSaid := fnExactClashOk.proved
end Go.Proofs.Ytpampekijfjlkab
