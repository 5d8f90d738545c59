/- The given statement FnExactOnlyWorldSaid: the law laws.FnExactOnlyWorld returns true for all arguments (the program's OnlyWorld returns what the reference's returns, for all arguments). Conditions: none but those that the statement itself names. Joined by a program of this session's: PureFnExactOnlyWorld, LawFnExactOnlyWorld. -/
import Derived.Test.YtpampekijfjlkabG7050c72c79
import Derived.Test.YtpampekijfjlkabGccb1f99621
import Derived.Test.YtpampekijfjlkabRows
import Derived.Test.YtpampekijfjlkabG946f423b6b
import Derived.WalkKit
import Derived.ProofKit
import Derived.OpenShut
import Derived.ShutString
import Derived.ChangeOld
import Derived.Below
import Derived.SizedLaws
import Derived.Test.YtpampekijfjlkabV94ceb1d396

/- The program's OnlyWorld returns what the reference's returns, for all arguments. -/
namespace Go.Proofs.Ytpampekijfjlkab.Pure
open Go.RowKit Go.Proofs.Ytpampekijfjlkab.X Go.Proofs.Ytpampekijfjlkab.L Go.Proofs.YtpampekijfjlkabW.PrintWords Go.Proofs.YtpampekijfjlkabW.PrintLast Go.Proofs.YtpampekijfjlkabW.PrintMore
theorem FnExactOnlyWorld : laws_FnExactOnlyWorld.Pure := by
 intro p l hp hl hw hin
 refine Ev.rounds (r := true) ?_
 unfold laws_FnExactOnlyWorld.f
 obtain ⟨r, hr, hx⟩ := szClaimS_ev l hl hin
 refine Ev.bind hr ?_
 by_cases h : r < 0
 ·exact Ev.yes h (Ev.some _)
 refine Ev.no h ?_
 obtain ⟨hl', hb⟩ : l.length ≤ 1048576 ∧ ∀ y ∈ l, y.f1.length ≤ 1048576 := by rcases hx with hx | hx; exact absurd hx h; exact hx
 have hcl : (convC l).length ≤ 1048576 := by rw [convC_length]; exact hl'
 have hto := toClaimS_ev l hl' hb
 have hfit := convC_fit hw hb
 refine Ev.bind hto (Ev.bind (spec_OnlyWorld_ev p (convC l) (by omega) hfit) (Ev.bind hto (Ev.bind (impl_OnlyWorld_ev p (convC l) (by omega)) (Ev.yes rfl ?_))))
 refine Ev.step (fun k => by simp only [laws_FnExactOnlyWorld.j0]; rfl) ?_
 exact Ev.no (by simp) (Ev.bind hto (Ev.bind (eqClaimS_ev (convC l) (by omega) (convC_len hb)) (Ev.yes rfl (Ev.some _))))
end Go.Proofs.Ytpampekijfjlkab.Pure

-- printed by a program of this session's (xprint)
namespace Go.Proofs.Ytpampekijfjlkab.fnExactOnlyWorld
open Go.ChangeShapes Go.WideShapes Go.ChangeAt Go.RowKit
open Go.ChangeMaps (open_string shut_string)
set_option linter.unusedVariables false
theorem own : ownKnob Try.prog.godebug = none := by kernel_rfl
theorem laidOut : laidOutB Try.prog = true := by kernel_rfl
def IsRow (k : IntKind) (w : World) (a : Option Addr) (len cap : Nat) (zs : List Int) : Prop :=
 (a = none ∧ len = 0 ∧ cap = 0 ∧ zs = []) ∨
 ∃ x, a = some x ∧ len ≤ cap ∧ cap ≤ maxLen ∧ zs.length = cap ∧ (∀ i, i < zs.length → w.cell? (x.add i) = some (.int k (zs.getD i 0))) ∧ ∀ n ∈ zs, (Lit.int k n).wf = true
set_option maxRecDepth 100000 in
theorem lifted (os : Os) (started : os.Started) (H : Type) (enc : TypeId × Value → H) :
  ReturnsInHanded {} Try.checked os 17 .any (Rows.fnExactOnlyWorldSpec.pre6 enc Try.prog Try.f17 Rows.fnExactOnlyWorldRow.domain false) (Rows.fnExactOnlyWorldSpec.post enc Try.prog Try.f17 false true false false) := by
 refine returnsInHanded_of_change_sized (C := Try.checked) own started (by kernel_rfl) Try.func17
  (ChangeSpec.witness6 (enc := enc) (C := Try.checked) false ⟨#[], #[.int .i64 0, .slice none 0 0], []⟩ 8 (by kernel_rfl) (by kernel_rfl) (by kernel_rfl) (by kernel_rfl)) ?_
 intro W base args ds gs before hval0 hW hcnd hsz0 _
 have hsz : (DataW.weightsEach Try.prog (Try.f17.params.toList ++ Rows.fnExactOnlyWorldSpec.plain.varTypes Try.prog) (ds ++ gs)).all (· ≤ reachBytes) = true := hsz0
 have hval : ∀ (j : Nat) t v, Try.f17.params[j]? = some t → args[j]? = some v → Value.okWide Try.prog W .any base t v := hval0
 have hW' := hW
 obtain ⟨p, q, hA0, hV, rfl, hfz, hnd⟩ := hW
 have hA : DataW.TrodAll enc Try.prog W 0 (fun _ => true) true Try.f17.params.toList args.toList ds p := hA0
 rw [Try.params17] at hA hval hsz
 obtain ⟨v0, vs0, d0, ds0, p0, q0, hargs, rfl, rfl, h0, r0⟩ := trodAll_cons hA
 obtain ⟨v1, vs1, d1, ds1, p1, q1, rfl, rfl, rfl, h1, r1⟩ := trodAll_cons r0
 obtain ⟨rfl, rfl, rfl⟩ := trodAll_nil r1
 obtain rfl : args = #[v0, v1] := by cases args; simp_all
 obtain ⟨rfl, rfl⟩ := trodVars_none hV
 obtain ⟨a0, rfl, rfl, rfl, w0⟩ := open_int Try.underlying3 (hval 0 3 v0 rfl rfl) h0
 obtain ⟨a1, len1, cap1, rfl⟩ := okWide_slice Try.underlying71 (hval 1 71 v1 rfl rfl)
 have k1 := h1
 have lt1 : ∀ x ∈ p1, x.block < W.heap.size := by obtain ⟨m, hm⟩ := k1; exact DataW.trod_lt m _ _ _ hm
 obtain ⟨fuel1, hf1⟩ := h1
 obtain ⟨l1, ⟨A1, c1, hcs1, hl1, hC1⟩, hw1⟩ := (Go.Proofs.Ytpampekijfjlkab.X.opens_slice Try.underlying71 (by kernel_rfl) Go.Proofs.Ytpampekijfjlkab.X.opens40) hf1
 simp [Value.cells] at hcs1
 obtain ⟨rfl, rfl, rfl⟩ := hcs1
 clear hA0 hval0 hsz0 hsz
 refine (X.laws_FnExactOnlyWorld.walk Pure.FnExactOnlyWorld a0 a1 cap1 l1 W w0 hC1 hl1 hw1).mono fun e W' ⟨he, bel⟩ => ?_
 subst he
 exact ⟨_, rfl, _, _, _, [], _, [], hW', trodAll_mk1 (shut_bool Try.underlying4 _), (trodAll_cons_mk (shut_int Try.underlying3 w0) (trodAll_cons_mk (Below.trod laidOut (by kernel_rfl) (of_decide_eq_true (by kernel_rfl)) k1 bel lt1) trodAll_mk0)), rfl, bel.frame _, fun h => by cases h⟩
theorem closed_ : joinedFacts Try.pinned.checked.prog 17 Try.f17 Rows.fnExactOnlyWorldSpec Rows.fnExactOnlyWorldRow = true := by
 unfold joinedFacts
 rw [X.may_, X.fin_, X.make_]
 kernel_rfl
theorem over : Rows.fnExactOnlyWorldRow.holds Try.pinned (OpenSpec.ofChange Rows.fnExactOnlyWorldSpec) :=
 OpenClaim.holds_of_wide 17 Try.f17 rfl rfl rfl rfl rfl rfl rfl ⟨rfl, rfl, rfl, rfl, rfl⟩ rfl rfl rfl rfl rfl (by kernel_rfl) Try.func17 closed_
  (of_decide_eq_true (by kernel_rfl)) (by unfold Func.isWrapper; first | (rw [if_pos (by decide +kernel)]; kernel_rfl) | (rw [if_neg (by decide +kernel)]; exact ⟨rfl, rfl⟩))
  (fun os started H enc _ => lifted os started H enc)
theorem proved : Rows.FnExactOnlyWorldSaid := over
#print axioms proved
end Go.Proofs.Ytpampekijfjlkab.fnExactOnlyWorld
namespace Go.Proofs.Ytpampekijfjlkab
/-- The row, under a short name, for the claim. -/
theorem fnExactOnlyWorld_holds : Rows.FnExactOnlyWorldSaid := fnExactOnlyWorld.proved
end Go.Proofs.Ytpampekijfjlkab
