/- The given statement FnExactWordInSaid: the law laws.FnExactWordIn returns true for all arguments (the program's WordIn returns what the reference's returns, for all arguments). Conditions: none but those that the statement itself names. Joined by a program of this session's: PureFnExactWordIn, LawFnExactWordIn. -/
import Derived.Test.YtpampekijfjlkaaGce29f500b1
import Derived.Test.YtpampekijfjlkaaRows
import Derived.Test.YtpampekijfjlkaaGa3daea2865
import Derived.WalkKit
import Derived.ProofKit
import Derived.OpenShut
import Derived.ShutString
import Derived.ChangeOld
import Derived.Below
import Derived.SizedLaws
import Derived.Test.YtpampekijfjlkaaWSized

/- The program's WordIn returns what the reference's returns, for all arguments. -/
namespace Go.Proofs.Ytpampekijfjlkaa.Pure
open Go.RowKit Go.Proofs.Ytpampekijfjlkaa.X Go.Proofs.Ytpampekijfjlkaa.L Go.Proofs.YtpampekijfjlkaaW.PrintWords Go.Proofs.YtpampekijfjlkaaW.PrintLast Go.Proofs.YtpampekijfjlkaaW.PrintMore
theorem FnExactWordIn : laws_FnExactWordIn.Pure := by
  intro p i l w hp hi hl hw hv
  refine Ev.rounds (r := true) ?_
  unfold laws_FnExactWordIn.f
  rw [szMarkS_big l hl]
  simp only [Option.bind_some]
  by_cases h : (1048576 : Int) - l.length < 0
  · rw [if_pos h]
    exact Ev.yes (by omega) (Ev.some _)
  rw [if_neg h]
  refine Ev.no h ?_
  have hl' : l.length ≤ 1048576 := by omega
  have hcl : (conv l).length ≤ 1048576 := by rw [conv_length]; exact hl'
  have hto := toMarkS_ev l hl'
  refine Ev.bind hto (Ev.bind (spec_Word_ev p i (conv l) w (i64_wf hp) (by omega) (conv_wf hw)) (Ev.bind hto (Ev.bind (impl_Word_ev p i (conv l) w (i64_wf hp)) (Ev.yes rfl (Ev.bind hto (Ev.bind (eqMarkS_ev (conv l) (by omega)) (Ev.yes rfl (Ev.some _))))))))
end Go.Proofs.Ytpampekijfjlkaa.Pure

-- printed by a program of this session's (xprint)
namespace Go.Proofs.Ytpampekijfjlkaa.fnExactWordIn
open Go.ChangeShapes Go.WideShapes Go.ChangeAt Go.RowKit
open Go.ChangeMaps (open_string shut_string)
set_option linter.unusedVariables false
theorem own : ownKnob Try.prog.godebug = none := by kernel_rfl
theorem laidOut : laidOutB Try.prog = true := by kernel_rfl
def IsRow (k : IntKind) (w : World) (a : Option Addr) (len cap : Nat) (zs : List Int) : Prop :=
  (a = none ∧ len = 0 ∧ cap = 0 ∧ zs = []) ∨
  ∃ x, a = some x ∧ len ≤ cap ∧ cap ≤ maxLen ∧ zs.length = cap ∧ (∀ i, i < zs.length → w.cell? (x.add i) = some (.int k (zs.getD i 0))) ∧ ∀ n ∈ zs, (Lit.int k n).wf = true
set_option maxRecDepth 100000 in
theorem lifted (os : Os) (started : os.Started) (H : Type) (enc : TypeId × Value → H) :
    ReturnsInHanded {} Try.checked os 7 .any (Rows.fnExactWordInSpec.pre6 enc Try.prog Try.f7 Rows.fnExactWordInRow.domain false) (Rows.fnExactWordInSpec.post enc Try.prog Try.f7 false true false false) := by
  refine returnsInHanded_of_change_sized (C := Try.checked) own started (by kernel_rfl) Try.func7
    (ChangeSpec.witness6 (enc := enc) (C := Try.checked) false ⟨#[], #[.int .i64 0, .int .i64 0, .slice none 0 0, .int .i64 0], []⟩ 8 (by kernel_rfl) (by kernel_rfl) (by kernel_rfl) (by kernel_rfl)) ?_
  intro W base args ds gs before hval0 hW hcnd hsz0 _
  have hsz : (DataW.weightsEach Try.prog (Try.f7.params.toList ++ Rows.fnExactWordInSpec.plain.varTypes Try.prog) (ds ++ gs)).all (· ≤ reachBytes) = true := hsz0
  have hval : ∀ (j : Nat) t v, Try.f7.params[j]? = some t → args[j]? = some v → Value.okWide Try.prog W .any base t v := hval0
  have hW' := hW
  obtain ⟨p, q, hA0, hV, rfl, hfz, hnd⟩ := hW
  have hA : DataW.TrodAll enc Try.prog W 0 (fun _ => true) true Try.f7.params.toList args.toList ds p := hA0
  rw [Try.params7] at hA hval hsz
  obtain ⟨v0, vs0, d0, ds0, p0, q0, hargs, rfl, rfl, h0, r0⟩ := trodAll_cons hA
  obtain ⟨v1, vs1, d1, ds1, p1, q1, rfl, rfl, rfl, h1, r1⟩ := trodAll_cons r0
  obtain ⟨v2, vs2, d2, ds2, p2, q2, rfl, rfl, rfl, h2, r2⟩ := trodAll_cons r1
  obtain ⟨v3, vs3, d3, ds3, p3, q3, rfl, rfl, rfl, h3, r3⟩ := trodAll_cons r2
  obtain ⟨rfl, rfl, rfl⟩ := trodAll_nil r3
  obtain rfl : args = #[v0, v1, v2, v3] := by cases args; simp_all
  obtain ⟨rfl, rfl⟩ := trodVars_none hV
  obtain ⟨a0, rfl, rfl, rfl, w0⟩ := open_int Try.underlying3 (hval 0 3 v0 rfl rfl) h0
  obtain ⟨a1, rfl, rfl, rfl, w1⟩ := open_int Try.underlying3 (hval 1 3 v1 rfl rfl) h1
  obtain ⟨a2, len2, cap2, rfl⟩ := okWide_slice Try.underlying31 (hval 2 31 v2 rfl rfl)
  have k2 := h2
  have lt2 : ∀ x ∈ p2, x.block < W.heap.size := by obtain ⟨m, hm⟩ := k2; exact DataW.trod_lt m _ _ _ hm
  obtain ⟨fuel2, hf2⟩ := h2
  obtain ⟨l2, ⟨A2, c2, hcs2, hl2, hC2⟩, hw2⟩ := (Go.Proofs.Ytpampekijfjlkaa.X.opens_slice Try.underlying31 (by kernel_rfl) Go.Proofs.Ytpampekijfjlkaa.X.opens92) hf2
  simp [Value.cells] at hcs2
  obtain ⟨rfl, rfl, rfl⟩ := hcs2
  obtain ⟨a3, rfl, rfl, rfl, w3⟩ := open_int Try.underlying3 (hval 3 3 v3 rfl rfl) h3
  clear hA0 hval0 hsz0 hsz
  refine (X.laws_FnExactWordIn.walk Pure.FnExactWordIn a0 a1 a2 cap2 l2 a3 W w0 w1 hC2 hl2 hw2 w3).mono fun e W' ⟨he, bel⟩ => ?_
  subst he
  exact ⟨_, rfl, _, _, _, [], _, [], hW', trodAll_mk1 (shut_bool Try.underlying4 _), (trodAll_cons_mk (shut_int Try.underlying3 w0) (trodAll_cons_mk (shut_int Try.underlying3 w1) (trodAll_cons_mk (Below.trod laidOut (by kernel_rfl) (of_decide_eq_true (by kernel_rfl)) k2 bel lt2) (trodAll_cons_mk (shut_int Try.underlying3 w3) trodAll_mk0)))), rfl, bel.frame _, fun h => by cases h⟩
theorem closed_ : joinedFacts Try.pinned.checked.prog 7 Try.f7 Rows.fnExactWordInSpec Rows.fnExactWordInRow = true := by
  unfold joinedFacts
  rw [X.may_, X.fin_, X.make_]
  kernel_rfl
theorem over : Rows.fnExactWordInRow.holds Try.pinned (OpenSpec.ofChange Rows.fnExactWordInSpec) :=
  OpenClaim.holds_of_wide 7 Try.f7 rfl rfl rfl rfl rfl rfl rfl ⟨rfl, rfl, rfl, rfl, rfl⟩ rfl rfl rfl rfl rfl (by kernel_rfl) Try.func7 closed_
    (of_decide_eq_true (by kernel_rfl)) (by unfold Func.isWrapper; first | (rw [if_pos (by decide +kernel)]; kernel_rfl) | (rw [if_neg (by decide +kernel)]; exact ⟨rfl, rfl⟩))
    (fun os started H enc _ => lifted os started H enc)
theorem proved : Rows.FnExactWordInSaid := over
#print axioms proved
end Go.Proofs.Ytpampekijfjlkaa.fnExactWordIn
namespace Go.Proofs.Ytpampekijfjlkaa
/-- The row, under a short name, for the claim. -/
theorem fnExactWordIn_holds : Rows.FnExactWordInSaid := fnExactWordIn.proved
end Go.Proofs.Ytpampekijfjlkaa
