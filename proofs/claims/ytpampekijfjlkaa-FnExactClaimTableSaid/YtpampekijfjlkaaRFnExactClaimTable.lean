/- The given statement FnExactClaimTableSaid: the law laws.FnExactClaimTable returns true for all arguments (the program's ClaimTable returns what the reference's returns, for all arguments). Conditions: none but those that the statement itself names. Joined by a program of this session's: PureFnExactClaimTable, LawFnExactClaimTable. -/
import Derived.Test.YtpampekijfjlkaaGe49e37ca43
import Derived.Test.YtpampekijfjlkaaRows
import Derived.Test.YtpampekijfjlkaaG8f120a831e
import Derived.WalkKit
import Derived.ProofKit
import Derived.OpenShut
import Derived.ShutString
import Derived.ChangeOld
import Derived.Below
import Derived.SizedLaws
import Derived.Test.YtpampekijfjlkaaWSized

/- The program's ClaimTable returns what the reference's returns, for all arguments. -/
namespace Go.Proofs.Ytpampekijfjlkaa.Pure
open Go.RowKit Go.Proofs.Ytpampekijfjlkaa.X Go.Proofs.Ytpampekijfjlkaa.L Go.Proofs.YtpampekijfjlkaaW.PrintWords Go.Proofs.YtpampekijfjlkaaW.PrintLast Go.Proofs.YtpampekijfjlkaaW.PrintMore
theorem FnExactClaimTable : laws_FnExactClaimTable.Pure := by
  intro p i l hp hi hl hw
  refine Ev.rounds (r := true) ?_
  unfold laws_FnExactClaimTable.f
  rw [szClaim_big i l hl]
  simp only [Option.bind_some]
  by_cases h : (1048576 : Int) - l.length < 0
  · rw [if_pos h]
    exact Ev.yes (by omega) (Ev.some _)
  rw [if_neg h]
  refine Ev.no h ?_
  have hl' : l.length ≤ 1048576 := by omega
  have hcl : (conv l).length ≤ 1048576 := by rw [conv_length]; exact hl'
  have hto := toClaim_ev i l hl'
  refine Ev.bind hto (Ev.bind (spec_ClaimTable_ev p i (conv l) (by omega) (conv_wf hw)) (Ev.bind hto (Ev.bind (impl_ClaimTable_ev p i (conv l)) (Ev.yes rfl (Ev.bind hto (Ev.bind (eqClaim_ev i (conv l) (by omega)) (Ev.yes rfl (Ev.some _))))))))
end Go.Proofs.Ytpampekijfjlkaa.Pure

-- printed by a program of this session's (xprint)
namespace Go.Proofs.Ytpampekijfjlkaa.X
open Go.RowKit Go.Proofs.YtpampekijfjlkaaW.PrintWords Go.Proofs.YtpampekijfjlkaaW.PrintLast Go.Proofs.YtpampekijfjlkaaW.PrintMore
def wf68 (x : S68) : Prop := (Lit.int .i64 x.f0).wf = true ∧ (∀ y ∈ x.f1, wf92 y)
theorem opens68 : Opens Try.prog 68 k68 wf68 :=
  opens_iso (d := Kd.pair (Kd.int .i64) (Kd.slice 92 k92)) (f := fun x : S68 => (x.f0, x.f1)) (fun p => ⟨p.1, p.2⟩) (fun _ => rfl) (opens_struct2 Try.underlying68 rfl rfl (by kernel_rfl) (by kernel_rfl) (by kernel_rfl) rfl rfl (opens_int Try.underlying3) (opens_slice Try.underlying31 (by kernel_rfl) opens92))
end Go.Proofs.Ytpampekijfjlkaa.X
namespace Go.Proofs.Ytpampekijfjlkaa.fnExactClaimTable
open Go.ChangeShapes Go.WideShapes Go.ChangeAt Go.RowKit
open Go.ChangeMaps (open_string shut_string)
set_option linter.unusedVariables false
theorem own : ownKnob Try.prog.godebug = none := by kernel_rfl
theorem laidOut : laidOutB Try.prog = true := by kernel_rfl
def IsRow (k : IntKind) (w : World) (a : Option Addr) (len cap : Nat) (zs : List Int) : Prop :=
  (a = none ∧ len = 0 ∧ cap = 0 ∧ zs = []) ∨
  ∃ x, a = some x ∧ len ≤ cap ∧ cap ≤ maxLen ∧ zs.length = cap ∧ (∀ i, i < zs.length → w.cell? (x.add i) = some (.int k (zs.getD i 0))) ∧ ∀ n ∈ zs, (Lit.int k n).wf = true
set_option maxRecDepth 100000 in
theorem lifted (os : Os) (started : os.Started) (H : Type) (enc : TypeId × Value → H) :
    ReturnsInHanded {} Try.checked os 14 .any (Rows.fnExactClaimTableSpec.pre6 enc Try.prog Try.f14 Rows.fnExactClaimTableRow.domain false) (Rows.fnExactClaimTableSpec.post enc Try.prog Try.f14 false true false false) := by
  refine returnsInHanded_of_change_sized (C := Try.checked) own started (by kernel_rfl) Try.func14
    (ChangeSpec.witness6 (enc := enc) (C := Try.checked) false ⟨#[], #[.int .i64 0, .agg #[.int .i64 0, .slice none 0 0]], []⟩ 8 (by kernel_rfl) (by kernel_rfl) (by kernel_rfl) (by kernel_rfl)) ?_
  intro W base args ds gs before hval0 hW hcnd hsz0 _
  have hsz : (DataW.weightsEach Try.prog (Try.f14.params.toList ++ Rows.fnExactClaimTableSpec.plain.varTypes Try.prog) (ds ++ gs)).all (· ≤ reachBytes) = true := hsz0
  have hval : ∀ (j : Nat) t v, Try.f14.params[j]? = some t → args[j]? = some v → Value.okWide Try.prog W .any base t v := hval0
  have hW' := hW
  obtain ⟨p, q, hA0, hV, rfl, hfz, hnd⟩ := hW
  have hA : DataW.TrodAll enc Try.prog W 0 (fun _ => true) true Try.f14.params.toList args.toList ds p := hA0
  rw [Try.params14] at hA hval hsz
  obtain ⟨v0, vs0, d0, ds0, p0, q0, hargs, rfl, rfl, h0, r0⟩ := trodAll_cons hA
  obtain ⟨v1, vs1, d1, ds1, p1, q1, rfl, rfl, rfl, h1, r1⟩ := trodAll_cons r0
  obtain ⟨rfl, rfl, rfl⟩ := trodAll_nil r1
  obtain rfl : args = #[v0, v1] := by cases args; simp_all
  obtain ⟨rfl, rfl⟩ := trodVars_none hV
  obtain ⟨a0, rfl, rfl, rfl, w0⟩ := open_int Try.underlying3 (hval 0 3 v0 rfl rfl) h0
  obtain ⟨cs1, rfl, hz1⟩ := okWide_struct Try.underlying68 (hval 1 68 v1 rfl rfl)
  have k1 := h1
  have lt1 : ∀ x ∈ p1, x.block < W.heap.size := by obtain ⟨m, hm⟩ := k1; exact DataW.trod_lt m _ _ _ hm
  obtain ⟨fuel1, hf1⟩ := h1
  obtain ⟨x1, hK1, hw1⟩ := Go.Proofs.Ytpampekijfjlkaa.X.opens68 hf1
  obtain ⟨A1, c1, hcs1, hl1, hC1⟩ := Go.Proofs.Ytpampekijfjlkaa.X.k68_open hK1
  obtain ⟨cl1⟩ := cs1
  have hcs1' : cl1 = [.int .i64 x1.f0, .slice A1 x1.f1.length c1] := by simpa [Value.cells] using hcs1
  subst hcs1'
  clear hA0 hval0 hsz0 hsz
  refine (X.laws_FnExactClaimTable.walk Pure.FnExactClaimTable a0 x1.f0 A1 c1 x1.f1 W w0 hw1.1 hC1 hl1 hw1.2).mono fun e W' ⟨he, bel⟩ => ?_
  subst he
  exact ⟨_, rfl, _, _, _, [], _, [], hW', trodAll_mk1 (shut_bool Try.underlying4 _), (trodAll_cons_mk (shut_int Try.underlying3 w0) (trodAll_cons_mk (Below.trod laidOut (by kernel_rfl) (of_decide_eq_true (by kernel_rfl)) k1 bel lt1) trodAll_mk0)), rfl, bel.frame _, fun h => by cases h⟩
theorem closed_ : joinedFacts Try.pinned.checked.prog 14 Try.f14 Rows.fnExactClaimTableSpec Rows.fnExactClaimTableRow = true := by
  unfold joinedFacts
  rw [X.may_, X.fin_, X.make_]
  kernel_rfl
theorem over : Rows.fnExactClaimTableRow.holds Try.pinned (OpenSpec.ofChange Rows.fnExactClaimTableSpec) :=
  OpenClaim.holds_of_wide 14 Try.f14 rfl rfl rfl rfl rfl rfl rfl ⟨rfl, rfl, rfl, rfl, rfl⟩ rfl rfl rfl rfl rfl (by kernel_rfl) Try.func14 closed_
    (of_decide_eq_true (by kernel_rfl)) (by unfold Func.isWrapper; first | (rw [if_pos (by decide +kernel)]; kernel_rfl) | (rw [if_neg (by decide +kernel)]; exact ⟨rfl, rfl⟩))
    (fun os started H enc _ => lifted os started H enc)
theorem proved : Rows.FnExactClaimTableSaid := over
#print axioms proved
end Go.Proofs.Ytpampekijfjlkaa.fnExactClaimTable
namespace Go.Proofs.Ytpampekijfjlkaa
/-- The row, under a short name, for the claim. -/
theorem fnExactClaimTable_holds : Rows.FnExactClaimTableSaid := fnExactClaimTable.proved
end Go.Proofs.Ytpampekijfjlkaa
