/- The given statement FnExactSpySaysSaid: the law laws.FnExactSpySays returns true for all arguments (the program's SpySays returns what the reference's returns, for all arguments). Conditions: none but those that the statement itself names. Joined by a program of this session's: PureFnExactSpySays, LawFnExactSpySays. -/
import Derived.Test.YtpampekijfjlkabG8868a70d81
import Derived.Test.YtpampekijfjlkabGec13b0776d
import Derived.Test.YtpampekijfjlkabRows
import Derived.Test.YtpampekijfjlkabG04efc94d84
import Derived.WalkKit
import Derived.ProofKit
import Derived.OpenShut
import Derived.ShutString
import Derived.ChangeOld
import Derived.Below
import Derived.SizedLaws
import Derived.Test.YtpampekijfjlkabVae7e0c1ccc

/- The program's SpySays returns what the reference's returns, for all arguments. -/
namespace Go.Proofs.Ytpampekijfjlkab.Pure
open Go.RowKit Go.Proofs.Ytpampekijfjlkab.X Go.Proofs.Ytpampekijfjlkab.L Go.Proofs.YtpampekijfjlkabW.PrintWords Go.Proofs.YtpampekijfjlkabW.PrintLast Go.Proofs.YtpampekijfjlkabW.PrintMore
theorem FnExactSpySays : laws_FnExactSpySays.Pure := by
 intro ks i l hkl hkw hi hl hw
 refine Ev.rounds (r := true) ?_
 unfold laws_FnExactSpySays.f
 by_cases h0 : (ks.length : Int) > 1048576
 ·exact Ev.yes h0 (Ev.some _)
 refine Ev.no h0 ?_
 have hk' : ks.length ≤ 1048576 := by omega
 rw [szClaim_big i l hl]
 simp only [Option.bind_some]
 by_cases h : (1048576 : Int) - l.length < 0
 ·rw [if_pos h]
  exact Ev.yes (by omega) (Ev.some _)
 rw [if_neg h]
 refine Ev.no h ?_
 have hl' : l.length ≤ 1048576 := by omega
 have hcl : (conv l).length ≤ 1048576 := by rw [conv_length]; exact hl'
 have hto := toClaim_ev i l hl'
 have hti := toIntS_ev ks hk'
 exact Ev.bind hti (Ev.bind hto (Ev.bind (spec_SpySays_ev ks i (conv l) (by omega) (by omega) (conv_wf hw)) (Ev.bind hti (Ev.bind hto (Ev.bind (impl_SpySays_ev ks i (conv l) (by omega)) (Ev.no (by simp) (Ev.bind hti (Ev.bind (eqIntS_ev ks (by omega)) (Ev.yes rfl (Ev.bind hto (Ev.bind (eqClaim_ev i (conv l) (by omega)) (Ev.yes rfl (Ev.some _)))))))))))))
end Go.Proofs.Ytpampekijfjlkab.Pure

-- printed by a program of this session's (xprint)
namespace Go.Proofs.Ytpampekijfjlkab.fnExactSpySays
open Go.ChangeShapes Go.WideShapes Go.ChangeAt Go.RowKit
open Go.ChangeMaps (open_string shut_string)
set_option linter.unusedVariables false
theorem own : ownKnob Try.prog.godebug = none := by kernel_rfl
theorem laidOut : laidOutB Try.prog = true := by kernel_rfl
def IsRow (k : IntKind) (w : World) (a : Option Addr) (len cap : Nat) (zs : List Int) : Prop :=
 (a = none ∧ len = 0 ∧ cap = 0 ∧ zs = []) ∨
 ∃ x, a = some x ∧ len ≤ cap ∧ cap ≤ maxLen ∧ zs.length = cap ∧ (∀ i, i < zs.length → w.cell? (x.add i) = some (.int k (zs.getD i 0))) ∧ ∀ n ∈ zs, (Lit.int k n).wf = true
set_option maxRecDepth 100000 in
theorem lifted (os : Os) (started : os.Started) (H : Type) (enc : TypeId × Value → H) :
  ReturnsInHanded {} Try.checked os 4 .any (Rows.fnExactSpySaysSpec.pre6 enc Try.prog Try.f4 Rows.fnExactSpySaysRow.domain false) (Rows.fnExactSpySaysSpec.post enc Try.prog Try.f4 false true false false) := by
 refine returnsInHanded_of_change_sized (C := Try.checked) own started (by kernel_rfl) Try.func4
  (ChangeSpec.witness6 (enc := enc) (C := Try.checked) false ⟨#[], #[.slice none 0 0, .agg #[.int .i64 0, .slice none 0 0]], []⟩ 8 (by kernel_rfl) (by kernel_rfl) (by kernel_rfl) (by kernel_rfl)) ?_
 intro W base args ds gs before hval0 hW hcnd hsz0 _
 have hsz : (DataW.weightsEach Try.prog (Try.f4.params.toList ++ Rows.fnExactSpySaysSpec.plain.varTypes Try.prog) (ds ++ gs)).all (· ≤ reachBytes) = true := hsz0
 have hval : ∀ (j : Nat) t v, Try.f4.params[j]? = some t → args[j]? = some v → Value.okWide Try.prog W .any base t v := hval0
 have hW' := hW
 obtain ⟨p, q, hA0, hV, rfl, hfz, hnd⟩ := hW
 have hA : DataW.TrodAll enc Try.prog W 0 (fun _ => true) true Try.f4.params.toList args.toList ds p := hA0
 rw [Try.params4] at hA hval hsz
 obtain ⟨v0, vs0, d0, ds0, p0, q0, hargs, rfl, rfl, h0, r0⟩ := trodAll_cons hA
 obtain ⟨v1, vs1, d1, ds1, p1, q1, rfl, rfl, rfl, h1, r1⟩ := trodAll_cons r0
 obtain ⟨rfl, rfl, rfl⟩ := trodAll_nil r1
 obtain rfl : args = #[v0, v1] := by cases args; simp_all
 obtain ⟨rfl, rfl⟩ := trodVars_none hV
 obtain ⟨a0, len0, cap0, rfl⟩ := okWide_slice Try.underlying26 (hval 0 26 v0 rfl rfl)
 have k0 := h0
 have lt0 : ∀ x ∈ p0, x.block < W.heap.size := by obtain ⟨m, hm⟩ := k0; exact DataW.trod_lt m _ _ _ hm
 obtain ⟨fuel0, hf0⟩ := h0
 obtain ⟨l0, ⟨A0, c0, hcs0, hl0, hC0⟩, hw0⟩ := (Go.Proofs.Ytpampekijfjlkab.X.opens_slice Try.underlying26 (by kernel_rfl) (Go.Proofs.Ytpampekijfjlkab.X.opens_int Try.underlying3)) hf0
 simp [Value.cells] at hcs0
 obtain ⟨rfl, rfl, rfl⟩ := hcs0
 obtain ⟨cs1, rfl, hz1⟩ := okWide_struct Try.underlying40 (hval 1 40 v1 rfl rfl)
 have k1 := h1
 have lt1 : ∀ x ∈ p1, x.block < W.heap.size := by obtain ⟨m, hm⟩ := k1; exact DataW.trod_lt m _ _ _ hm
 obtain ⟨fuel1, hf1⟩ := h1
 obtain ⟨x1, hK1, hw1⟩ := Go.Proofs.Ytpampekijfjlkab.X.opens40 hf1
 obtain ⟨A1, c1, hcs1, hl1, hC1⟩ := Go.Proofs.Ytpampekijfjlkab.X.k40_open hK1
 obtain ⟨cl1⟩ := cs1
 have hcs1' : cl1 = [.int .i64 x1.f0, .slice A1 x1.f1.length c1] := by simpa [Value.cells] using hcs1
 subst hcs1'
 clear hA0 hval0 hsz0 hsz
 refine (X.laws_FnExactSpySays.walk Pure.FnExactSpySays a0 cap0 l0 x1.f0 A1 c1 x1.f1 W hC0 hl0 hw0 hw1.1 hC1 hl1 hw1.2).mono fun e W' ⟨he, bel⟩ => ?_
 subst he
 exact ⟨_, rfl, _, _, _, [], _, [], hW', trodAll_mk1 (shut_bool Try.underlying4 _), (trodAll_cons_mk (Below.trod laidOut (by kernel_rfl) (of_decide_eq_true (by kernel_rfl)) k0 bel lt0) (trodAll_cons_mk (Below.trod laidOut (by kernel_rfl) (of_decide_eq_true (by kernel_rfl)) k1 bel lt1) trodAll_mk0)), rfl, bel.frame _, fun h => by cases h⟩
theorem closed_ : joinedFacts Try.pinned.checked.prog 4 Try.f4 Rows.fnExactSpySaysSpec Rows.fnExactSpySaysRow = true := by
 unfold joinedFacts
 rw [X.may_, X.fin_, X.make_]
 kernel_rfl
theorem over : Rows.fnExactSpySaysRow.holds Try.pinned (OpenSpec.ofChange Rows.fnExactSpySaysSpec) :=
 OpenClaim.holds_of_wide 4 Try.f4 rfl rfl rfl rfl rfl rfl rfl ⟨rfl, rfl, rfl, rfl, rfl⟩ rfl rfl rfl rfl rfl (by kernel_rfl) Try.func4 closed_
  (of_decide_eq_true (by kernel_rfl)) (by unfold Func.isWrapper; first | (rw [if_pos (by decide +kernel)]; kernel_rfl) | (rw [if_neg (by decide +kernel)]; exact ⟨rfl, rfl⟩))
  (fun os started H enc _ => lifted os started H enc)
theorem proved : Rows.FnExactSpySaysSaid := over
#print axioms proved
end Go.Proofs.Ytpampekijfjlkab.fnExactSpySays
namespace Go.Proofs.Ytpampekijfjlkab
/-- The row, under a short name, for the claim. -/
theorem fnExactSpySays_holds : Rows.FnExactSpySaysSaid := fnExactSpySays.proved
end Go.Proofs.Ytpampekijfjlkab
