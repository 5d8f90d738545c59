/- The given statement FnExactNestedClaimSaid: the law laws.FnExactNestedClaim returns true for all arguments (the program's NestedClaim returns what the reference's returns, for all arguments). Conditions: none but those that the statement itself names. Joined by a program of this session's: PureFnExactNestedClaim, LawFnExactNestedClaim. -/
import Derived.Test.YtofcmhpoebbnoaaG1671db25a3
import Derived.Test.YtofcmhpoebbnoaaG59c2585890
import Derived.Test.YtofcmhpoebbnoaaRows
import Derived.WalkKit
import Derived.ProofKit
import Derived.OpenShut
import Derived.ShutString
import Derived.ChangeOld
import Derived.Below
import Derived.SizedLaws
import Derived.Test.YtofcmhpoebbnoaaWSized

/- The program's NestedClaim returns what the reference's returns, for all arguments. -/
namespace Go.Proofs.Ytofcmhpoebbnoaa.Pure
open Go.RowKit Go.Proofs.Ytofcmhpoebbnoaa.X Go.Proofs.Ytofcmhpoebbnoaa.L Go.Proofs.YtofcmhpoebbnoaaW.PrintWords Go.Proofs.YtofcmhpoebbnoaaW.PrintLast Go.Proofs.YtofcmhpoebbnoaaW.PrintMore
theorem FnExactNestedClaim : laws_FnExactNestedClaim.Pure := by
  intro p j i l hp hj hi hl hw
  replace hi := i64_wf hi
  refine Ev.rounds (r := true) ?_
  unfold laws_FnExactNestedClaim.f
  rw [szClaim_big i l hl]
  simp only [Option.bind_some]
  by_cases h : (1048576 : Int) - l.length < 0
  · rw [if_pos h]
    exact Ev.yes (by omega) (Ev.some _)
  rw [if_neg h]
  refine Ev.no h ?_
  have hl' : l.length ≤ 1048576 := by omega
  have hcl : (conv l).length ≤ 1048576 := by rw [conv_length]; exact hl'
  have hs : Ev (fun k => spec_NestedClaim.f k p j i (conv l)) (nestR p j i (conv l)) := spec_Nested_ev p j i (conv l) hcl (conv_wf hw) hi.2
  have hm : Ev (fun k => impl_NestedClaim.f k p j i (conv l)) (nestR p j i (conv l)) := impl_Nested_ev p j i (conv l)
  generalize hr : nestR p j i (conv l) = r at hs hm
  have hrl : r.2.1.length ≤ 13 := by rw [← hr]; exact nestR_length
  have hto := toClaim_ev i l hl'
  refine Ev.bind hto (Ev.bind hs (Ev.bind hto (Ev.bind hm (Ev.bind (eqClaim_ev r.1 r.2.1 (by omega)) (Ev.yes rfl ?_)))))
  refine Ev.step (fun k => by simp only [laws_FnExactNestedClaim.j0]; rfl) ?_
  refine Ev.no (by simp) (Ev.bind hto (Ev.bind (eqClaim_ev i (conv l) (by omega)) (Ev.yes rfl (Ev.bind (markClaim_ev i (conv l) (by omega)) (Ev.no (by simp only []; omega) (Ev.bind (eqClaim_ev r.1 r.2.1 (by omega)) (Ev.yes rfl ?_)))))))
  refine Ev.step (fun k => by simp only [laws_FnExactNestedClaim.j1]; rfl) ?_
  refine Ev.no (by simp) (Ev.bind (markClaim_ev r.1 r.2.1 (by omega)) (Ev.bind (heldClaim_ev r.1 r.2.1.length (by omega)) (Ev.no (by omega) (Ev.yes rfl (Ev.bind hto (Ev.bind hm (Ev.bind (eqClaim_ev r.1 r.2.1 (by omega)) (Ev.yes rfl ?_))))))))
  refine Ev.step (fun k => by simp only [laws_FnExactNestedClaim.j2]; rfl) ?_
  exact Ev.no (by simp) (Ev.bind (heldClaim_ev r.1 r.2.1.length (by omega)) (Ev.no (by omega) (Ev.yes rfl (Ev.some _))))
end Go.Proofs.Ytofcmhpoebbnoaa.Pure

-- printed by a program of this session's (xprint)
namespace Go.Proofs.Ytofcmhpoebbnoaa.X
open Go.RowKit Go.Proofs.YtofcmhpoebbnoaaW.PrintWords Go.Proofs.YtofcmhpoebbnoaaW.PrintLast Go.Proofs.YtofcmhpoebbnoaaW.PrintMore
structure S62 where
  f0 : Int
  f1 : (List S85)
def z62 : S62 := ⟨(0 : Int), ([] : List S85)⟩
def k62 : Kd S62 := Kd.iso (Kd.pair (Kd.int .i64) (Kd.slice 85 k85)) (fun x : S62 => (x.f0, x.f1))
theorem k62_heap : Kd.Heap k62 := Kd.heap_iso _ (Kd.heap_pair (Kd.heap_int .i64) (Kd.heap_slice 85 k85_heap))
theorem k62_open {w : World} {x : S62} {cs : List Value} (h : k62.K w x cs) : ∃ A1 c1, cs = [.int .i64 x.f0, .slice A1 x.f1.length c1] ∧ x.f1.length ≤ c1 ∧ k85.C w A1 x.f1.length x.f1 := by
  obtain ⟨_, _, rfl, rfl, ⟨A1, c1, rfl, l1, g1⟩⟩ := h
  exact ⟨A1, c1, rfl, l1, g1⟩
def wf62 (x : S62) : Prop := (Lit.int .i64 x.f0).wf = true ∧ (∀ y ∈ x.f1, wf85 y)
theorem opens62 : Opens Try.prog 62 k62 wf62 :=
  opens_iso (d := Kd.pair (Kd.int .i64) (Kd.slice 85 k85)) (f := fun x : S62 => (x.f0, x.f1)) (fun p => ⟨p.1, p.2⟩) (fun _ => rfl) (opens_struct2 Try.underlying62 rfl rfl (by kernel_rfl) (by kernel_rfl) (by kernel_rfl) rfl rfl (opens_int Try.underlying3) (opens_slice Try.underlying33 (by kernel_rfl) opens85))
end Go.Proofs.Ytofcmhpoebbnoaa.X
namespace Go.Proofs.Ytofcmhpoebbnoaa.fnExactNestedClaim
open Go.ChangeShapes Go.WideShapes Go.ChangeAt Go.RowKit
open Go.ChangeMaps (open_string shut_string)
set_option linter.unusedVariables false
theorem own : ownKnob Try.prog.godebug = none := by kernel_rfl
theorem laidOut : laidOutB Try.prog = true := by kernel_rfl
def IsRow (k : IntKind) (w : World) (a : Option Addr) (len cap : Nat) (zs : List Int) : Prop :=
  (a = none ∧ len = 0 ∧ cap = 0 ∧ zs = []) ∨
  ∃ x, a = some x ∧ len ≤ cap ∧ cap ≤ maxLen ∧ zs.length = cap ∧ (∀ i, i < zs.length → w.cell? (x.add i) = some (.int k (zs.getD i 0))) ∧ ∀ n ∈ zs, (Lit.int k n).wf = true
set_option maxRecDepth 100000 in
theorem lifted (os : Os) (started : os.Started) (H : Type) (enc : TypeId × Value → H) :
    ReturnsInHanded {} Try.checked os 12 .any (Rows.fnExactNestedClaimSpec.pre6 enc Try.prog Try.f12 Rows.fnExactNestedClaimRow.domain false) (Rows.fnExactNestedClaimSpec.post enc Try.prog Try.f12 false true false false) := by
  refine returnsInHanded_of_change_sized (C := Try.checked) own started (by kernel_rfl) Try.func12
    (ChangeSpec.witness6 (enc := enc) (C := Try.checked) false ⟨#[], #[.int .i64 0, .int .i64 0, .agg #[.int .i64 0, .slice none 0 0]], []⟩ 8 (by kernel_rfl) (by kernel_rfl) (by kernel_rfl) (by kernel_rfl)) ?_
  intro W base args ds gs before hval0 hW hcnd hsz0 _
  have hsz : (DataW.weightsEach Try.prog (Try.f12.params.toList ++ Rows.fnExactNestedClaimSpec.plain.varTypes Try.prog) (ds ++ gs)).all (· ≤ reachBytes) = true := hsz0
  have hval : ∀ (j : Nat) t v, Try.f12.params[j]? = some t → args[j]? = some v → Value.okWide Try.prog W .any base t v := hval0
  have hW' := hW
  obtain ⟨p, q, hA0, hV, rfl, hfz, hnd⟩ := hW
  have hA : DataW.TrodAll enc Try.prog W 0 (fun _ => true) true Try.f12.params.toList args.toList ds p := hA0
  rw [Try.params12] at hA hval hsz
  obtain ⟨v0, vs0, d0, ds0, p0, q0, hargs, rfl, rfl, h0, r0⟩ := trodAll_cons hA
  obtain ⟨v1, vs1, d1, ds1, p1, q1, rfl, rfl, rfl, h1, r1⟩ := trodAll_cons r0
  obtain ⟨v2, vs2, d2, ds2, p2, q2, rfl, rfl, rfl, h2, r2⟩ := trodAll_cons r1
  obtain ⟨rfl, rfl, rfl⟩ := trodAll_nil r2
  obtain rfl : args = #[v0, v1, v2] := by cases args; simp_all
  obtain ⟨rfl, rfl⟩ := trodVars_none hV
  obtain ⟨a0, rfl, rfl, rfl, w0⟩ := open_int Try.underlying3 (hval 0 3 v0 rfl rfl) h0
  obtain ⟨a1, rfl, rfl, rfl, w1⟩ := open_int Try.underlying3 (hval 1 3 v1 rfl rfl) h1
  obtain ⟨cs2, rfl, hz2⟩ := okWide_struct Try.underlying62 (hval 2 62 v2 rfl rfl)
  have k2 := h2
  have lt2 : ∀ x ∈ p2, x.block < W.heap.size := by obtain ⟨m, hm⟩ := k2; exact DataW.trod_lt m _ _ _ hm
  obtain ⟨fuel2, hf2⟩ := h2
  obtain ⟨x2, hK2, hw2⟩ := Go.Proofs.Ytofcmhpoebbnoaa.X.opens62 hf2
  obtain ⟨A2, c2, hcs2, hl2, hC2⟩ := Go.Proofs.Ytofcmhpoebbnoaa.X.k62_open hK2
  obtain ⟨cl2⟩ := cs2
  have hcs2' : cl2 = [.int .i64 x2.f0, .slice A2 x2.f1.length c2] := by simpa [Value.cells] using hcs2
  subst hcs2'
  clear hA0 hval0 hsz0 hsz
  refine (X.laws_FnExactNestedClaim.walk Pure.FnExactNestedClaim a0 a1 x2.f0 A2 c2 x2.f1 W w0 w1 hw2.1 hC2 hl2 hw2.2).mono fun e W' ⟨he, bel⟩ => ?_
  subst he
  exact ⟨_, rfl, _, _, _, [], _, [], hW', trodAll_mk1 (shut_bool Try.underlying4 _), (trodAll_cons_mk (shut_int Try.underlying3 w0) (trodAll_cons_mk (shut_int Try.underlying3 w1) (trodAll_cons_mk (Below.trod laidOut (by kernel_rfl) (of_decide_eq_true (by kernel_rfl)) k2 bel lt2) trodAll_mk0))), rfl, bel.frame _, fun h => by cases h⟩
theorem over : Rows.fnExactNestedClaimRow.holds Try.pinned (OpenSpec.ofChange Rows.fnExactNestedClaimSpec) :=
  OpenClaim.holds_of_wide 12 Try.f12 rfl rfl rfl rfl rfl rfl rfl ⟨rfl, rfl, rfl, rfl, rfl⟩ rfl rfl rfl rfl rfl (by kernel_rfl) Try.func12 (by kernel_rfl)
    (of_decide_eq_true (by kernel_rfl)) (by unfold Func.isWrapper; first | (rw [if_pos (by decide +kernel)]; kernel_rfl) | (rw [if_neg (by decide +kernel)]; exact ⟨rfl, rfl⟩))
    (fun os started H enc _ => lifted os started H enc)
theorem proved : Rows.FnExactNestedClaimSaid := over
#print axioms proved
end Go.Proofs.Ytofcmhpoebbnoaa.fnExactNestedClaim
namespace Go.Proofs.Ytofcmhpoebbnoaa
/-- The row, under a short name, for the claim. -/
theorem fnExactNestedClaim_holds : Rows.FnExactNestedClaimSaid := fnExactNestedClaim.proved
end Go.Proofs.Ytofcmhpoebbnoaa
