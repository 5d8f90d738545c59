/- The given statement FnAnswerInSaid: the law laws.FnAnswerIn returns true for all arguments (yes is a claim, and no its denial: for every code). Conditions: none but those that the statement itself names. Joined by a program of this session's: PureFnAnswerIn, LawFnAnswerIn. -/
import Derived.Test.YtpampekijfjlkaaG20ceafd675
import Derived.Test.YtpampekijfjlkaaGb311bbe806
import Derived.Test.YtpampekijfjlkaaRows
import Derived.Test.YtpampekijfjlkaaG5820c917b6
import Derived.WalkKit
import Derived.ProofKit
import Derived.OpenShut
import Derived.ShutString
import Derived.ChangeOld
import Derived.Below
import Derived.SizedLaws
import Derived.Test.YtpampekijfjlkaaV8d9e122a77

/- Yes is a claim, and no its denial: for every code. -/
namespace Go.Proofs.Ytpampekijfjlkaa.Pure
open Go.RowKit Go.Proofs.Ytpampekijfjlkaa.X Go.Proofs.Ytpampekijfjlkaa.L Go.Proofs.YtpampekijfjlkaaW.PrintWords Go.Proofs.YtpampekijfjlkaaW.PrintLast Go.Proofs.YtpampekijfjlkaaW.PrintMore
theorem FnAnswerIn : laws_FnAnswerIn.Pure := by
 intro l h1 h2 h3
 refine Ev.rounds (r := true) ?_
 unfold laws_FnAnswerIn.f
 by_cases h : (l.length : Int) > 1048576
 ·exact Ev.yes h (Ev.some _)
 refine Ev.no h ?_
 obtain ⟨p, i, t, w, hd, hp1, hp4, hi0, hi1, htl, hsm, hw0, hw1⟩ := DrawAnswerIn_ev h3
 refine Ev.bind hd (Ev.bind (impl_Answer_ev p i t w) (Ev.bind (spec_Answer_ev p i t w (by omega) hsm.wf) (Ev.yes rfl ?_)))
 by_cases hc : wok p w = true ∧ tok p t = true ∧ 0 ≤ i ∧ i < p
 ·obtain ⟨q, rfl, hq1, hq4, hq2, e⟩ := people_nat hp1 hp4
  obtain ⟨j, rfl⟩ := Int.eq_ofNat_of_zero_le hi0
  obtain ⟨v, rfl, hv, hv2⟩ := wok_nat hc.1
  rw [e] at hv2
  have ha : answer (q : Int) (j : Int) t (v : Int) = if may (j : Int) t v = true then 1 else 0 := answer_in hc
  have hb : (answer (q : Int) (j : Int) t (v : Int) == 1) = may (j : Int) t v := by rw [ha]; cases may (j : Int) t v <;> rfl
  have hfin : ((Int.tmod (shr .i64 (v : Int) (j : Int)) 2 == 1) == (holdsIn (q : Int) t (v : Int) == (answer (q : Int) (j : Int) t (v : Int) == 1))) = true := by
   rw [hb, holdsIn_of hc.2.1 hv2, bit_int hv (by omega), may, Int.toNat_natCast]
   cases v.testBit j <;> cases L.hv t v <;> simp
  have hlt : ¬ answer (q : Int) (j : Int) t (v : Int) < 0 := by rw [ha]; split <;> omega
  have hle : answer (q : Int) (j : Int) t (v : Int) ≤ 1 := by rw [ha]; split <;> omega
  refine Ev.no hlt (Ev.bind (impl_HoldsIn_ev (q : Int) t (v : Int)) (Ev.yes hle (Ev.bind (spec_ClaimOk_ev (q : Int) (j : Int) t (by omega) hsm.wf) ?_)))
  by_cases hk : clok (q : Int) (j : Int) t = true
  ·refine Ev.yes hk (Ev.bind (impl_MaySay_ev (q : Int) (j : Int) t (v : Int)) (Ev.yes ?_ (Ev.yes (by omega) (Ev.cast (Ev.some _) hfin))))
   rw [hb, maySay, if_pos ⟨hk, hc.1⟩, Int.toNat_natCast]
   simp
  ·exact Ev.no hk (Ev.yes (by omega) (Ev.cast (Ev.some _) hfin))
 ·rw [answer_out hc]
  refine Ev.yes (by omega) (Ev.yes rfl ?_)
  rw [alive_eq]
  exact Ev.some _
end Go.Proofs.Ytpampekijfjlkaa.Pure

-- printed by a program of this session's (xprint)
namespace Go.Proofs.Ytpampekijfjlkaa.fnAnswerIn
open Go.ChangeShapes Go.WideShapes Go.ChangeAt Go.RowKit
open Go.ChangeMaps (open_string shut_string)
set_option linter.unusedVariables false
theorem own : ownKnob Try.prog.godebug = none := by kernel_rfl
theorem laidOut : laidOutB Try.prog = true := by kernel_rfl
def IsRow (k : IntKind) (w : World) (a : Option Addr) (len cap : Nat) (zs : List Int) : Prop :=
 (a = none ∧ len = 0 ∧ cap = 0 ∧ zs = []) ∨
 ∃ x, a = some x ∧ len ≤ cap ∧ cap ≤ maxLen ∧ zs.length = cap ∧ (∀ i, i < zs.length → w.cell? (x.add i) = some (.int k (zs.getD i 0))) ∧ ∀ n ∈ zs, (Lit.int k n).wf = true
set_option maxRecDepth 100000 in
theorem lifted (os : Os) (started : os.Started) (H : Type) (enc : TypeId × Value → H) :
  ReturnsInHanded {} Try.checked os 21 .any (Rows.fnAnswerInSpec.pre6 enc Try.prog Try.f21 Rows.fnAnswerInRow.domain false) (Rows.fnAnswerInSpec.post enc Try.prog Try.f21 false true false false) := by
 refine returnsInHanded_of_change_sized (C := Try.checked) own started (by kernel_rfl) Try.func21
  (ChangeSpec.witness6 (enc := enc) (C := Try.checked) false ⟨#[], #[.slice none 0 0], []⟩ 8 (by kernel_rfl) (by kernel_rfl) (by kernel_rfl) (by kernel_rfl)) ?_
 intro W base args ds gs before hval0 hW hcnd hsz0 _
 have hsz : (DataW.weightsEach Try.prog (Try.f21.params.toList ++ Rows.fnAnswerInSpec.plain.varTypes Try.prog) (ds ++ gs)).all (· ≤ reachBytes) = true := hsz0
 have hval : ∀ (j : Nat) t v, Try.f21.params[j]? = some t → args[j]? = some v → Value.okWide Try.prog W .any base t v := hval0
 have hW' := hW
 obtain ⟨p, q, hA0, hV, rfl, hfz, hnd⟩ := hW
 have hA : DataW.TrodAll enc Try.prog W 0 (fun _ => true) true Try.f21.params.toList args.toList ds p := hA0
 rw [Try.params21] at hA hval hsz
 obtain ⟨v0, vs0, d0, ds0, p0, q0, hargs, rfl, rfl, h0, r0⟩ := trodAll_cons hA
 obtain ⟨rfl, rfl, rfl⟩ := trodAll_nil r0
 obtain rfl : args = #[v0] := by cases args; simp_all
 obtain ⟨rfl, rfl⟩ := trodVars_none hV
 obtain ⟨a0, len0, cap0, rfl⟩ := okWide_slice Try.underlying38 (hval 0 38 v0 rfl rfl)
 have k0 := h0
 have lt0 : ∀ x ∈ p0, x.block < W.heap.size := by obtain ⟨m, hm⟩ := k0; exact DataW.trod_lt m _ _ _ hm
 obtain ⟨z0, w0⟩ : ∃ zs, IsRow .u8 W a0 len0 cap0 zs := by
  obtain ⟨fuel, hf⟩ := h0
  rcases open_ints Try.underlying38 Try.underlying5 (by kernel_rfl) hf with ⟨hcs, _⟩ | ⟨x, l, c, zs, hcs, _, hl, hm, hz, _, hcell, hwz⟩
  ·simp [Value.cells] at hcs
   obtain ⟨rfl, rfl, rfl⟩ := hcs
   exact ⟨[], .inl ⟨rfl, rfl, rfl, rfl⟩⟩
  ·simp [Value.cells] at hcs
   obtain ⟨rfl, rfl, rfl⟩ := hcs
   exact ⟨zs, .inr ⟨_, rfl, hl, hm, by simpa using hz, hcell, hwz⟩⟩
 have y0 : len0 * 1 ≤ 140737488351232 := Go.Proofs.YtpampekijfjlkaaW.PrintWords.sized_ints hsz (j := 0) (t := 38) rfl rfl Try.underlying38 Try.underlying5 (by kernel_rfl) (by kernel_rfl) h0
 clear hA0 hval0 hsz0 hsz
 refine (X.laws_FnAnswerIn.walk Pure.FnAnswerIn a0 len0 cap0 z0 W w0 y0).mono fun e W' ⟨he, bel⟩ => ?_
 subst he
 exact ⟨_, rfl, _, _, _, [], _, [], hW', trodAll_mk1 (shut_bool Try.underlying4 _), (trodAll_cons_mk (Below.trod laidOut (by kernel_rfl) (of_decide_eq_true (by kernel_rfl)) k0 bel lt0) trodAll_mk0), rfl, bel.frame _, fun h => by cases h⟩
theorem closed_ : joinedFacts Try.pinned.checked.prog 21 Try.f21 Rows.fnAnswerInSpec Rows.fnAnswerInRow = true := by
 unfold joinedFacts
 rw [X.may_, X.fin_, X.make_]
 kernel_rfl
theorem over : Rows.fnAnswerInRow.holds Try.pinned (OpenSpec.ofChange Rows.fnAnswerInSpec) :=
 OpenClaim.holds_of_wide 21 Try.f21 rfl rfl rfl rfl rfl rfl rfl ⟨rfl, rfl, rfl, rfl, rfl⟩ rfl rfl rfl rfl rfl (by kernel_rfl) Try.func21 closed_
  (of_decide_eq_true (by kernel_rfl)) (by unfold Func.isWrapper; first | (rw [if_pos (by decide +kernel)]; kernel_rfl) | (rw [if_neg (by decide +kernel)]; exact ⟨rfl, rfl⟩))
  (fun os started H enc _ => lifted os started H enc)
theorem proved : Rows.FnAnswerInSaid := over
#print axioms proved
end Go.Proofs.Ytpampekijfjlkaa.fnAnswerIn
namespace Go.Proofs.Ytpampekijfjlkaa
/-- The row, under a short name, for the claim. -/
theorem fnAnswerIn_holds : Rows.FnAnswerInSaid := fnAnswerIn.proved
end Go.Proofs.Ytpampekijfjlkaa
