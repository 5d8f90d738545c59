/- The given statement FnClaimTableSaid: the law laws.FnClaimTable returns true for all arguments (said and denied are all worlds: for every code). Conditions: none but those that the statement itself names. Joined by a program of this session's: PureFnClaimTable, LawFnClaimTable. -/
import Derived.Test.YtpampekijfjlkabG23ed79c7f3
import Derived.Test.YtpampekijfjlkabG8778f2e529
import Derived.Test.YtpampekijfjlkabG6d2291af08
import Derived.Test.YtpampekijfjlkabRows
import Derived.Test.YtpampekijfjlkabGc83f71a1df
import Derived.WalkKit
import Derived.ProofKit
import Derived.OpenShut
import Derived.ShutString
import Derived.ChangeOld
import Derived.Below
import Derived.SizedLaws
import Derived.Test.YtpampekijfjlkabV8d51cf6262

/- Said and denied are all worlds: for every code. -/
namespace Go.Proofs.Ytpampekijfjlkab.Pure
open Go.RowKit Go.Proofs.Ytpampekijfjlkab.X Go.Proofs.Ytpampekijfjlkab.L Go.Proofs.YtpampekijfjlkabW.PrintWords Go.Proofs.YtpampekijfjlkabW.PrintLast Go.Proofs.YtpampekijfjlkabW.PrintMore
theorem ClaimTerm_ev {p i : Int} {t : List M} (h : clok p i t = true) : Ev (fun k => impl_ClaimTerm.f k p i t) (wrapM i t) := by
 unfold impl_ClaimTerm.f
 refine Ev.bind (impl_ClaimOk_ev p i t) (Ev.yes h ?_)
 rw [trick_eq i t (by have := (clok_iff.1 h).2.2.2; omega)]
 exact Ev.some _
theorem tok_claim {p i : Int} {t : List M} (h : clok p i t = true) : tok p (wrapM i t) = true := by
 obtain ⟨h0, h1, hk, h13⟩ := clok_iff.1 h
 obtain ⟨a, hg, rfl, h4, hl⟩ := tok_tree hk
 obtain ⟨j, rfl⟩ := Int.eq_ofNat_of_zero_le h0
 have e : wrapM (j : Int) a.post = (Tm.bin 5 (.tell j) a).post := by simp [wrapM, Tm.post]
 have hx := tok_iff.1 hk
 have hl2 := wrapM_length (j : Int) a.post
 rw [e] at hl2 ⊢
 exact tok_post hx.1 hx.2.1 ⟨by omega, h1, hg⟩ (by omega)
theorem FnClaimTable : laws_FnClaimTable.Pure := by
 intro l h1 h2 h3
 refine Ev.rounds (r := true) ?_
 unfold laws_FnClaimTable.f
 by_cases h : (l.length : Int) > 1048576
 ·exact Ev.yes h (Ev.some _)
 refine Ev.no h ?_
 obtain ⟨p, i, t, hd, hp1, hp4, hi0, hi1, htl, hsm⟩ := DrawClaimTable_ev h3
 refine Ev.bind hd (Ev.bind (impl_ClaimTable_ev p i t) (Ev.bind (spec_ClaimTable_ev p i t (by omega) hsm.wf) (Ev.yes rfl ?_)))
 by_cases hc : clok p i t = true
 ·rw [if_pos hc]
  obtain ⟨q, rfl, hq1, hq4, hq2, e⟩ := people_nat hp1 hp4
  obtain ⟨hi2, hi3, hk, _⟩ := clok_iff.1 hc
  have htt : ttab (q : Int) (wrapM i t) = ctab (q : Int) i t := by
   unfold ttab ctab
   rw [e]
   refine tabL_congr (fun w hw => ?_)
   rw [hv_wrap hk hi2 hi3 (by omega), may]
   exact Bool.beq_comm
  refine Ev.no (by omega) (Ev.bind (impl_Deny_ev (q : Int) i t) (Ev.bind (ClaimTerm_ev hc) (Ev.bind (impl_TableOf_ev (q : Int) (wrapM i t)) (Ev.yes ?_ ?_))))
  ·rw [if_pos (tok_claim hc), htt]
  ·by_cases hn : clok (q : Int) i (t ++ [⟨2, 0⟩]) = true
   ·have ed : denyR (q : Int) i t = (i, t ++ [⟨2, 0⟩], true) := by rw [denyR, if_pos hc, claimR, if_pos hn]
    rw [ed]
    have hct := impl_ClaimTable_ev (q : Int) i (t ++ [⟨2, 0⟩])
    rw [if_pos hn] at hct
    rw [full_eq hq1 hq4]
    generalize hfq : fullT q = F at *
    refine Ev.yes rfl (Ev.bind hct (Ev.yes (by omega) (Ev.cast (Ev.some _) ?_)))
    have hx : ctab (q : Int) i (t ++ [⟨2, 0⟩]) = F - ctab (q : Int) i t := by
     rw [← hfq]
     unfold ctab fullT
     rw [e, ← tabL_not]
     exact tabL_congr (fun w hw => may_not hk (by omega))
    have hlt : ctab (q : Int) i t < 2 ^ (2 ^ q) := by unfold ctab; rw [e]; exact tabL_lt _ _
    have hf := full_lt hq4
    have hle : ctab (q : Int) i t ≤ F := by rw [← hfq]; unfold fullT; omega
    rw [hfq] at hf
    rw [w64 (by omega) (by omega), hx]
    exact beq_iff_eq.2 (by omega)
   ·have ed : denyR (q : Int) i t = (0, [], false) := by rw [denyR, if_pos hc, claimR, if_neg hn]
    rw [ed]
    exact Ev.no (by simp) (Ev.some _)
 ·rw [if_neg hc]
  refine Ev.yes (by omega) (Ev.yes rfl (Ev.bind (impl_ClaimOk_ev p i t) (Ev.no hc ?_)))
  rw [alive_eq']
  exact Ev.some _
end Go.Proofs.Ytpampekijfjlkab.Pure

-- printed by a program of this session's (xprint)
namespace Go.Proofs.Ytpampekijfjlkab.fnClaimTable
open Go.ChangeShapes Go.WideShapes Go.ChangeAt Go.RowKit
open Go.ChangeMaps (open_string shut_string)
set_option linter.unusedVariables false
theorem own : ownKnob Try.prog.godebug = none := by kernel_rfl
theorem laidOut : laidOutB Try.prog = true := by kernel_rfl
def IsRow (k : IntKind) (w : World) (a : Option Addr) (len cap : Nat) (zs : List Int) : Prop :=
 (a = none ∧ len = 0 ∧ cap = 0 ∧ zs = []) ∨
 ∃ x, a = some x ∧ len ≤ cap ∧ cap ≤ maxLen ∧ zs.length = cap ∧ (∀ i, i < zs.length → w.cell? (x.add i) = some (.int k (zs.getD i 0))) ∧ ∀ n ∈ zs, (Lit.int k n).wf = true
set_option maxRecDepth 100000 in
theorem lifted (os : Os) (started : os.Started) (H : Type) (enc : TypeId × Value → H) :
  ReturnsInHanded {} Try.checked os 7 .any (Rows.fnClaimTableSpec.pre6 enc Try.prog Try.f7 Rows.fnClaimTableRow.domain false) (Rows.fnClaimTableSpec.post enc Try.prog Try.f7 false true false false) := by
 refine returnsInHanded_of_change_sized (C := Try.checked) own started (by kernel_rfl) Try.func7
  (ChangeSpec.witness6 (enc := enc) (C := Try.checked) false ⟨#[], #[.slice none 0 0], []⟩ 8 (by kernel_rfl) (by kernel_rfl) (by kernel_rfl) (by kernel_rfl)) ?_
 intro W base args ds gs before hval0 hW hcnd hsz0 _
 have hsz : (DataW.weightsEach Try.prog (Try.f7.params.toList ++ Rows.fnClaimTableSpec.plain.varTypes Try.prog) (ds ++ gs)).all (· ≤ reachBytes) = true := hsz0
 have hval : ∀ (j : Nat) t v, Try.f7.params[j]? = some t → args[j]? = some v → Value.okWide Try.prog W .any base t v := hval0
 have hW' := hW
 obtain ⟨p, q, hA0, hV, rfl, hfz, hnd⟩ := hW
 have hA : DataW.TrodAll enc Try.prog W 0 (fun _ => true) true Try.f7.params.toList args.toList ds p := hA0
 rw [Try.params7] at hA hval hsz
 obtain ⟨v0, vs0, d0, ds0, p0, q0, hargs, rfl, rfl, h0, r0⟩ := trodAll_cons hA
 obtain ⟨rfl, rfl, rfl⟩ := trodAll_nil r0
 obtain rfl : args = #[v0] := by cases args; simp_all
 obtain ⟨rfl, rfl⟩ := trodVars_none hV
 obtain ⟨a0, len0, cap0, rfl⟩ := okWide_slice Try.underlying22 (hval 0 22 v0 rfl rfl)
 have k0 := h0
 have lt0 : ∀ x ∈ p0, x.block < W.heap.size := by obtain ⟨m, hm⟩ := k0; exact DataW.trod_lt m _ _ _ hm
 obtain ⟨z0, w0⟩ : ∃ zs, IsRow .u8 W a0 len0 cap0 zs := by
  obtain ⟨fuel, hf⟩ := h0
  rcases open_ints Try.underlying22 Try.underlying5 (by kernel_rfl) hf with ⟨hcs, _⟩ | ⟨x, l, c, zs, hcs, _, hl, hm, hz, _, hcell, hwz⟩
  ·simp [Value.cells] at hcs
   obtain ⟨rfl, rfl, rfl⟩ := hcs
   exact ⟨[], .inl ⟨rfl, rfl, rfl, rfl⟩⟩
  ·simp [Value.cells] at hcs
   obtain ⟨rfl, rfl, rfl⟩ := hcs
   exact ⟨zs, .inr ⟨_, rfl, hl, hm, by simpa using hz, hcell, hwz⟩⟩
 have y0 : len0 * 1 ≤ 140737488351232 := Go.Proofs.YtpampekijfjlkabW.PrintWords.sized_ints hsz (j := 0) (t := 22) rfl rfl Try.underlying22 Try.underlying5 (by kernel_rfl) (by kernel_rfl) h0
 clear hA0 hval0 hsz0 hsz
 refine (X.laws_FnClaimTable.walk Pure.FnClaimTable a0 len0 cap0 z0 W w0 y0).mono fun e W' ⟨he, bel⟩ => ?_
 subst he
 exact ⟨_, rfl, _, _, _, [], _, [], hW', trodAll_mk1 (shut_bool Try.underlying4 _), (trodAll_cons_mk (Below.trod laidOut (by kernel_rfl) (of_decide_eq_true (by kernel_rfl)) k0 bel lt0) trodAll_mk0), rfl, bel.frame _, fun h => by cases h⟩
theorem closed_ : joinedFacts Try.pinned.checked.prog 7 Try.f7 Rows.fnClaimTableSpec Rows.fnClaimTableRow = true := by
 unfold joinedFacts
 rw [X.may_, X.fin_, X.make_]
 kernel_rfl
theorem over : Rows.fnClaimTableRow.holds Try.pinned (OpenSpec.ofChange Rows.fnClaimTableSpec) :=
 OpenClaim.holds_of_wide 7 Try.f7 rfl rfl rfl rfl rfl rfl rfl ⟨rfl, rfl, rfl, rfl, rfl⟩ rfl rfl rfl rfl rfl (by kernel_rfl) Try.func7 closed_
  (of_decide_eq_true (by kernel_rfl)) (by unfold Func.isWrapper; first | (rw [if_pos (by decide +kernel)]; kernel_rfl) | (rw [if_neg (by decide +kernel)]; exact ⟨rfl, rfl⟩))
  (fun os started H enc _ => lifted os started H enc)
theorem proved : Rows.FnClaimTableSaid := over
#print axioms proved
end Go.Proofs.Ytpampekijfjlkab.fnClaimTable
namespace Go.Proofs.Ytpampekijfjlkab
/-- The row, under a short name, for the claim. -/
theorem fnClaimTable_holds : Rows.FnClaimTableSaid := fnClaimTable.proved
end Go.Proofs.Ytpampekijfjlkab
