/- The given statement FnSayCountSaid: the law laws.FnSayCount returns true for all arguments (said and denied have all worlds: for every code). Conditions: none but those that the statement itself names. Joined by a program of this session's: PureFnSayCount, LawFnSayCount. -/
import Derived.Test.YtpampekijfjlkabGadc1433821
import Derived.Test.YtpampekijfjlkabG5fcf45bb52
import Derived.Test.YtpampekijfjlkabRows
import Derived.Test.YtpampekijfjlkabGe19ff33935
import Derived.WalkKit
import Derived.ProofKit
import Derived.OpenShut
import Derived.ShutString
import Derived.ChangeOld
import Derived.Below
import Derived.SizedLaws
import Derived.Test.YtpampekijfjlkabV8d51cf6262

/- Said and denied have all worlds: for every code. -/
namespace Go.Proofs.Ytpampekijfjlkab.Pure
open Go.RowKit Go.Proofs.Ytpampekijfjlkab.X Go.Proofs.Ytpampekijfjlkab.L Go.Proofs.YtpampekijfjlkabW.PrintWords Go.Proofs.YtpampekijfjlkabW.PrintLast Go.Proofs.YtpampekijfjlkabW.PrintMore
theorem sayN_of {q : Nat} {i : Int} {t : List M} (hq2 : 2 ^ q ≤ 16) (h : clok (q : Int) i t = true) : sayN (q : Int) i t = ((bs (may i t) (2 ^ q) : Nat) : Int) := by
 rw [sayN, if_pos h, ctab, Int.toNat_natCast, hd_tab _ hq2]
theorem FnSayCount : laws_FnSayCount.Pure := by
 intro l h1 h2 h3
 refine Ev.rounds (r := true) ?_
 unfold laws_FnSayCount.f
 by_cases h : (l.length : Int) > 1048576
 ·exact Ev.yes h (Ev.some _)
 refine Ev.no h ?_
 obtain ⟨p, i, t, hd, hp1, hp4, hi0, hi1, htl, hsm⟩ := DrawSayCount_ev h3
 refine Ev.bind hd (Ev.bind (impl_SayCount_ev p i t) (Ev.bind (spec_SayCount_ev p i t (by omega) hsm.wf) (Ev.yes rfl ?_)))
 by_cases hc : clok p i t = true
 ·obtain ⟨q, rfl, hq1, hq4, hq2, e⟩ := people_nat hp1 hp4
  obtain ⟨hi2, hi3, hk, _⟩ := clok_iff.1 hc
  have hn := sayN_of hq2 hc
  have hle := bs_le (may i t) (2 ^ q)
  have hct : ctab (q : Int) i t = tabL (may i t) (2 ^ q) := by unfold ctab; rw [e]
  have hnev : ((sayN (q : Int) i t == 0) == neverI (q : Int) i t) = true := by
   rw [neverI, if_pos hc, hn, hct]
   by_cases hz : bs (may i t) (2 ^ q) = 0
   ·rw [hz, tabL_zero.2 ((bs_zero _).1 hz)]; rfl
   ·have : tabL (may i t) (2 ^ q) ≠ 0 := fun h => hz ((bs_zero _).2 (tabL_zero.1 h))
    rw [show (((bs (may i t) (2 ^ q) : Nat) : Int) == 0) = false from beq_eq_false_iff_ne.2 (by omega), show (((tabL (may i t) (2 ^ q) : Nat) : Int) == 0) = false from beq_eq_false_iff_ne.2 (by omega)]
    rfl
  have halw : ((sayN (q : Int) i t == shl .i64 1 (q : Int)) == alwaysI (q : Int) i t) = true := by
   rw [alwaysI, if_pos hc, hn, hct, full_eq hq1 hq4, shl_nat (by omega)]
   by_cases hz : bs (may i t) (2 ^ q) = 2 ^ q
   ·rw [hz, tabL_full.2 ((bs_full _).1 hz)]
    simp [fullT]
   ·have : tabL (may i t) (2 ^ q) ≠ fullT q := fun h => hz ((bs_full _).2 (tabL_full.1 h))
    rw [show (((bs (may i t) (2 ^ q) : Nat) : Int) == ((2 ^ q : Nat) : Int)) = false from beq_eq_false_iff_ne.2 (fun h => hz (by exact_mod_cast h)), show (((tabL (may i t) (2 ^ q) : Nat) : Int) == ((fullT q : Nat) : Int)) = false from beq_eq_false_iff_ne.2 (fun h => this (by exact_mod_cast h))]
    rfl
  have hlt : ¬ sayN (q : Int) i t < 0 := by rw [hn]; omega
  refine Ev.no hlt (Ev.bind (impl_Deny_ev (q : Int) i t) ?_)
  by_cases hn2 : clok (q : Int) i (t ++ [⟨2, 0⟩]) = true
  ·have ed : denyR (q : Int) i t = (i, t ++ [⟨2, 0⟩], true) := by rw [denyR, if_pos hc, claimR, if_pos hn2]
   rw [ed]
   have hsum : wrap64 (sayN (q : Int) i t + sayN (q : Int) i (t ++ [⟨2, 0⟩])) = shl .i64 1 (q : Int) := by
    have hx : bs (may i (t ++ [⟨2, 0⟩])) (2 ^ q) = bs (fun w => !may i t w) (2 ^ q) := bs_congr _ (fun w hw => may_not hk (by omega))
    have hy := bs_not (may i t) (2 ^ q)
    rw [hn, sayN_of hq2 hn2, hx, shl_nat (by omega), w64 (by omega) (by omega)]
    omega
   dsimp only
   have hsc := impl_SayCount_ev (q : Int) i (t ++ [⟨2, 0⟩])
   generalize sayN (q : Int) i (t ++ [⟨2, 0⟩]) = Z at hsum hsc
   generalize sayN (q : Int) i t = Y at *
   generalize shl .i64 1 (q : Int) = V at *
   refine Ev.yes rfl (Ev.bind hsc (Ev.yes (by omega) (Ev.yes hsum (Ev.bind (impl_NeverI_ev (q : Int) i t) (Ev.yes hnev (Ev.bind (impl_AlwaysI_ev (q : Int) i t) (Ev.cast (Ev.some _) halw)))))))
  ·have ed : denyR (q : Int) i t = (0, [], false) := by rw [denyR, if_pos hc, claimR, if_neg hn2]
   rw [ed]
   exact Ev.no (by simp) (Ev.bind (impl_NeverI_ev (q : Int) i t) (Ev.yes hnev (Ev.yes (by omega) (Ev.bind (impl_AlwaysI_ev (q : Int) i t) (Ev.cast (Ev.some _) halw)))))
 ·have hs : sayN p i t = -1 := if_neg hc
  rw [hs]
  refine Ev.yes (by omega) (Ev.yes rfl (Ev.bind (impl_ClaimOk_ev p i t) (Ev.no hc ?_)))
  rw [alive_eq']
  exact Ev.some _
end Go.Proofs.Ytpampekijfjlkab.Pure

-- printed by a program of this session's (xprint)
namespace Go.Proofs.Ytpampekijfjlkab.fnSayCount
open Go.ChangeShapes Go.WideShapes Go.ChangeAt Go.RowKit
open Go.ChangeMaps (open_string shut_string)
set_option linter.unusedVariables false
theorem own : ownKnob Try.prog.godebug = none := by kernel_rfl
theorem laidOut : laidOutB Try.prog = true := by kernel_rfl
def IsRow (k : IntKind) (w : World) (a : Option Addr) (len cap : Nat) (zs : List Int) : Prop :=
 (a = none ∧ len = 0 ∧ cap = 0 ∧ zs = []) ∨
 ∃ x, a = some x ∧ len ≤ cap ∧ cap ≤ maxLen ∧ zs.length = cap ∧ (∀ i, i < zs.length → w.cell? (x.add i) = some (.int k (zs.getD i 0))) ∧ ∀ n ∈ zs, (Lit.int k n).wf = true
set_option maxRecDepth 100000 in
theorem lifted (os : Os) (started : os.Started) (H : Type) (enc : TypeId × Value → H) :
  ReturnsInHanded {} Try.checked os 6 .any (Rows.fnSayCountSpec.pre6 enc Try.prog Try.f6 Rows.fnSayCountRow.domain false) (Rows.fnSayCountSpec.post enc Try.prog Try.f6 false true false false) := by
 refine returnsInHanded_of_change_sized (C := Try.checked) own started (by kernel_rfl) Try.func6
  (ChangeSpec.witness6 (enc := enc) (C := Try.checked) false ⟨#[], #[.slice none 0 0], []⟩ 8 (by kernel_rfl) (by kernel_rfl) (by kernel_rfl) (by kernel_rfl)) ?_
 intro W base args ds gs before hval0 hW hcnd hsz0 _
 have hsz : (DataW.weightsEach Try.prog (Try.f6.params.toList ++ Rows.fnSayCountSpec.plain.varTypes Try.prog) (ds ++ gs)).all (· ≤ reachBytes) = true := hsz0
 have hval : ∀ (j : Nat) t v, Try.f6.params[j]? = some t → args[j]? = some v → Value.okWide Try.prog W .any base t v := hval0
 have hW' := hW
 obtain ⟨p, q, hA0, hV, rfl, hfz, hnd⟩ := hW
 have hA : DataW.TrodAll enc Try.prog W 0 (fun _ => true) true Try.f6.params.toList args.toList ds p := hA0
 rw [Try.params6] at hA hval hsz
 obtain ⟨v0, vs0, d0, ds0, p0, q0, hargs, rfl, rfl, h0, r0⟩ := trodAll_cons hA
 obtain ⟨rfl, rfl, rfl⟩ := trodAll_nil r0
 obtain rfl : args = #[v0] := by cases args; simp_all
 obtain ⟨rfl, rfl⟩ := trodVars_none hV
 obtain ⟨a0, len0, cap0, rfl⟩ := okWide_slice Try.underlying22 (hval 0 22 v0 rfl rfl)
 have k0 := h0
 have lt0 : ∀ x ∈ p0, x.block < W.heap.size := by obtain ⟨m, hm⟩ := k0; exact DataW.trod_lt m _ _ _ hm
 obtain ⟨z0, w0⟩ : ∃ zs, IsRow .u8 W a0 len0 cap0 zs := by
  obtain ⟨fuel, hf⟩ := h0
  rcases open_ints Try.underlying22 Try.underlying5 (by kernel_rfl) hf with ⟨hcs, _⟩ | ⟨x, l, c, zs, hcs, _, hl, hm, hz, _, hcell, hwz⟩
  ·simp [Value.cells] at hcs
   obtain ⟨rfl, rfl, rfl⟩ := hcs
   exact ⟨[], .inl ⟨rfl, rfl, rfl, rfl⟩⟩
  ·simp [Value.cells] at hcs
   obtain ⟨rfl, rfl, rfl⟩ := hcs
   exact ⟨zs, .inr ⟨_, rfl, hl, hm, by simpa using hz, hcell, hwz⟩⟩
 have y0 : len0 * 1 ≤ 140737488351232 := Go.Proofs.YtpampekijfjlkabW.PrintWords.sized_ints hsz (j := 0) (t := 22) rfl rfl Try.underlying22 Try.underlying5 (by kernel_rfl) (by kernel_rfl) h0
 clear hA0 hval0 hsz0 hsz
 refine (X.laws_FnSayCount.walk Pure.FnSayCount a0 len0 cap0 z0 W w0 y0).mono fun e W' ⟨he, bel⟩ => ?_
 subst he
 exact ⟨_, rfl, _, _, _, [], _, [], hW', trodAll_mk1 (shut_bool Try.underlying4 _), (trodAll_cons_mk (Below.trod laidOut (by kernel_rfl) (of_decide_eq_true (by kernel_rfl)) k0 bel lt0) trodAll_mk0), rfl, bel.frame _, fun h => by cases h⟩
theorem closed_ : joinedFacts Try.pinned.checked.prog 6 Try.f6 Rows.fnSayCountSpec Rows.fnSayCountRow = true := by
 unfold joinedFacts
 rw [X.may_, X.fin_, X.make_]
 kernel_rfl
theorem over : Rows.fnSayCountRow.holds Try.pinned (OpenSpec.ofChange Rows.fnSayCountSpec) :=
 OpenClaim.holds_of_wide 6 Try.f6 rfl rfl rfl rfl rfl rfl rfl ⟨rfl, rfl, rfl, rfl, rfl⟩ rfl rfl rfl rfl rfl (by kernel_rfl) Try.func6 closed_
  (of_decide_eq_true (by kernel_rfl)) (by unfold Func.isWrapper; first | (rw [if_pos (by decide +kernel)]; kernel_rfl) | (rw [if_neg (by decide +kernel)]; exact ⟨rfl, rfl⟩))
  (fun os started H enc _ => lifted os started H enc)
theorem proved : Rows.FnSayCountSaid := over
#print axioms proved
end Go.Proofs.Ytpampekijfjlkab.fnSayCount
namespace Go.Proofs.Ytpampekijfjlkab
/-- The row, under a short name, for the claim. -/
theorem fnSayCount_holds : Rows.FnSayCountSaid := fnSayCount.proved
end Go.Proofs.Ytpampekijfjlkab
