/- The given statement FnTwoClaimsSaid: the law laws.FnTwoClaims returns true for all arguments (two claims by one person are one of both or none: for every code). Conditions: none but those that the statement itself names. Joined by a program of this session's: PureFnTwoClaims, LawFnTwoClaims. -/
import Derived.Test.YtpampekijfjlkaaGad7f95a2bb
import Derived.Test.YtpampekijfjlkaaRows
import Derived.Test.YtpampekijfjlkaaGefbd9449b2
import Derived.WalkKit
import Derived.ProofKit
import Derived.OpenShut
import Derived.ShutString
import Derived.ChangeOld
import Derived.Below
import Derived.SizedLaws
import Derived.Test.YtpampekijfjlkaaV3fb2e82ff9

/- Two claims by one person are one of both or none: for every code. -/
namespace Go.Proofs.Ytpampekijfjlkaa.Pure
open Go.RowKit Go.Proofs.Ytpampekijfjlkaa.X Go.Proofs.Ytpampekijfjlkaa.L Go.Proofs.YtpampekijfjlkaaW.PrintWords Go.Proofs.YtpampekijfjlkaaW.PrintLast Go.Proofs.YtpampekijfjlkaaW.PrintMore
theorem out_ (p : Int) (s a b : List M) (i j : Int) : Ev (fun k => laws_FnTwoClaims.j0 k p s true i a j b) true := by
 refine Ev.step (fun k => by simp only [laws_FnTwoClaims.j0]; rfl) (Ev.yes trivial ?_)
 rw [alive_eq']
 exact Ev.some _
theorem in_ {p : Int} {a b : List M} (ha : clok p 0 a = true) (hb : clok p 0 b = true) (hs : tok p (a ++ b ++ [⟨5, 0⟩]) = true) : Ev (fun k => laws_FnTwoClaims.j0 k p (a ++ b ++ [⟨5, 0⟩]) false 0 a 0 b) true := by
 obtain ⟨_, _, hka, _⟩ := clok_iff.1 ha
 obtain ⟨_, _, hkb, _⟩ := clok_iff.1 hb
 obtain ⟨hp0, hp1, _⟩ := tok_iff.1 hka
 obtain ⟨q, rfl, hq1, hq4, hq2, e⟩ := people_nat hp0 hp1
 have hok : sok (q : Int) [(⟨0, a⟩ : C), ⟨0, b⟩] = true := sok_iff.2 ⟨fun c hc => by
  rcases List.mem_cons.1 hc with rfl | hc
  ·exact ha
  ·rw [List.mem_singleton.1 hc]; exact hb, hp0, hp1, by simp⟩
 have h1 := impl_StoryTable_ev (q : Int) [(⟨0, a⟩ : C), ⟨0, b⟩] (by simp)
 rw [if_pos hok] at h1
 have h2 := impl_ClaimTable_ev (q : Int) 0 a
 rw [if_pos ha] at h2
 have h3 := impl_TableOf_ev (q : Int) (a ++ b ++ [⟨5, 0⟩])
 rw [if_pos hs] at h3
 have b1 := ctab_lt' ha
 have b2 : ttab (q : Int) (a ++ b ++ [⟨5, 0⟩]) < 65536 := by
  unfold ttab
  rw [e]
  exact tabL_mono hq2
 have key : stab (q : Int) [(⟨0, a⟩ : C), ⟨0, b⟩] = ctab (q : Int) 0 a &&& ttab (q : Int) (a ++ b ++ [⟨5, 0⟩]) := by
  apply Nat.eq_of_testBit_eq
  intro w
  rw [Nat.testBit_and, stab_tab, ctab, ttab, tabL_bit, tabL_bit, tabL_bit, e]
  by_cases hw : w < 2 ^ q
  ·rw [decide_eq_true hw, List.append_assoc, hv_same hka hkb (by omega)]
   unfold allMay may
   simp only [Bool.true_and, List.all_cons, List.all_nil, Bool.and_true]
   cases hv a w <;> cases hv b w <;> cases w.testBit (0 : Int).toNat <;> rfl
  ·rw [decide_eq_false hw]
   rfl
 refine Ev.step (fun k => by simp only [laws_FnTwoClaims.j0]; rfl) (Ev.no (by simp) (Ev.bind h1 ?_))
 rw [alive_eq']
 simp only [Option.bind_some]
 refine Ev.yes trivial (Ev.yes (by omega) (Ev.bind h2 (Ev.bind h3 (Ev.cast (Ev.some _) ?_))))
 rw [and_nat (by omega) (by omega), key]
 exact beq_self_eq_true _
theorem FnTwoClaims : laws_FnTwoClaims.Pure := by
 intro l h1 h2 h3
 refine Ev.rounds (r := true) ?_
 unfold laws_FnTwoClaims.f
 by_cases h : (l.length : Int) > 1048576
 ·exact Ev.yes h (Ev.some _)
 refine Ev.no h ?_
 obtain ⟨p, a, b, hd, hp1, hp3, hal, hbl, hsa, hsb⟩ := DrawFollowsOk_ev h3
 refine Ev.bind hd ?_
 simp only [Option.bind_some, List.nil_append, List.length_nil]
 refine Ev.yes (by omega) (Ev.yes (by omega) (Ev.yes (by simp; omega) (Ev.bind (spec_ClaimOk_ev p 0 a (by omega) hsa.wf) ?_)))
 by_cases ha : clok p 0 a = true
 ·rw [ha]
  refine Ev.yes rfl (Ev.bind (spec_ClaimOk_ev p 0 b (by omega) hsb.wf) ?_)
  by_cases hb : clok p 0 b = true
  ·rw [hb]
   refine Ev.yes rfl (Ev.bind (spec_TermOk_ev p (a ++ b ++ [⟨5, 0⟩]) (by simp; omega) ((hsa.app hsb).app (Sm.one (by simp))).wf) ?_)
   by_cases hs : tok p (a ++ b ++ [⟨5, 0⟩]) = true
   ·rw [hs]
    exact in_ ha hb hs
   ·rw [Bool.not_eq_true] at hs
    rw [hs]
    exact out_ _ _ _ _ _ _
  ·rw [Bool.not_eq_true] at hb
   rw [hb]
   exact Ev.no (by simp) (out_ _ _ _ _ _ _)
 ·rw [Bool.not_eq_true] at ha
  rw [ha]
  exact Ev.no (by simp) (out_ _ _ _ _ _ _)
end Go.Proofs.Ytpampekijfjlkaa.Pure
namespace Go.Proofs.Ytpampekijfjlkaa.fnTwoClaims
open Go.ChangeShapes Go.WideShapes Go.ChangeAt Go.RowKit
open Go.ChangeMaps (open_string shut_string)
set_option linter.unusedVariables false
theorem own : ownKnob Try.prog.godebug = none := by kernel_rfl
theorem laidOut : laidOutB Try.prog = true := by kernel_rfl
def IsRow (k : IntKind) (w : World) (a : Option Addr) (len cap : Nat) (zs : List Int) : Prop :=
 (a = none ∧ len = 0 ∧ cap = 0 ∧ zs = []) ∨
 ∃ x, a = some x ∧ len ≤ cap ∧ cap ≤ maxLen ∧ zs.length = cap ∧ (∀ i, i < zs.length → w.cell? (x.add i) = some (.int k (zs.getD i 0))) ∧ ∀ n ∈ zs, (Lit.int k n).wf = true
set_option maxRecDepth 100000 in
theorem lifted (os : Os) (started : os.Started) (H : Type) (enc : TypeId × Value → H) :
  ReturnsInHanded {} Try.checked os 8 .any (Rows.fnTwoClaimsSpec.pre6 enc Try.prog Try.f8 Rows.fnTwoClaimsRow.domain false) (Rows.fnTwoClaimsSpec.post enc Try.prog Try.f8 false true false false) := by
 refine returnsInHanded_of_change_sized (C := Try.checked) own started (by kernel_rfl) Try.func8
  (ChangeSpec.witness6 (enc := enc) (C := Try.checked) false ⟨#[], #[.slice none 0 0], []⟩ 8 (by kernel_rfl) (by kernel_rfl) (by kernel_rfl) (by kernel_rfl)) ?_
 intro W base args ds gs before hval0 hW hcnd hsz0 _
 have hsz : (DataW.weightsEach Try.prog (Try.f8.params.toList ++ Rows.fnTwoClaimsSpec.plain.varTypes Try.prog) (ds ++ gs)).all (· ≤ reachBytes) = true := hsz0
 have hval : ∀ (j : Nat) t v, Try.f8.params[j]? = some t → args[j]? = some v → Value.okWide Try.prog W .any base t v := hval0
 have hW' := hW
 obtain ⟨p, q, hA0, hV, rfl, hfz, hnd⟩ := hW
 have hA : DataW.TrodAll enc Try.prog W 0 (fun _ => true) true Try.f8.params.toList args.toList ds p := hA0
 rw [Try.params8] at hA hval hsz
 obtain ⟨v0, vs0, d0, ds0, p0, q0, hargs, rfl, rfl, h0, r0⟩ := trodAll_cons hA
 obtain ⟨rfl, rfl, rfl⟩ := trodAll_nil r0
 obtain rfl : args = #[v0] := by cases args; simp_all
 obtain ⟨rfl, rfl⟩ := trodVars_none hV
 obtain ⟨a0, len0, cap0, rfl⟩ := okWide_slice Try.underlying38 (hval 0 38 v0 rfl rfl)
 have k0 := h0
 have lt0 : ∀ x ∈ p0, x.block < W.heap.size := by obtain ⟨m, hm⟩ := k0; exact DataW.trod_lt m _ _ _ hm
 obtain ⟨z0, w0⟩ : ∃ zs, IsRow .u8 W a0 len0 cap0 zs := by
  obtain ⟨fuel, hf⟩ := h0
  rcases open_ints Try.underlying38 Try.underlying5 (by kernel_rfl) hf with ⟨hcs, _⟩ | ⟨x, l, c, zs, hcs, _, hl, hm, hz, _, hcell, hwz⟩
  ·simp [Value.cells] at hcs
   obtain ⟨rfl, rfl, rfl⟩ := hcs
   exact ⟨[], .inl ⟨rfl, rfl, rfl, rfl⟩⟩
  ·simp [Value.cells] at hcs
   obtain ⟨rfl, rfl, rfl⟩ := hcs
   exact ⟨zs, .inr ⟨_, rfl, hl, hm, by simpa using hz, hcell, hwz⟩⟩
 have y0 : len0 * 1 ≤ 140737488351232 := Go.Proofs.YtpampekijfjlkaaW.PrintWords.sized_ints hsz (j := 0) (t := 38) rfl rfl Try.underlying38 Try.underlying5 (by kernel_rfl) (by kernel_rfl) h0
 clear hA0 hval0 hsz0 hsz
 refine (X.laws_FnTwoClaims.walk Pure.FnTwoClaims a0 len0 cap0 z0 W w0 y0).mono fun e W' ⟨he, bel⟩ => ?_
 subst he
 exact ⟨_, rfl, _, _, _, [], _, [], hW', trodAll_mk1 (shut_bool Try.underlying4 _), (trodAll_cons_mk (Below.trod laidOut (by kernel_rfl) (of_decide_eq_true (by kernel_rfl)) k0 bel lt0) trodAll_mk0), rfl, bel.frame _, fun h => by cases h⟩
theorem closed_ : joinedFacts Try.pinned.checked.prog 8 Try.f8 Rows.fnTwoClaimsSpec Rows.fnTwoClaimsRow = true := by
 unfold joinedFacts
 rw [X.may_, X.fin_, X.make_]
 kernel_rfl
theorem over : Rows.fnTwoClaimsRow.holds Try.pinned (OpenSpec.ofChange Rows.fnTwoClaimsSpec) :=
 OpenClaim.holds_of_wide 8 Try.f8 rfl rfl rfl rfl rfl rfl rfl ⟨rfl, rfl, rfl, rfl, rfl⟩ rfl rfl rfl rfl rfl (by kernel_rfl) Try.func8 closed_
  (of_decide_eq_true (by kernel_rfl)) (by unfold Func.isWrapper; first | (rw [if_pos (by decide +kernel)]; kernel_rfl) | (rw [if_neg (by decide +kernel)]; exact ⟨rfl, rfl⟩))
  (fun os started H enc _ => lifted os started H enc)
theorem proved : Rows.FnTwoClaimsSaid := over
#print axioms proved
end Go.Proofs.Ytpampekijfjlkaa.fnTwoClaims
namespace Go.Proofs.Ytpampekijfjlkaa
/-- The row, under a short name, for the claim. -/
theorem fnTwoClaims_holds : Rows.FnTwoClaimsSaid := fnTwoClaims.proved
end Go.Proofs.Ytpampekijfjlkaa
