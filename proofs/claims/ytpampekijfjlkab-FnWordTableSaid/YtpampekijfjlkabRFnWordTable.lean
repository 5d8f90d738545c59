/- The given statement FnWordTableSaid: the law laws.FnWordTable returns true for all arguments (words are equivalences of three: for every code). Conditions: none but those that the statement itself names. Joined by a program of this session's: PureFnWordTable, LawFnWordTable. -/
import Derived.Test.YtpampekijfjlkabG6c27600be1
import Derived.Test.YtpampekijfjlkabRows
import Derived.Test.YtpampekijfjlkabG794560746f
import Derived.WalkKit
import Derived.ProofKit
import Derived.OpenShut
import Derived.ShutString
import Derived.ChangeOld
import Derived.Below
import Derived.SizedLaws
import Derived.Test.YtpampekijfjlkabV4e744e3d11

/- Words are equivalences of three: for every code. -/
namespace Go.Proofs.Ytpampekijfjlkab.Pure
open Go.RowKit Go.Proofs.Ytpampekijfjlkab.X Go.Proofs.Ytpampekijfjlkab.L Go.Proofs.YtpampekijfjlkabW.PrintWords Go.Proofs.YtpampekijfjlkabW.PrintLast Go.Proofs.YtpampekijfjlkabW.PrintMore
theorem tok_mid {p i j : Int} {t : List M} (hk : tok p t = true) (h : tok p (wrapM i (wrapM j t)) = true) (hj0 : 0 ≤ j) (hj1 : j < p) : tok p (wrapM j t) = true := by
 obtain ⟨a, hg, rfl, h4, hl⟩ := tok_tree hk
 obtain ⟨h0, h1, _⟩ := tok_iff.1 hk
 obtain ⟨_, _, _, h15, _⟩ := tok_iff.1 h
 obtain ⟨n, rfl⟩ := Int.eq_ofNat_of_zero_le hj0
 have e : wrapM (n : Int) a.post = (Tm.bin 5 (.tell n) a).post := by simp [wrapM, Tm.post]
 rw [wrapM_length] at h15
 rw [e] at h15 ⊢
 exact tok_post h0 h1 ⟨by omega, hj1, hg⟩ (by omega)
theorem FnWordTable : laws_FnWordTable.Pure := by
 intro l h1 h2 h3
 refine Ev.rounds (r := true) ?_
 unfold laws_FnWordTable.f
 by_cases h : (l.length : Int) > 1048576
 ·exact Ev.yes h (Ev.some _)
 refine Ev.no h ?_
 obtain ⟨p, i, t, hd, hp1, hp4, hi0, hi1, htl, hsm⟩ := DrawWordTable_ev h3
 refine Ev.bind hd (Ev.bind (impl_WordTable_ev p i t ⟨by omega, by omega⟩) (Ev.bind (spec_WordTable_ev p i t ⟨by omega, by omega⟩ (by omega) hsm.wf) (Ev.yes rfl ?_)))
 by_cases hk : wtok p i t = true
 ·obtain ⟨⟨hk2, hk0, hk1⟩, hkt⟩ := wtok_iff.1 hk
  obtain ⟨q, rfl, hq1, hq4, hq2, e⟩ := people_nat hp1 hp4
  have ew : wtab (q : Int) i t = ((tabL (said q i t) (2 ^ q) : Nat) : Int) := by rw [wtab, if_pos hk, e]
  have hlt := tabL_lt (said q i t) (2 ^ q)
  have htb : tabok (q : Int) (wtab (q : Int) i t) = true := by rw [ew]; exact tabok_iff.2 ⟨by omega, by omega, by omega, by rw [Int.toNat_natCast]; omega⟩
  refine Ev.no (by rw [ew]; omega) (Ev.bind (impl_Strange_ev (p := (q : Int)) (i := i) (t := t) ⟨by omega, by omega⟩ (by omega)) ?_)
  rw [impl_TableOk_eq, htb]
  simp only [Option.bind_some]
  refine Ev.yes trivial ?_
  by_cases hz : 2 ≤ (q : Int) ∧ tok (q : Int) t = true ∧ 0 ≤ i ∧ i < (q : Int) - 1 ∧ tok (q : Int) (wrapM i (wrapM ((q : Int) - 1) t)) = true
  ·have es : strange (q : Int) i t = (wrapM i (wrapM ((q : Int) - 1) t), true) := if_pos hz
   rw [es]
   have ht := impl_TableOf_ev (q : Int) (wrapM i (wrapM ((q : Int) - 1) t))
   rw [if_pos hz.2.2.2.2] at ht
   have hm := tok_mid hkt hz.2.2.2.2 (by omega) (by omega)
   have key : ttab (q : Int) (wrapM i (wrapM ((q : Int) - 1) t)) = tabL (said q i t) (2 ^ q) := by
    unfold ttab
    rw [e]
    refine tabL_congr (fun w hw => ?_)
    rw [hv_wrap hm (by omega) (by omega) (by omega), hv_wrap hkt (by omega) (by omega) (by omega), said, may, show ((q : Int) - 1).toNat = q - 1 by omega]
    cases w.testBit i.toNat <;> cases w.testBit (q - 1) <;> cases hv t w <;> rfl
   rw [key, ← ew] at ht
   generalize wtab (q : Int) i t = Z at *
   exact Ev.yes rfl (Ev.bind ht (Ev.cast (Ev.some _) (beq_self_eq_true Z)))
  ·have es : strange (q : Int) i t = ([], false) := if_neg hz
   rw [es]
   exact Ev.no (by simp) (Ev.some _)
 ·have ew : wtab p i t = -1 := if_neg hk
  rw [ew, alive_eq']
  exact Ev.yes (by omega) (Ev.yes rfl (Ev.some _))
end Go.Proofs.Ytpampekijfjlkab.Pure
namespace Go.Proofs.Ytpampekijfjlkab.fnWordTable
open Go.ChangeShapes Go.WideShapes Go.ChangeAt Go.RowKit
open Go.ChangeMaps (open_string shut_string)
set_option linter.unusedVariables false
theorem own : ownKnob Try.prog.godebug = none := by kernel_rfl
theorem laidOut : laidOutB Try.prog = true := by kernel_rfl
def IsRow (k : IntKind) (w : World) (a : Option Addr) (len cap : Nat) (zs : List Int) : Prop :=
 (a = none ∧ len = 0 ∧ cap = 0 ∧ zs = []) ∨
 ∃ x, a = some x ∧ len ≤ cap ∧ cap ≤ maxLen ∧ zs.length = cap ∧ (∀ i, i < zs.length → w.cell? (x.add i) = some (.int k (zs.getD i 0))) ∧ ∀ n ∈ zs, (Lit.int k n).wf = true
set_option maxRecDepth 100000 in
theorem lifted (os : Os) (started : os.Started) (H : Type) (enc : TypeId × Value → H) :
  ReturnsInHanded {} Try.checked os 8 .any (Rows.fnWordTableSpec.pre6 enc Try.prog Try.f8 Rows.fnWordTableRow.domain false) (Rows.fnWordTableSpec.post enc Try.prog Try.f8 false true false false) := by
 refine returnsInHanded_of_change_sized (C := Try.checked) own started (by kernel_rfl) Try.func8
  (ChangeSpec.witness6 (enc := enc) (C := Try.checked) false ⟨#[], #[.slice none 0 0], []⟩ 8 (by kernel_rfl) (by kernel_rfl) (by kernel_rfl) (by kernel_rfl)) ?_
 intro W base args ds gs before hval0 hW hcnd hsz0 _
 have hsz : (DataW.weightsEach Try.prog (Try.f8.params.toList ++ Rows.fnWordTableSpec.plain.varTypes Try.prog) (ds ++ gs)).all (· ≤ reachBytes) = true := hsz0
 have hval : ∀ (j : Nat) t v, Try.f8.params[j]? = some t → args[j]? = some v → Value.okWide Try.prog W .any base t v := hval0
 have hW' := hW
 obtain ⟨p, q, hA0, hV, rfl, hfz, hnd⟩ := hW
 have hA : DataW.TrodAll enc Try.prog W 0 (fun _ => true) true Try.f8.params.toList args.toList ds p := hA0
 rw [Try.params8] at hA hval hsz
 obtain ⟨v0, vs0, d0, ds0, p0, q0, hargs, rfl, rfl, h0, r0⟩ := trodAll_cons hA
 obtain ⟨rfl, rfl, rfl⟩ := trodAll_nil r0
 obtain rfl : args = #[v0] := by cases args; simp_all
 obtain ⟨rfl, rfl⟩ := trodVars_none hV
 obtain ⟨a0, len0, cap0, rfl⟩ := okWide_slice Try.underlying22 (hval 0 22 v0 rfl rfl)
 have k0 := h0
 have lt0 : ∀ x ∈ p0, x.block < W.heap.size := by obtain ⟨m, hm⟩ := k0; exact DataW.trod_lt m _ _ _ hm
 obtain ⟨z0, w0⟩ : ∃ zs, IsRow .u8 W a0 len0 cap0 zs := by
  obtain ⟨fuel, hf⟩ := h0
  rcases open_ints Try.underlying22 Try.underlying5 (by kernel_rfl) hf with ⟨hcs, _⟩ | ⟨x, l, c, zs, hcs, _, hl, hm, hz, _, hcell, hwz⟩
  ·simp [Value.cells] at hcs
   obtain ⟨rfl, rfl, rfl⟩ := hcs
   exact ⟨[], .inl ⟨rfl, rfl, rfl, rfl⟩⟩
  ·simp [Value.cells] at hcs
   obtain ⟨rfl, rfl, rfl⟩ := hcs
   exact ⟨zs, .inr ⟨_, rfl, hl, hm, by simpa using hz, hcell, hwz⟩⟩
 have y0 : len0 * 1 ≤ 140737488351232 := Go.Proofs.YtpampekijfjlkabW.PrintWords.sized_ints hsz (j := 0) (t := 22) rfl rfl Try.underlying22 Try.underlying5 (by kernel_rfl) (by kernel_rfl) h0
 clear hA0 hval0 hsz0 hsz
 refine (X.laws_FnWordTable.walk Pure.FnWordTable a0 len0 cap0 z0 W w0 y0).mono fun e W' ⟨he, bel⟩ => ?_
 subst he
 exact ⟨_, rfl, _, _, _, [], _, [], hW', trodAll_mk1 (shut_bool Try.underlying4 _), (trodAll_cons_mk (Below.trod laidOut (by kernel_rfl) (of_decide_eq_true (by kernel_rfl)) k0 bel lt0) trodAll_mk0), rfl, bel.frame _, fun h => by cases h⟩
theorem closed_ : joinedFacts Try.pinned.checked.prog 8 Try.f8 Rows.fnWordTableSpec Rows.fnWordTableRow = true := by
 unfold joinedFacts
 rw [X.may_, X.fin_, X.make_]
 kernel_rfl
theorem over : Rows.fnWordTableRow.holds Try.pinned (OpenSpec.ofChange Rows.fnWordTableSpec) :=
 OpenClaim.holds_of_wide 8 Try.f8 rfl rfl rfl rfl rfl rfl rfl ⟨rfl, rfl, rfl, rfl, rfl⟩ rfl rfl rfl rfl rfl (by kernel_rfl) Try.func8 closed_
  (of_decide_eq_true (by kernel_rfl)) (by unfold Func.isWrapper; first | (rw [if_pos (by decide +kernel)]; kernel_rfl) | (rw [if_neg (by decide +kernel)]; exact ⟨rfl, rfl⟩))
  (fun os started H enc _ => lifted os started H enc)
theorem proved : Rows.FnWordTableSaid := over
#print axioms proved
end Go.Proofs.Ytpampekijfjlkab.fnWordTable
namespace Go.Proofs.Ytpampekijfjlkab
/-- The row, under a short name, for the claim. -/
theorem fnWordTable_holds : Rows.FnWordTableSaid := fnWordTable.proved
end Go.Proofs.Ytpampekijfjlkab
