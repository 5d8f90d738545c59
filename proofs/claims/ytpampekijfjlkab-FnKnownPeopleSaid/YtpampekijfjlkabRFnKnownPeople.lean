/- The given statement FnKnownPeopleSaid: the law laws.FnKnownPeople returns true for all arguments (what is known is so in each world: for every code). Conditions: none but those that the statement itself names. Joined by a program of this session's: PureFnKnownPeople, LawFnKnownPeople. -/
import Derived.Test.YtpampekijfjlkabG670e1ff6d6
import Derived.Test.YtpampekijfjlkabG59ebc9ab1a
import Derived.Test.YtpampekijfjlkabRows
import Derived.Test.YtpampekijfjlkabGbbf6d552f7
import Derived.WalkKit
import Derived.ProofKit
import Derived.OpenShut
import Derived.ShutString
import Derived.ChangeOld
import Derived.Below
import Derived.SizedLaws
import Derived.Test.YtpampekijfjlkabV488f34ba62

/- What is known is so in each world: for every code. -/
namespace Go.Proofs.Ytpampekijfjlkab.Pure
open Go.RowKit Go.Proofs.Ytpampekijfjlkab.X Go.Proofs.Ytpampekijfjlkab.L Go.Proofs.YtpampekijfjlkabW.PrintWords Go.Proofs.YtpampekijfjlkabW.PrintLast Go.Proofs.YtpampekijfjlkabW.PrintMore
theorem sameInts_l0 (l : List Int) (hl : l.length ≤ 4611686018427387904) : ∀ (suf pre : List Int), l = pre ++ suf → Ev (fun k => laws_sameInts.l0 k l l ((pre.length : Nat) : Int)) true := by
 intro suf
 induction suf with
 | nil =>
  intro pre he
  have hle : l.length = pre.length := by rw [he]; simp
  exact Ev.step (fun k => by simp only [laws_sameInts.l0]; rfl) (Ev.no (by omega) (Ev.some _))
 | cons m t ih =>
  intro pre he
  have hle : l.length = pre.length + (t.length + 1) := by rw [he]; simp
  refine Ev.step (fun k => by simp only [laws_sameInts.l0]; rfl) ?_
  rw [w64 (by omega) (by omega), show (((pre.length : Nat) : Int) + 1) = (((pre ++ [m]).length : Nat) : Int) by simp]
  exact Ev.yes (by omega) (Ev.yes (by omega) (Ev.yes (by omega) (Ev.yes (by simp) (ih (pre ++ [m]) (by rw [he]; simp)))))
theorem sameInts_ev (l : List Int) (hl : l.length ≤ 4611686018427387904) : Ev (fun k => laws_sameInts.f k l l) true := by
 unfold laws_sameInts.f
 exact Ev.yes rfl (sameInts_l0 l hl l [] rfl)
theorem l1_ {q : Nat} {W row : List Int} {i : Nat} (hi : i < q) (hq4 : q ≤ 4) (hW : Wl W) (hlen : W.length ≤ 100000) (hrow : rd row (i : Int) = knownOf W i) (hrl : i < row.length) (h : Ev (fun k => laws_FnKnownPeople.l0 k (q : Int) row W ((i + 1 : Nat) : Int)) true) :
  ∀ (suf pre : List Int), W = pre ++ suf → Ev (fun k => laws_FnKnownPeople.l1 k (q : Int) row W (i : Int) (pre.any (fun x => x.toNat.testBit i)) (pre.any (fun x => !x.toNat.testBit i)) ((pre.length : Nat) : Int)) true := by
 intro suf
 induction suf with
 | nil =>
  intro pre he
  rw [List.append_nil] at he
  subst he
  refine Ev.step (fun k => by simp only [laws_FnKnownPeople.l1]; rfl) (Ev.no (by omega) ?_)
  rw [hrow, w64 (by omega) (by omega), show ((i : Int) + 1) = ((i + 1 : Nat) : Int) by omega]
  refine Ev.yes (by omega) (Ev.yes (by omega) ?_)
  unfold knownOf
  by_cases hA : ∀ x ∈ W, x.toNat.testBit i = true
  ·have hno : W.any (fun x => !x.toNat.testBit i) = false := by
    rw [List.any_eq_false]
    intro x hx
    rw [hA x hx]
    decide
   rw [if_pos hA, hno]
   exact Ev.yes rfl (Ev.no (by simp) (Ev.no (by omega) (Ev.no (by omega) h)))
  by_cases hB : ∀ x ∈ W, x.toNat.testBit i = false
  ·have hyes : W.any (fun x => x.toNat.testBit i) = false := by
    rw [List.any_eq_false]
    intro x hx
    rw [hB x hx]
    decide
   rw [if_neg hA, if_pos hB, hyes]
   exact Ev.no (by omega) (Ev.yes rfl (Ev.no (by simp) (Ev.no (by omega) h)))
  ·have hno : W.any (fun x => !x.toNat.testBit i) = true := by
    rw [List.any_eq_true]
    refine Classical.byContradiction fun hn => hA fun x hx => ?_
    cases e : x.toNat.testBit i with
    | true => rfl
    | false => exact absurd ⟨x, hx, by rw [e]; rfl⟩ hn
   have hyes : W.any (fun x => x.toNat.testBit i) = true := by
    rw [List.any_eq_true]
    refine Classical.byContradiction fun hn => hB fun x hx => ?_
    cases e : x.toNat.testBit i with
    | false => rfl
    | true => exact absurd ⟨x, hx, e⟩ hn
   rw [if_neg hA, if_neg hB, hno, hyes]
   exact Ev.no (by omega) (Ev.no (by omega) (Ev.yes rfl (Ev.yes rfl (Ev.yes rfl h))))
 | cons x suf ih =>
  intro pre he
  have hle : W.length = pre.length + (suf.length + 1) := by rw [he]; simp
  have hx : rd W ((pre.length : Nat) : Int) = x := by rw [he]; exact rdW pre x suf
  obtain ⟨v, rfl, hv⟩ := hW x (by rw [he]; simp)
  have h' := ih (pre ++ [(v : Int)]) (by rw [he]; simp)
  simp only [List.any_append, List.any_cons, List.any_nil, Bool.or_false, Int.toNat_natCast] at h'
  rw [List.length_append, List.length_singleton] at h'
  have s0 : ((if v.testBit i then (1 : Int) else 0) == 0) = !v.testBit i := by cases v.testBit i <;> rfl
  have s1 : ((if v.testBit i then (1 : Int) else 0) == 1) = v.testBit i := by cases v.testBit i <;> rfl
  refine Ev.step (fun k => by simp only [laws_FnKnownPeople.l1]; rfl) ?_
  rw [hx, bit_int hv (by omega), s0, s1, w64 (by omega) (by omega), show (((pre.length : Nat) : Int) + 1) = ((pre.length + 1 : Nat) : Int) by omega]
  refine Ev.yes (by omega) ?_
  generalize pre.any (fun x => x.toNat.testBit i) = Y at *
  generalize pre.any (fun x => !x.toNat.testBit i) = Z at *
  cases Y with
  | true =>
   refine Ev.yes rfl ?_
   cases Z with
   | true => exact Ev.yes rfl (by simpa using h')
   | false => exact Ev.no (by simp) (Ev.yes (by omega) (Ev.yes (by omega) (by simpa using h')))
  | false =>
   refine Ev.no (by simp) (Ev.yes (by omega) (Ev.yes (by omega) ?_))
   cases Z with
   | true => exact Ev.yes rfl (by simpa using h')
   | false => exact Ev.no (by simp) (by simpa using h')
theorem l0_ {q : Nat} {W row : List Int} (hq4 : q ≤ 4) (hW : Wl W) (hlen : W.length ≤ 100000) (hne : 0 < W.length) (hrow : ∀ i, i < q → rd row (i : Int) = knownOf W i) (hrl : row.length = q) : ∀ d i : Nat, d + i = q →
  Ev (fun k => laws_FnKnownPeople.l0 k (q : Int) row W (i : Int)) true := by
 intro d
 induction d with
 | zero =>
  intro i hi
  refine Ev.step (fun k => by simp only [laws_FnKnownPeople.l0]; rfl) (Ev.no (by omega) ?_)
  refine Ev.step (fun k => by simp only [laws_FnKnownPeople.j1]; rfl) (Ev.no (by simp) (Ev.yes (show (row.length : Int) = (q : Int) by omega) (Ev.cast (Ev.some _) (decide_eq_true (by omega)))))
 | succ d ih =>
  intro i hi
  refine Ev.step (fun k => by simp only [laws_FnKnownPeople.l0]; rfl) (Ev.yes (by omega) ?_)
  rw [decide_eq_true (show (i : Int) < (row.length : Int) by omega)]
  refine Ev.step (fun k => by simp only [laws_FnKnownPeople.j1]; rfl) (Ev.yes trivial ?_)
  exact l1_ (by omega) hq4 hW hlen (hrow i (by omega)) (by omega) (ih (i + 1) (by omega)) W [] rfl
theorem FnKnownPeople : laws_FnKnownPeople.Pure := by
 intro l h1 h2 h3
 refine Ev.rounds (r := true) ?_
 unfold laws_FnKnownPeople.f
 by_cases h : (l.length : Int) > 1048576
 ·exact Ev.yes h (Ev.some _)
 refine Ev.no h ?_
 obtain ⟨p, c, hd, hp1, hp4, hcl, hsm⟩ := DrawKnownPeople_ev h3
 obtain ⟨q, rfl, hq1, hq4, hq2, e⟩ := people_nat hp1 hp4
 have hst := impl_StoryTable_ev (q : Int) c (by omega)
 change Ev _ (storyV (q : Int) c) at hst
 have hkl : (knownP (q : Int) c).length ≤ 4611686018427387904 := by rw [known_len]; split <;> omega
 refine Ev.bind hd (Ev.bind (impl_Known_ev (q : Int) c (by omega)) (Ev.bind (spec_Known_ev (q : Int) c (by omega) hsm.fit') (Ev.bind (sameInts_ev _ hkl) ?_)))
 refine Ev.yes rfl ?_
 refine Ev.bind hst (Ev.bind (impl_WorldsIn_ev (q : Int) _) ?_)
 have hwl := worldsIn_wl (q : Int) (storyV (q : Int) c)
 have hlen := worldsIn_len (q : Int) (storyV (q : Int) c)
 by_cases hn : worldsIn (q : Int) (storyV (q : Int) c) = []
 ·have hl0 : (knownP (q : Int) c).length = 0 := by rw [known_len, if_pos hn]
  rw [alive_eq']
  exact Ev.yes (by omega) (Ev.yes (by rw [hn]; rfl) (Ev.some _))
 ·have hl0 : (knownP (q : Int) c).length = q := by rw [known_len, if_neg hn, e]
  have hne : 0 < (worldsIn (q : Int) (storyV (q : Int) c)).length := List.length_pos_iff.2 hn
  refine Ev.no (by omega) ?_
  exact l0_ hq4 hwl (by omega) hne (fun i hi => known_get hn (by omega)) hl0 q 0 (by omega)
end Go.Proofs.Ytpampekijfjlkab.Pure

-- printed by a program of this session's (xprint)
namespace Go.Proofs.Ytpampekijfjlkab.fnKnownPeople
open Go.ChangeShapes Go.WideShapes Go.ChangeAt Go.RowKit
open Go.ChangeMaps (open_string shut_string)
set_option linter.unusedVariables false
theorem own : ownKnob Try.prog.godebug = none := by kernel_rfl
theorem laidOut : laidOutB Try.prog = true := by kernel_rfl
def IsRow (k : IntKind) (w : World) (a : Option Addr) (len cap : Nat) (zs : List Int) : Prop :=
 (a = none ∧ len = 0 ∧ cap = 0 ∧ zs = []) ∨
 ∃ x, a = some x ∧ len ≤ cap ∧ cap ≤ maxLen ∧ zs.length = cap ∧ (∀ i, i < zs.length → w.cell? (x.add i) = some (.int k (zs.getD i 0))) ∧ ∀ n ∈ zs, (Lit.int k n).wf = true
set_option maxRecDepth 100000 in
theorem lifted (os : Os) (started : os.Started) (H : Type) (enc : TypeId × Value → H) :
  ReturnsInHanded {} Try.checked os 21 .any (Rows.fnKnownPeopleSpec.pre6 enc Try.prog Try.f21 Rows.fnKnownPeopleRow.domain false) (Rows.fnKnownPeopleSpec.post enc Try.prog Try.f21 false true false false) := by
 refine returnsInHanded_of_change_sized (C := Try.checked) own started (by kernel_rfl) Try.func21
  (ChangeSpec.witness6 (enc := enc) (C := Try.checked) false ⟨#[], #[.slice none 0 0], []⟩ 8 (by kernel_rfl) (by kernel_rfl) (by kernel_rfl) (by kernel_rfl)) ?_
 intro W base args ds gs before hval0 hW hcnd hsz0 _
 have hsz : (DataW.weightsEach Try.prog (Try.f21.params.toList ++ Rows.fnKnownPeopleSpec.plain.varTypes Try.prog) (ds ++ gs)).all (· ≤ reachBytes) = true := hsz0
 have hval : ∀ (j : Nat) t v, Try.f21.params[j]? = some t → args[j]? = some v → Value.okWide Try.prog W .any base t v := hval0
 have hW' := hW
 obtain ⟨p, q, hA0, hV, rfl, hfz, hnd⟩ := hW
 have hA : DataW.TrodAll enc Try.prog W 0 (fun _ => true) true Try.f21.params.toList args.toList ds p := hA0
 rw [Try.params21] at hA hval hsz
 obtain ⟨v0, vs0, d0, ds0, p0, q0, hargs, rfl, rfl, h0, r0⟩ := trodAll_cons hA
 obtain ⟨rfl, rfl, rfl⟩ := trodAll_nil r0
 obtain rfl : args = #[v0] := by cases args; simp_all
 obtain ⟨rfl, rfl⟩ := trodVars_none hV
 obtain ⟨a0, len0, cap0, rfl⟩ := okWide_slice Try.underlying22 (hval 0 22 v0 rfl rfl)
 have k0 := h0
 have lt0 : ∀ x ∈ p0, x.block < W.heap.size := by obtain ⟨m, hm⟩ := k0; exact DataW.trod_lt m _ _ _ hm
 obtain ⟨z0, w0⟩ : ∃ zs, IsRow .u8 W a0 len0 cap0 zs := by
  obtain ⟨fuel, hf⟩ := h0
  rcases open_ints Try.underlying22 Try.underlying5 (by kernel_rfl) hf with ⟨hcs, _⟩ | ⟨x, l, c, zs, hcs, _, hl, hm, hz, _, hcell, hwz⟩
  ·simp [Value.cells] at hcs
   obtain ⟨rfl, rfl, rfl⟩ := hcs
   exact ⟨[], .inl ⟨rfl, rfl, rfl, rfl⟩⟩
  ·simp [Value.cells] at hcs
   obtain ⟨rfl, rfl, rfl⟩ := hcs
   exact ⟨zs, .inr ⟨_, rfl, hl, hm, by simpa using hz, hcell, hwz⟩⟩
 have y0 : len0 * 1 ≤ 140737488351232 := Go.Proofs.YtpampekijfjlkabW.PrintWords.sized_ints hsz (j := 0) (t := 22) rfl rfl Try.underlying22 Try.underlying5 (by kernel_rfl) (by kernel_rfl) h0
 clear hA0 hval0 hsz0 hsz
 refine (X.laws_FnKnownPeople.walk Pure.FnKnownPeople a0 len0 cap0 z0 W w0 y0).mono fun e W' ⟨he, bel⟩ => ?_
 subst he
 exact ⟨_, rfl, _, _, _, [], _, [], hW', trodAll_mk1 (shut_bool Try.underlying4 _), (trodAll_cons_mk (Below.trod laidOut (by kernel_rfl) (of_decide_eq_true (by kernel_rfl)) k0 bel lt0) trodAll_mk0), rfl, bel.frame _, fun h => by cases h⟩
theorem closed_ : joinedFacts Try.pinned.checked.prog 21 Try.f21 Rows.fnKnownPeopleSpec Rows.fnKnownPeopleRow = true := by
 unfold joinedFacts
 rw [X.may_, X.fin_, X.make_]
 kernel_rfl
theorem over : Rows.fnKnownPeopleRow.holds Try.pinned (OpenSpec.ofChange Rows.fnKnownPeopleSpec) :=
 OpenClaim.holds_of_wide 21 Try.f21 rfl rfl rfl rfl rfl rfl rfl ⟨rfl, rfl, rfl, rfl, rfl⟩ rfl rfl rfl rfl rfl (by kernel_rfl) Try.func21 closed_
  (of_decide_eq_true (by kernel_rfl)) (by unfold Func.isWrapper; first | (rw [if_pos (by decide +kernel)]; kernel_rfl) | (rw [if_neg (by decide +kernel)]; exact ⟨rfl, rfl⟩))
  (fun os started H enc _ => lifted os started H enc)
theorem proved : Rows.FnKnownPeopleSaid := over
#print axioms proved
end Go.Proofs.Ytpampekijfjlkab.fnKnownPeople
namespace Go.Proofs.Ytpampekijfjlkab
/-- The row, under a short name, for the claim. -/
theorem fnKnownPeople_holds : Rows.FnKnownPeopleSaid := fnKnownPeople.proved
end Go.Proofs.Ytpampekijfjlkab
