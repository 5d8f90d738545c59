/- The given statement FnKindClaimSaid: the law laws.FnKindClaim returns true for all arguments (claims of kinds: for every code). Conditions: none but those that the statement itself names. Joined by a program of this session's: PureFnKindClaim, LawFnKindClaim. -/
import Derived.Test.YtofcmhpoebbnoaaG22b7cb6824
import Derived.Test.YtofcmhpoebbnoaaG3ec3b3a40e
import Derived.Test.YtofcmhpoebbnoaaGc3430b0a77
import Derived.Test.YtofcmhpoebbnoaaRows
import Derived.Test.YtofcmhpoebbnoaaG230de73dc9
import Derived.WalkKit
import Derived.ProofKit
import Derived.OpenShut
import Derived.ShutString
import Derived.ChangeOld
import Derived.Below
import Derived.SizedLaws
import Derived.Test.YtofcmhpoebbnoaaVdf7b0b8757

/- Claims of kinds: for every code. -/
namespace Go.Proofs.Ytofcmhpoebbnoaa.Pure
open Go.RowKit Go.Proofs.Ytofcmhpoebbnoaa.X Go.Proofs.Ytofcmhpoebbnoaa.L Go.Proofs.YtofcmhpoebbnoaaW.PrintWords Go.Proofs.YtofcmhpoebbnoaaW.PrintLast Go.Proofs.YtofcmhpoebbnoaaW.PrintMore
theorem sameClaim_ev (j : Int) (u : List M) (hu : u.length ≤ 4611686018427387904) : Ev (fun k => laws_sameClaim.f k j u j u) true := by
 unfold laws_sameClaim.f
 exact Ev.yes rfl (Ev.bind (sameMarks_ev u hu) (Ev.some _))
theorem kind_in {p i j : Int} {b : Bool} (h : clok p i (kindT j b) = true) : 0 ≤ j ∧ j < p := by
 obtain ⟨_, _, _, _, hs⟩ := tok_iff.1 (clok_iff.1 h).2.2.1
 refine Classical.byContradiction fun hn => ?_
 cases b <;> simp [kindT, scan, hn] at hs
theorem kind_ok {p i j : Int} {b : Bool} (h : clok p i (kindT j b) = true) : clok p j (kindT i b) = true := by
 obtain ⟨h0, h1⟩ := kind_in h
 obtain ⟨h2, h3, hk, _⟩ := clok_iff.1 h
 have hp := tok_iff.1 hk
 refine clok_iff.2 ⟨h0, h1, tok_iff.2 ⟨hp.1, hp.2.1, ?_, ?_, ?_⟩, ?_⟩
 all_goals cases b <;> simp [kindT, scan, h2, h3]
theorem kind_hv {j : Nat} (hj : j < 4) (b : Bool) {w : Nat} (hw : w < 16) : hv (kindT (j : Int) b) w = (w.testBit j == b) := by
 cases b with
 | true => exact (hv_post (a := .tell j) (by simp only [Tm.good]; omega) (by simp [Tm.post]) hw).trans (by simp [Tm.ev])
 | false => exact (hv_post (a := .neg (.tell j)) (by simp only [Tm.good]; omega) (by simp [Tm.post]) hw).trans (by simp [Tm.ev])
def kP (i j : Nat) (b : Bool) (w : Nat) : Bool := (w.testBit j == b) == w.testBit i
theorem kind_may {i j : Nat} (hj : j < 4) (b : Bool) {w : Nat} (hw : w < 16) : may (i : Int) (kindT (j : Int) b) w = kP i j b w := by
 unfold may kP
 rw [kind_hv hj b hw, Int.toNat_natCast]
theorem kP_swap (i j : Nat) (b : Bool) (w : Nat) : kP i j b w = kP j i b w := by
 unfold kP
 cases w.testBit i <;> cases w.testBit j <;> cases b <;> rfl
theorem kP_self (i : Nat) (b : Bool) (w : Nat) : kP i i b w = b := by
 unfold kP
 cases w.testBit i <;> cases b <;> rfl
theorem kP_half : ∀ (q : Fin 5) (i j : Fin 4) (b : Bool), i.val < q.val → j.val < q.val → i ≠ j → 2 * bs (kP i.val j.val b) (2 ^ q.val) = 2 ^ q.val := by decide +kernel
theorem bs_all (b : Bool) (d : Nat) : bs (fun _ => b) d = if b = true then d else 0 := by
 cases b with
 | true => exact (bs_full d).2 (fun _ _ => rfl)
 | false => exact (bs_zero d).2 (fun _ _ => rfl)
theorem FnKindClaim : laws_FnKindClaim.Pure := by
 intro l h1 h2 h3
 refine Ev.rounds (r := true) ?_
 unfold laws_FnKindClaim.f
 by_cases h : (l.length : Int) > 1048576
 ·exact Ev.yes h (Ev.some _)
 refine Ev.no h ?_
 obtain ⟨p, i, j, b, hd, hj⟩ := DrawKindClaim_ev h3
 have hs := spec_KindClaim_ev p i j b (by omega)
 have hm := impl_KindClaim_ev p i j b
 have hm2 := impl_KindClaim_ev p j i b
 refine Ev.bind hd ?_
 dsimp only
 by_cases hc : clok p i (kindT j b) = true
 ·have e1 : claimR p i (kindT j b) = (i, kindT j b, true) := if_pos hc
  have hc2 := kind_ok hc
  have e2 : claimR p j (kindT i b) = (j, kindT i b, true) := if_pos hc2
  have hn := impl_SayCount_ev p i (kindT j b)
  have ht1 := impl_ClaimTable_ev p i (kindT j b)
  have ht2 := impl_ClaimTable_ev p j (kindT i b)
  rw [if_pos hc] at ht1
  rw [if_pos hc2] at ht2
  rw [e1] at hs hm
  rw [e2] at hm2
  have hsa := sameClaim_ev i (kindT j b) (by have := (clok_iff.1 hc).2.2.2; omega)
  obtain ⟨h2, h3, hk, _⟩ := clok_iff.1 hc
  obtain ⟨h0, h1⟩ := kind_in hc
  obtain ⟨hp1, hp4, _⟩ := tok_iff.1 hk
  obtain ⟨q, rfl, hq1, hq4, hq2, e⟩ := people_nat hp1 hp4
  obtain ⟨i, rfl⟩ := Int.eq_ofNat_of_zero_le h2
  obtain ⟨j, rfl⟩ := Int.eq_ofNat_of_zero_le h0
  have hct : ctab (q : Int) (j : Int) (kindT (i : Int) b) = ctab (q : Int) (i : Int) (kindT (j : Int) b) := by
   unfold ctab
   rw [e]
   exact tabL_congr (fun w hw => by rw [kind_may (by omega) b (by omega), kind_may (by omega) b (by omega), kP_swap])
  have hsn : sayN (q : Int) (i : Int) (kindT (j : Int) b) = ((bs (kP i j b) (2 ^ q) : Nat) : Int) := by
   rw [sayN, if_pos hc, ctab, e, hd_tab _ hq2]
   exact congrArg _ (bs_congr _ (fun w hw => kind_may (by omega) b (by omega)))
  rw [hct] at ht2
  rw [hsn] at hn
  have hle := bs_le (kP i j b) (2 ^ q)
  generalize kindT (j : Int) b = U at *
  generalize kindT (i : Int) b = V at *
  generalize ((ctab (q : Int) (i : Int) U : Nat) : Int) = Z at *
  refine Ev.bind hm (Ev.bind hs (Ev.bind hsa (Ev.yes rfl ?_)))
  refine Ev.step (fun k => by simp only [laws_FnKindClaim.j0]; rfl) ?_
  refine Ev.no (by simp) (Ev.yes trivial (Ev.bind hm2 (Ev.bind hn (Ev.yes rfl (Ev.bind ht2 (Ev.bind ht1 (Ev.yes rfl ?_)))))))
  rw [shl_nat (by omega)]
  by_cases hij : i = j
  ·subst hij
   have hx : bs (kP i i b) (2 ^ q) = if b = true then 2 ^ q else 0 := (bs_congr _ (fun w _ => kP_self i b w)).trans (bs_all b _)
   have hpos : 0 < 2 ^ q := Nat.pow_pos (by omega)
   rw [hx]
   cases b with
   | true =>
    refine Ev.yes rfl (Ev.yes (by omega) (Ev.yes (by simp) (Ev.cast (Ev.some _) ?_)))
    rw [if_pos rfl, show (((2 ^ q : Nat) : Int) == 0) = false from beq_eq_false_iff_ne.2 (by omega)]
    rfl
   | false =>
    refine Ev.yes rfl (Ev.yes (by omega) (Ev.yes ?_ (Ev.cast (Ev.some _) (by simp))))
    rw [if_neg (by simp), show (((0 : Nat) : Int) == ((2 ^ q : Nat) : Int)) = false from beq_eq_false_iff_ne.2 (by omega)]
    rfl
  ·have hx := kP_half ⟨q, by omega⟩ ⟨i, by omega⟩ ⟨j, by omega⟩ b (by show i < q; omega) (by show j < q; omega) (fun h => hij (congrArg Fin.val h))
   change 2 * bs (kP i j b) (2 ^ q) = 2 ^ q at hx
   refine Ev.no (by omega) (Ev.yes (by omega) (Ev.yes ?_ (Ev.some _)))
   rw [w64 (by omega) (by omega)]
   omega
 ·have e1 : claimR p i (kindT j b) = (0, [], false) := if_neg hc
  rw [e1] at hs hm
  have hsa := sameClaim_ev 0 ([] : List M) (by simp)
  refine Ev.bind hm (Ev.bind hs (Ev.bind hsa (Ev.yes rfl ?_)))
  refine Ev.step (fun k => by simp only [laws_FnKindClaim.j0]; rfl) ?_
  refine Ev.no (by simp) (Ev.no (by simp) (Ev.yes trivial (Ev.yes (by simp) ?_)))
  rw [alive_eq']
  exact Ev.some _
end Go.Proofs.Ytofcmhpoebbnoaa.Pure
namespace Go.Proofs.Ytofcmhpoebbnoaa.fnKindClaim
open Go.ChangeShapes Go.WideShapes Go.ChangeAt Go.RowKit
open Go.ChangeMaps (open_string shut_string)
set_option linter.unusedVariables false
theorem own : ownKnob Try.prog.godebug = none := by kernel_rfl
theorem laidOut : laidOutB Try.prog = true := by kernel_rfl
def IsRow (k : IntKind) (w : World) (a : Option Addr) (len cap : Nat) (zs : List Int) : Prop :=
 (a = none ∧ len = 0 ∧ cap = 0 ∧ zs = []) ∨
 ∃ x, a = some x ∧ len ≤ cap ∧ cap ≤ maxLen ∧ zs.length = cap ∧ (∀ i, i < zs.length → w.cell? (x.add i) = some (.int k (zs.getD i 0))) ∧ ∀ n ∈ zs, (Lit.int k n).wf = true
set_option maxRecDepth 100000 in
theorem lifted (os : Os) (started : os.Started) (H : Type) (enc : TypeId × Value → H) :
  ReturnsInHanded {} Try.checked os 14 .any (Rows.fnKindClaimSpec.pre6 enc Try.prog Try.f14 Rows.fnKindClaimRow.domain false) (Rows.fnKindClaimSpec.post enc Try.prog Try.f14 false true false false) := by
 refine returnsInHanded_of_change_sized (C := Try.checked) own started (by kernel_rfl) Try.func14
  (ChangeSpec.witness6 (enc := enc) (C := Try.checked) false ⟨#[], #[.slice none 0 0], []⟩ 8 (by kernel_rfl) (by kernel_rfl) (by kernel_rfl) (by kernel_rfl)) ?_
 intro W base args ds gs before hval0 hW hcnd hsz0 _
 have hsz : (DataW.weightsEach Try.prog (Try.f14.params.toList ++ Rows.fnKindClaimSpec.plain.varTypes Try.prog) (ds ++ gs)).all (· ≤ reachBytes) = true := hsz0
 have hval : ∀ (j : Nat) t v, Try.f14.params[j]? = some t → args[j]? = some v → Value.okWide Try.prog W .any base t v := hval0
 have hW' := hW
 obtain ⟨p, q, hA0, hV, rfl, hfz, hnd⟩ := hW
 have hA : DataW.TrodAll enc Try.prog W 0 (fun _ => true) true Try.f14.params.toList args.toList ds p := hA0
 rw [Try.params14] at hA hval hsz
 obtain ⟨v0, vs0, d0, ds0, p0, q0, hargs, rfl, rfl, h0, r0⟩ := trodAll_cons hA
 obtain ⟨rfl, rfl, rfl⟩ := trodAll_nil r0
 obtain rfl : args = #[v0] := by cases args; simp_all
 obtain ⟨rfl, rfl⟩ := trodVars_none hV
 obtain ⟨a0, len0, cap0, rfl⟩ := okWide_slice Try.underlying26 (hval 0 26 v0 rfl rfl)
 have k0 := h0
 have lt0 : ∀ x ∈ p0, x.block < W.heap.size := by obtain ⟨m, hm⟩ := k0; exact DataW.trod_lt m _ _ _ hm
 obtain ⟨z0, w0⟩ : ∃ zs, IsRow .u8 W a0 len0 cap0 zs := by
  obtain ⟨fuel, hf⟩ := h0
  rcases open_ints Try.underlying26 Try.underlying5 (by kernel_rfl) hf with ⟨hcs, _⟩ | ⟨x, l, c, zs, hcs, _, hl, hm, hz, _, hcell, hwz⟩
  ·simp [Value.cells] at hcs
   obtain ⟨rfl, rfl, rfl⟩ := hcs
   exact ⟨[], .inl ⟨rfl, rfl, rfl, rfl⟩⟩
  ·simp [Value.cells] at hcs
   obtain ⟨rfl, rfl, rfl⟩ := hcs
   exact ⟨zs, .inr ⟨_, rfl, hl, hm, by simpa using hz, hcell, hwz⟩⟩
 have y0 : len0 * 1 ≤ 140737488351232 := Go.Proofs.YtofcmhpoebbnoaaW.PrintWords.sized_ints hsz (j := 0) (t := 26) rfl rfl Try.underlying26 Try.underlying5 (by kernel_rfl) (by kernel_rfl) h0
 clear hA0 hval0 hsz0 hsz
 refine (X.laws_FnKindClaim.walk Pure.FnKindClaim a0 len0 cap0 z0 W w0 y0).mono fun e W' ⟨he, bel⟩ => ?_
 subst he
 exact ⟨_, rfl, _, _, _, [], _, [], hW', trodAll_mk1 (shut_bool Try.underlying4 _), (trodAll_cons_mk (Below.trod laidOut (by kernel_rfl) (of_decide_eq_true (by kernel_rfl)) k0 bel lt0) trodAll_mk0), rfl, bel.frame _, fun h => by cases h⟩
theorem closed_ : joinedFacts Try.pinned.checked.prog 14 Try.f14 Rows.fnKindClaimSpec Rows.fnKindClaimRow = true := by
 unfold joinedFacts
 rw [X.may_, X.fin_, X.make_]
 kernel_rfl
theorem over : Rows.fnKindClaimRow.holds Try.pinned (OpenSpec.ofChange Rows.fnKindClaimSpec) :=
 OpenClaim.holds_of_wide 14 Try.f14 rfl rfl rfl rfl rfl rfl rfl ⟨rfl, rfl, rfl, rfl, rfl⟩ rfl rfl rfl rfl rfl (by kernel_rfl) Try.func14 closed_
  (of_decide_eq_true (by kernel_rfl)) (by unfold Func.isWrapper; first | (rw [if_pos (by decide +kernel)]; kernel_rfl) | (rw [if_neg (by decide +kernel)]; exact ⟨rfl, rfl⟩))
  (fun os started H enc _ => lifted os started H enc)
theorem proved : Rows.FnKindClaimSaid := over
#print axioms proved
end Go.Proofs.Ytofcmhpoebbnoaa.fnKindClaim
namespace Go.Proofs.Ytofcmhpoebbnoaa
/-- The row, under a short name, for the claim. -/
theorem fnKindClaim_holds : Rows.FnKindClaimSaid := fnKindClaim.proved
end Go.Proofs.Ytofcmhpoebbnoaa
