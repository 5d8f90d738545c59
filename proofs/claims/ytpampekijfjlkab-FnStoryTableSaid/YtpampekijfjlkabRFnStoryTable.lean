/- The given statement FnStoryTableSaid: the law laws.FnStoryTable returns true for all arguments (stories are told in any order: for every code). Conditions: none but those that the statement itself names. Joined by a program of this session's: PureFnStoryTable, LawFnStoryTable. -/
import Derived.Test.YtpampekijfjlkabGe513ed590b
import Derived.Test.YtpampekijfjlkabG9bad073ded
import Derived.Test.YtpampekijfjlkabRows
import Derived.Test.YtpampekijfjlkabG9ef44cfec1
import Derived.WalkKit
import Derived.ProofKit
import Derived.OpenShut
import Derived.ShutString
import Derived.ChangeOld
import Derived.Below
import Derived.SizedLaws
import Derived.Test.YtpampekijfjlkabV6b183c7f09

/- Stories are told in any order: for every code. -/
namespace Go.Proofs.Ytpampekijfjlkab.Pure
open Go.RowKit Go.Proofs.Ytpampekijfjlkab.X Go.Proofs.Ytpampekijfjlkab.L Go.Proofs.YtpampekijfjlkabW.PrintWords Go.Proofs.YtpampekijfjlkabW.PrintLast Go.Proofs.YtpampekijfjlkabW.PrintMore
theorem stab_bit {p : Int} : ∀ (l : List C) (a w : Nat), (stabFrom p a l).testBit w = (a.testBit w && l.all (fun c => (ctab p c.f0 c.f1).testBit w))
 | [], a, w => by simp [stabFrom]
 | c :: l, a, w => by rw [stabFrom, stab_bit l, Nat.testBit_and, List.all_cons, Bool.and_assoc]
theorem stab_rev (p : Int) (l : List C) : stab p l.reverse = stab p l := by
 apply Nat.eq_of_testBit_eq
 intro w
 rw [stab, stab, stab_bit, stab_bit, List.all_reverse]
theorem sok_rev (p : Int) (l : List C) : sok p l.reverse = sok p l := by unfold sok; rw [List.all_reverse, List.length_reverse]
theorem stabFrom_app {p : Int} : ∀ (l : List C) (a : Nat) (c : C), stabFrom p a (l ++ [c]) = stabFrom p a l &&& ctab p c.f0 c.f1
 | [], _, _ => rfl
 | _ :: l, _, c => by rw [List.cons_append, stabFrom, stabFrom_app l, stabFrom]
theorem loop_ {q : Nat} {l : List C} (hq1 : 1 ≤ q) (hq4 : q ≤ 4) (hs : sok (q : Int) l = true) : ∀ (suf pre : List C), l = pre ++ suf →
  Ev (fun k => laws_FnStoryTable.l0 k (q : Int) l ((stab (q : Int) l : Nat) : Int) ((fullT q : Nat) : Int) ((stabFrom (q : Int) (fullT q) pre : Nat) : Int) pre.reverse ((pre.length : Nat) : Int)) true := by
 have h6 := (sok_iff.1 hs).2.2.2
 have hcs := (sok_iff.1 hs).1
 intro suf
 induction suf with
 | nil =>
  intro pre he
  rw [List.append_nil] at he
  subst he
  have h1 := impl_StoryTable_ev (q : Int) l.reverse (by simp; omega)
  rw [sok_rev, if_pos hs, stab_rev] at h1
  have hnil : sok (q : Int) [] = true := sok_iff.2 ⟨(fun c hc => absurd hc (List.not_mem_nil)), by omega, by omega, Nat.zero_le 6⟩
  have h2 := impl_StoryTable_ev (q : Int) [] (by simp)
  rw [if_pos hnil] at h2
  have e0 : stab (q : Int) [] = fullT q := by rw [stab, Int.toNat_natCast]; rfl
  have e1 : stabFrom (q : Int) (fullT q) l = stab (q : Int) l := by rw [stab, Int.toNat_natCast]
  rw [e0] at h2
  rw [e1]
  generalize stab (q : Int) l = Z at *
  generalize fullT q = F at *
  refine Ev.step (fun k => by simp only [laws_FnStoryTable.l0]; rfl) ?_
  exact Ev.no (by omega) (Ev.yes (by simp) (Ev.bind h1 (Ev.yes (by simp) (Ev.bind h2 (Ev.cast (Ev.some _) (by simp))))))
 | cons c suf ih =>
  intro pre he
  have hle : l.length = pre.length + (suf.length + 1) := by rw [he]; simp
  have hc : rd_T36 l ((pre.length : Nat) : Int) = c := by rw [he]; exact rdC_at pre c suf
  have hk := hcs c (by rw [he]; simp)
  have hct := impl_ClaimTable_ev (q : Int) c.f0 c.f1
  rw [if_pos hk] at hct
  have hb := ctab_lt' hk
  have ha : stabFrom (q : Int) (fullT q) pre < 65536 := stabFrom_lt pre _ (full_lt hq4)
  have h := ih (pre ++ [c]) (by rw [he]; simp)
  rw [stabFrom_app, List.reverse_append, List.reverse_singleton] at h
  refine Ev.step (fun k => by simp only [laws_FnStoryTable.l0]; rfl) ?_
  rw [hc, w64 (by omega) (by omega), show (((pre.length : Nat) : Int) + 1) = (((pre ++ [c]).length : Nat) : Int) by simp]
  generalize hF : fullT q = F at *
  generalize hZ : stab (q : Int) l = Z at *
  refine Ev.yes (by omega) (Ev.yes (by omega) (Ev.bind hct ?_))
  simp only [Option.bind_some]
  refine Ev.yes (by simp; omega) ?_
  rw [and_nat (by omega) (by omega)]
  exact h
theorem FnStoryTable : laws_FnStoryTable.Pure := by
 intro l h1 h2 h3
 refine Ev.rounds (r := true) ?_
 unfold laws_FnStoryTable.f
 by_cases h : (l.length : Int) > 1048576
 ·exact Ev.yes h (Ev.some _)
 refine Ev.no h ?_
 obtain ⟨p, c, hd, hp1, hp4, hc7, hsm⟩ := DrawStoryTable_ev h3
 refine Ev.bind hd (Ev.bind (impl_StoryTable_ev p c (by omega)) (Ev.bind (spec_StoryTable_ev p c (by omega) hsm.fit) (Ev.yes rfl ?_)))
 by_cases hs : sok p c = true
 ·rw [if_pos hs]
  obtain ⟨q, rfl, hq1, hq4, hq2, e⟩ := people_nat hp1 hp4
  have h := loop_ hq1 hq4 hs c [] rfl
  rw [full_eq hq1 hq4]
  refine Ev.no (by omega) (Ev.yes (by omega) ?_)
  exact h
 ·rw [if_neg hs]
  refine Ev.yes (by omega) (Ev.yes rfl (Ev.bind (impl_StoryOk_ev p c (by omega)) (Ev.no hs ?_)))
  rw [alive_eq']
  exact Ev.some _
end Go.Proofs.Ytpampekijfjlkab.Pure

-- printed by a program of this session's (xprint)
namespace Go.Proofs.Ytpampekijfjlkab.fnStoryTable
open Go.ChangeShapes Go.WideShapes Go.ChangeAt Go.RowKit
open Go.ChangeMaps (open_string shut_string)
set_option linter.unusedVariables false
theorem own : ownKnob Try.prog.godebug = none := by kernel_rfl
theorem laidOut : laidOutB Try.prog = true := by kernel_rfl
def IsRow (k : IntKind) (w : World) (a : Option Addr) (len cap : Nat) (zs : List Int) : Prop :=
 (a = none ∧ len = 0 ∧ cap = 0 ∧ zs = []) ∨
 ∃ x, a = some x ∧ len ≤ cap ∧ cap ≤ maxLen ∧ zs.length = cap ∧ (∀ i, i < zs.length → w.cell? (x.add i) = some (.int k (zs.getD i 0))) ∧ ∀ n ∈ zs, (Lit.int k n).wf = true
set_option maxRecDepth 100000 in
theorem lifted (os : Os) (started : os.Started) (H : Type) (enc : TypeId × Value → H) :
  ReturnsInHanded {} Try.checked os 9 .any (Rows.fnStoryTableSpec.pre6 enc Try.prog Try.f9 Rows.fnStoryTableRow.domain false) (Rows.fnStoryTableSpec.post enc Try.prog Try.f9 false true false false) := by
 refine returnsInHanded_of_change_sized (C := Try.checked) own started (by kernel_rfl) Try.func9
  (ChangeSpec.witness6 (enc := enc) (C := Try.checked) false ⟨#[], #[.slice none 0 0], []⟩ 8 (by kernel_rfl) (by kernel_rfl) (by kernel_rfl) (by kernel_rfl)) ?_
 intro W base args ds gs before hval0 hW hcnd hsz0 _
 have hsz : (DataW.weightsEach Try.prog (Try.f9.params.toList ++ Rows.fnStoryTableSpec.plain.varTypes Try.prog) (ds ++ gs)).all (· ≤ reachBytes) = true := hsz0
 have hval : ∀ (j : Nat) t v, Try.f9.params[j]? = some t → args[j]? = some v → Value.okWide Try.prog W .any base t v := hval0
 have hW' := hW
 obtain ⟨p, q, hA0, hV, rfl, hfz, hnd⟩ := hW
 have hA : DataW.TrodAll enc Try.prog W 0 (fun _ => true) true Try.f9.params.toList args.toList ds p := hA0
 rw [Try.params9] at hA hval hsz
 obtain ⟨v0, vs0, d0, ds0, p0, q0, hargs, rfl, rfl, h0, r0⟩ := trodAll_cons hA
 obtain ⟨rfl, rfl, rfl⟩ := trodAll_nil r0
 obtain rfl : args = #[v0] := by cases args; simp_all
 obtain ⟨rfl, rfl⟩ := trodVars_none hV
 obtain ⟨a0, len0, cap0, rfl⟩ := okWide_slice Try.underlying22 (hval 0 22 v0 rfl rfl)
 have k0 := h0
 have lt0 : ∀ x ∈ p0, x.block < W.heap.size := by obtain ⟨m, hm⟩ := k0; exact DataW.trod_lt m _ _ _ hm
 obtain ⟨z0, w0⟩ : ∃ zs, IsRow .u8 W a0 len0 cap0 zs := by
  obtain ⟨fuel, hf⟩ := h0
  rcases open_ints Try.underlying22 Try.underlying5 (by kernel_rfl) hf with ⟨hcs, _⟩ | ⟨x, l, c, zs, hcs, _, hl, hm, hz, _, hcell, hwz⟩
  ·simp [Value.cells] at hcs
   obtain ⟨rfl, rfl, rfl⟩ := hcs
   exact ⟨[], .inl ⟨rfl, rfl, rfl, rfl⟩⟩
  ·simp [Value.cells] at hcs
   obtain ⟨rfl, rfl, rfl⟩ := hcs
   exact ⟨zs, .inr ⟨_, rfl, hl, hm, by simpa using hz, hcell, hwz⟩⟩
 have y0 : len0 * 1 ≤ 140737488351232 := Go.Proofs.YtpampekijfjlkabW.PrintWords.sized_ints hsz (j := 0) (t := 22) rfl rfl Try.underlying22 Try.underlying5 (by kernel_rfl) (by kernel_rfl) h0
 clear hA0 hval0 hsz0 hsz
 refine (X.laws_FnStoryTable.walk Pure.FnStoryTable a0 len0 cap0 z0 W w0 y0).mono fun e W' ⟨he, bel⟩ => ?_
 subst he
 exact ⟨_, rfl, _, _, _, [], _, [], hW', trodAll_mk1 (shut_bool Try.underlying4 _), (trodAll_cons_mk (Below.trod laidOut (by kernel_rfl) (of_decide_eq_true (by kernel_rfl)) k0 bel lt0) trodAll_mk0), rfl, bel.frame _, fun h => by cases h⟩
theorem closed_ : joinedFacts Try.pinned.checked.prog 9 Try.f9 Rows.fnStoryTableSpec Rows.fnStoryTableRow = true := by
 unfold joinedFacts
 rw [X.may_, X.fin_, X.make_]
 kernel_rfl
theorem over : Rows.fnStoryTableRow.holds Try.pinned (OpenSpec.ofChange Rows.fnStoryTableSpec) :=
 OpenClaim.holds_of_wide 9 Try.f9 rfl rfl rfl rfl rfl rfl rfl ⟨rfl, rfl, rfl, rfl, rfl⟩ rfl rfl rfl rfl rfl (by kernel_rfl) Try.func9 closed_
  (of_decide_eq_true (by kernel_rfl)) (by unfold Func.isWrapper; first | (rw [if_pos (by decide +kernel)]; kernel_rfl) | (rw [if_neg (by decide +kernel)]; exact ⟨rfl, rfl⟩))
  (fun os started H enc _ => lifted os started H enc)
theorem proved : Rows.FnStoryTableSaid := over
#print axioms proved
end Go.Proofs.Ytpampekijfjlkab.fnStoryTable
namespace Go.Proofs.Ytpampekijfjlkab
/-- The row, under a short name, for the claim. -/
theorem fnStoryTable_holds : Rows.FnStoryTableSaid := fnStoryTable.proved
end Go.Proofs.Ytpampekijfjlkab
