/- The given statement FnOnlyWorldSaid: the law laws.FnOnlyWorld returns true for all arguments (the only world is known of everybody: for every code). Conditions: none but those that the statement itself names. Joined by a program of this session's: PureFnOnlyWorld, LawFnOnlyWorld. -/
import Derived.Test.YtpampekijfjlkabG22d05d551e
import Derived.Test.YtpampekijfjlkabG1454ca7738
import Derived.Test.YtpampekijfjlkabRows
import Derived.Test.YtpampekijfjlkabG7c862d3aa4
import Derived.WalkKit
import Derived.ProofKit
import Derived.OpenShut
import Derived.ShutString
import Derived.ChangeOld
import Derived.Below
import Derived.SizedLaws
import Derived.Test.YtpampekijfjlkabV9852bf9163

/- The only world is known of everybody: for every code. -/
namespace Go.Proofs.Ytpampekijfjlkab.Pure
open Go.RowKit Go.Proofs.Ytpampekijfjlkab.X Go.Proofs.Ytpampekijfjlkab.L Go.Proofs.YtpampekijfjlkabW.PrintWords Go.Proofs.YtpampekijfjlkabW.PrintLast Go.Proofs.YtpampekijfjlkabW.PrintMore
theorem two_ {W : List Int} (hp : W.Pairwise (· < ·)) (hl : 2 ≤ W.length) : ∃ a ∈ W, ∃ b ∈ W, a < b := by
 match W, hl with
 | a :: b :: t, _ => exact ⟨a, by simp, b, by simp, by rw [List.pairwise_cons] at hp; exact hp.1 b (by simp)⟩
theorem l2_ {q : Nat} {c : List C} {n : Int} {all : Bool} (hs : sok (q : Int) c = true) {w : Nat} (hw : w < 2 ^ q) (hn : (allMay c w != ((w : Int) == n)) = false) (h : Ev (fun k => laws_FnOnlyWorld.l1 k (q : Int) c n all ((w + 1 : Nat) : Int)) true) : ∀ (suf pre : List C), c = pre ++ suf →
  Ev (fun k => laws_FnOnlyWorld.l2 k (q : Int) c n all (w : Int) (allMay pre w) ((pre.length : Nat) : Int)) true := by
 obtain ⟨hc0, h0, h1, h6⟩ := sok_iff.1 hs
 have hq2 : (2 : Nat) ^ q ≤ 2 ^ 4 := Nat.pow_le_pow_right (by decide) (by omega)
 intro suf
 induction suf with
 | nil =>
  intro pre he
  rw [List.append_nil] at he
  subst he
  refine Ev.step (fun k => by simp only [laws_FnOnlyWorld.l2]; rfl) (Ev.no (by omega) ?_)
  rw [w64 (by omega) (by omega), show ((w : Int) + 1) = ((w + 1 : Nat) : Int) by omega]
  exact Ev.no (by rw [hn]; exact Bool.false_ne_true) h
 | cons x suf ih =>
  intro pre he
  have hle : c.length = pre.length + (suf.length + 1) := by rw [he]; simp
  have hx : rd_T36 c ((pre.length : Nat) : Int) = x := by rw [he]; exact rdC_at pre x suf
  have h' := ih (pre ++ [x]) (by rw [he]; simp)
  rw [allMay_app, allMay_one, List.length_append, List.length_singleton] at h'
  have hk := hc0 x (by rw [he]; simp)
  have hm : maySay (q : Int) x.f0 x.f1 (w : Int) = may x.f0 x.f1 w := if_pos ⟨hk, wok_iff.2 ⟨h0, h1, by omega, by rw [Int.toNat_natCast]; omega⟩⟩
  refine Ev.step (fun k => by simp only [laws_FnOnlyWorld.l2]; rfl) (Ev.yes (by omega) ?_)
  rw [hx, w64 (by omega) (by omega), show (((pre.length : Nat) : Int) + 1) = ((pre.length + 1 : Nat) : Int) by omega]
  cases hp : allMay pre w with
  | true =>
   rw [hp, Bool.true_and] at h'
   refine Ev.yes rfl (Ev.yes (by omega) (Ev.bind (impl_MaySay_ev (q : Int) x.f0 x.f1 (w : Int)) ?_))
   rw [hm]
   exact h'
  | false =>
   rw [hp, Bool.false_and] at h'
   exact Ev.no (by simp) h'
theorem l1_ {q : Nat} {c : List C} {n : Int} (hs : sok (q : Int) c = true) (hn : ∀ w : Nat, w < 2 ^ q → (allMay c w != ((w : Int) == n)) = false) : ∀ d w : Nat, d + w = 2 ^ q →
  Ev (fun k => laws_FnOnlyWorld.l1 k (q : Int) c n true (w : Int)) true := by
 obtain ⟨hc0, h0, h1, h6⟩ := sok_iff.1 hs
 intro d
 induction d with
 | zero =>
  intro w hw
  refine Ev.step (fun k => by simp only [laws_FnOnlyWorld.l1]; rfl) (Ev.yes (by omega) ?_)
  rw [shl_nat (by omega)]
  exact Ev.no (by omega) (Ev.some _)
 | succ d ih =>
  intro w hw
  refine Ev.step (fun k => by simp only [laws_FnOnlyWorld.l1]; rfl) (Ev.yes (by omega) ?_)
  rw [shl_nat (by omega)]
  refine Ev.yes (by omega) ?_
  exact l2_ hs (by omega) (hn w (by omega)) (ih (w + 1) (by omega)) c [] rfl
def allRow (row : List Int) : Bool := decide ((row.length : Int) > 0) && row.all (fun x => decide (x ≥ 0))
theorem l0_ {q : Nat} {c : List C} {n : Int} {ok : Bool} {row : List Int} (hl : row.length ≤ 1000)
  (h1 : ok = true → Ev (fun k => laws_FnOnlyWorld.l1 k (q : Int) c n (allRow row) 0) true) (h2 : ok = false → n = -1 ∧ allRow row = false) : ∀ (suf pre : List Int), row = pre ++ suf →
  Ev (fun k => laws_FnOnlyWorld.l0 k (q : Int) c n ok row (decide ((row.length : Int) > 0) && pre.all (fun x => decide (x ≥ 0))) ((pre.length : Nat) : Int)) true := by
 intro suf
 induction suf with
 | nil =>
  intro pre he
  rw [List.append_nil] at he
  subst he
  refine Ev.step (fun k => by simp only [laws_FnOnlyWorld.l0]; rfl) (Ev.no (by omega) ?_)
  cases ok with
  | true => exact Ev.yes rfl (h1 rfl)
  | false =>
   obtain ⟨e1, e2⟩ := h2 rfl
   rw [allRow] at e2
   rw [e2, alive_eq']
   exact Ev.no (by simp) (Ev.yes e1 (Ev.no (by simp) (Ev.some _)))
 | cons x suf ih =>
  intro pre he
  have hle : row.length = pre.length + (suf.length + 1) := by rw [he]; simp
  have hx : rd row ((pre.length : Nat) : Int) = x := by rw [he]; exact rdW pre x suf
  have h' := ih (pre ++ [x]) (by rw [he]; simp)
  rw [List.all_append, List.length_append, List.length_singleton, ← Bool.and_assoc] at h'
  refine Ev.step (fun k => by simp only [laws_FnOnlyWorld.l0]; rfl) (Ev.yes (by omega) ?_)
  rw [hx, w64 (by omega) (by omega), show (((pre.length : Nat) : Int) + 1) = ((pre.length + 1 : Nat) : Int) by omega]
  cases hp : (decide ((row.length : Int) > 0) && pre.all (fun x => decide (x ≥ 0))) with
  | true =>
   rw [hp, Bool.true_and, List.all_cons, List.all_nil, Bool.and_true] at h'
   exact Ev.yes rfl (Ev.yes (by omega) h')
  | false =>
   rw [hp, Bool.false_and] at h'
   exact Ev.no (by simp) h'
theorem FnOnlyWorld : laws_FnOnlyWorld.Pure := by
 intro l h1 h2 h3
 refine Ev.rounds (r := true) ?_
 unfold laws_FnOnlyWorld.f
 by_cases h : (l.length : Int) > 1048576
 ·exact Ev.yes h (Ev.some _)
 refine Ev.no h ?_
 obtain ⟨p, c, hd, hp1, hp4, hcl, hsm⟩ := DrawOnlyWorld_ev h3
 obtain ⟨q, rfl, hq1, hq4, hq2, e⟩ := people_nat hp1 hp4
 refine Ev.bind hd (Ev.bind (impl_OnlyWorld_ev (q : Int) c (by omega)) (Ev.bind (spec_OnlyWorld_ev (q : Int) c (by omega) hsm.fitO) (Ev.yes rfl ?_)))
 rw [bne_self_eq_false]
 refine Ev.step (fun k => by simp only [laws_FnOnlyWorld.j0]; rfl) (Ev.no (by simp) (Ev.bind (impl_Known_ev (q : Int) c (by omega)) ?_))
 have hkl : (knownP (q : Int) c).length ≤ 1000 := by rw [known_len]; split <;> omega
 have key : ((onlyW (q : Int) c).2 = true → Ev (fun k => laws_FnOnlyWorld.l1 k (q : Int) c (onlyW (q : Int) c).1 (allRow (knownP (q : Int) c)) 0) true) ∧ ((onlyW (q : Int) c).2 = false → (onlyW (q : Int) c).1 = -1 ∧ allRow (knownP (q : Int) c) = false) := by
  have hov : onlyW (q : Int) c = onlyOf (worldsIn (q : Int) (storyV (q : Int) c)) := rfl
  rw [hov]
  by_cases hn : worldsIn (q : Int) (storyV (q : Int) c) = []
  ·have e0 : allRow (knownP (q : Int) c) = false := by
    have hl0 : (knownP (q : Int) c).length = 0 := by rw [known_len, if_pos hn]
    rw [allRow, hl0]
    rfl
   rw [hn, e0]
   exact ⟨fun h => (by cases h), fun _ => ⟨rfl, rfl⟩⟩
  have hl0 : (knownP (q : Int) c).length = q := by rw [known_len, if_neg hn, e]
  have hget : ∀ j, j < q → rd (knownP (q : Int) c) (j : Int) = knownOf (worldsIn (q : Int) (storyV (q : Int) c)) j := fun j hj => known_get hn (by omega)
  obtain ⟨y, hy⟩ := List.exists_mem_of_ne_nil _ hn
  have hs := story_in hy
  have hmem := story_mem hs
  have hpair := worlds_pair (q : Int) (storyV (q : Int) c)
  generalize worldsIn (q : Int) (storyV (q : Int) c) = W at *
  generalize knownP (q : Int) c = row at *
  unfold onlyOf
  by_cases hl1 : W.length = 1
  ·rw [if_pos hl1]
   obtain ⟨n, rfl⟩ : ∃ n, W = [n] := List.length_eq_one_iff.1 hl1
   refine ⟨fun _ => ?_, fun h => by cases h⟩
   have ea : allRow row = true := by
    rw [allRow, decide_eq_true (by omega), Bool.true_and, List.all_eq_true]
    intro x hx
    obtain ⟨j, hj, rfl⟩ := List.mem_iff_getElem.1 hx
    have hg := hget j (by omega)
    unfold rd at hg
    rw [Int.toNat_natCast, List.getD_eq_getElem?_getD, List.getElem?_eq_getElem hj, Option.getD_some] at hg
    rw [hg, known_one]
    exact decide_eq_true (by split <;> omega)
   rw [ea]
   refine l1_ hs (fun w hw => ?_) (2 ^ q) 0 (Nat.add_zero _)
   rw [bne_eq_false_iff_eq]
   have hm := hmem (w : Int)
   rw [List.mem_singleton] at hm
   have hr0 : rd [n] 0 = n := rdW [] n []
   rw [hr0]
   cases ha : allMay c w with
   | true => exact (beq_iff_eq.2 (hm.2 ⟨w, rfl, hw, ha⟩)).symm
   | false =>
    refine (beq_eq_false_iff_ne.2 fun he => ?_).symm
    obtain ⟨v, h1, h2, h3⟩ := hm.1 he
    obtain rfl : w = v := by omega
    rw [ha] at h3
    cases h3
  ·rw [if_neg hl1]
   refine ⟨fun h => (by cases h), fun _ => ⟨rfl, ?_⟩⟩
   have hl2 : 2 ≤ W.length := by have := List.length_pos_iff.2 hn; omega
   obtain ⟨a, ha, b, hb, hab⟩ := two_ hpair hl2
   obtain ⟨va, rfl, ha2, _⟩ := (hmem a).1 ha
   obtain ⟨vb, rfl, hb2, _⟩ := (hmem b).1 hb
   obtain ⟨j, hj, hne⟩ := bits_ne ha2 hb2 (by omega)
   have hg := hget j hj
   have hk : knownOf W j = -1 := by
    unfold knownOf
    rw [if_neg, if_neg]
    ·intro hx
     have e1 := hx _ ha
     have e2 := hx _ hb
     rw [Int.toNat_natCast] at e1 e2
     exact hne (e1.trans e2.symm)
    ·intro hx
     have e1 := hx _ ha
     have e2 := hx _ hb
     rw [Int.toNat_natCast] at e1 e2
     exact hne (e1.trans e2.symm)
   have hin : rd row (j : Int) ∈ row := rdI_mem (by omega) (by omega)
   cases hx : allRow row with
   | false => rfl
   | true =>
    rw [allRow, Bool.and_eq_true, List.all_eq_true] at hx
    have := of_decide_eq_true (hx.2 _ hin)
    omega
 have h0 := l0_ (q := q) (c := c) (n := (onlyW (q : Int) c).1) (ok := (onlyW (q : Int) c).2) (row := knownP (q : Int) c) hkl key.1 key.2 _ [] rfl
 simpa using h0
end Go.Proofs.Ytpampekijfjlkab.Pure
namespace Go.Proofs.Ytpampekijfjlkab.fnOnlyWorld
open Go.ChangeShapes Go.WideShapes Go.ChangeAt Go.RowKit
open Go.ChangeMaps (open_string shut_string)
set_option linter.unusedVariables false
theorem own : ownKnob Try.prog.godebug = none := by kernel_rfl
theorem laidOut : laidOutB Try.prog = true := by kernel_rfl
def IsRow (k : IntKind) (w : World) (a : Option Addr) (len cap : Nat) (zs : List Int) : Prop :=
 (a = none ∧ len = 0 ∧ cap = 0 ∧ zs = []) ∨
 ∃ x, a = some x ∧ len ≤ cap ∧ cap ≤ maxLen ∧ zs.length = cap ∧ (∀ i, i < zs.length → w.cell? (x.add i) = some (.int k (zs.getD i 0))) ∧ ∀ n ∈ zs, (Lit.int k n).wf = true
set_option maxRecDepth 100000 in
theorem lifted (os : Os) (started : os.Started) (H : Type) (enc : TypeId × Value → H) :
  ReturnsInHanded {} Try.checked os 19 .any (Rows.fnOnlyWorldSpec.pre6 enc Try.prog Try.f19 Rows.fnOnlyWorldRow.domain false) (Rows.fnOnlyWorldSpec.post enc Try.prog Try.f19 false true false false) := by
 refine returnsInHanded_of_change_sized (C := Try.checked) own started (by kernel_rfl) Try.func19
  (ChangeSpec.witness6 (enc := enc) (C := Try.checked) false ⟨#[], #[.slice none 0 0], []⟩ 8 (by kernel_rfl) (by kernel_rfl) (by kernel_rfl) (by kernel_rfl)) ?_
 intro W base args ds gs before hval0 hW hcnd hsz0 _
 have hsz : (DataW.weightsEach Try.prog (Try.f19.params.toList ++ Rows.fnOnlyWorldSpec.plain.varTypes Try.prog) (ds ++ gs)).all (· ≤ reachBytes) = true := hsz0
 have hval : ∀ (j : Nat) t v, Try.f19.params[j]? = some t → args[j]? = some v → Value.okWide Try.prog W .any base t v := hval0
 have hW' := hW
 obtain ⟨p, q, hA0, hV, rfl, hfz, hnd⟩ := hW
 have hA : DataW.TrodAll enc Try.prog W 0 (fun _ => true) true Try.f19.params.toList args.toList ds p := hA0
 rw [Try.params19] at hA hval hsz
 obtain ⟨v0, vs0, d0, ds0, p0, q0, hargs, rfl, rfl, h0, r0⟩ := trodAll_cons hA
 obtain ⟨rfl, rfl, rfl⟩ := trodAll_nil r0
 obtain rfl : args = #[v0] := by cases args; simp_all
 obtain ⟨rfl, rfl⟩ := trodVars_none hV
 obtain ⟨a0, len0, cap0, rfl⟩ := okWide_slice Try.underlying22 (hval 0 22 v0 rfl rfl)
 have k0 := h0
 have lt0 : ∀ x ∈ p0, x.block < W.heap.size := by obtain ⟨m, hm⟩ := k0; exact DataW.trod_lt m _ _ _ hm
 obtain ⟨z0, w0⟩ : ∃ zs, IsRow .u8 W a0 len0 cap0 zs := by
  obtain ⟨fuel, hf⟩ := h0
  rcases open_ints Try.underlying22 Try.underlying5 (by kernel_rfl) hf with ⟨hcs, _⟩ | ⟨x, l, c, zs, hcs, _, hl, hm, hz, _, hcell, hwz⟩
  ·simp [Value.cells] at hcs
   obtain ⟨rfl, rfl, rfl⟩ := hcs
   exact ⟨[], .inl ⟨rfl, rfl, rfl, rfl⟩⟩
  ·simp [Value.cells] at hcs
   obtain ⟨rfl, rfl, rfl⟩ := hcs
   exact ⟨zs, .inr ⟨_, rfl, hl, hm, by simpa using hz, hcell, hwz⟩⟩
 have y0 : len0 * 1 ≤ 140737488351232 := Go.Proofs.YtpampekijfjlkabW.PrintWords.sized_ints hsz (j := 0) (t := 22) rfl rfl Try.underlying22 Try.underlying5 (by kernel_rfl) (by kernel_rfl) h0
 clear hA0 hval0 hsz0 hsz
 refine (X.laws_FnOnlyWorld.walk Pure.FnOnlyWorld a0 len0 cap0 z0 W w0 y0).mono fun e W' ⟨he, bel⟩ => ?_
 subst he
 exact ⟨_, rfl, _, _, _, [], _, [], hW', trodAll_mk1 (shut_bool Try.underlying4 _), (trodAll_cons_mk (Below.trod laidOut (by kernel_rfl) (of_decide_eq_true (by kernel_rfl)) k0 bel lt0) trodAll_mk0), rfl, bel.frame _, fun h => by cases h⟩
theorem closed_ : joinedFacts Try.pinned.checked.prog 19 Try.f19 Rows.fnOnlyWorldSpec Rows.fnOnlyWorldRow = true := by
 unfold joinedFacts
 rw [X.may_, X.fin_, X.make_]
 kernel_rfl
theorem over : Rows.fnOnlyWorldRow.holds Try.pinned (OpenSpec.ofChange Rows.fnOnlyWorldSpec) :=
 OpenClaim.holds_of_wide 19 Try.f19 rfl rfl rfl rfl rfl rfl rfl ⟨rfl, rfl, rfl, rfl, rfl⟩ rfl rfl rfl rfl rfl (by kernel_rfl) Try.func19 closed_
  (of_decide_eq_true (by kernel_rfl)) (by unfold Func.isWrapper; first | (rw [if_pos (by decide +kernel)]; kernel_rfl) | (rw [if_neg (by decide +kernel)]; exact ⟨rfl, rfl⟩))
  (fun os started H enc _ => lifted os started H enc)
theorem proved : Rows.FnOnlyWorldSaid := over
#print axioms proved
end Go.Proofs.Ytpampekijfjlkab.fnOnlyWorld
namespace Go.Proofs.Ytpampekijfjlkab
/-- The row, under a short name, for the claim. -/
theorem fnOnlyWorld_holds : Rows.FnOnlyWorldSaid := fnOnlyWorld.proved
end Go.Proofs.Ytpampekijfjlkab
