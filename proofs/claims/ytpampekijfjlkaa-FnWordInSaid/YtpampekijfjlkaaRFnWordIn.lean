/- The given statement FnWordInSaid: the law laws.FnWordIn returns true for all arguments (each word means the other one in another land: for every code). Conditions: none but those that the statement itself names. Joined by a program of this session's: PureFnWordIn, LawFnWordIn. -/
import Derived.Test.YtpampekijfjlkaaG2d41ec3c96
import Derived.Test.YtpampekijfjlkaaGbae8615afd
import Derived.Test.YtpampekijfjlkaaRows
import Derived.Test.YtpampekijfjlkaaG3ebdca1db0
import Derived.WalkKit
import Derived.ProofKit
import Derived.OpenShut
import Derived.ShutString
import Derived.ChangeOld
import Derived.Below
import Derived.SizedLaws
import Derived.Test.YtpampekijfjlkaaVbfe7c00c8d

/- Each word means the other one in another land: for every code. -/
namespace Go.Proofs.Ytpampekijfjlkaa.Pure
open Go.RowKit Go.Proofs.Ytpampekijfjlkaa.X Go.Proofs.Ytpampekijfjlkaa.L Go.Proofs.YtpampekijfjlkaaW.PrintWords Go.Proofs.YtpampekijfjlkaaW.PrintLast Go.Proofs.YtpampekijfjlkaaW.PrintMore
theorem and_bit {m k : Nat} (hm : m < 16) (hk : k < 4) : (Go.bits .and .i64 (m : Int) (shl .i64 1 (k : Int)) = 0) ↔ m.testBit k = false := by
 have : ∀ m : Fin 16, ∀ k : Fin 4, (Go.bits .and .i64 ((m.val : Nat) : Int) (shl .i64 1 ((k.val : Nat) : Int)) = 0) ↔ m.val.testBit k.val = false := by decide +kernel
 exact this ⟨m, hm⟩ ⟨k, hk⟩
theorem flip_bits {w k i : Nat} : (w ^^^ 2 ^ k).testBit i = (w.testBit i != decide (k = i)) := by
 rw [Nat.testBit_xor, Nat.testBit_two_pow]
theorem FnWordIn : laws_FnWordIn.Pure := by
 intro l h1 h2 h3
 refine Ev.rounds (r := true) ?_
 unfold laws_FnWordIn.f
 by_cases h : (l.length : Int) > 1048576
 ·exact Ev.yes h (Ev.some _)
 refine Ev.no h ?_
 obtain ⟨p, i, t, w, hd, hp1, hp4, hi0, hi1, htl, hsm, hw0, hw1⟩ := DrawWordIn_ev h3
 refine Ev.bind hd (Ev.bind (impl_Word_ev p i t w (by omega)) (Ev.bind (spec_Word_ev p i t w (by omega) (by omega) hsm.wf) (Ev.yes rfl ?_)))
 by_cases hc : 2 ≤ p ∧ i < p - 1 ∧ 0 ≤ i ∧ wok p w = true ∧ tok p t = true
 ·obtain ⟨q, rfl, hq1, hq4, hq2, e⟩ := people_nat hp1 hp4
  obtain ⟨j, rfl⟩ := Int.eq_ofNat_of_zero_le hi0
  obtain ⟨v, rfl, hv, hv2⟩ := wok_nat hc.2.2.2.1
  rw [e] at hv2
  have hk := hc.2.2.2.2
  have hW : word (q : Int) (j : Int) t (v : Int) = if (may (j : Int) t v == v.testBit (q - 1)) = true then 1 else 0 := by
   rw [word, if_pos hc, Int.toNat_natCast, Int.toNat_natCast]
  have hA : answer (q : Int) (j : Int) t (v : Int) = if may (j : Int) t v = true then 1 else 0 := by
   rw [answer_in ⟨hc.2.2.2.1, hk, by omega, by omega⟩, Int.toNat_natCast]
  have hlt : ¬ word (q : Int) (j : Int) t (v : Int) < 0 := by rw [hW]; split <;> omega
  have hle : word (q : Int) (j : Int) t (v : Int) ≤ 1 := by rw [hW]; split <;> omega
  have hq3 : ((q : Int) - 1) = ((q - 1 : Nat) : Int) := by omega
  have hfin : ((Go.bits .and .i64 (v : Int) (shl .i64 1 ((q - 1 : Nat) : Int)) != 0) == (answer (q : Int) (j : Int) t (v : Int) == word (q : Int) (j : Int) t (v : Int))) = true := by
   have hb := and_bit hv (show q - 1 < 4 by omega)
   rw [hA, hW]
   cases hbit : v.testBit (q - 1) with
   | false =>
    rw [hbit] at hb
    rw [hb.2 rfl]
    cases may (j : Int) t v <;> simp
   | true =>
    rw [hbit] at hb
    have : (Go.bits .and .i64 (v : Int) (shl .i64 1 ((q - 1 : Nat) : Int)) != 0) = true := bne_iff_ne.2 (fun h => by have := hb.1 h; cases this)
    rw [this]
    cases may (j : Int) t v <;> simp
  refine Ev.no hlt ?_
  rw [w64 (x := (q : Int) - 1) (by omega) (by omega), hq3]
  refine Ev.yes (by omega) (Ev.bind (impl_MatterIn_ev (q : Int) t) (Ev.yes hle ?_))
  rw [if_pos hk, e]
  by_cases hm : (matter t q).testBit (q - 1) = false
  ·refine Ev.yes ((and_bit (matter_lt hq4) (by omega)).2 hm) ?_
   rw [xorb hv (by omega)]
   refine Ev.bind (impl_Word_ev (q : Int) (j : Int) t ((v ^^^ 2 ^ (q - 1) : Nat) : Int) (by omega)) (Ev.yes ?_ (Ev.bind (impl_Answer_ev (q : Int) (j : Int) t (v : Int)) (Ev.cast (Ev.some _) hfin)))
   have hx := xorb_lt (w := v) (i := q - 1) (q := q) hv2 (by omega)
   rw [matter_bit, decide_eq_true (show q - 1 < q by omega), Bool.true_and] at hm
   have hh := dfs_false hm v hv2
   have hmay : may (j : Int) t (v ^^^ 2 ^ (q - 1)) = may (j : Int) t v := by
    unfold may
    rw [← hh, flip_bits, Int.toNat_natCast, show decide (q - 1 = j) = false from decide_eq_false (by omega)]
    simp
   rw [word, if_pos ⟨hc.1, hc.2.1, hc.2.2.1, wok_iff.2 ⟨by omega, by omega, by omega, by rw [e]; omega⟩, hk⟩, Int.toNat_natCast, Int.toNat_natCast, hmay, hW, flip_bits, show decide (q - 1 = q - 1) = true from decide_eq_true rfl]
   cases may (j : Int) t v <;> cases v.testBit (q - 1) <;> simp [w64]
  ·refine Ev.no (fun h => hm ((and_bit (matter_lt hq4) (by omega)).1 h)) ?_
   exact Ev.bind (impl_Answer_ev (q : Int) (j : Int) t (v : Int)) (Ev.cast (Ev.some _) hfin)
 ·have hW : word p i t w = -1 := if_neg hc
  rw [hW]
  refine Ev.yes (by omega) (Ev.yes rfl ?_)
  rw [alive_eq]
  exact Ev.some _
end Go.Proofs.Ytpampekijfjlkaa.Pure

-- printed by a program of this session's (xprint)
namespace Go.Proofs.Ytpampekijfjlkaa.fnWordIn
open Go.ChangeShapes Go.WideShapes Go.ChangeAt Go.RowKit
open Go.ChangeMaps (open_string shut_string)
set_option linter.unusedVariables false
theorem own : ownKnob Try.prog.godebug = none := by kernel_rfl
theorem laidOut : laidOutB Try.prog = true := by kernel_rfl
def IsRow (k : IntKind) (w : World) (a : Option Addr) (len cap : Nat) (zs : List Int) : Prop :=
 (a = none ∧ len = 0 ∧ cap = 0 ∧ zs = []) ∨
 ∃ x, a = some x ∧ len ≤ cap ∧ cap ≤ maxLen ∧ zs.length = cap ∧ (∀ i, i < zs.length → w.cell? (x.add i) = some (.int k (zs.getD i 0))) ∧ ∀ n ∈ zs, (Lit.int k n).wf = true
set_option maxRecDepth 100000 in
theorem lifted (os : Os) (started : os.Started) (H : Type) (enc : TypeId × Value → H) :
  ReturnsInHanded {} Try.checked os 22 .any (Rows.fnWordInSpec.pre6 enc Try.prog Try.f22 Rows.fnWordInRow.domain false) (Rows.fnWordInSpec.post enc Try.prog Try.f22 false true false false) := by
 refine returnsInHanded_of_change_sized (C := Try.checked) own started (by kernel_rfl) Try.func22
  (ChangeSpec.witness6 (enc := enc) (C := Try.checked) false ⟨#[], #[.slice none 0 0], []⟩ 8 (by kernel_rfl) (by kernel_rfl) (by kernel_rfl) (by kernel_rfl)) ?_
 intro W base args ds gs before hval0 hW hcnd hsz0 _
 have hsz : (DataW.weightsEach Try.prog (Try.f22.params.toList ++ Rows.fnWordInSpec.plain.varTypes Try.prog) (ds ++ gs)).all (· ≤ reachBytes) = true := hsz0
 have hval : ∀ (j : Nat) t v, Try.f22.params[j]? = some t → args[j]? = some v → Value.okWide Try.prog W .any base t v := hval0
 have hW' := hW
 obtain ⟨p, q, hA0, hV, rfl, hfz, hnd⟩ := hW
 have hA : DataW.TrodAll enc Try.prog W 0 (fun _ => true) true Try.f22.params.toList args.toList ds p := hA0
 rw [Try.params22] at hA hval hsz
 obtain ⟨v0, vs0, d0, ds0, p0, q0, hargs, rfl, rfl, h0, r0⟩ := trodAll_cons hA
 obtain ⟨rfl, rfl, rfl⟩ := trodAll_nil r0
 obtain rfl : args = #[v0] := by cases args; simp_all
 obtain ⟨rfl, rfl⟩ := trodVars_none hV
 obtain ⟨a0, len0, cap0, rfl⟩ := okWide_slice Try.underlying38 (hval 0 38 v0 rfl rfl)
 have k0 := h0
 have lt0 : ∀ x ∈ p0, x.block < W.heap.size := by obtain ⟨m, hm⟩ := k0; exact DataW.trod_lt m _ _ _ hm
 obtain ⟨z0, w0⟩ : ∃ zs, IsRow .u8 W a0 len0 cap0 zs := by
  obtain ⟨fuel, hf⟩ := h0
  rcases open_ints Try.underlying38 Try.underlying5 (by kernel_rfl) hf with ⟨hcs, _⟩ | ⟨x, l, c, zs, hcs, _, hl, hm, hz, _, hcell, hwz⟩
  ·simp [Value.cells] at hcs
   obtain ⟨rfl, rfl, rfl⟩ := hcs
   exact ⟨[], .inl ⟨rfl, rfl, rfl, rfl⟩⟩
  ·simp [Value.cells] at hcs
   obtain ⟨rfl, rfl, rfl⟩ := hcs
   exact ⟨zs, .inr ⟨_, rfl, hl, hm, by simpa using hz, hcell, hwz⟩⟩
 have y0 : len0 * 1 ≤ 140737488351232 := Go.Proofs.YtpampekijfjlkaaW.PrintWords.sized_ints hsz (j := 0) (t := 38) rfl rfl Try.underlying38 Try.underlying5 (by kernel_rfl) (by kernel_rfl) h0
 clear hA0 hval0 hsz0 hsz
 refine (X.laws_FnWordIn.walk Pure.FnWordIn a0 len0 cap0 z0 W w0 y0).mono fun e W' ⟨he, bel⟩ => ?_
 subst he
 exact ⟨_, rfl, _, _, _, [], _, [], hW', trodAll_mk1 (shut_bool Try.underlying4 _), (trodAll_cons_mk (Below.trod laidOut (by kernel_rfl) (of_decide_eq_true (by kernel_rfl)) k0 bel lt0) trodAll_mk0), rfl, bel.frame _, fun h => by cases h⟩
theorem closed_ : joinedFacts Try.pinned.checked.prog 22 Try.f22 Rows.fnWordInSpec Rows.fnWordInRow = true := by
 unfold joinedFacts
 rw [X.may_, X.fin_, X.make_]
 kernel_rfl
theorem over : Rows.fnWordInRow.holds Try.pinned (OpenSpec.ofChange Rows.fnWordInSpec) :=
 OpenClaim.holds_of_wide 22 Try.f22 rfl rfl rfl rfl rfl rfl rfl ⟨rfl, rfl, rfl, rfl, rfl⟩ rfl rfl rfl rfl rfl (by kernel_rfl) Try.func22 closed_
  (of_decide_eq_true (by kernel_rfl)) (by unfold Func.isWrapper; first | (rw [if_pos (by decide +kernel)]; kernel_rfl) | (rw [if_neg (by decide +kernel)]; exact ⟨rfl, rfl⟩))
  (fun os started H enc _ => lifted os started H enc)
theorem proved : Rows.FnWordInSaid := over
#print axioms proved
end Go.Proofs.Ytpampekijfjlkaa.fnWordIn
namespace Go.Proofs.Ytpampekijfjlkaa
/-- The row, under a short name, for the claim. -/
theorem fnWordIn_holds : Rows.FnWordInSaid := fnWordIn.proved
end Go.Proofs.Ytpampekijfjlkaa
