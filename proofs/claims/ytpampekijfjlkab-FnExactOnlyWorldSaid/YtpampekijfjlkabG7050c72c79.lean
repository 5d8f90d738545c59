/- Joined by a program of this session's: LWS, LOW, LM, LME, LMD, LMS, LMSF. -/
import Derived.Test.YtpampekijfjlkabGccb1f99621
import Derived.Test.YtpampekijfjlkabG946f423b6b
import Derived.Test.YtpampekijfjlkabGd52a570e81
import Derived.Test.YtpampekijfjlkabGb5cf176a12

/- Plain laws of the worlds in a table. -/
namespace Go.Proofs.Ytpampekijfjlkab.L
open Go.RowKit Go.Proofs.Ytpampekijfjlkab.X Go.Proofs.YtpampekijfjlkabW.PrintWords Go.Proofs.YtpampekijfjlkabW.PrintLast Go.Proofs.YtpampekijfjlkabW.PrintMore

/-- A table of worlds of so many people. -/
def tabok (p x : Int) : Bool := decide (1 ≤ p ∧ p ≤ 4 ∧ 0 ≤ x ∧ x < ((2 ^ (2 ^ p.toNat) : Nat) : Int))
theorem tabok_iff {p x : Int} : tabok p x = true ↔ 1 ≤ p ∧ p ≤ 4 ∧ 0 ≤ x ∧ x < ((2 ^ (2 ^ p.toNat) : Nat) : Int) := by unfold tabok; simp
theorem two_pow {q : Nat} (h1 : 1 ≤ q) (h4 : q ≤ 4) : shl .i64 1 (shl .u64 1 (q : Int)) = ((2 ^ (2 ^ q) : Nat) : Int) ∧ 2 ^ (2 ^ q) ≤ 65536 := by
 have : ∀ q : Fin 5, 1 ≤ q.val → shl .i64 1 (shl .u64 1 ((q.val : Nat) : Int)) = ((2 ^ (2 ^ q.val) : Nat) : Int) ∧ 2 ^ (2 ^ q.val) ≤ 65536 := by decide +kernel
 exact this ⟨q, by omega⟩ h1
theorem impl_TableOk_eq (p x : Int) : impl_TableOk.f p x = some (tabok p x) := by
 unfold impl_TableOk.f
 simp only [peopleOk_eq, Option.bind_some]
 by_cases h : 1 ≤ p ∧ p ≤ 4
 ·obtain ⟨q, rfl, hq1, hq4, hq, e⟩ := people_nat h.1 h.2
  rw [if_pos (decide_eq_true h)]
  by_cases h0 : x ≥ 0
  ·rw [if_pos h0, if_pos (by omega), (two_pow hq1 hq4).1]
   congr 1
   unfold tabok
   rw [e]
   exact decide_eq_decide.mpr ⟨fun hw => ⟨h.1, h.2, h0, hw⟩, fun hw => hw.2.2.2⟩
  ·rw [if_neg h0]
   congr 1
   exact (decide_eq_false (fun hw => h0 hw.2.2.1)).symm
 ·rw [if_neg (by simpa using h)]
  congr 1
  exact (decide_eq_false (fun hw => h ⟨hw.1, hw.2.1⟩)).symm
theorem spec_TableOk_eq (p x : Int) : spec_TableOk.f p x = some (tabok p x) := by
 unfold spec_TableOk.f
 simp only [l1In_eq, Option.bind_some]
 by_cases h : 1 ≤ p ∧ p ≤ 4
 ·obtain ⟨q, rfl, hq1, hq4, hq, e⟩ := people_nat h.1 h.2
  obtain ⟨e1, e2⟩ := two_pow hq1 hq4
  have hpos : 1 ≤ 2 ^ (2 ^ q) := Nat.one_le_two_pow
  rw [if_pos (decide_eq_true h), if_pos (by omega), e1, w64 (by omega) (by omega)]
  congr 1
  unfold tabok
  rw [e]
  exact decide_eq_decide.mpr ⟨fun hw => ⟨h.1, h.2, hw.1, by omega⟩, fun hw => ⟨hw.2.2.1, by omega⟩⟩
 ·rw [if_neg (by simpa using h)]
  congr 1
  exact (decide_eq_false (fun hw => h ⟨hw.1, hw.2.1⟩)).symm
theorem shr_nat {x j : Nat} (hj : j ≤ 63) : shr .i64 (x : Int) (j : Int) = ((x / 2 ^ j : Nat) : Int) := by
 show (x : Int) / 2 ^ min ((j : Int)).toNat 64 = _
 rw [Int.toNat_natCast, Nat.min_eq_left (by omega)]
 simp
theorem bit_one {x j : Nat} (hx : x < 65536) (hj : j < 16) : Go.bits .and .i64 (shr .i64 (x : Int) (j : Int)) 1 = if x.testBit j then 1 else 0 := by
 have hle : x / 2 ^ j ≤ x := Nat.div_le_self _ _
 rw [shr_nat (by omega), show (1 : Int) = ((1 : Nat) : Int) from rfl, and_nat (by omega) (by decide), Nat.and_one_is_mod, Nat.testBit_eq_decide_div_mod_eq]
 rcases Nat.mod_two_eq_zero_or_one (x / 2 ^ j) with e | e <;> simp [e]
theorem bit_two {x j : Nat} (_hx : x < 65536) (hj : j < 16) : Int.tmod (shr .i64 (x : Int) (j : Int)) 2 = if x.testBit j then 1 else 0 := by
 rw [shr_nat (by omega), show Int.tmod ((x / 2 ^ j : Nat) : Int) 2 = ((x / 2 ^ j % 2 : Nat) : Int) from rfl, Nat.testBit_eq_decide_div_mod_eq]
 rcases Nat.mod_two_eq_zero_or_one (x / 2 ^ j) with e | e <;> simp [e]
/-- The worlds in a table, from one on. -/
def wls (x : Nat) : Nat → Nat → List Int → List Int
 | 0, _, acc => acc
 | d + 1, j, acc => wls x d (j + 1) (if x.testBit j then acc ++ [(j : Int)] else acc)
def worldsIn (p x : Int) : List Int := if tabok p x = true then wls x.toNat (2 ^ p.toNat) 0 [] else []
theorem impl_WorldsIn_l0 {x q : Nat} (hx : x < 65536) (hq2 : 2 ^ q ≤ 16) : ∀ (d j : Nat) (acc : List Int), d + j = 2 ^ q → acc.length ≤ j → Ev (fun k => impl_WorldsIn.l0 k (x : Int) acc ((2 ^ q : Nat) : Int) (j : Int)) (wls x d j acc) := by
 intro d
 induction d with
 | zero => intro j acc hj _; exact Ev.step (fun k => by simp only [impl_WorldsIn.l0]; rfl) (Ev.no (by omega) (Ev.some _))
 | succ d ih =>
  intro j acc hj ha
  refine Ev.step (fun k => by simp only [impl_WorldsIn.l0]; rfl) ?_
  rw [bit_one hx (by omega), w64 (by omega) (by omega), show ((j : Int) + 1) = ((j + 1 : Nat) : Int) by omega, wls]
  refine Ev.yes (by omega) (Ev.yes (by omega) ?_)
  by_cases h : x.testBit j = true
  ·have e1 : (if x.testBit j = true then (1 : Int) else 0) = 1 := if_pos h
   rw [e1, if_pos h]
   exact Ev.yes rfl (Ev.yes (by omega) (ih (j + 1) _ (by omega) (by simp; omega)))
  ·have e1 : (if x.testBit j = true then (1 : Int) else 0) = 0 := if_neg h
   rw [e1, if_neg h]
   exact Ev.no (by decide) (ih (j + 1) _ (by omega) (by omega))
theorem impl_WorldsIn_ev (p x : Int) : Ev (fun k => impl_WorldsIn.f k p x) (worldsIn p x) := by
 unfold impl_WorldsIn.f
 rw [impl_TableOk_eq]
 simp only [Option.bind_some]
 by_cases h : tabok p x = true
 ·obtain ⟨h0, h1, h2, h3⟩ := tabok_iff.1 h
  rw [worldsIn, if_pos h]
  obtain ⟨q, rfl, hq1, hq4, hq, e⟩ := people_nat h0 h1
  obtain ⟨v, rfl⟩ := Int.eq_ofNat_of_zero_le h2
  have := (two_pow hq1 hq4).2
  rw [e] at h3 ⊢
  refine Ev.yes h (Ev.yes (by omega) ?_)
  rw [shl_nat (by omega), Int.toNat_natCast]
  exact impl_WorldsIn_l0 (by omega) hq (2 ^ q) 0 [] (by omega) (by simp)
 ·rw [worldsIn, if_neg h]
  exact Ev.no h (Ev.some _)
theorem spec_WorldsIn_l0 {x q : Nat} (hok : tabok (q : Int) (x : Int) = true) (hx : x < 65536) (hq4 : q ≤ 4) (hq2 : 2 ^ q ≤ 16) : ∀ (d j : Nat) (acc : List Int), d + j = 2 ^ q → acc.length ≤ j → Ev (fun k => spec_WorldsIn.l0 k (q : Int) (x : Int) acc (j : Int)) (wls x d j acc) := by
 intro d
 induction d with
 | zero =>
  intro j acc hj _
  refine Ev.step (fun k => by simp only [spec_WorldsIn.l0]; rfl) ?_
  rw [spec_TableOk_eq, shl_nat (by omega)]
  simp only [Option.bind_some]
  refine Ev.yes hok (Ev.yes (by omega) ?_)
  rw [decide_eq_false (by omega)]
  exact Ev.step (fun k => by simp only [spec_WorldsIn.j1]; rfl) (Ev.no (by simp) (Ev.some _))
 | succ d ih =>
  intro j acc hj ha
  refine Ev.step (fun k => by simp only [spec_WorldsIn.l0]; rfl) ?_
  rw [spec_TableOk_eq, shl_nat (by omega)]
  simp only [Option.bind_some]
  refine Ev.yes hok (Ev.yes (by omega) ?_)
  rw [decide_eq_true (by omega)]
  refine Ev.step (fun k => by simp only [spec_WorldsIn.j1]; rfl) ?_
  rw [bit_two hx (by omega), w64 (by omega) (by omega), show ((j : Int) + 1) = ((j + 1 : Nat) : Int) by omega, wls]
  refine Ev.yes (by simp) (Ev.yes (by omega) ?_)
  by_cases h : x.testBit j = true
  ·have e1 : (if x.testBit j = true then (1 : Int) else 0) = 1 := if_pos h
   rw [e1, if_pos h]
   exact Ev.yes rfl (Ev.yes (by omega) (ih (j + 1) _ (by omega) (by simp; omega)))
  ·have e1 : (if x.testBit j = true then (1 : Int) else 0) = 0 := if_neg h
   rw [e1, if_neg h]
   exact Ev.no (by decide) (ih (j + 1) _ (by omega) (by omega))
theorem spec_WorldsIn_ev (p x : Int) : Ev (fun k => spec_WorldsIn.f k p x) (worldsIn p x) := by
 unfold spec_WorldsIn.f
 by_cases h : tabok p x = true
 ·obtain ⟨h0, h1, h2, h3⟩ := tabok_iff.1 h
  rw [worldsIn, if_pos h]
  obtain ⟨q, rfl, hq1, hq4, hq, e⟩ := people_nat h0 h1
  obtain ⟨v, rfl⟩ := Int.eq_ofNat_of_zero_le h2
  have := (two_pow hq1 hq4).2
  rw [e] at h3 ⊢
  rw [Int.toNat_natCast]
  exact spec_WorldsIn_l0 h (by omega) hq4 hq (2 ^ q) 0 [] (by omega) (by simp)
 ·rw [worldsIn, if_neg h]
  refine Ev.step (fun k => by simp only [spec_WorldsIn.l0]; rfl) ?_
  rw [spec_TableOk_eq]
  simp only [Option.bind_some]
  refine Ev.no h ?_
  exact Ev.step (fun k => by simp only [spec_WorldsIn.j1]; rfl) (Ev.no (by simp) (Ev.some _))
end Go.Proofs.Ytpampekijfjlkab.L

/- Plain laws of the only world. -/
namespace Go.Proofs.Ytpampekijfjlkab.L
open Go.RowKit Go.Proofs.Ytpampekijfjlkab.X Go.Proofs.YtpampekijfjlkabW.PrintWords Go.Proofs.YtpampekijfjlkabW.PrintLast Go.Proofs.YtpampekijfjlkabW.PrintMore

noncomputable def storyT (p : Int) (l : List C) : Int := if sok p l = true then ((stab p l : Nat) : Int) else -1
def onlyOf (l : List Int) : Int × Bool := if l.length = 1 then (rd l 0, true) else (-1, false)
noncomputable def onlyW (p : Int) (l : List C) : Int × Bool := onlyOf (worldsIn p (storyT p l))
theorem impl_OnlyWorld_ev (p : Int) (l : List C) (hl : l.length ≤ 4611686018427387904) : Ev (fun k => impl_OnlyWorld.f k p l) (onlyW p l) := by
 unfold impl_OnlyWorld.f
 refine Ev.bind (impl_StoryTable_ev p l hl) (Ev.bind (impl_WorldsIn_ev p _) ?_)
 show Ev (fun _ => if ((worldsIn p (storyT p l)).length : Int) = 1 then _ else _) _
 unfold onlyW onlyOf
 by_cases h : (worldsIn p (storyT p l)).length = 1
 ·exact Ev.yes (by omega) (Ev.yes (by show (0 : Int) < ((worldsIn p (storyT p l)).length : Int); omega) (Ev.cast (Ev.some _) (if_pos h).symm))
 ·exact Ev.no (by omega) (Ev.cast (Ev.some _) (if_neg h).symm)
theorem spec_OnlyWorld_ev (p : Int) (l : List C) (hl : l.length ≤ 4611686018427387904) (hf : Fit l) : Ev (fun k => spec_OnlyWorld.f k p l) (onlyW p l) := by
 unfold spec_OnlyWorld.f
 refine Ev.bind (spec_StoryTable_ev p l hl hf) (Ev.bind (spec_WorldsIn_ev p _) ?_)
 show Ev (fun _ => if ((worldsIn p (storyT p l)).length : Int) = 1 then _ else _) _
 unfold onlyW onlyOf
 by_cases h : (worldsIn p (storyT p l)).length = 1
 ·exact Ev.yes (by omega) (Ev.yes (by show (0 : Int) < ((worldsIn p (storyT p l)).length : Int); omega) (Ev.cast (Ev.some _) (if_pos h).symm))
 ·exact Ev.no (by omega) (Ev.cast (Ev.some _) (if_neg h).symm)
end Go.Proofs.Ytpampekijfjlkab.L

/- Plain laws of the exact laws' own helpers at rows of marks: copied, compared, marked and held. -/
namespace Go.Proofs.Ytpampekijfjlkab.L
open Go.RowKit Go.Proofs.Ytpampekijfjlkab.X Go.Proofs.YtpampekijfjlkabW.PrintWords Go.Proofs.YtpampekijfjlkabW.PrintLast Go.Proofs.YtpampekijfjlkabW.PrintMore

/-- A row of the law's marks as one of the program's. -/
def conv (l : List S115) : List M := l.map fun m => ⟨m.f0, m.f1⟩
theorem conv_length (l : List S115) : (conv l).length = l.length := by simp [conv]
theorem i64_wf {x : Int} (h : (Lit.int .i64 x).wf = true) : -9223372036854775808 ≤ x ∧ x ≤ 9223372036854775807 := by
 simp only [Lit.wf, IntKind.min, IntKind.max, IntKind.signed, IntKind.bits, Bool.and_eq_true, decide_eq_true_eq, if_true] at h
 simp at h
 omega
theorem conv_wf {l : List S115} (h : ∀ y ∈ l, wf115 y) : ∀ m ∈ conv l, m.f1 ≤ 9223372036854775807 := by
 intro m hm
 obtain ⟨y, hy, rfl⟩ := List.mem_map.1 hm
 exact (i64_wf (h y hy).2).2
theorem rdLM_at (pre : List S115) (m : S115) (suf : List S115) : rd_T115 (pre ++ m :: suf) ((pre.length : Nat) : Int) = m := by
 unfold rd_T115
 simp [List.getD]
theorem szMarkS_eq (l : List S115) (n : Nat) (hn : n ≤ 1048576) (hl : l.length ≤ 9223372036854775807) : laws_szMarkS.f l (n : Int) = some (if (n : Int) - l.length < 0 then -1 else (n : Int) - l.length) := by
 unfold laws_szMarkS.f
 rw [w64 (by omega) (by omega)]
 by_cases h : (n : Int) - l.length < 0
 ·rw [if_pos h, if_pos h]
 ·rw [if_neg h, if_neg h]
theorem szMarkS_big (l : List S115) (hl : l.length ≤ 9223372036854775807) : laws_szMarkS.f l 1048576 = some (if (1048576 : Int) - l.length < 0 then (-1 : Int) else (1048576 : Int) - l.length) := szMarkS_eq l 1048576 (by omega) hl
theorem toMarkS_l0 (l : List S115) (hl : l.length ≤ 4611686018427387904) : ∀ (suf pre : List S115), l = pre ++ suf →
  Ev (fun k => laws_toMarkS.l0 k l (conv pre ++ List.replicate suf.length z33) ((pre.length : Nat) : Int)) (conv l) := by
 intro suf
 induction suf with
 | nil =>
  intro pre he
  have hle : l.length = pre.length := by rw [he]; simp
  refine Ev.step (fun k => by simp only [laws_toMarkS.l0]; rfl) ?_
  exact Ev.no (by omega) (Ev.cast (Ev.some _) (by rw [he]; simp))
 | cons m t ih =>
  intro pre he
  have hle : l.length = pre.length + (t.length + 1) := by rw [he]; simp
  have hm : rd_T115 l ((pre.length : Nat) : Int) = m := by rw [he]; exact rdLM_at pre m t
  have hnext : wrap64 (((pre.length : Nat) : Int) + 1) = (((pre ++ [m]).length : Nat) : Int) := by rw [w64 (by omega) (by omega)]; simp
  refine Ev.step (fun k => by simp only [laws_toMarkS.l0]; rfl) ?_
  refine Ev.yes (by omega) (Ev.yes (by omega) ?_)
  simp only [laws_toMark.f, Option.bind_some, hm, hnext]
  refine Ev.yes (by simp [conv]; omega) ?_
  have e : (conv pre ++ List.replicate (m :: t).length z33).set ((pre.length : Nat) : Int).toNat ⟨m.f0, m.f1⟩ = conv (pre ++ [m]) ++ List.replicate t.length z33 := by
   have : pre.length = (conv pre).length := by simp [conv]
   rw [Int.toNat_natCast, this, List.set_append_right _ _ (Nat.le_refl _)]
   simp [List.replicate_succ, conv]
  rw [e]
  exact ih (pre ++ [m]) (by rw [he]; simp)
theorem toMarkS_ev (l : List S115) (hl : l.length ≤ 1048576) : Ev (fun k => laws_toMarkS.f k l) (conv l) := by
 unfold laws_toMarkS.f
 refine Ev.yes (by omega) (Ev.yes (by omega) ?_)
 have := toMarkS_l0 l (by omega) l [] rfl
 simpa [conv] using this
theorem eqMarkS_l0 (l : List M) (hl : l.length ≤ 4611686018427387904) : ∀ (suf pre : List M), l = pre ++ suf → Ev (fun k => laws_eqMarkS.l0 k l l ((pre.length : Nat) : Int)) true := by
 intro suf
 induction suf with
 | nil =>
  intro pre he
  have hle : l.length = pre.length := by rw [he]; simp
  refine Ev.step (fun k => by simp only [laws_eqMarkS.l0]; rfl) ?_
  exact Ev.no (by omega) (Ev.some _)
 | cons m t ih =>
  intro pre he
  have hle : l.length = pre.length + (t.length + 1) := by rw [he]; simp
  have hnext : wrap64 (((pre.length : Nat) : Int) + 1) = (((pre ++ [m]).length : Nat) : Int) := by rw [w64 (by omega) (by omega)]; simp
  refine Ev.step (fun k => by simp only [laws_eqMarkS.l0]; rfl) ?_
  refine Ev.yes (by omega) (Ev.yes (by omega) (Ev.yes (by omega) ?_))
  simp only [laws_eqMark.f, if_true, Option.bind_some]
  rw [hnext]
  exact ih (pre ++ [m]) (by rw [he]; simp)
theorem eqMarkS_ev (l : List M) (hl : l.length ≤ 4611686018427387904) : Ev (fun k => laws_eqMarkS.f k l l) true := by
 unfold laws_eqMarkS.f
 exact Ev.yes rfl (eqMarkS_l0 l hl l [] rfl)
end Go.Proofs.Ytpampekijfjlkab.L

/- Plain law of comparing claims. -/
namespace Go.Proofs.Ytpampekijfjlkab.L
open Go.RowKit Go.Proofs.Ytpampekijfjlkab.X Go.Proofs.YtpampekijfjlkabW.PrintWords Go.Proofs.YtpampekijfjlkabW.PrintLast Go.Proofs.YtpampekijfjlkabW.PrintMore

theorem eqClaim_ev (i : Int) (l : List M) (hl : l.length ≤ 4611686018427387904) : Ev (fun k => laws_eqClaim.f k i l i l) true := by
 unfold laws_eqClaim.f
 exact Ev.yes rfl (Ev.bind (eqMarkS_ev l hl) (Ev.yes rfl (Ev.some _)))
end Go.Proofs.Ytpampekijfjlkab.L

/- Plain laws of the exact laws' own helpers at claims that come in. -/
namespace Go.Proofs.Ytpampekijfjlkab.L
open Go.RowKit Go.Proofs.Ytpampekijfjlkab.X Go.Proofs.YtpampekijfjlkabW.PrintWords Go.Proofs.YtpampekijfjlkabW.PrintLast Go.Proofs.YtpampekijfjlkabW.PrintMore

theorem szClaim_big (i : Int) (l : List S115) (hl : l.length ≤ 9223372036854775807) : laws_szClaim.f i l 1048576 = some (if (1048576 : Int) - l.length < 0 then (-1 : Int) else (1048576 : Int) - l.length) := by
 unfold laws_szClaim.f
 rw [szMarkS_big l hl, Option.bind_some]
 by_cases h : (1048576 : Int) - l.length < 0
 ·rw [if_pos h, if_pos (by omega)]
 ·rw [if_neg h, if_neg h]
theorem toClaim_ev (i : Int) (l : List S115) (hl : l.length ≤ 1048576) : Ev (fun k => laws_toClaim.f k i l) (i, conv l) := by
 unfold laws_toClaim.f
 exact Ev.bind (toMarkS_ev l hl) (Ev.some _)
end Go.Proofs.Ytpampekijfjlkab.L

/- Plain laws of the exact laws' own helpers at rows of claims. -/
namespace Go.Proofs.Ytpampekijfjlkab.L
open Go.RowKit Go.Proofs.Ytpampekijfjlkab.X Go.Proofs.YtpampekijfjlkabW.PrintWords Go.Proofs.YtpampekijfjlkabW.PrintLast Go.Proofs.YtpampekijfjlkabW.PrintMore

/-- A row of the law's claims as one of the program's. -/
def convC (l : List S40) : List C := l.map fun c => ⟨c.f0, conv c.f1⟩
theorem convC_length (l : List S40) : (convC l).length = l.length := by simp [convC]
theorem rdLC_at (pre : List S40) (m : S40) (suf : List S40) : rd_T40 (pre ++ m :: suf) ((pre.length : Nat) : Int) = m := by
 unfold rd_T40
 simp [List.getD]
theorem szClaimS_l0 {l : List S40} (hl : l.length ≤ 4611686018427387904) (hb : ∀ y ∈ l, y.f1.length ≤ 9223372036854775807) : ∀ (suf pre : List S40) (n : Nat), l = pre ++ suf → n ≤ 1048576 →
  ∃ r : Int, Ev (fun k => laws_szClaimS.l0 k l (n : Int) ((pre.length : Nat) : Int)) r ∧ (r < 0 ∨ ∀ y ∈ suf, y.f1.length ≤ 1048576) := by
 intro suf
 induction suf with
 | nil =>
  intro pre n he hn
  have hle : l.length = pre.length := by rw [he]; simp
  exact ⟨(n : Int), Ev.step (fun k => by simp only [laws_szClaimS.l0]; rfl) (Ev.no (by omega) (Ev.some _)), .inr (fun y hy => by cases hy)⟩
 | cons c t ih =>
  intro pre n he hn
  have hle : l.length = pre.length + (t.length + 1) := by rw [he]; simp
  have hc : rd_T40 l ((pre.length : Nat) : Int) = c := by rw [he]; exact rdLC_at pre c t
  have hcb := hb c (by rw [he]; simp)
  have hsz : laws_szClaim.f c.f0 c.f1 (n : Int) = some (if (n : Int) - c.f1.length < 0 then (-1 : Int) else (n : Int) - c.f1.length) := by
   unfold laws_szClaim.f
   rw [szMarkS_eq c.f1 n hn hcb, Option.bind_some]
   by_cases h : (n : Int) - c.f1.length < 0
   ·rw [if_pos h, if_pos (by omega)]
   ·rw [if_neg h, if_neg h]
  by_cases h : (n : Int) - c.f1.length < 0
  ·refine ⟨-1, Ev.step (fun k => by simp only [laws_szClaimS.l0]; rfl) ?_, .inl (by omega)⟩
   rw [hc, hsz, if_pos h]
   simp only [Option.bind_some]
   exact Ev.yes (by omega) (Ev.yes (by omega) (Ev.yes (by omega) (Ev.some _)))
  ·obtain ⟨m, hm⟩ := Int.eq_ofNat_of_zero_le (show 0 ≤ (n : Int) - c.f1.length by omega)
   obtain ⟨r, hr, hx⟩ := ih (pre ++ [c]) m (by rw [he]; simp) (by omega)
   refine ⟨r, Ev.step (fun k => by simp only [laws_szClaimS.l0]; rfl) ?_, ?_⟩
   ·rw [hc, hsz, if_neg h, w64 (by omega) (by omega), show (((pre.length : Nat) : Int) + 1) = (((pre ++ [c]).length : Nat) : Int) by simp]
    simp only [Option.bind_some]
    rw [hm]
    exact Ev.yes (by omega) (Ev.yes (by omega) (Ev.no (by omega) hr))
   ·rcases hx with hx | hx
    ·exact .inl hx
    ·refine .inr (fun y hy => ?_)
     rcases List.mem_cons.1 hy with rfl | hy
     ·omega
     ·exact hx y hy
theorem szClaimS_ev (l : List S40) (hl : l.length ≤ 9223372036854775807) (hb : ∀ y ∈ l, y.f1.length ≤ 9223372036854775807) : ∃ r : Int, Ev (fun k => laws_szClaimS.f k l 1048576) r ∧ (r < 0 ∨ (l.length ≤ 1048576 ∧ ∀ y ∈ l, y.f1.length ≤ 1048576)) := by
 unfold laws_szClaimS.f
 rw [w64 (by omega) (by omega)]
 by_cases h : (1048576 : Int) - (l.length : Int) < 0
 ·exact ⟨-1, Ev.yes h (Ev.some _), .inl (by omega)⟩
 ·obtain ⟨n, hn⟩ := Int.eq_ofNat_of_zero_le (show 0 ≤ (1048576 : Int) - (l.length : Int) by omega)
  obtain ⟨r, hr, hx⟩ := szClaimS_l0 (l := l) (by omega) hb l [] n rfl (by omega)
  refine ⟨r, Ev.no h ?_, ?_⟩
  ·rw [hn]; exact hr
  ·rcases hx with hx | hx
   ·exact .inl hx
   ·exact .inr ⟨by omega, hx⟩
theorem toClaimS_l0 {l : List S40} (hl : l.length ≤ 1048576) (hb : ∀ y ∈ l, y.f1.length ≤ 1048576) : ∀ (suf pre : List S40), l = pre ++ suf →
  Ev (fun k => laws_toClaimS.l0 k l (convC pre ++ List.replicate suf.length z36) ((pre.length : Nat) : Int)) (convC l) := by
 intro suf
 induction suf with
 | nil =>
  intro pre he
  have hle : l.length = pre.length := by rw [he]; simp
  refine Ev.step (fun k => by simp only [laws_toClaimS.l0]; rfl) (Ev.no (by omega) (Ev.cast (Ev.some _) ?_))
  rw [he]; simp
 | cons c t ih =>
  intro pre he
  have hle : l.length = pre.length + (t.length + 1) := by rw [he]; simp
  have hc : rd_T40 l ((pre.length : Nat) : Int) = c := by rw [he]; exact rdLC_at pre c t
  have hcb := hb c (by rw [he]; simp)
  refine Ev.step (fun k => by simp only [laws_toClaimS.l0]; rfl) ?_
  rw [hc, w64 (by omega) (by omega), show (((pre.length : Nat) : Int) + 1) = (((pre ++ [c]).length : Nat) : Int) by simp]
  refine Ev.yes (by omega) (Ev.yes (by omega) (Ev.bind (toClaim_ev c.f0 c.f1 hcb) (Ev.yes ?_ ?_)))
  ·rw [List.length_append, convC_length, List.length_replicate, List.length_cons]; omega
  ·have e : (convC pre ++ List.replicate (c :: t).length z36).set ((pre.length : Nat) : Int).toNat ⟨c.f0, conv c.f1⟩ = convC (pre ++ [c]) ++ List.replicate t.length z36 := by
    have e1 : (convC pre ++ List.replicate (c :: t).length z36) = convC pre ++ z36 :: List.replicate t.length z36 := by simp [List.replicate_succ]
    rw [e1, Int.toNat_natCast, ← convC_length pre, List.set_append_right _ _ (Nat.le_refl _), Nat.sub_self, List.set_cons_zero]
    simp [convC]
   rw [e]
   exact ih (pre ++ [c]) (by rw [he]; simp)
theorem toClaimS_ev (l : List S40) (hl : l.length ≤ 1048576) (hb : ∀ y ∈ l, y.f1.length ≤ 1048576) : Ev (fun k => laws_toClaimS.f k l) (convC l) := by
 unfold laws_toClaimS.f
 refine Ev.yes (by omega) (Ev.yes (by omega) ?_)
 rw [Int.toNat_natCast]
 exact toClaimS_l0 hl hb l [] rfl
theorem eqClaimS_l0 {l : List C} (hl : l.length ≤ 4611686018427387904) (hb : ∀ c ∈ l, c.f1.length ≤ 4611686018427387904) : ∀ (suf pre : List C), l = pre ++ suf → Ev (fun k => laws_eqClaimS.l0 k l l ((pre.length : Nat) : Int)) true := by
 intro suf
 induction suf with
 | nil =>
  intro pre he
  have hle : l.length = pre.length := by rw [he]; simp
  exact Ev.step (fun k => by simp only [laws_eqClaimS.l0]; rfl) (Ev.no (by omega) (Ev.some _))
 | cons c t ih =>
  intro pre he
  have hle : l.length = pre.length + (t.length + 1) := by rw [he]; simp
  have hc : rd_T36 l ((pre.length : Nat) : Int) = c := by rw [he]; exact rdC_at pre c t
  refine Ev.step (fun k => by simp only [laws_eqClaimS.l0]; rfl) ?_
  rw [hc, w64 (by omega) (by omega), show (((pre.length : Nat) : Int) + 1) = (((pre ++ [c]).length : Nat) : Int) by simp]
  exact Ev.yes (by omega) (Ev.yes (by omega) (Ev.yes (by omega) (Ev.bind (eqClaim_ev c.f0 c.f1 (hb c (by rw [he]; simp))) (Ev.yes rfl (ih (pre ++ [c]) (by rw [he]; simp))))))
theorem eqClaimS_ev (l : List C) (hl : l.length ≤ 4611686018427387904) (hb : ∀ c ∈ l, c.f1.length ≤ 4611686018427387904) : Ev (fun k => laws_eqClaimS.f k l l) true := by
 unfold laws_eqClaimS.f
 exact Ev.yes rfl (eqClaimS_l0 hl hb l [] rfl)
end Go.Proofs.Ytpampekijfjlkab.L

/- Rows of claims that come in are small enough for the reference's tests. -/
namespace Go.Proofs.Ytpampekijfjlkab.L
open Go.RowKit Go.Proofs.Ytpampekijfjlkab.X Go.Proofs.YtpampekijfjlkabW.PrintWords Go.Proofs.YtpampekijfjlkabW.PrintLast Go.Proofs.YtpampekijfjlkabW.PrintMore

theorem convC_fit {l : List S40} (hw : ∀ y ∈ l, wf40 y) (hb : ∀ y ∈ l, y.f1.length ≤ 1048576) : Fit (convC l) := by
 intro c hc
 obtain ⟨y, hy, rfl⟩ := List.mem_map.1 hc
 exact ⟨by show (conv y.f1).length ≤ _; rw [conv_length]; have := hb y hy; omega, conv_wf (hw y hy).2⟩
theorem convC_len {l : List S40} (hb : ∀ y ∈ l, y.f1.length ≤ 1048576) : ∀ c ∈ convC l, c.f1.length ≤ 4611686018427387904 := by
 intro c hc
 obtain ⟨y, hy, rfl⟩ := List.mem_map.1 hc
 show (conv y.f1).length ≤ _
 rw [conv_length]
 have := hb y hy
 omega
end Go.Proofs.Ytpampekijfjlkab.L
