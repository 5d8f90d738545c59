/- Joined by a program of this session's: LP, LT. -/
import Derived.Test.YtofcmhpoebbnoaaG9493ac1fb5
import Derived.Test.YtofcmhpoebbnoaaG4657974ba9
import Derived.Laws.BitsLemmas
import Derived.Test.YtofcmhpoebbnoaaGa0b8041123

/- Plain laws of the reader of draws: whatever the code, it answers, with a number in its range. -/
namespace Go.Proofs.Ytofcmhpoebbnoaa.L
open Go.RowKit Go.Proofs.Ytofcmhpoebbnoaa.X Go.Proofs.YtofcmhpoebbnoaaW.PrintWords Go.Proofs.YtofcmhpoebbnoaaW.PrintLast Go.Proofs.YtofcmhpoebbnoaaW.PrintMore
theorem rdI_mem {s : List Int} {i : Int} (h0 : 0 ≤ i) (h1 : i < (s.length : Int)) : rd s i ∈ s := by
 unfold rd
 rw [List.getD_eq_getElem?_getD, List.getElem?_eq_getElem (by omega)]
 exact List.getElem_mem _
theorem xor_nat (a b : Nat) (ha : a < 2 ^ 62) (hb : b < 2 ^ 62) : Go.bits .xor .i64 (a : Int) (b : Int) = ((a ^^^ b : Nat) : Int) := by
 have ha' : a % 2 ^ IntKind.i64.bits = a := Nat.mod_eq_of_lt (by show a < 2 ^ 64; omega)
 have hb' : b % 2 ^ IntKind.i64.bits = b := Nat.mod_eq_of_lt (by show b < 2 ^ 64; omega)
 have hx : a ^^^ b < 2 ^ 62 := Nat.xor_lt_two_pow ha hb
 simp only [Go.bits, BitVec.ofInt_natCast, BitVec.toNat_xor, BitVec.toNat_ofNat, ha', hb']
 rw [IntKind.wrap_i64]
 omega
/-- A reader of draws, in bounds. -/
def Rd (s : List Int) : Prop := s.length ≤ 2000 ∧ ∀ x ∈ s, 0 ≤ x ∧ x < 256
theorem pick_ev {s : List Int} (hs : Rd s) {p : Int} (h0 : 0 ≤ p) (h1 : p ≤ 1000000) (n : Int) (hn : n ≤ 1000000) :
  ∃ r : Int, Ev (fun k => spec_l20Rd_pick.f k s p n) (r, p + 1) ∧ 0 ≤ r ∧ (1 ≤ n → r < n) := by
 have hp : wrap64 (p + 1) = p + 1 := w64 (by omega) (by omega)
 have hj : ∀ b : Bool, (b = false → 1 ≤ n ∧ 0 < s.length) → ∃ r : Int, Ev (fun k => spec_l20Rd_pick.j0 k n b s (p + 1)) (r, p + 1) ∧ 0 ≤ r ∧ (1 ≤ n → r < n) := by
  intro b hb
  cases b with
  | true =>
   refine ⟨0, (by refine Ev.step (fun k => by simp only [spec_l20Rd_pick.j0]; rfl) ?_; exact Ev.yes trivial (Ev.some _)), by omega, fun h => by omega⟩
  | false =>
   obtain ⟨hn1, hl⟩ := hb rfl
   have hq : wrap64 (p + 1 - 1) = p := by rw [w64 (by omega) (by omega)]; omega
   by_cases hlt : p < (s.length : Int)
   ·have hm := hs.2 _ (rdI_mem h0 hlt)
    refine ⟨Int.tmod (wrap64 (rd s p)) n, ?_, ?_, ?_⟩
    ·refine Ev.step (fun k => by simp only [spec_l20Rd_pick.j0]; rfl) ?_
     refine Ev.no (by simp) ?_
     simp only [hq]
     exact Ev.yes hlt (Ev.yes h0 (Ev.no (by omega) (Ev.some _)))
    ·rw [w64 (by omega) (by omega)]; exact Int.tmod_nonneg _ hm.1
    ·intro _; exact Int.tmod_lt_of_pos _ (by omega)
   ·have hl2 := hs.1
    have e1 : Int.tmod p (s.length : Int) = p % (s.length : Int) := Int.tmod_eq_emod_of_nonneg h0
    have b1 : 0 ≤ p % (s.length : Int) := Int.emod_nonneg _ (by omega)
    have b2 : p % (s.length : Int) < (s.length : Int) := Int.emod_lt_of_pos _ (by omega)
    have e2 : wrap64 (wrap64 (p * 7) + 3) = p * 7 + 3 := by rw [w64 (x := p * 7) (by omega) (by omega), w64 (by omega) (by omega)]
    have e3 : Int.tmod (p * 7 + 3) (s.length : Int) = (p * 7 + 3) % (s.length : Int) := Int.tmod_eq_emod_of_nonneg (by omega)
    have b3 : 0 ≤ (p * 7 + 3) % (s.length : Int) := Int.emod_nonneg _ (by omega)
    have b4 : (p * 7 + 3) % (s.length : Int) < (s.length : Int) := Int.emod_lt_of_pos _ (by omega)
    have m1 := hs.2 _ (rdI_mem b1 b2)
    have m2 := hs.2 _ (rdI_mem b3 b4)
    have e4 : Int.tdiv p (s.length : Int) = p / (s.length : Int) := Int.tdiv_eq_ediv_of_nonneg h0
    have b5 : 0 ≤ p / (s.length : Int) := Int.ediv_nonneg h0 (by omega)
    have b6 : p / (s.length : Int) ≤ p := Int.ediv_le_self _ h0
    obtain ⟨x, hx0, hx1, hx⟩ : ∃ x : Int, 0 ≤ x ∧ x ≤ 200000000 ∧ wrap64 ((wrap64 ((wrap64 ((wrap64 ((wrap64 (rd s (Int.tmod p (s.length : Int)))) * 131)) + (wrap64 ((wrap64 (rd s (Int.tmod (wrap64 ((wrap64 (p * 7)) + 3)) (s.length : Int)))) * 1117)))) + (wrap64 (p * 29)))) + (wrap64 ((wrap64 (Int.tdiv p (s.length : Int))) * 53))) = x := by
     refine ⟨_, ?_, ?_, rfl⟩
     all_goals
      rw [e1, e2, e3, e4, w64 (x := rd s (p % (s.length : Int))) (by omega) (by omega), w64 (x := rd s ((p * 7 + 3) % (s.length : Int))) (by omega) (by omega), w64 (x := p / (s.length : Int)) (by omega) (by omega), w64 (x := p * 29) (by omega) (by omega), w64 (x := rd s (p % (s.length : Int)) * 131) (by omega) (by omega), w64 (x := rd s ((p * 7 + 3) % (s.length : Int)) * 1117) (by omega) (by omega), w64 (x := p / (s.length : Int) * 53) (by omega) (by omega),
       w64 (x := rd s (p % (s.length : Int)) * 131 + rd s ((p * 7 + 3) % (s.length : Int)) * 1117) (by omega) (by omega), w64 (x := rd s (p % (s.length : Int)) * 131 + rd s ((p * 7 + 3) % (s.length : Int)) * 1117 + p * 29) (by omega) (by omega), w64 (by omega) (by omega)]
      omega
    have e5 : Int.tdiv x 64 = x / 64 := Int.tdiv_eq_ediv_of_nonneg hx0
    obtain ⟨y, hy⟩ : ∃ y : Nat, Go.bits .xor .i64 x (wrap64 (Int.tdiv x 64)) = (y : Int) := by
     rw [e5, w64 (x := x / 64) (by omega) (by omega)]
     obtain ⟨a, rfl⟩ := Int.eq_ofNat_of_zero_le hx0
     refine ⟨a ^^^ (a / 64), ?_⟩
     rw [show ((a : Int) / 64) = ((a / 64 : Nat) : Int) by omega]
     exact xor_nat a (a / 64) (by omega) (by omega)
    refine ⟨Int.tmod (y : Int) n, ?_, Int.tmod_nonneg _ (by omega), fun _ => Int.tmod_lt_of_pos _ (by omega)⟩
    refine Ev.step (fun k => by simp only [spec_l20Rd_pick.j0]; rfl) ?_
    refine Ev.no (by simp) ?_
    simp only [hq]
    refine Ev.no hlt (Ev.no (by omega) (Ev.yes (by rw [e1]; exact b1) (Ev.yes (by rw [e1]; exact b2) (Ev.yes (by rw [e2, e3]; exact b3) (Ev.yes (by rw [e2, e3]; exact b4) (Ev.no (by omega) ?_))))))
    rw [hx, hy]
    exact Ev.some _
 unfold spec_l20Rd_pick.f
 rw [hp]
 by_cases h2 : n < 1
 ·obtain ⟨r, hr, h3⟩ := hj true (by simp)
  exact ⟨r, Ev.yes h2 hr, h3⟩
 ·obtain ⟨r, hr, h3⟩ := hj ((s.length : Int) == 0) (fun h => ⟨by omega, by have := beq_eq_false_iff_ne.1 h; omega⟩)
  exact ⟨r, Ev.no h2 hr, h3⟩
theorem open_eq {l : List Int} (hw : ∀ x ∈ l, (Lit.int .u8 x).wf = true) : ∃ s, Rd s ∧ spec_l20Open.f l = some (s, 0) := by
 have hb : ∀ x ∈ l, 0 ≤ x ∧ x < 256 := by
  intro x hx
  have := hw x hx
  simp only [Lit.wf, IntKind.min, IntKind.max, IntKind.signed, IntKind.bits, Bool.and_eq_true] at this
  simp at this
  omega
 unfold spec_l20Open.f
 by_cases h : (l.length : Int) > 2000
 ·rw [if_pos h, if_pos (by omega)]
  refine ⟨l.take 2000, ⟨by rw [List.length_take]; omega, fun x hx => hb x (List.mem_of_mem_take hx)⟩, rfl⟩
 ·rw [if_neg h]
  exact ⟨l, ⟨by omega, hb⟩, rfl⟩
theorem tdiv39 {x : Int} (h0 : 0 ≤ x) (h1 : x < 40) : 0 ≤ Int.tdiv x 39 ∧ Int.tdiv x 39 ≤ 1 := by
 rw [Int.tdiv_eq_ediv_of_nonneg h0]
 omega
/-- Small numbers in all marks. -/
def Sm (t : List M) : Prop := ∀ m ∈ t, m.f1 ≤ 1000
theorem Sm.app {a b : List M} (ha : Sm a) (hb : Sm b) : Sm (a ++ b) := by
 intro m hm
 rcases List.mem_append.1 hm with h | h
 ·exact ha m h
 ·exact hb m h
theorem Sm.one {m : M} (h : m.f1 ≤ 1000) : Sm [m] := by
 intro x hx
 rw [List.mem_singleton.1 hx]
 exact h
theorem Sm.nil : Sm [] := fun m hm => by cases hm
theorem Sm.cons {m : M} {t : List M} (h : m.f1 ≤ 1000) (ht : Sm t) : Sm (m :: t) := Sm.app (Sm.one h) ht
theorem Sm.wf {t : List M} (h : Sm t) : ∀ m ∈ t, m.f1 ≤ 9223372036854775807 := fun m hm => by have := h m hm; omega
/-- Parts of a term that is being drawn. -/
def Pts (l : List (List M)) : Prop := ∀ x ∈ l, 1 ≤ x.length ∧ Sm x
theorem Pts.app {a b : List (List M)} (ha : Pts a) (hb : Pts b) : Pts (a ++ b) := by
 intro x hx
 rcases List.mem_append.1 hx with h | h
 ·exact ha x h
 ·exact hb x h
end Go.Proofs.Ytofcmhpoebbnoaa.L
