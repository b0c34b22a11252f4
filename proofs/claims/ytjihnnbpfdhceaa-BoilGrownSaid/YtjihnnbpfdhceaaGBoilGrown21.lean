/- Plain: the order of ratios, weighings that clash, bounds. No program in sight. Conditions: none beyond those that each theorem names. -/
import Derived.Test.YtjihnnbpfdhceaaGBoilGrown16
set_option linter.unusedSimpArgs false
set_option linter.unusedVariables false
namespace Go.Proofs.Ytjihnnbpfdhceaa

structure Rat2.Pos (r : Rat2) : Prop where
  n : 1 ≤ r.num
  d : 1 ≤ r.den
/-- a is at most b. -/
def rle (a b : Rat2) : Prop := a.num * b.den ≤ b.num * a.den
theorem rle_refl (a : Rat2) : rle a a := Int.le_refl _
theorem rle_total (a b : Rat2) : rle a b ∨ rle b a := by unfold rle; omega
theorem rle_trans {a b c : Rat2} (ha : a.Pos) (hb : b.Pos) (hc : c.Pos) (h1 : rle a b) (h2 : rle b c) : rle a c := by
  unfold rle at *
  have e1 := Int.mul_le_mul_of_nonneg_right h1 (show 0 ≤ c.den by have := hc.d; omega)
  have e2 := Int.mul_le_mul_of_nonneg_right h2 (show 0 ≤ a.den by have := ha.d; omega)
  have e3 : (a.num * c.den) * b.den ≤ (c.num * a.den) * b.den := by
    calc (a.num * c.den) * b.den = a.num * b.den * c.den := by rw [Int.mul_right_comm]
      _ ≤ b.num * a.den * c.den := e1
      _ = b.num * c.den * a.den := by rw [Int.mul_right_comm]
      _ ≤ c.num * b.den * a.den := e2
      _ = (c.num * a.den) * b.den := by rw [Int.mul_right_comm]
  exact Int.le_of_mul_le_mul_right e3 (by have := hb.d; omega)
theorem aboveB_true {a b : Rat2} : aboveB a b = true ↔ ¬ rle a b := by unfold aboveB rle; rw [decide_eq_true_eq]; omega
theorem aboveB_false {a b : Rat2} : aboveB a b = false ↔ rle a b := by unfold aboveB rle; rw [decide_eq_false_iff_not]; omega
/-- a is less than b. -/
def rlt (a b : Rat2) : Prop := ¬ rle b a
theorem rlt_le {a b : Rat2} (h : rlt a b) : rle a b := (rle_total a b).resolve_right h
theorem rlt_of_le_lt {a b c : Rat2} (ha : a.Pos) (hb : b.Pos) (hc : c.Pos) (h1 : rle a b) (h2 : rlt b c) : rlt a c := fun h => h2 (rle_trans hc ha hb h h1)
theorem rlt_of_lt_le {a b c : Rat2} (ha : a.Pos) (hb : b.Pos) (hc : c.Pos) (h1 : rlt a b) (h2 : rle b c) : rlt a c := fun h => h1 (rle_trans hb hc ha h2 h)

theorem lowest_spec (n d : Int) (hn : 1 ≤ n) (hd : 1 ≤ d) : ∃ g : Int, 1 ≤ g ∧ (lowest n d).num * g = n ∧ (lowest n d).den * g = d ∧ (lowest n d).Pos := by
  obtain ⟨⟨a, _⟩, b, _⟩ := div_gcd n d hn hd
  have h2 : (0 : Int) < (Int.gcd n d : Int) := by
    have := Int.gcd_pos_of_ne_zero_left (a := n) d (by omega)
    omega
  refine ⟨(Int.gcd n d : Int), by omega, ?_, ?_, ⟨a, b⟩⟩
  · exact Int.ediv_mul_cancel (Int.gcd_dvd_left ..)
  · exact Int.ediv_mul_cancel (Int.gcd_dvd_right ..)
theorem lowest_pos (n d : Int) (hn : 1 ≤ n) (hd : 1 ≤ d) : (lowest n d).Pos := by obtain ⟨_, _, _, _, h⟩ := lowest_spec n d hn hd; exact h
theorem rle_lowest_l {n d : Int} (hn : 1 ≤ n) (hd : 1 ≤ d) (r : Rat2) : rle (lowest n d) r ↔ n * r.den ≤ r.num * d := by
  obtain ⟨g, hg, e1, e2, _⟩ := lowest_spec n d hn hd
  generalize lowest n d = q at e1 e2 ⊢
  unfold rle
  rw [← e1, ← e2, Int.mul_right_comm, ← Int.mul_assoc]
  exact ⟨fun h => Int.mul_le_mul_of_nonneg_right h (by omega), fun h => Int.le_of_mul_le_mul_right h (by omega)⟩
theorem rle_lowest_r {n d : Int} (hn : 1 ≤ n) (hd : 1 ≤ d) (r : Rat2) : rle r (lowest n d) ↔ r.num * d ≤ n * r.den := by
  obtain ⟨g, hg, e1, e2, _⟩ := lowest_spec n d hn hd
  generalize lowest n d = q at e1 e2 ⊢
  unfold rle
  rw [← e1, ← e2, Int.mul_right_comm, ← Int.mul_assoc]
  exact ⟨fun h => Int.mul_le_mul_of_nonneg_right h (by omega), fun h => Int.le_of_mul_le_mul_right h (by omega)⟩
end Go.Proofs.Ytjihnnbpfdhceaa
