/- Words for memory, and the contracts of the small functions of boil. Conditions: none beyond those that each theorem names. -/
import Derived.Test.YtjihnnbpfdhceaaRows
import Derived.WalkKit
import Derived.WalkSpells
import Derived.WalkLawsBesides
import Derived.Deep.QuietTactic
import Derived.Deep.LoopGhost
import Derived.BigQuiet
import Derived.Lib.Hide
set_option linter.unusedSimpArgs false
set_option linter.unusedVariables false
namespace Go.Proofs.Ytjihnnbpfdhceaa
open Go.RowKit

abbrev iv (n : Int) : Value := .int .i64 n

theorem ret_bool {a b : Bool} (h : a = b) : Ending.returned (.bool a) = .returned (.bool b) := by rw [h]
theorem ret_int {a b : Int} (h : a = b) : Ending.returned (iv a) = .returned (iv b) := by rw [h]

theorem bcell {B : Nat} {W w1 : World} (hb : Below B W w1) : (∀ b o, b < B → w1.cell? ⟨b, o, none⟩ = W.cell? ⟨b, o, none⟩) ∧ (∀ b o, b < B → w1.frozen? ⟨b, o, none⟩ = W.frozen? ⟨b, o, none⟩) :=
  ⟨fun b o h => hb.cell (p := ⟨b, o, none⟩) h, fun b o h => hb.frozen (p := ⟨b, o, none⟩) h⟩

structure Rat2 where
  num : Int
  den : Int
deriving DecidableEq

def Rat2.val (r : Rat2) : Value := .agg #[.int .i64 r.num, .int .i64 r.den]

structure Wg where
  month : Int
  slo : Int
  shi : Int
  mlo : Int
  mhi : Int
deriving DecidableEq

def Wg.val (x : Wg) : Value := .agg #[.int .i64 x.month, .int .i64 x.slo, .int .i64 x.shi, .int .i64 x.mlo, .int .i64 x.mhi]

def inB (n lo hi : Int) : Bool := decide (lo ≤ n) && decide (n ≤ hi)

set_option maxHeartbeats 400000 in
theorem in_any (n lo hi : Int) (w : World) :
    Calls Try.prog 58 #[.int .i64 n, .int .i64 lo, .int .i64 hi] w fun e w' => e = .returned (.bool (inB n lo hi)) ∧ w = w' := by
  go_enter Try.func58, Try.ntmps58
  go_wp2
  all_goals go_ret
  all_goals (refine ⟨?_, rfl⟩; simp [inB]; try omega)

theorem below_drewN {B : Nat} {a w : World} (h : Below B a w) (n : Nat) : Below B a (w.drewN n) := ⟨h.os, h.tape, h.output, h.size, h.block⟩

def aboveB (a b : Rat2) : Bool := decide (a.num * b.den > b.num * a.den)

theorem mul_bd {x y M N : Int} (hx : 0 ≤ x) (hx' : x ≤ M) (hy : 0 ≤ y) (hy' : y ≤ N) : 0 ≤ x * y ∧ x * y ≤ M * N :=
  ⟨Int.mul_nonneg hx hy, Int.mul_le_mul hx' hy' hy (by omega)⟩

set_option maxHeartbeats 400000 in
theorem above_any (a b : Rat2) (w : World) (h1 : 0 ≤ a.num * b.den ∧ a.num * b.den ≤ 1000000000000) (h2 : 0 ≤ b.num * a.den ∧ b.num * a.den ≤ 1000000000000) :
    Calls Try.prog 81 #[a.val, b.val] w fun e w' => e = .returned (.bool (aboveB a b)) ∧ Below w.heap.size w w' := by
  obtain ⟨an, ad⟩ := a
  obtain ⟨bn, bd⟩ := b
  obtain ⟨h1, h1'⟩ := h1
  obtain ⟨h2, h2'⟩ := h2
  simp only at h1 h1' h2 h2'
  unfold Rat2.val
  go_enter Try.func81, Try.ntmps81
  go_wp2
  all_goals go_ret
  all_goals exact ⟨ret_bool (by simp [aboveB]), ((Below.refl _ _).alloc (Nat.le_refl _) _).alloc (by simp) _⟩

def lowest (n d : Int) : Rat2 := ⟨n / (Int.gcd n d : Int), d / (Int.gcd n d : Int)⟩

theorem gcd_step (a b : Nat) : Nat.gcd b (a % b) = Nat.gcd a b := by
  rw [Nat.gcd_comm a b, Nat.gcd_rec b a, Nat.gcd_comm]

set_option maxHeartbeats 400000 in
theorem lowest_any (n d : Nat) (w : World) (hn : 1 ≤ n) (hn' : n ≤ 1000000) (hd : 1 ≤ d) (hd' : d ≤ 1000000) :
    Calls Try.prog 86 #[.int .i64 n, .int .i64 d] w fun e w' => e = .returned (lowest n d).val ∧ Below w.heap.size w w' := by
  go_enter Try.func86, Try.ntmps86
  go_wp2
  go_loopw [5, 6] (fun x y wr => ∃ a b : Nat, x = .int .i64 a ∧ y = .int .i64 b ∧ 1 ≤ a ∧ a ≤ 1000000 ∧ b ≤ 1000000 ∧ Nat.gcd a b = Nat.gcd n d ∧ wr.heap.size = w.heap.size + 1 ∧ wr.heap[w.heap.size]? = some (.cells #[.int .i64 0, .int .i64 0] 43 (0,0)) ∧ Below w.heap.size w wr) (fun _ y _ => (intOf y).toNat)
  case atStart => exact ⟨n, d, rfl, rfl, hn, hn', hd', rfl, by simp, heap_alloc_new _ _, (Below.refl _ _).alloc (Nat.le_refl _) _⟩
  case round =>
    obtain ⟨a, b, rfl, rfl, ha, ha', hb, hg, hz, hh, hbw⟩ := hrel
    have HG := Lib.hid hg
    have HZ := Lib.hid hz
    clear hg hz
    by_cases h0 : 0 < b
    · have h0' : (1 : Int) ≤ b := by omega
      have hlt : a % b < b := Nat.mod_lt _ h0
      have H : Hid _ := hh
      clear hh
      go_wp2
      go_quiet (fail)
      go_wp2
      go_roundw
      case rel => exact ⟨b, a % b, rfl, by simp, by omega, by omega, by omega, (gcd_step a b).trans HG.out, HZ.out, H.out, below_drewN hbw _⟩
      case measure => simp [intOf]; omega
    · obtain rfl : b = 0 := by omega
      have hgd : (Int.gcd n d : Int) = a := by
        have := HG.out
        rw [Nat.gcd_zero_right] at this
        simp [Int.gcd, this]
      have HD := Lib.hid hgd
      clear hgd
      have hc0 : wr.cell? ⟨w.heap.size, 0, none⟩ = some (.int .i64 0) := cell_of_row _ _ _ _ _ _ hh
      have hc1 : wr.cell? ⟨w.heap.size, 1, none⟩ = some (.int .i64 0) := cell_of_row _ _ _ _ _ _ hh
      have hf0 : ∀ j, wr.frozen? ⟨w.heap.size, j, none⟩ = false := fun j => frozen_of_row _ _ _ _ _ hh
      clear hh
      have e1 : wrap64 ((n : Int) / a) = (n : Int) / a := by
        have h1 : (n : Int) / a ≤ n := Int.ediv_le_self _ (by omega)
        have h2 : 0 ≤ (n : Int) / a := Int.ediv_nonneg (by omega) (by omega)
        exact IntWalk.wrap64_in _ ⟨by omega, by omega⟩
      have e2 : wrap64 ((d : Int) / a) = (d : Int) / a := by
        have h1 : (d : Int) / a ≤ d := Int.ediv_le_self _ (by omega)
        have h2 : 0 ≤ (d : Int) / a := Int.ediv_nonneg (by omega) (by omega)
        exact IntWalk.wrap64_in _ ⟨by omega, by omega⟩
      have E1 := Lib.hid e1
      have E2 := Lib.hid e2
      clear e1 e2
      go_wp2
      go_region
      go_wp2
      rw [E1.out, E2.out]
      refine bodyPost_ret (v := (lowest n d).val) ?_ rfl ⟨rfl, ((hbw.setCell (Nat.le_refl _) _).setCell (Nat.le_refl _) _).drew⟩
      unfold lowest Rat2.val
      rw [HD.out]
      simp [results, Try.results86, go_sem, hc0, hc1]
end Go.Proofs.Ytjihnnbpfdhceaa
