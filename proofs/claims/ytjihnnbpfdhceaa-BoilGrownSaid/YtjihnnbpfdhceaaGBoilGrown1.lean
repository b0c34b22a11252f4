/- Words for memory, and the contracts of the small functions of boil. Conditions: none beyond those that each theorem names. -/
import Derived.Test.YtjihnnbpfdhceaaRows
import Derived.WalkKit
import Derived.WalkSpells
import Derived.WalkLawsBesides
import Derived.Deep.QuietTactic
import Derived.Deep.LoopGhost
import Derived.BigQuiet
import Derived.Lib.Hide
set_option linter.unusedSimpArgs false
set_option linter.unusedVariables false
namespace Go.Proofs.Ytjihnnbpfdhceaa
open Go.RowKit

abbrev iv (n : Int) : Value := .int .i64 n

theorem ret_bool {a b : Bool} (h : a = b) : Ending.returned (.bool a) = .returned (.bool b) := by rw [h]
theorem ret_int {a b : Int} (h : a = b) : Ending.returned (iv a) = .returned (iv b) := by rw [h]

theorem bcell {B : Nat} {W w1 : World} (hb : Below B W w1) : (∀ b o, b < B → w1.cell? ⟨b, o, none⟩ = W.cell? ⟨b, o, none⟩) ∧ (∀ b o, b < B → w1.frozen? ⟨b, o, none⟩ = W.frozen? ⟨b, o, none⟩) :=
  ⟨fun b o h => hb.cell (p := ⟨b, o, none⟩) h, fun b o h => hb.frozen (p := ⟨b, o, none⟩) h⟩

structure Rat2 where
  num : Int
  den : Int
deriving DecidableEq

def Rat2.val (r : Rat2) : Value := .agg #[.int .i64 r.num, .int .i64 r.den]

structure Wg where
  month : Int
  slo : Int
  shi : Int
  mlo : Int
  mhi : Int
deriving DecidableEq

def Wg.val (x : Wg) : Value := .agg #[.int .i64 x.month, .int .i64 x.slo, .int .i64 x.shi, .int .i64 x.mlo, .int .i64 x.mhi]

def inB (n lo hi : Int) : Bool := decide (lo ≤ n) && decide (n ≤ hi)

set_option maxHeartbeats 400000 in
theorem in_any (n lo hi : Int) (w : World) :
    Calls Try.prog 58 #[.int .i64 n, .int .i64 lo, .int .i64 hi] w fun e w' => e = .returned (.bool (inB n lo hi)) ∧ w = w' := by
  go_enter Try.func58, Try.ntmps58
  go_wp2
  all_goals go_ret
  all_goals (refine ⟨?_, rfl⟩; simp [inB]; try omega)

theorem below_drewN {B : Nat} {a w : World} (h : Below B a w) (n : Nat) : Below B a (w.drewN n) := ⟨h.os, h.tape, h.output, h.size, h.block⟩

def aboveB (a b : Rat2) : Bool := decide (a.num * b.den > b.num * a.den)

theorem mul_bd {x y M N : Int} (hx : 0 ≤ x) (hx' : x ≤ M) (hy : 0 ≤ y) (hy' : y ≤ N) : 0 ≤ x * y ∧ x * y ≤ M * N :=
  ⟨Int.mul_nonneg hx hy, Int.mul_le_mul hx' hy' hy (by omega)⟩

set_option maxHeartbeats 400000 in
theorem above_any (a b : Rat2) (w : World) (h1 : 0 ≤ a.num * b.den ∧ a.num * b.den ≤ 1000000000000) (h2 : 0 ≤ b.num * a.den ∧ b.num * a.den ≤ 1000000000000) :
    Calls Try.prog 81 #[a.val, b.val] w fun e w' => e = .returned (.bool (aboveB a b)) ∧ Below w.heap.size w w' := by
  obtain ⟨an, ad⟩ := a
  obtain ⟨bn, bd⟩ := b
  obtain ⟨h1, h1'⟩ := h1
  obtain ⟨h2, h2'⟩ := h2
  simp only at h1 h1' h2 h2'
  unfold Rat2.val
  go_enter Try.func81, Try.ntmps81
  go_wp2
  all_goals go_ret
  all_goals exact ⟨ret_bool (by simp [aboveB]), ((Below.refl _ _).alloc (Nat.le_refl _) _).alloc (by simp) _⟩

def lowest (n d : Int) : Rat2 := ⟨n / (Int.gcd n d : Int), d / (Int.gcd n d : Int)⟩

theorem gcd_step (a b : Nat) : Nat.gcd b (a % b) = Nat.gcd a b := by
  rw [Nat.gcd_comm a b, Nat.gcd_rec b a, Nat.gcd_comm]

set_option maxHeartbeats 400000 in
theorem lowest_any (n d : Nat) (w : World) (hn : 1 ≤ n) (hn' : n ≤ 1000000) (hd : 1 ≤ d) (hd' : d ≤ 1000000) :
    Calls Try.prog 86 #[.int .i64 n, .int .i64 d] w fun e w' => e = .returned (lowest n d).val ∧ Below w.heap.size w w' := by
  go_enter Try.func86, Try.ntmps86
  go_wp2
  go_loopw [5, 6] (fun x y wr => ∃ a b : Nat, x = .int .i64 a ∧ y = .int .i64 b ∧ 1 ≤ a ∧ a ≤ 1000000 ∧ b ≤ 1000000 ∧ Nat.gcd a b = Nat.gcd n d ∧ wr.heap.size = w.heap.size + 1 ∧ wr.heap[w.heap.size]? = some (.cells #[.int .i64 0, .int .i64 0] 43 (0,0)) ∧ Below w.heap.size w wr) (fun _ y _ => (intOf y).toNat)
  case atStart => exact ⟨n, d, rfl, rfl, hn, hn', hd', rfl, by simp, heap_alloc_new _ _, (Below.refl _ _).alloc (Nat.le_refl _) _⟩
  case round =>
    obtain ⟨a, b, rfl, rfl, ha, ha', hb, hg, hz, hh, hbw⟩ := hrel
    have HG := Lib.hid hg
    have HZ := Lib.hid hz
    clear hg hz
    by_cases h0 : 0 < b
    · have h0' : (1 : Int) ≤ b := by omega
      have hlt : a % b < b := Nat.mod_lt _ h0
      have H : Hid _ := hh
      clear hh
      go_wp2
      go_quiet (fail)
      go_wp2
      go_roundw
      case rel => exact ⟨b, a % b, rfl, by simp, by omega, by omega, by omega, (gcd_step a b).trans HG.out, HZ.out, H.out, below_drewN hbw _⟩
      case measure => simp [intOf]; omega
    · obtain rfl : b = 0 := by omega
      have hgd : (Int.gcd n d : Int) = a := by
        have := HG.out
        rw [Nat.gcd_zero_right] at this
        simp [Int.gcd, this]
      have HD := Lib.hid hgd
      clear hgd
      have hc0 : wr.cell? ⟨w.heap.size, 0, none⟩ = some (.int .i64 0) := cell_of_row _ _ _ _ _ _ hh
      have hc1 : wr.cell? ⟨w.heap.size, 1, none⟩ = some (.int .i64 0) := cell_of_row _ _ _ _ _ _ hh
      have hf0 : ∀ j, wr.frozen? ⟨w.heap.size, j, none⟩ = false := fun j => frozen_of_row _ _ _ _ _ hh
      clear hh
      have e1 : wrap64 ((n : Int) / a) = (n : Int) / a := by
        have h1 : (n : Int) / a ≤ n := Int.ediv_le_self _ (by omega)
        have h2 : 0 ≤ (n : Int) / a := Int.ediv_nonneg (by omega) (by omega)
        exact IntWalk.wrap64_in _ ⟨by omega, by omega⟩
      have e2 : wrap64 ((d : Int) / a) = (d : Int) / a := by
        have h1 : (d : Int) / a ≤ d := Int.ediv_le_self _ (by omega)
        have h2 : 0 ≤ (d : Int) / a := Int.ediv_nonneg (by omega) (by omega)
        exact IntWalk.wrap64_in _ ⟨by omega, by omega⟩
      have E1 := Lib.hid e1
      have E2 := Lib.hid e2
      clear e1 e2
      go_wp2
      go_region
      go_wp2
      rw [E1.out, E2.out]
      refine bodyPost_ret (v := (lowest n d).val) ?_ rfl ⟨rfl, ((hbw.setCell (Nat.le_refl _) _).setCell (Nat.le_refl _) _).drew⟩
      unfold lowest Rat2.val
      rw [HD.out]
      simp [results, Try.results86, go_sem, hc0, hc1]
end Go.Proofs.Ytjihnnbpfdhceaa

/- Contracts of the small functions of boil and of the laws' package. Conditions: none beyond those that each theorem names. -/
set_option linter.unusedSimpArgs false
set_option linter.unusedVariables false
namespace Go.Proofs.Ytjihnnbpfdhceaa
open Go.RowKit

structure Hs where
  months : Int
  peak : Int
  ws : List Wg
deriving DecidableEq

def Hs.val (h : Hs) (A : Option Addr) (c : Nat) : Value := .agg #[.int .i64 h.months, .int .i64 h.peak, .slice A h.ws.length c]

def Wg.enc (x : Wg) : List Value := [.int .i64 x.month, .int .i64 x.slo, .int .i64 x.shi, .int .i64 x.mlo, .int .i64 x.mhi]
def Rat2.enc (x : Rat2) : List Value := [.int .i64 x.num, .int .i64 x.den]
def intEnc (x : Int) : List Value := [.int .i64 x]

/-- The slice at A reads as xs, each element of k cells, below block B. -/
def RowIn {α : Type} (enc : α → List Value) (k : Nat) (w : World) (B : Nat) (A : Option Addr) (xs : List α) : Prop :=
  ∀ i (h : i < xs.length), ∃ b o, A = some ⟨b, o, none⟩ ∧ b < B ∧ ∀ j v, (enc xs[i])[j]? = some v → w.cell? ⟨b, o + i * k + j, none⟩ = some v

section
variable {α : Type} {enc : α → List Value} {k B B' : Nat} {w w' : World} {A : Option Addr} {xs : List α}
theorem RowIn.nil : RowIn enc k w B A ([] : List α) := fun i h => absurd h (by simp)
theorem RowIn.below (h : RowIn enc k w B A xs) (hb : Below B w w') : RowIn enc k w' B A xs := fun i hi => by
  obtain ⟨b, o, rfl, hB, hc⟩ := h i hi
  exact ⟨b, o, rfl, hB, fun j v hv => (hb.cell (p := ⟨b, _, none⟩) hB).trans (hc j v hv)⟩
theorem RowIn.mono (h : RowIn enc k w B A xs) (hB : B ≤ B') : RowIn enc k w B' A xs := fun i hi => by
  obtain ⟨b, o, rfl, hb, hc⟩ := h i hi
  exact ⟨b, o, rfl, by omega, hc⟩
theorem RowIn.below' (h : RowIn enc k w B A xs) (hb : Below B' w w') (hB : B ≤ B') : RowIn enc k w' B A xs := h.below (hb.mono hB)
end

/-- A weighing's five cells. -/
theorem RowIn.wg {B : Nat} {w : World} {A : Option Addr} {ws : List Wg} (h : RowIn Wg.enc 5 w B A ws) (i : Nat) (hi : i < ws.length) :
    ∃ b o x, A = some ⟨b, o, none⟩ ∧ b < B ∧ ws[i] = x ∧ w.cell? ⟨b, o + i * 5, none⟩ = some (.int .i64 x.month) ∧ w.cell? ⟨b, o + i * 5 + 1, none⟩ = some (.int .i64 x.slo) ∧
      w.cell? ⟨b, o + i * 5 + 2, none⟩ = some (.int .i64 x.shi) ∧ w.cell? ⟨b, o + i * 5 + 3, none⟩ = some (.int .i64 x.mlo) ∧ w.cell? ⟨b, o + i * 5 + 4, none⟩ = some (.int .i64 x.mhi) := by
  obtain ⟨b, o, hA, hb, hc⟩ := h i hi
  exact ⟨b, o, ws[i], hA, hb, rfl, hc 0 _ rfl, hc 1 _ rfl, hc 2 _ rfl, hc 3 _ rfl, hc 4 _ rfl⟩

def Wg.least (x : Wg) : Rat2 := lowest x.mlo x.shi
def Wg.most (x : Wg) : Rat2 := lowest x.mhi x.slo

/-- In the limits of Check. -/
structure Wg.Ok (x : Wg) : Prop where
  slo1 : 1 ≤ x.slo
  slo2 : x.slo ≤ 1000
  shi1 : 1 ≤ x.shi
  shi2 : x.shi ≤ 1000
  mlo1 : 1 ≤ x.mlo
  mlo2 : x.mlo ≤ 1000
  mhi1 : 1 ≤ x.mhi
  mhi2 : x.mhi ≤ 1000

theorem lowest_int (n d : Int) (w : World) (hn : 1 ≤ n) (hn' : n ≤ 1000000) (hd : 1 ≤ d) (hd' : d ≤ 1000000) :
    Calls Try.prog 86 #[.int .i64 n, .int .i64 d] w fun e w' => e = .returned (lowest n d).val ∧ Below w.heap.size w w' := by
  obtain ⟨a, rfl⟩ := Int.eq_ofNat_of_zero_le (show 0 ≤ n by omega)
  obtain ⟨b, rfl⟩ := Int.eq_ofNat_of_zero_le (show 0 ≤ d by omega)
  exact lowest_any a b w (by omega) (by omega) (by omega) (by omega)

set_option maxHeartbeats 400000 in
theorem least_any (x : Wg) (hx : x.Ok) (w : World) :
    Calls Try.prog 82 #[x.val] w fun e w' => e = .returned x.least.val ∧ Below w.heap.size w w' := by
  obtain ⟨h1, h2, h3, h4, h5, h6, h7, h8⟩ := hx
  unfold Wg.val
  go_enter Try.func82, Try.ntmps82
  go_wp2_with fail
  refine (lowest_int _ _ _ h5 (by omega) h3 (by omega)).mono ?_
  rintro e w1 ⟨rfl, hb⟩
  obtain ⟨chb, fhb⟩ := bcell hb
  have zhb := hb.size
  try simp only [World.size_alloc, World.size_setCell, World.size_drew] at zhb
  unfold Rat2.val
  go_wp2
  refine bodyPost_ret (v := x.least.val) ?_ rfl ⟨rfl, ?_⟩
  · unfold Wg.least Rat2.val
    simp [results, Try.results82, go_sem, chb, zhb]
  · repeat (first | exact Below.refl _ _ | exact hb | refine Below.drew ?_ | refine below_drewN ?_ _ | refine Below.setCell ?_ (by first | assumption | omega | (simp; done) | (simp; omega) | (simp at *; omega)) _ | refine Below.alloc ?_ (by first | assumption | omega | (simp; done) | (simp; omega) | (simp at *; omega)) _ | refine Below.trans ?_ (Below.mono hb (by first | assumption | omega | (simp; done) | (simp; omega) | (simp at *; omega))))

set_option maxHeartbeats 400000 in
theorem most_any (x : Wg) (hx : x.Ok) (w : World) :
    Calls Try.prog 54 #[x.val] w fun e w' => e = .returned x.most.val ∧ Below w.heap.size w w' := by
  obtain ⟨h1, h2, h3, h4, h5, h6, h7, h8⟩ := hx
  unfold Wg.val
  go_enter Try.func54, Try.ntmps54
  go_wp2_with fail
  refine (lowest_int _ _ _ h7 (by omega) h1 (by omega)).mono ?_
  rintro e w1 ⟨rfl, hb⟩
  obtain ⟨chb, fhb⟩ := bcell hb
  have zhb := hb.size
  try simp only [World.size_alloc, World.size_setCell, World.size_drew] at zhb
  unfold Rat2.val
  go_wp2
  refine bodyPost_ret (v := x.most.val) ?_ rfl ⟨rfl, ?_⟩
  · unfold Wg.most Rat2.val
    simp [results, Try.results54, go_sem, chb, zhb]
  · repeat (first | exact Below.refl _ _ | exact hb | refine Below.drew ?_ | refine below_drewN ?_ _ | refine Below.setCell ?_ (by first | assumption | omega | (simp; done) | (simp; omega) | (simp at *; omega)) _ | refine Below.alloc ?_ (by first | assumption | omega | (simp; done) | (simp; omega) | (simp at *; omega)) _ | refine Below.trans ?_ (Below.mono hb (by first | assumption | omega | (simp; done) | (simp; omega) | (simp at *; omega))))

def Hs.month (h : Hs) (m : Int) : Bool := inB m 0 (h.months - 1)
def Hs.weighing (h : Hs) (n : Int) : Bool := inB n 0 (h.ws.length - 1)
def Hs.under (h : Hs) (a b : Int) : Bool := (decide (a ≤ b) && decide (b ≤ h.peak)) || (decide (h.peak ≤ b) && decide (b ≤ a))

set_option maxHeartbeats 400000 in
theorem month_any (h : Hs) (A : Option Addr) (c : Nat) (m : Int) (w : World) (hm : 0 ≤ h.months) (hm' : h.months ≤ 1000000) :
    Calls Try.prog 46 #[h.val A c, .int .i64 m] w fun e w' => e = .returned (.bool (h.month m)) ∧ Below w.heap.size w w' := by
  unfold Hs.val
  go_enter Try.func46, Try.ntmps46
  go_wp2_with fail
  refine (in_any _ _ _ _).mono ?_
  rintro e w' ⟨rfl, rfl⟩
  go_wp2
  go_ret
  exact ⟨rfl, (Below.refl _ _).alloc (Nat.le_refl _) _⟩

set_option maxHeartbeats 400000 in
theorem weighing_any (h : Hs) (A : Option Addr) (c : Nat) (m : Int) (w : World) (hm : h.ws.length ≤ 1000000) :
    Calls Try.prog 70 #[h.val A c, .int .i64 m] w fun e w' => e = .returned (.bool (h.weighing m)) ∧ Below w.heap.size w w' := by
  unfold Hs.val
  go_enter Try.func70, Try.ntmps70
  go_wp2_with fail
  refine (in_any _ _ _ _).mono ?_
  rintro e w' ⟨rfl, rfl⟩
  go_wp2
  go_ret
  exact ⟨rfl, (Below.refl _ _).alloc (Nat.le_refl _) _⟩

set_option maxHeartbeats 400000 in
theorem under_any (h : Hs) (A : Option Addr) (c : Nat) (a b : Int) (w : World) :
    Calls Try.prog 47 #[h.val A c, .int .i64 a, .int .i64 b] w fun e w' => e = .returned (.bool (h.under a b)) ∧ Below w.heap.size w w' := by
  unfold Hs.val
  go_enter Try.func47, Try.ntmps47
  go_wp2
  all_goals go_ret
  all_goals (refine ⟨?_, (Below.refl _ _).alloc (Nat.le_refl _) _⟩; unfold Hs.under; apply ret_bool; rw [Bool.eq_iff_iff]; simp; try omega)

theorem lawunder_any (h : Hs) (A : Option Addr) (c : Nat) (a b : Int) (w : World) :
    Calls Try.prog 20 #[h.val A c, .int .i64 a, .int .i64 b] w fun e w' => e = .returned (.bool (h.under a b)) ∧ Below w.heap.size w w' := by
  unfold Hs.val
  go_enter Try.func20, Try.ntmps20
  go_wp2
  all_goals go_ret
  all_goals (refine ⟨?_, (Below.refl _ _).alloc (Nat.le_refl _) _⟩; unfold Hs.under; apply ret_bool; rw [Bool.eq_iff_iff]; simp; try omega)

theorem weighed_any (a b c d f : Int) (w : World) :
    Calls Try.prog 22 #[.int .i64 a, .int .i64 b, .int .i64 c, .int .i64 d, .int .i64 f] w fun e w' => e = .returned (Wg.val ⟨a, b, c, d, f⟩) ∧ Below w.heap.size w w' := by
  go_enter Try.func22, Try.ntmps22
  go_wp2
  refine bodyPost_ret (v := Wg.val ⟨a, b, c, d, f⟩) ?_ rfl ⟨rfl, ?_⟩
  · unfold Wg.val
    simp [results, Try.results22, go_sem]
  · repeat (first | exact Below.refl _ _ | exact Below.refl _ _ | refine Below.drew ?_ | refine below_drewN ?_ _ | refine Below.setCell ?_ (by first | assumption | omega | (simp; done) | (simp; omega) | (simp at *; omega)) _ | refine Below.alloc ?_ (by first | assumption | omega | (simp; done) | (simp; omega) | (simp at *; omega)) _ | refine Below.trans ?_ (Below.mono Below.refl _ _ (by first | assumption | omega | (simp; done) | (simp; omega) | (simp at *; omega))))
end Go.Proofs.Ytjihnnbpfdhceaa
