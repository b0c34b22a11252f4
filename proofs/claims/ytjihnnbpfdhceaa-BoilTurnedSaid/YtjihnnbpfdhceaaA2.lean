/- Contracts of the small functions of boil and of the laws' package. Conditions: none beyond those that each theorem names. -/
import Derived.Test.YtjihnnbpfdhceaaA1
set_option linter.unusedSimpArgs false
set_option linter.unusedVariables false
namespace Go.Proofs.Ytjihnnbpfdhceaa
open Go.RowKit

structure Hs where
  months : Int
  peak : Int
  ws : List Wg
deriving DecidableEq

def Hs.val (h : Hs) (A : Option Addr) (c : Nat) : Value := .agg #[.int .i64 h.months, .int .i64 h.peak, .slice A h.ws.length c]

def Wg.enc (x : Wg) : List Value := [.int .i64 x.month, .int .i64 x.slo, .int .i64 x.shi, .int .i64 x.mlo, .int .i64 x.mhi]
def Rat2.enc (x : Rat2) : List Value := [.int .i64 x.num, .int .i64 x.den]
def intEnc (x : Int) : List Value := [.int .i64 x]

/-- The slice at A reads as xs, each element of k cells, below block B. -/
def RowIn {α : Type} (enc : α → List Value) (k : Nat) (w : World) (B : Nat) (A : Option Addr) (xs : List α) : Prop :=
  ∀ i (h : i < xs.length), ∃ b o, A = some ⟨b, o, none⟩ ∧ b < B ∧ ∀ j v, (enc xs[i])[j]? = some v → w.cell? ⟨b, o + i * k + j, none⟩ = some v

section
variable {α : Type} {enc : α → List Value} {k B B' : Nat} {w w' : World} {A : Option Addr} {xs : List α}
theorem RowIn.nil : RowIn enc k w B A ([] : List α) := fun i h => absurd h (by simp)
theorem RowIn.below (h : RowIn enc k w B A xs) (hb : Below B w w') : RowIn enc k w' B A xs := fun i hi => by
  obtain ⟨b, o, rfl, hB, hc⟩ := h i hi
  exact ⟨b, o, rfl, hB, fun j v hv => (hb.cell (p := ⟨b, _, none⟩) hB).trans (hc j v hv)⟩
theorem RowIn.mono (h : RowIn enc k w B A xs) (hB : B ≤ B') : RowIn enc k w B' A xs := fun i hi => by
  obtain ⟨b, o, rfl, hb, hc⟩ := h i hi
  exact ⟨b, o, rfl, by omega, hc⟩
theorem RowIn.below' (h : RowIn enc k w B A xs) (hb : Below B' w w') (hB : B ≤ B') : RowIn enc k w' B A xs := h.below (hb.mono hB)
end

/-- A weighing's five cells. -/
theorem RowIn.wg {B : Nat} {w : World} {A : Option Addr} {ws : List Wg} (h : RowIn Wg.enc 5 w B A ws) (i : Nat) (hi : i < ws.length) :
    ∃ b o x, A = some ⟨b, o, none⟩ ∧ b < B ∧ ws[i] = x ∧ w.cell? ⟨b, o + i * 5, none⟩ = some (.int .i64 x.month) ∧ w.cell? ⟨b, o + i * 5 + 1, none⟩ = some (.int .i64 x.slo) ∧
      w.cell? ⟨b, o + i * 5 + 2, none⟩ = some (.int .i64 x.shi) ∧ w.cell? ⟨b, o + i * 5 + 3, none⟩ = some (.int .i64 x.mlo) ∧ w.cell? ⟨b, o + i * 5 + 4, none⟩ = some (.int .i64 x.mhi) := by
  obtain ⟨b, o, hA, hb, hc⟩ := h i hi
  exact ⟨b, o, ws[i], hA, hb, rfl, hc 0 _ rfl, hc 1 _ rfl, hc 2 _ rfl, hc 3 _ rfl, hc 4 _ rfl⟩

def Wg.least (x : Wg) : Rat2 := lowest x.mlo x.shi
def Wg.most (x : Wg) : Rat2 := lowest x.mhi x.slo

/-- In the limits of Check. -/
structure Wg.Ok (x : Wg) : Prop where
  slo1 : 1 ≤ x.slo
  slo2 : x.slo ≤ 1000
  shi1 : 1 ≤ x.shi
  shi2 : x.shi ≤ 1000
  mlo1 : 1 ≤ x.mlo
  mlo2 : x.mlo ≤ 1000
  mhi1 : 1 ≤ x.mhi
  mhi2 : x.mhi ≤ 1000

theorem lowest_int (n d : Int) (w : World) (hn : 1 ≤ n) (hn' : n ≤ 1000000) (hd : 1 ≤ d) (hd' : d ≤ 1000000) :
    Calls Try.prog 86 #[.int .i64 n, .int .i64 d] w fun e w' => e = .returned (lowest n d).val ∧ Below w.heap.size w w' := by
  obtain ⟨a, rfl⟩ := Int.eq_ofNat_of_zero_le (show 0 ≤ n by omega)
  obtain ⟨b, rfl⟩ := Int.eq_ofNat_of_zero_le (show 0 ≤ d by omega)
  exact lowest_any a b w (by omega) (by omega) (by omega) (by omega)

set_option maxHeartbeats 400000 in
theorem least_any (x : Wg) (hx : x.Ok) (w : World) :
    Calls Try.prog 82 #[x.val] w fun e w' => e = .returned x.least.val ∧ Below w.heap.size w w' := by
  obtain ⟨h1, h2, h3, h4, h5, h6, h7, h8⟩ := hx
  unfold Wg.val
  go_enter Try.func82, Try.ntmps82
  go_wp2_with fail
  refine (lowest_int _ _ _ h5 (by omega) h3 (by omega)).mono ?_
  rintro e w1 ⟨rfl, hb⟩
  obtain ⟨chb, fhb⟩ := bcell hb
  have zhb := hb.size
  try simp only [World.size_alloc, World.size_setCell, World.size_drew] at zhb
  unfold Rat2.val
  go_wp2
  refine bodyPost_ret (v := x.least.val) ?_ rfl ⟨rfl, ?_⟩
  · unfold Wg.least Rat2.val
    simp [results, Try.results82, go_sem, chb, zhb]
  · repeat (first | exact Below.refl _ _ | exact hb | refine Below.drew ?_ | refine below_drewN ?_ _ | refine Below.setCell ?_ (by first | assumption | omega | (simp; done) | (simp; omega) | (simp at *; omega)) _ | refine Below.alloc ?_ (by first | assumption | omega | (simp; done) | (simp; omega) | (simp at *; omega)) _ | refine Below.trans ?_ (Below.mono hb (by first | assumption | omega | (simp; done) | (simp; omega) | (simp at *; omega))))

set_option maxHeartbeats 400000 in
theorem most_any (x : Wg) (hx : x.Ok) (w : World) :
    Calls Try.prog 54 #[x.val] w fun e w' => e = .returned x.most.val ∧ Below w.heap.size w w' := by
  obtain ⟨h1, h2, h3, h4, h5, h6, h7, h8⟩ := hx
  unfold Wg.val
  go_enter Try.func54, Try.ntmps54
  go_wp2_with fail
  refine (lowest_int _ _ _ h7 (by omega) h1 (by omega)).mono ?_
  rintro e w1 ⟨rfl, hb⟩
  obtain ⟨chb, fhb⟩ := bcell hb
  have zhb := hb.size
  try simp only [World.size_alloc, World.size_setCell, World.size_drew] at zhb
  unfold Rat2.val
  go_wp2
  refine bodyPost_ret (v := x.most.val) ?_ rfl ⟨rfl, ?_⟩
  · unfold Wg.most Rat2.val
    simp [results, Try.results54, go_sem, chb, zhb]
  · repeat (first | exact Below.refl _ _ | exact hb | refine Below.drew ?_ | refine below_drewN ?_ _ | refine Below.setCell ?_ (by first | assumption | omega | (simp; done) | (simp; omega) | (simp at *; omega)) _ | refine Below.alloc ?_ (by first | assumption | omega | (simp; done) | (simp; omega) | (simp at *; omega)) _ | refine Below.trans ?_ (Below.mono hb (by first | assumption | omega | (simp; done) | (simp; omega) | (simp at *; omega))))

def Hs.month (h : Hs) (m : Int) : Bool := inB m 0 (h.months - 1)
def Hs.weighing (h : Hs) (n : Int) : Bool := inB n 0 (h.ws.length - 1)
def Hs.under (h : Hs) (a b : Int) : Bool := (decide (a ≤ b) && decide (b ≤ h.peak)) || (decide (h.peak ≤ b) && decide (b ≤ a))

set_option maxHeartbeats 400000 in
theorem month_any (h : Hs) (A : Option Addr) (c : Nat) (m : Int) (w : World) (hm : 0 ≤ h.months) (hm' : h.months ≤ 1000000) :
    Calls Try.prog 46 #[h.val A c, .int .i64 m] w fun e w' => e = .returned (.bool (h.month m)) ∧ Below w.heap.size w w' := by
  unfold Hs.val
  go_enter Try.func46, Try.ntmps46
  go_wp2_with fail
  refine (in_any _ _ _ _).mono ?_
  rintro e w' ⟨rfl, rfl⟩
  go_wp2
  go_ret
  exact ⟨rfl, (Below.refl _ _).alloc (Nat.le_refl _) _⟩

set_option maxHeartbeats 400000 in
theorem weighing_any (h : Hs) (A : Option Addr) (c : Nat) (m : Int) (w : World) (hm : h.ws.length ≤ 1000000) :
    Calls Try.prog 70 #[h.val A c, .int .i64 m] w fun e w' => e = .returned (.bool (h.weighing m)) ∧ Below w.heap.size w w' := by
  unfold Hs.val
  go_enter Try.func70, Try.ntmps70
  go_wp2_with fail
  refine (in_any _ _ _ _).mono ?_
  rintro e w' ⟨rfl, rfl⟩
  go_wp2
  go_ret
  exact ⟨rfl, (Below.refl _ _).alloc (Nat.le_refl _) _⟩

set_option maxHeartbeats 400000 in
theorem under_any (h : Hs) (A : Option Addr) (c : Nat) (a b : Int) (w : World) :
    Calls Try.prog 47 #[h.val A c, .int .i64 a, .int .i64 b] w fun e w' => e = .returned (.bool (h.under a b)) ∧ Below w.heap.size w w' := by
  unfold Hs.val
  go_enter Try.func47, Try.ntmps47
  go_wp2
  all_goals go_ret
  all_goals (refine ⟨?_, (Below.refl _ _).alloc (Nat.le_refl _) _⟩; unfold Hs.under; apply ret_bool; rw [Bool.eq_iff_iff]; simp; try omega)

theorem lawunder_any (h : Hs) (A : Option Addr) (c : Nat) (a b : Int) (w : World) :
    Calls Try.prog 20 #[h.val A c, .int .i64 a, .int .i64 b] w fun e w' => e = .returned (.bool (h.under a b)) ∧ Below w.heap.size w w' := by
  unfold Hs.val
  go_enter Try.func20, Try.ntmps20
  go_wp2
  all_goals go_ret
  all_goals (refine ⟨?_, (Below.refl _ _).alloc (Nat.le_refl _) _⟩; unfold Hs.under; apply ret_bool; rw [Bool.eq_iff_iff]; simp; try omega)

theorem weighed_any (a b c d f : Int) (w : World) :
    Calls Try.prog 22 #[.int .i64 a, .int .i64 b, .int .i64 c, .int .i64 d, .int .i64 f] w fun e w' => e = .returned (Wg.val ⟨a, b, c, d, f⟩) ∧ Below w.heap.size w w' := by
  go_enter Try.func22, Try.ntmps22
  go_wp2
  refine bodyPost_ret (v := Wg.val ⟨a, b, c, d, f⟩) ?_ rfl ⟨rfl, ?_⟩
  · unfold Wg.val
    simp [results, Try.results22, go_sem]
  · repeat (first | exact Below.refl _ _ | exact Below.refl _ _ | refine Below.drew ?_ | refine below_drewN ?_ _ | refine Below.setCell ?_ (by first | assumption | omega | (simp; done) | (simp; omega) | (simp at *; omega)) _ | refine Below.alloc ?_ (by first | assumption | omega | (simp; done) | (simp; omega) | (simp at *; omega)) _ | refine Below.trans ?_ (Below.mono Below.refl _ _ (by first | assumption | omega | (simp; done) | (simp; omega) | (simp at *; omega))))
end Go.Proofs.Ytjihnnbpfdhceaa
