/- Arrays of bools compared; boil.desk.agree. Conditions: none beyond those that each theorem names. -/
import Derived.Test.YtjihnnbpfdhceaaGBoilGrown4
import Derived.Deep.MidRow
import Derived.ChangeKeysEq
set_option linter.unusedSimpArgs false
set_option linter.unusedVariables false
namespace Go.Proofs.Ytjihnnbpfdhceaa
open Go.RowKit

theorem eqItems_all {P : Program} {w : World} (d : Nat) (e : TypeId) (c : Nat) (xs ys : Array Value) (r : Nat → Bool) (is : List Nat)
    (h : ∀ i ∈ is, ∃ a b, (part e xs (i * c)).run P w = .ok a w ∧ (part e ys (i * c)).run P w = .ok b w ∧ (Op.equalIn d e a b).run P w = .ok (r i) w) : (Op.eqItems d e c xs ys is).run P w = .ok (is.all r) w := by
  induction is with
  | nil => simp [Op.eqItems]
  | cons i is ih =>
    obtain ⟨a, b, p1, p2, p3⟩ := h i (by simp)
    have ih := ih (fun j hj => h j (by simp [hj]))
    simp only [Op.eqItems, Sem.run_bind, p1, p2, p3, Result.andThen_ok, List.all_cons]
    cases r i
    · simp
    · simp [ih]

/-- The cells of 14 rows of 14 bools. -/
def rows14 (M : Nat → Nat → Bool) : Array Value := Array.ofFn (n := 196) fun i => .bool (M (i.val / 14) (i.val % 14))
def row14 (r : Nat → Bool) : Array Value := Array.ofFn (n := 14) fun i => .bool (r i.val)
theorem row14_at (r : Nat → Bool) (i : Nat) (hi : i < 14) : (row14 r)[i]? = some (.bool (r i)) := by
  unfold row14; rw [Array.getElem?_ofFn, dif_pos hi]
theorem rows14_size (M : Nat → Nat → Bool) : (rows14 M).size = 196 := Array.size_ofFn
theorem rows14_at (M : Nat → Nat → Bool) (i j : Nat) (hi : i < 14) (hj : j < 14) : (rows14 M)[i * 14 + j]? = some (.bool (M i j)) := by
  unfold rows14
  rw [Array.getElem?_ofFn, dif_pos (by omega)]
  have h2 : (i * 14 + j) / 14 = i := by omega
  have h3 : (i * 14 + j) % 14 = j := by omega
  simp only [h2, h3]
theorem rows14_row (M : Nat → Nat → Bool) (i : Nat) (hi : i < 14) : (rows14 M).extract (i * 14) (i * 14 + 14) = row14 (M i) := by
  apply Array.ext_getElem?
  intro k
  rw [Array.getElem?_extract]
  by_cases hk : k < 14
  · rw [if_pos (by simp [rows14]; omega), row14_at _ _ hk, rows14_at _ _ _ hi hk]
  · rw [if_neg (by simp [rows14]; omega), Array.getElem?_eq_none (by simp [row14]; omega)]

theorem run_eq_row14 (w : World) (d : Nat) (r s : Nat → Bool) : (Op.equalIn (d + 2) 121 (.agg (row14 r)) (.agg (row14 s))).run Try.prog w = .ok ((List.range 14).all fun i => r i == s i) w := by
  have hs : (Try.prog.info? 4).isSome = true := by kernel_rfl
  obtain ⟨inf, hinf⟩ := Option.isSome_iff_exists.1 hs
  rw [show d + 2 = (d + 1) + 1 from rfl, run_equalIn_array w (d + 1) (row14 r) (row14 s) (t := 121) (e := 4) (n := 14) (by kernel_rfl) hinf]
  refine eqItems_all _ _ _ _ _ _ _ fun i hi => ?_
  have hi := List.mem_range.1 hi
  rw [show Try.prog.cellsOf 4 = 1 by kernel_rfl, Nat.mul_one]
  refine ⟨.bool (r i), .bool (s i), ?_, ?_, ?_⟩
  · simp [part, go_sem, row14_at _ _ hi]
  · simp [part, go_sem, row14_at _ _ hi]
  · exact run_equalIn_bool' w d 4 _ _ (by kernel_rfl)
theorem run_eq_rows14 (w : World) (d : Nat) (M K : Nat → Nat → Bool) : (Op.equalIn (d + 3) 132 (.agg (rows14 M)) (.agg (rows14 K))).run Try.prog w = .ok ((List.range 14).all fun i => (List.range 14).all fun j => M i j == K i j) w := by
  have hs : (Try.prog.info? 121).isSome = true := by kernel_rfl
  obtain ⟨inf, hinf⟩ := Option.isSome_iff_exists.1 hs
  rw [show d + 3 = (d + 2) + 1 from rfl, run_equalIn_array w (d + 2) (rows14 M) (rows14 K) (t := 132) (e := 121) (n := 14) (by kernel_rfl) hinf]
  refine eqItems_all _ _ _ _ _ _ _ fun i hi => ?_
  have hi := List.mem_range.1 hi
  rw [show Try.prog.cellsOf 121 = 14 by kernel_rfl]
  refine ⟨.agg (row14 (M i)), .agg (row14 (K i)), ?_, ?_, run_eq_row14 w d _ _⟩
  · simp only [part, Sem.run_bind]
    rw [← rows14_row M i hi]
    simp [go_sem]
  · simp only [part, Sem.run_bind]
    rw [← rows14_row K i hi]
    simp [go_sem]

def agreeB (M : Nat → Nat → Bool) : Bool := (List.range 14).all fun i => (List.range 14).all fun j => M i j == false

theorem desk_range (w : World) (g : Nat) (t : TypeId) (a b c : Value) (M : Nat → Nat → Bool) (h : Blk w g t (deskCells a b c M)) : w.rangeAt g 3 (rows14 M).toList := by
  intro j v hv
  rw [h.cell]
  have hj : j < 196 := by
    have := (List.getElem?_eq_some_iff.1 hv).1
    rw [Array.length_toList, rows14_size] at this
    exact this
  obtain ⟨x, y, hx, hy, rfl⟩ : ∃ x y, x < 14 ∧ y < 14 ∧ j = x * 14 + y := ⟨j / 14, j % 14, by omega, by omega, by omega⟩
  rw [← Nat.add_assoc, deskCells_at _ _ _ _ _ _ hx hy]
  rw [Array.getElem?_toList, rows14_at _ _ _ hx hy] at hv
  exact hv

theorem zero_rows14 : Try.zeroCells132 = rows14 noClash := by
  have h : Try.zeroCells132 = Array.replicate 196 (Value.bool false) := by kernel_rfl
  rw [h]
  unfold rows14 noClash
  apply Array.ext
  · simp
  · intro i h1 h2; simp

set_option maxHeartbeats 400000 in
theorem agree_any (a b c : Value) (M : Nat → Nat → Bool) (g : Nat) (w : World) (h : Blk w g 134 (deskCells a b c M)) :
    Calls Try.prog 52 #[.pointer (some ⟨g, 0, none⟩)] w fun e w' => e = .returned (.bool (agreeB M)) ∧ w = w' := by
  have hz := zero_rows14
  have hq : ∀ w : World, (Op.equalIn 10000 132 (.agg (rows14 M)) (.agg (rows14 noClash))).run Try.prog w = .ok (agreeB M) w := fun w => run_eq_rows14 w 9997 M noClash
  have HR := Lib.hid (desk_range w g _ a b c M h)
  have HI : (Try.prog.info? 132).map (·.size) = some (rows14 M).toList.length := by rw [Array.length_toList, rows14_size]; kernel_rfl
  have hg0 : w.cell? ⟨g, 0, none⟩ = some a := by rw [h.cell, deskCells_0]
  clear h
  go_enter Try.func52, Try.ntmps52
  iterate 20 go_step
  refine wpList_load_mid rfl 132 (.tmp 5) rfl g 3 rfl (rows14 M).toList _ HR.out Try.underlying132 rfl HI ?_
  rw [Array.toArray_toList]
  go_wp2
  go_ret
  exact ⟨rfl, rfl⟩
end Go.Proofs.Ytjihnnbpfdhceaa
