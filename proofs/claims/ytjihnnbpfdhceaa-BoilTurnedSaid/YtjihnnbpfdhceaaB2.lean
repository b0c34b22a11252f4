/- laurelkit.Eq (slices.Equal) at the element types of this program. Conditions: none beyond those that each theorem names. -/
import Derived.Test.YtjihnnbpfdhceaaA27
import Derived.Test.YtjihnnbpfdhceaaB1
set_option linter.unusedSimpArgs false
set_option linter.unusedVariables false
namespace Go.Proofs.Ytjihnnbpfdhceaa
open Go.RowKit Go.Shelf

theorem eqL_len {α : Type} [DecidableEq α] {xs ys : List α} (h : xs.length ≠ ys.length) : decide (xs = ys) = false := by
  rw [decide_eq_false_iff_not]; exact fun e => h (by rw [e])
theorem eqL_miss {α : Type} [DecidableEq α] {xs ys : List α} (k : Nat) (h1 : k < xs.length) (h2 : k < ys.length) (h : xs[k] ≠ ys[k]) : decide (xs = ys) = false := by
  rw [decide_eq_false_iff_not]; intro e; subst e; exact h rfl
theorem eqL_all {α : Type} [DecidableEq α] {xs ys : List α} (hl : xs.length = ys.length) (h : ∀ k (h1 : k < xs.length) (h2 : k < ys.length), xs[k] = ys[k]) : decide (xs = ys) = true := by
  rw [decide_eq_true_eq]; exact List.ext_getElem hl h

set_option maxHeartbeats 1000000 in
theorem equalI_any (A B : Option Addr) (xs ys : List Int) (c d : Nat) (w : World) (hA : RowIn intEnc 1 w w.heap.size A xs) (hB : RowIn intEnc 1 w w.heap.size B ys) (h1 : xs.length ≤ 1000000) (h2 : ys.length ≤ 1000000) :
    Calls Try.prog 69 #[.slice A xs.length c, .slice B ys.length d] w fun e w' => e = .returned (.bool (decide (xs = ys))) ∧ Below w.heap.size w w' := by
  have HA := Lib.hid hA
  have HB := Lib.hid hB
  clear hA hB
  by_cases hlen : (xs.length : Int) = ys.length
  · have HL := Lib.hid hlen
    have hlt' : ys.length = xs.length := by omega
    have hq : ((xs.length : Int) != ys.length) = false := by simp [hlen]
    have hle : (ys.length : Int) ≤ xs.length := by omega
    have hle2 : (xs.length : Int) ≤ ys.length := by omega
    clear hlen hlt'
    go_enter Try.func69, Try.ntmps69
    go_wp2
    go_loopw [5, 13] (fun _ i wr => ∃ k : Nat, k ≤ xs.length ∧ i = .int .i64 k ∧ Below w.heap.size w wr ∧ Aside (∀ j (h1 : j < xs.length) (h2 : j < ys.length), j < k → xs[j] = ys[j])) (fun _ i _ => xs.length - (intOf i).toNat)
    case atStart => exact ⟨0, Nat.zero_le _, rfl, Below.refl _ _, fun j _ _ h => absurd h (Nat.not_lt_zero _)⟩
    case round =>
      obtain ⟨k, hk, rfl, hbw, HJ⟩ := hrel
      by_cases hlt : k < xs.length
      · obtain ⟨b1, o1, x, rfl, hB1, hx, x0⟩ := (HA.out.below hbw).nat k hlt
        obtain ⟨b2, o2, y, rfl, hB2, hy, y0⟩ := (HB.out.below hbw).nat k (by have := HL.out; omega)
        have HX := Lib.hid hx
        have HY := Lib.hid hy
        have hk2 : k < ys.length := by omega
        have hb1 : b1 < wr.heap.size := Nat.lt_of_lt_of_le hB1 hbw.size
        have hb2 : b2 < wr.heap.size := Nat.lt_of_lt_of_le hB2 hbw.size
        clear hx hy
        by_cases hxy : x = y
        · subst hxy
          skip
          go_wp2
          go_quiet (fail)
          go_wp2
          go_roundw
          case rel =>
            refine ⟨k + 1, by omega, by go_num, below_drewN hbw _, (show Aside _ from fun j hj1 hj2 hjk => ?_)⟩
            by_cases e : j = k
            · subst e
              rw [HX.out, HY.out]
            · exact HJ j hj1 hj2 (by omega)
          case measure => simp [intOf]; omega
        · have hq2 : (x != y) = true := bne_iff_ne.2 hxy
          have HQ := Lib.hid hxy
          clear hxy
          go_wp2
          go_quiet (fail)
          go_wp2
          go_ret
          exact ⟨ret_bool (eqL_miss k hlt hk2 (by rw [HX.out, HY.out]; exact HQ.out)).symm, below_drewN hbw _⟩
      · obtain rfl : k = xs.length := by omega
        go_wp2
        go_ret
        exact ⟨ret_bool (eqL_all (by have := HL.out; omega) (fun j hj1 hj2 => HJ j hj1 hj2 hj1)).symm, hbw⟩
  · have hq : ((xs.length : Int) != ys.length) = true := bne_iff_ne.2 hlen
    have HL := Lib.hid hlen
    clear hlen
    go_enter Try.func69, Try.ntmps69
    go_wp2
    go_ret
    exact ⟨ret_bool (eqL_len (by have := HL.out; omega)).symm, Below.refl _ _⟩
set_option maxHeartbeats 400000 in
theorem eqI_any (A B : Option Addr) (xs ys : List Int) (c d : Nat) (w : World) (hA : RowIn intEnc 1 w w.heap.size A xs) (hB : RowIn intEnc 1 w w.heap.size B ys) (h1 : xs.length ≤ 1000000) (h2 : ys.length ≤ 1000000) :
    Calls Try.prog 29 #[.slice A xs.length c, .slice B ys.length d] w fun e w' => e = .returned (.bool (decide (xs = ys))) ∧ Below w.heap.size w w' := by
  have HE := Lib.hid (equalI_any A B xs ys c d w hA hB h1 h2)
  clear hA hB
  go_enter Try.func29, Try.ntmps29
  go_wp2_with fail
  refine HE.out.mono ?_
  rintro e w1 ⟨rfl, hb1⟩
  go_wp2
  go_ret
  exact ⟨rfl, hb1⟩

theorem eq_rat (w : World) (a b c d : Int) : (Op.equalIn 10000 43 (.agg #[.int .i64 a, .int .i64 b]) (.agg #[.int .i64 c, .int .i64 d])).run Try.prog w = .ok (a == c && b == d) w := by
  rw [show 10000 = 9999 + 1 from rfl, run_equalIn_struct w 9999 _ _ _ (by kernel_rfl) (by kernel_rfl)]
  simp [Program.fieldsOf, Try.underlying43, Try.underlying3, Op.eqFields, part, go_sem]
  by_cases h1 : a = c <;> by_cases h2 : b = d <;> simp [h1, h2]
theorem eq_span (w : World) (n : Nat) (a b c d : Int) : (Op.equalIn (n + 2) 47 (.agg #[.int .i64 a, .int .i64 b]) (.agg #[.int .i64 c, .int .i64 d])).run Try.prog w = .ok (a == c && b == d) w := by
  rw [show n + 2 = (n + 1) + 1 from rfl, run_equalIn_struct w (n + 1) _ _ _ (by kernel_rfl) (by kernel_rfl)]
  simp [Program.fieldsOf, Try.underlying47, Try.underlying3, Op.eqFields, part, go_sem]
  by_cases h1 : a = c <;> by_cases h2 : b = d <;> simp [h1, h2]
theorem eq_pair (w : World) (a b c d : Int) : (Op.equalIn 10000 36 (.agg #[.int .i64 a, .int .i64 b]) (.agg #[.int .i64 c, .int .i64 d])).run Try.prog w = .ok (a == c && b == d) w := by
  rw [show 10000 = 9999 + 1 from rfl, run_equalIn_struct w 9999 _ _ _ (by kernel_rfl) (by kernel_rfl)]
  simp [Program.fieldsOf, Try.underlying36, Try.underlying3, Op.eqFields, part, go_sem]
  by_cases h1 : a = c <;> by_cases h2 : b = d <;> simp [h1, h2]
theorem eq_wg (w : World) (x y : Wg) : (Op.equalIn 10000 55 (.agg #[.int .i64 x.month, .int .i64 x.slo, .int .i64 x.shi, .int .i64 x.mlo, .int .i64 x.mhi]) (.agg #[.int .i64 y.month, .int .i64 y.slo, .int .i64 y.shi, .int .i64 y.mlo, .int .i64 y.mhi])).run Try.prog w = .ok (decide (x = y)) w := by
  have hs := fun a b c d => eq_span w 9997 a b c d
  rw [show 10000 = 9999 + 1 from rfl, run_equalIn_struct w 9999 _ _ _ (by kernel_rfl) (by kernel_rfl)]
  obtain ⟨a, b, c, d, e⟩ := x
  obtain ⟨a', b', c', d', e'⟩ := y
  simp [Program.fieldsOf, Try.underlying55, Try.underlying3, Op.eqFields, part, go_sem, hs]
  by_cases h1 : a = a' <;> by_cases h2 : b = b' <;> by_cases h3 : c = c' <;> by_cases h4 : d = d' <;> by_cases h5 : e = e' <;> simp [h1, h2, h3, h4, h5]

set_option maxHeartbeats 1000000 in
theorem equalR_any (A B : Option Addr) (xs ys : List Rat2) (c d : Nat) (w : World) (hA : RowIn Rat2.enc 2 w w.heap.size A xs) (hB : RowIn Rat2.enc 2 w w.heap.size B ys) (h1 : xs.length ≤ 1000000) (h2 : ys.length ≤ 1000000) :
    Calls Try.prog 84 #[.slice A xs.length c, .slice B ys.length d] w fun e w' => e = .returned (.bool (decide (xs = ys))) ∧ Below w.heap.size w w' := by
  have HA := Lib.hid hA
  have HB := Lib.hid hB
  clear hA hB
  by_cases hlen : (xs.length : Int) = ys.length
  · have HL := Lib.hid hlen
    have hlt' : ys.length = xs.length := by omega
    have hq : ((xs.length : Int) != ys.length) = false := by simp [hlen]
    have hle : (ys.length : Int) ≤ xs.length := by omega
    have hle2 : (xs.length : Int) ≤ ys.length := by omega
    clear hlen hlt'
    go_enter Try.func84, Try.ntmps84
    go_wp2
    go_loopw [5, 13] (fun _ i wr => ∃ k : Nat, k ≤ xs.length ∧ i = .int .i64 k ∧ Below w.heap.size w wr ∧ Aside (∀ j (h1 : j < xs.length) (h2 : j < ys.length), j < k → xs[j] = ys[j])) (fun _ i _ => xs.length - (intOf i).toNat)
    case atStart => exact ⟨0, Nat.zero_le _, rfl, Below.refl _ _, fun j _ _ h => absurd h (Nat.not_lt_zero _)⟩
    case round =>
      obtain ⟨k, hk, rfl, hbw, HJ⟩ := hrel
      by_cases hlt : k < xs.length
      · obtain ⟨b1, o1, x, rfl, hB1, hx, x0, x1⟩ := (HA.out.below hbw).rat k hlt
        obtain ⟨b2, o2, y, rfl, hB2, hy, y0, y1⟩ := (HB.out.below hbw).rat k (by have := HL.out; omega)
        have HX := Lib.hid hx
        have HY := Lib.hid hy
        have hk2 : k < ys.length := by omega
        have hb1 : b1 < wr.heap.size := Nat.lt_of_lt_of_le hB1 hbw.size
        have hb2 : b2 < wr.heap.size := Nat.lt_of_lt_of_le hB2 hbw.size
        clear hx hy
        by_cases hxy : x = y
        · subst hxy
          have hq2 := fun W => eq_rat W x.num x.den x.num x.den; simp only [beq_self_eq_true, Bool.and_self] at hq2
          go_wp2
          go_quiet (fail)
          go_wp2
          go_roundw
          case rel =>
            refine ⟨k + 1, by omega, by go_num, below_drewN hbw _, (show Aside _ from fun j hj1 hj2 hjk => ?_)⟩
            by_cases e : j = k
            · subst e
              rw [HX.out, HY.out]
            · exact HJ j hj1 hj2 (by omega)
          case measure => simp [intOf]; omega
        · have hq2 := fun W => eq_rat W x.num x.den y.num y.den; rw [show (x.num == y.num && x.den == y.den) = false by rw [Bool.eq_false_iff]; intro h; simp at h; exact hxy (by cases x; cases y; simp_all)] at hq2
          have HQ := Lib.hid hxy
          clear hxy
          go_wp2
          go_quiet (fail)
          go_wp2
          go_ret
          exact ⟨ret_bool (eqL_miss k hlt hk2 (by rw [HX.out, HY.out]; exact HQ.out)).symm, below_drewN hbw _⟩
      · obtain rfl : k = xs.length := by omega
        go_wp2
        go_ret
        exact ⟨ret_bool (eqL_all (by have := HL.out; omega) (fun j hj1 hj2 => HJ j hj1 hj2 hj1)).symm, hbw⟩
  · have hq : ((xs.length : Int) != ys.length) = true := bne_iff_ne.2 hlen
    have HL := Lib.hid hlen
    clear hlen
    go_enter Try.func84, Try.ntmps84
    go_wp2
    go_ret
    exact ⟨ret_bool (eqL_len (by have := HL.out; omega)).symm, Below.refl _ _⟩
set_option maxHeartbeats 400000 in
theorem eqR_any (A B : Option Addr) (xs ys : List Rat2) (c d : Nat) (w : World) (hA : RowIn Rat2.enc 2 w w.heap.size A xs) (hB : RowIn Rat2.enc 2 w w.heap.size B ys) (h1 : xs.length ≤ 1000000) (h2 : ys.length ≤ 1000000) :
    Calls Try.prog 43 #[.slice A xs.length c, .slice B ys.length d] w fun e w' => e = .returned (.bool (decide (xs = ys))) ∧ Below w.heap.size w w' := by
  have HE := Lib.hid (equalR_any A B xs ys c d w hA hB h1 h2)
  clear hA hB
  go_enter Try.func43, Try.ntmps43
  go_wp2_with fail
  refine HE.out.mono ?_
  rintro e w1 ⟨rfl, hb1⟩
  go_wp2
  go_ret
  exact ⟨rfl, hb1⟩
set_option maxHeartbeats 1000000 in
theorem equalW_any (A B : Option Addr) (xs ys : List Wg) (c d : Nat) (w : World) (hA : RowIn Wg.enc 5 w w.heap.size A xs) (hB : RowIn Wg.enc 5 w w.heap.size B ys) (h1 : xs.length ≤ 1000000) (h2 : ys.length ≤ 1000000) :
    Calls Try.prog 96 #[.slice A xs.length c, .slice B ys.length d] w fun e w' => e = .returned (.bool (decide (xs = ys))) ∧ Below w.heap.size w w' := by
  have HA := Lib.hid hA
  have HB := Lib.hid hB
  clear hA hB
  by_cases hlen : (xs.length : Int) = ys.length
  · have HL := Lib.hid hlen
    have hlt' : ys.length = xs.length := by omega
    have hq : ((xs.length : Int) != ys.length) = false := by simp [hlen]
    have hle : (ys.length : Int) ≤ xs.length := by omega
    have hle2 : (xs.length : Int) ≤ ys.length := by omega
    clear hlen hlt'
    go_enter Try.func96, Try.ntmps96
    go_wp2
    go_loopw [5, 13] (fun _ i wr => ∃ k : Nat, k ≤ xs.length ∧ i = .int .i64 k ∧ Below w.heap.size w wr ∧ Aside (∀ j (h1 : j < xs.length) (h2 : j < ys.length), j < k → xs[j] = ys[j])) (fun _ i _ => xs.length - (intOf i).toNat)
    case atStart => exact ⟨0, Nat.zero_le _, rfl, Below.refl _ _, fun j _ _ h => absurd h (Nat.not_lt_zero _)⟩
    case round =>
      obtain ⟨k, hk, rfl, hbw, HJ⟩ := hrel
      by_cases hlt : k < xs.length
      · obtain ⟨b1, o1, x, rfl, hB1, hx, x0, x1, x2, x3, x4⟩ := (HA.out.below hbw).wg k hlt
        obtain ⟨b2, o2, y, rfl, hB2, hy, y0, y1, y2, y3, y4⟩ := (HB.out.below hbw).wg k (by have := HL.out; omega)
        have HX := Lib.hid hx
        have HY := Lib.hid hy
        have hk2 : k < ys.length := by omega
        have hb1 : b1 < wr.heap.size := Nat.lt_of_lt_of_le hB1 hbw.size
        have hb2 : b2 < wr.heap.size := Nat.lt_of_lt_of_le hB2 hbw.size
        clear hx hy
        by_cases hxy : x = y
        · subst hxy
          have hq2 := fun W => eq_wg W x x; simp only [decide_true] at hq2
          go_wp2
          go_quiet (fail)
          go_wp2
          go_roundw
          case rel =>
            refine ⟨k + 1, by omega, by go_num, below_drewN hbw _, (show Aside _ from fun j hj1 hj2 hjk => ?_)⟩
            by_cases e : j = k
            · subst e
              rw [HX.out, HY.out]
            · exact HJ j hj1 hj2 (by omega)
          case measure => simp [intOf]; omega
        · have hq2 := fun W => eq_wg W x y; rw [decide_eq_false hxy] at hq2
          have HQ := Lib.hid hxy
          clear hxy
          go_wp2
          go_quiet (fail)
          go_wp2
          go_ret
          exact ⟨ret_bool (eqL_miss k hlt hk2 (by rw [HX.out, HY.out]; exact HQ.out)).symm, below_drewN hbw _⟩
      · obtain rfl : k = xs.length := by omega
        go_wp2
        go_ret
        exact ⟨ret_bool (eqL_all (by have := HL.out; omega) (fun j hj1 hj2 => HJ j hj1 hj2 hj1)).symm, hbw⟩
  · have hq : ((xs.length : Int) != ys.length) = true := bne_iff_ne.2 hlen
    have HL := Lib.hid hlen
    clear hlen
    go_enter Try.func96, Try.ntmps96
    go_wp2
    go_ret
    exact ⟨ret_bool (eqL_len (by have := HL.out; omega)).symm, Below.refl _ _⟩
set_option maxHeartbeats 400000 in
theorem eqW_any (A B : Option Addr) (xs ys : List Wg) (c d : Nat) (w : World) (hA : RowIn Wg.enc 5 w w.heap.size A xs) (hB : RowIn Wg.enc 5 w w.heap.size B ys) (h1 : xs.length ≤ 1000000) (h2 : ys.length ≤ 1000000) :
    Calls Try.prog 83 #[.slice A xs.length c, .slice B ys.length d] w fun e w' => e = .returned (.bool (decide (xs = ys))) ∧ Below w.heap.size w w' := by
  have HE := Lib.hid (equalW_any A B xs ys c d w hA hB h1 h2)
  clear hA hB
  go_enter Try.func83, Try.ntmps83
  go_wp2_with fail
  refine HE.out.mono ?_
  rintro e w1 ⟨rfl, hb1⟩
  go_wp2
  go_ret
  exact ⟨rfl, hb1⟩
end Go.Proofs.Ytjihnnbpfdhceaa
