/- laurelkit.Eq (slices.Equal) at the element types of this program. Conditions: none beyond those that each theorem names. -/
import Derived.Test.YtjihnnbpfdhceaaGBoilGrown18
import Derived.Test.YtjihnnbpfdhceaaGBoilGrown19
set_option linter.unusedSimpArgs false
set_option linter.unusedVariables false
namespace Go.Proofs.Ytjihnnbpfdhceaa
open Go.RowKit Go.Shelf

theorem eqL_len {α : Type} [DecidableEq α] {xs ys : List α} (h : xs.length ≠ ys.length) : decide (xs = ys) = false := by
  rw [decide_eq_false_iff_not]; exact fun e => h (by rw [e])
theorem eqL_miss {α : Type} [DecidableEq α] {xs ys : List α} (k : Nat) (h1 : k < xs.length) (h2 : k < ys.length) (h : xs[k] ≠ ys[k]) : decide (xs = ys) = false := by
  rw [decide_eq_false_iff_not]; intro e; subst e; exact h rfl
theorem eqL_all {α : Type} [DecidableEq α] {xs ys : List α} (hl : xs.length = ys.length) (h : ∀ k (h1 : k < xs.length) (h2 : k < ys.length), xs[k] = ys[k]) : decide (xs = ys) = true := by
  rw [decide_eq_true_eq]; exact List.ext_getElem hl h

set_option maxHeartbeats 1000000 in
theorem equalI_any (A B : Option Addr) (xs ys : List Int) (c d : Nat) (w : World) (hA : RowIn intEnc 1 w w.heap.size A xs) (hB : RowIn intEnc 1 w w.heap.size B ys) (h1 : xs.length ≤ 1000000) (h2 : ys.length ≤ 1000000) :
    Calls Try.prog 69 #[.slice A xs.length c, .slice B ys.length d] w fun e w' => e = .returned (.bool (decide (xs = ys))) ∧ Below w.heap.size w w' := by
  have HA := Lib.hid hA
  have HB := Lib.hid hB
  clear hA hB
  by_cases hlen : (xs.length : Int) = ys.length
  · have HL := Lib.hid hlen
    have hlt' : ys.length = xs.length := by omega
    have hq : ((xs.length : Int) != ys.length) = false := by simp [hlen]
    have hle : (ys.length : Int) ≤ xs.length := by omega
    have hle2 : (xs.length : Int) ≤ ys.length := by omega
    clear hlen hlt'
    go_enter Try.func69, Try.ntmps69
    go_wp2
    go_loopw [5, 13] (fun _ i wr => ∃ k : Nat, k ≤ xs.length ∧ i = .int .i64 k ∧ Below w.heap.size w wr ∧ Aside (∀ j (h1 : j < xs.length) (h2 : j < ys.length), j < k → xs[j] = ys[j])) (fun _ i _ => xs.length - (intOf i).toNat)
    case atStart => exact ⟨0, Nat.zero_le _, rfl, Below.refl _ _, fun j _ _ h => absurd h (Nat.not_lt_zero _)⟩
    case round =>
      obtain ⟨k, hk, rfl, hbw, HJ⟩ := hrel
      by_cases hlt : k < xs.length
      · obtain ⟨b1, o1, x, rfl, hB1, hx, x0⟩ := (HA.out.below hbw).nat k hlt
        obtain ⟨b2, o2, y, rfl, hB2, hy, y0⟩ := (HB.out.below hbw).nat k (by have := HL.out; omega)
        have HX := Lib.hid hx
        have HY := Lib.hid hy
        have hk2 : k < ys.length := by omega
        have hb1 : b1 < wr.heap.size := Nat.lt_of_lt_of_le hB1 hbw.size
        have hb2 : b2 < wr.heap.size := Nat.lt_of_lt_of_le hB2 hbw.size
        clear hx hy
        by_cases hxy : x = y
        · subst hxy
          skip
          go_wp2
          go_quiet (fail)
          go_wp2
          go_roundw
          case rel =>
            refine ⟨k + 1, by omega, by go_num, below_drewN hbw _, (show Aside _ from fun j hj1 hj2 hjk => ?_)⟩
            by_cases e : j = k
            · subst e
              rw [HX.out, HY.out]
            · exact HJ j hj1 hj2 (by omega)
          case measure => simp [intOf]; omega
        · have hq2 : (x != y) = true := bne_iff_ne.2 hxy
          have HQ := Lib.hid hxy
          clear hxy
          go_wp2
          go_quiet (fail)
          go_wp2
          go_ret
          exact ⟨ret_bool (eqL_miss k hlt hk2 (by rw [HX.out, HY.out]; exact HQ.out)).symm, below_drewN hbw _⟩
      · obtain rfl : k = xs.length := by omega
        go_wp2
        go_ret
        exact ⟨ret_bool (eqL_all (by have := HL.out; omega) (fun j hj1 hj2 => HJ j hj1 hj2 hj1)).symm, hbw⟩
  · have hq : ((xs.length : Int) != ys.length) = true := bne_iff_ne.2 hlen
    have HL := Lib.hid hlen
    clear hlen
    go_enter Try.func69, Try.ntmps69
    go_wp2
    go_ret
    exact ⟨ret_bool (eqL_len (by have := HL.out; omega)).symm, Below.refl _ _⟩
set_option maxHeartbeats 400000 in
theorem eqI_any (A B : Option Addr) (xs ys : List Int) (c d : Nat) (w : World) (hA : RowIn intEnc 1 w w.heap.size A xs) (hB : RowIn intEnc 1 w w.heap.size B ys) (h1 : xs.length ≤ 1000000) (h2 : ys.length ≤ 1000000) :
    Calls Try.prog 29 #[.slice A xs.length c, .slice B ys.length d] w fun e w' => e = .returned (.bool (decide (xs = ys))) ∧ Below w.heap.size w w' := by
  have HE := Lib.hid (equalI_any A B xs ys c d w hA hB h1 h2)
  clear hA hB
  go_enter Try.func29, Try.ntmps29
  go_wp2_with fail
  refine HE.out.mono ?_
  rintro e w1 ⟨rfl, hb1⟩
  go_wp2
  go_ret
  exact ⟨rfl, hb1⟩

theorem eq_rat (w : World) (a b c d : Int) : (Op.equalIn 10000 43 (.agg #[.int .i64 a, .int .i64 b]) (.agg #[.int .i64 c, .int .i64 d])).run Try.prog w = .ok (a == c && b == d) w := by
  rw [show 10000 = 9999 + 1 from rfl, run_equalIn_struct w 9999 _ _ _ (by kernel_rfl) (by kernel_rfl)]
  simp [Program.fieldsOf, Try.underlying43, Try.underlying3, Op.eqFields, part, go_sem]
  by_cases h1 : a = c <;> by_cases h2 : b = d <;> simp [h1, h2]
theorem eq_span (w : World) (n : Nat) (a b c d : Int) : (Op.equalIn (n + 2) 47 (.agg #[.int .i64 a, .int .i64 b]) (.agg #[.int .i64 c, .int .i64 d])).run Try.prog w = .ok (a == c && b == d) w := by
  rw [show n + 2 = (n + 1) + 1 from rfl, run_equalIn_struct w (n + 1) _ _ _ (by kernel_rfl) (by kernel_rfl)]
  simp [Program.fieldsOf, Try.underlying47, Try.underlying3, Op.eqFields, part, go_sem]
  by_cases h1 : a = c <;> by_cases h2 : b = d <;> simp [h1, h2]
theorem eq_pair (w : World) (a b c d : Int) : (Op.equalIn 10000 36 (.agg #[.int .i64 a, .int .i64 b]) (.agg #[.int .i64 c, .int .i64 d])).run Try.prog w = .ok (a == c && b == d) w := by
  rw [show 10000 = 9999 + 1 from rfl, run_equalIn_struct w 9999 _ _ _ (by kernel_rfl) (by kernel_rfl)]
  simp [Program.fieldsOf, Try.underlying36, Try.underlying3, Op.eqFields, part, go_sem]
  by_cases h1 : a = c <;> by_cases h2 : b = d <;> simp [h1, h2]
theorem eq_wg (w : World) (x y : Wg) : (Op.equalIn 10000 55 (.agg #[.int .i64 x.month, .int .i64 x.slo, .int .i64 x.shi, .int .i64 x.mlo, .int .i64 x.mhi]) (.agg #[.int .i64 y.month, .int .i64 y.slo, .int .i64 y.shi, .int .i64 y.mlo, .int .i64 y.mhi])).run Try.prog w = .ok (decide (x = y)) w := by
  have hs := fun a b c d => eq_span w 9997 a b c d
  rw [show 10000 = 9999 + 1 from rfl, run_equalIn_struct w 9999 _ _ _ (by kernel_rfl) (by kernel_rfl)]
  obtain ⟨a, b, c, d, e⟩ := x
  obtain ⟨a', b', c', d', e'⟩ := y
  simp [Program.fieldsOf, Try.underlying55, Try.underlying3, Op.eqFields, part, go_sem, hs]
  by_cases h1 : a = a' <;> by_cases h2 : b = b' <;> by_cases h3 : c = c' <;> by_cases h4 : d = d' <;> by_cases h5 : e = e' <;> simp [h1, h2, h3, h4, h5]

set_option maxHeartbeats 1000000 in
theorem equalR_any (A B : Option Addr) (xs ys : List Rat2) (c d : Nat) (w : World) (hA : RowIn Rat2.enc 2 w w.heap.size A xs) (hB : RowIn Rat2.enc 2 w w.heap.size B ys) (h1 : xs.length ≤ 1000000) (h2 : ys.length ≤ 1000000) :
    Calls Try.prog 84 #[.slice A xs.length c, .slice B ys.length d] w fun e w' => e = .returned (.bool (decide (xs = ys))) ∧ Below w.heap.size w w' := by
  have HA := Lib.hid hA
  have HB := Lib.hid hB
  clear hA hB
  by_cases hlen : (xs.length : Int) = ys.length
  · have HL := Lib.hid hlen
    have hlt' : ys.length = xs.length := by omega
    have hq : ((xs.length : Int) != ys.length) = false := by simp [hlen]
    have hle : (ys.length : Int) ≤ xs.length := by omega
    have hle2 : (xs.length : Int) ≤ ys.length := by omega
    clear hlen hlt'
    go_enter Try.func84, Try.ntmps84
    go_wp2
    go_loopw [5, 13] (fun _ i wr => ∃ k : Nat, k ≤ xs.length ∧ i = .int .i64 k ∧ Below w.heap.size w wr ∧ Aside (∀ j (h1 : j < xs.length) (h2 : j < ys.length), j < k → xs[j] = ys[j])) (fun _ i _ => xs.length - (intOf i).toNat)
    case atStart => exact ⟨0, Nat.zero_le _, rfl, Below.refl _ _, fun j _ _ h => absurd h (Nat.not_lt_zero _)⟩
    case round =>
      obtain ⟨k, hk, rfl, hbw, HJ⟩ := hrel
      by_cases hlt : k < xs.length
      · obtain ⟨b1, o1, x, rfl, hB1, hx, x0, x1⟩ := (HA.out.below hbw).rat k hlt
        obtain ⟨b2, o2, y, rfl, hB2, hy, y0, y1⟩ := (HB.out.below hbw).rat k (by have := HL.out; omega)
        have HX := Lib.hid hx
        have HY := Lib.hid hy
        have hk2 : k < ys.length := by omega
        have hb1 : b1 < wr.heap.size := Nat.lt_of_lt_of_le hB1 hbw.size
        have hb2 : b2 < wr.heap.size := Nat.lt_of_lt_of_le hB2 hbw.size
        clear hx hy
        by_cases hxy : x = y
        · subst hxy
          have hq2 := fun W => eq_rat W x.num x.den x.num x.den; simp only [beq_self_eq_true, Bool.and_self] at hq2
          go_wp2
          go_quiet (fail)
          go_wp2
          go_roundw
          case rel =>
            refine ⟨k + 1, by omega, by go_num, below_drewN hbw _, (show Aside _ from fun j hj1 hj2 hjk => ?_)⟩
            by_cases e : j = k
            · subst e
              rw [HX.out, HY.out]
            · exact HJ j hj1 hj2 (by omega)
          case measure => simp [intOf]; omega
        · have hq2 := fun W => eq_rat W x.num x.den y.num y.den; rw [show (x.num == y.num && x.den == y.den) = false by rw [Bool.eq_false_iff]; intro h; simp at h; exact hxy (by cases x; cases y; simp_all)] at hq2
          have HQ := Lib.hid hxy
          clear hxy
          go_wp2
          go_quiet (fail)
          go_wp2
          go_ret
          exact ⟨ret_bool (eqL_miss k hlt hk2 (by rw [HX.out, HY.out]; exact HQ.out)).symm, below_drewN hbw _⟩
      · obtain rfl : k = xs.length := by omega
        go_wp2
        go_ret
        exact ⟨ret_bool (eqL_all (by have := HL.out; omega) (fun j hj1 hj2 => HJ j hj1 hj2 hj1)).symm, hbw⟩
  · have hq : ((xs.length : Int) != ys.length) = true := bne_iff_ne.2 hlen
    have HL := Lib.hid hlen
    clear hlen
    go_enter Try.func84, Try.ntmps84
    go_wp2
    go_ret
    exact ⟨ret_bool (eqL_len (by have := HL.out; omega)).symm, Below.refl _ _⟩
set_option maxHeartbeats 400000 in
theorem eqR_any (A B : Option Addr) (xs ys : List Rat2) (c d : Nat) (w : World) (hA : RowIn Rat2.enc 2 w w.heap.size A xs) (hB : RowIn Rat2.enc 2 w w.heap.size B ys) (h1 : xs.length ≤ 1000000) (h2 : ys.length ≤ 1000000) :
    Calls Try.prog 43 #[.slice A xs.length c, .slice B ys.length d] w fun e w' => e = .returned (.bool (decide (xs = ys))) ∧ Below w.heap.size w w' := by
  have HE := Lib.hid (equalR_any A B xs ys c d w hA hB h1 h2)
  clear hA hB
  go_enter Try.func43, Try.ntmps43
  go_wp2_with fail
  refine HE.out.mono ?_
  rintro e w1 ⟨rfl, hb1⟩
  go_wp2
  go_ret
  exact ⟨rfl, hb1⟩
set_option maxHeartbeats 1000000 in
theorem equalW_any (A B : Option Addr) (xs ys : List Wg) (c d : Nat) (w : World) (hA : RowIn Wg.enc 5 w w.heap.size A xs) (hB : RowIn Wg.enc 5 w w.heap.size B ys) (h1 : xs.length ≤ 1000000) (h2 : ys.length ≤ 1000000) :
    Calls Try.prog 96 #[.slice A xs.length c, .slice B ys.length d] w fun e w' => e = .returned (.bool (decide (xs = ys))) ∧ Below w.heap.size w w' := by
  have HA := Lib.hid hA
  have HB := Lib.hid hB
  clear hA hB
  by_cases hlen : (xs.length : Int) = ys.length
  · have HL := Lib.hid hlen
    have hlt' : ys.length = xs.length := by omega
    have hq : ((xs.length : Int) != ys.length) = false := by simp [hlen]
    have hle : (ys.length : Int) ≤ xs.length := by omega
    have hle2 : (xs.length : Int) ≤ ys.length := by omega
    clear hlen hlt'
    go_enter Try.func96, Try.ntmps96
    go_wp2
    go_loopw [5, 13] (fun _ i wr => ∃ k : Nat, k ≤ xs.length ∧ i = .int .i64 k ∧ Below w.heap.size w wr ∧ Aside (∀ j (h1 : j < xs.length) (h2 : j < ys.length), j < k → xs[j] = ys[j])) (fun _ i _ => xs.length - (intOf i).toNat)
    case atStart => exact ⟨0, Nat.zero_le _, rfl, Below.refl _ _, fun j _ _ h => absurd h (Nat.not_lt_zero _)⟩
    case round =>
      obtain ⟨k, hk, rfl, hbw, HJ⟩ := hrel
      by_cases hlt : k < xs.length
      · obtain ⟨b1, o1, x, rfl, hB1, hx, x0, x1, x2, x3, x4⟩ := (HA.out.below hbw).wg k hlt
        obtain ⟨b2, o2, y, rfl, hB2, hy, y0, y1, y2, y3, y4⟩ := (HB.out.below hbw).wg k (by have := HL.out; omega)
        have HX := Lib.hid hx
        have HY := Lib.hid hy
        have hk2 : k < ys.length := by omega
        have hb1 : b1 < wr.heap.size := Nat.lt_of_lt_of_le hB1 hbw.size
        have hb2 : b2 < wr.heap.size := Nat.lt_of_lt_of_le hB2 hbw.size
        clear hx hy
        by_cases hxy : x = y
        · subst hxy
          have hq2 := fun W => eq_wg W x x; simp only [decide_true] at hq2
          go_wp2
          go_quiet (fail)
          go_wp2
          go_roundw
          case rel =>
            refine ⟨k + 1, by omega, by go_num, below_drewN hbw _, (show Aside _ from fun j hj1 hj2 hjk => ?_)⟩
            by_cases e : j = k
            · subst e
              rw [HX.out, HY.out]
            · exact HJ j hj1 hj2 (by omega)
          case measure => simp [intOf]; omega
        · have hq2 := fun W => eq_wg W x y; rw [decide_eq_false hxy] at hq2
          have HQ := Lib.hid hxy
          clear hxy
          go_wp2
          go_quiet (fail)
          go_wp2
          go_ret
          exact ⟨ret_bool (eqL_miss k hlt hk2 (by rw [HX.out, HY.out]; exact HQ.out)).symm, below_drewN hbw _⟩
      · obtain rfl : k = xs.length := by omega
        go_wp2
        go_ret
        exact ⟨ret_bool (eqL_all (by have := HL.out; omega) (fun j hj1 hj2 => HJ j hj1 hj2 hj1)).symm, hbw⟩
  · have hq : ((xs.length : Int) != ys.length) = true := bne_iff_ne.2 hlen
    have HL := Lib.hid hlen
    clear hlen
    go_enter Try.func96, Try.ntmps96
    go_wp2
    go_ret
    exact ⟨ret_bool (eqL_len (by have := HL.out; omega)).symm, Below.refl _ _⟩
set_option maxHeartbeats 400000 in
theorem eqW_any (A B : Option Addr) (xs ys : List Wg) (c d : Nat) (w : World) (hA : RowIn Wg.enc 5 w w.heap.size A xs) (hB : RowIn Wg.enc 5 w w.heap.size B ys) (h1 : xs.length ≤ 1000000) (h2 : ys.length ≤ 1000000) :
    Calls Try.prog 83 #[.slice A xs.length c, .slice B ys.length d] w fun e w' => e = .returned (.bool (decide (xs = ys))) ∧ Below w.heap.size w w' := by
  have HE := Lib.hid (equalW_any A B xs ys c d w hA hB h1 h2)
  clear hA hB
  go_enter Try.func83, Try.ntmps83
  go_wp2_with fail
  refine HE.out.mono ?_
  rintro e w1 ⟨rfl, hb1⟩
  go_wp2
  go_ret
  exact ⟨rfl, hb1⟩
end Go.Proofs.Ytjihnnbpfdhceaa

/- The examples of the chapter: laurellaw08.Four, awake. Conditions: none beyond those that each theorem names. -/
set_option linter.unusedSimpArgs false
set_option linter.unusedVariables false
namespace Go.Proofs.Ytjihnnbpfdhceaa
open Go.RowKit Go.Shelf
attribute [local go_sem] Oper.semAt_some
attribute [local go_sem ↓] Go.wp_at_zero Go.wp_at_succ

def four : Hs := ⟨5, 2, [⟨0, 100, 100, 10, 12⟩, ⟨1, 100, 100, 8, 9⟩, ⟨2, 50, 60, 12, 12⟩, ⟨4, 80, 80, 20, 22⟩]⟩
theorem four_check : four.check = 0 := by decide +kernel

theorem row_of_blk {α : Type} (enc : α → List Value) (k : Nat) (hk : ∀ x, (enc x).length = k) {W : World} {g : Nat} {t : TypeId} {l : List α} (h : Blk W g t (l.flatMap enc).toArray) {B : Nat} (hB : g < B) : RowIn enc k W B (some ⟨g, 0, none⟩) l := fun i hi => by
  refine ⟨g, 0, rfl, hB, fun j v hv => ?_⟩
  have hj : j < k := by
    have := (List.getElem?_eq_some_iff.1 hv).1
    rwa [hk] at this
  rw [h.cell, Nat.zero_add, List.getElem?_toArray, flat_get enc k hk l i hi j hj]
  exact hv

set_option maxRecDepth 100000 in
set_option maxHeartbeats 1000000 in
theorem four_any (w : World) :
    Calls Try.prog 50 #[] w fun e w' => ∃ A, e = .returned (four.val A 4) ∧ RowIn Wg.enc 5 w' w'.heap.size A four.ws ∧ Below w.heap.size w w' := by
  go_enter Try.func50, Try.ntmps50
  have hr0 : Blk (w.alloc (.cells #[.int .i64 0, .int .i64 0, .slice none 0 0] 25)) w.heap.size 25 #[.int .i64 0, .int .i64 0, .slice none 0 0] := Blk.new _ _ _
  have hB0 : Below w.heap.size w (w.alloc (.cells #[.int .i64 0, .int .i64 0, .slice none 0 0] 25)) := (Below.refl _ _).alloc (Nat.le_refl _) _
  go_wp2_with fail
  generalize w.alloc (.cells #[.int .i64 0, .int .i64 0, .slice none 0 0] 25) = w0 at hr0 hB0 ⊢
  refine (weighed_any _ _ _ _ _ _).mono ?_
  rintro e w1 ⟨rfl, hb1⟩
  unfold Wg.val
  have hr1 := hr0.later hb1
  have hB1 := hB0.trans (hb1.mono hB0.size)
  clear hr0 hb1 hB0
  go_wp2_with fail
  refine (weighed_any _ _ _ _ _ _).mono ?_
  rintro e w2 ⟨rfl, hb1⟩
  unfold Wg.val
  have hr0 := hr1.later hb1
  have hB0 := hB1.trans (hb1.mono hB1.size)
  clear hr1 hb1 hB1
  go_wp2_with fail
  refine (weighed_any _ _ _ _ _ _).mono ?_
  rintro e w3 ⟨rfl, hb1⟩
  unfold Wg.val
  have hr1 := hr0.later hb1
  have hB1 := hB0.trans (hb1.mono hB0.size)
  clear hr0 hb1 hB0
  go_wp2_with fail
  refine (weighed_any _ _ _ _ _ _).mono ?_
  rintro e w4 ⟨rfl, hb1⟩
  unfold Wg.val
  have hr0 := hr1.later hb1
  have hB0 := hB1.trans (hb1.mono hB1.size)
  clear hr1 hb1 hB1
  have r0 := Blk.cell hr0 0
  have r1 := Blk.cell hr0 1
  have r2 := Blk.cell hr0 2
  have rf0 := Blk.frozen hr0 0
  have rf1 := Blk.frozen hr0 1
  have rf2 := Blk.frozen hr0 2
  have rl := Blk.lt hr0
  simp only [List.getElem?_toArray, List.getElem?_cons_zero, List.getElem?_cons_succ] at r0 r1 r2
  have HR0 := Lib.hid hr0
  clear hr0
  go_wp2
  refine bodyPost_ret (v := four.val (some ⟨w4.heap.size, 0, none⟩) 4) ?_ rfl ⟨_, rfl, ?_, ?_⟩
  · have hY2 := (((HR0.out.set_ 0 (.int .i64 5)).set_ 1 (.int .i64 2)).set_ 2 (.slice (some ⟨w4.heap.size, 0, none⟩) 4 4)).alloc (.cells #[.int .i64 0, .int .i64 100, .int .i64 100, .int .i64 10, .int .i64 12, .int .i64 1, .int .i64 100, .int .i64 100, .int .i64 8, .int .i64 9, .int .i64 2, .int .i64 50, .int .i64 60, .int .i64 12, .int .i64 12, .int .i64 4, .int .i64 80, .int .i64 80, .int .i64 20, .int .i64 22] 55)
    simp only [List.setIfInBounds_toArray, List.set_cons_zero, List.set_cons_succ] at hY2
    have e0 := Blk.cell hY2 0
    have e1 := Blk.cell hY2 1
    have e2 := Blk.cell hY2 2
    have ef0 := Blk.frozen hY2 0
    have ef1 := Blk.frozen hY2 1
    have ef2 := Blk.frozen hY2 2
    have el := Blk.lt hY2
    simp only [List.getElem?_toArray, List.getElem?_cons_zero, List.getElem?_cons_succ] at e0 e1 e2
    simp [results, Try.results50, go_sem, e0, e1, e2, Hs.val, four]
  · refine row_of_blk Wg.enc 5 wg_len (t := 55) ?_ (by simp)
    have hY3 := Blk.new (((w4.setCell ⟨w.heap.size, 0, none⟩ (.int .i64 5)).setCell ⟨w.heap.size, 1, none⟩ (.int .i64 2)).setCell ⟨w.heap.size, 2, none⟩ (.slice (some ⟨w4.heap.size, 0, none⟩) 4 4)) 55 (four.ws.flatMap Wg.enc).toArray
    simp only [World.size_setCell] at hY3
    exact hY3
  · exact (((hB0.setCell (p := ⟨w.heap.size, 0, none⟩) (Nat.le_refl _) _).setCell (p := ⟨w.heap.size, 1, none⟩) (Nat.le_refl _) _).setCell (p := ⟨w.heap.size, 2, none⟩) (Nat.le_refl _) _).alloc (by simp; exact hB0.size) _
end Go.Proofs.Ytjihnnbpfdhceaa

/- laurellaw08.awake: the examples of the chapter hold. Conditions: none beyond those that each theorem names. -/
set_option linter.unusedSimpArgs false
set_option linter.unusedVariables false
namespace Go.Proofs.Ytjihnnbpfdhceaa
open Go.RowKit Go.Shelf
attribute [local go_sem] Oper.semAt_some
attribute [local go_sem ↓] Go.wp_at_zero Go.wp_at_succ

def less4 : Hs := ⟨5, 2, [⟨1, 100, 100, 8, 9⟩, ⟨4, 80, 80, 20, 22⟩]⟩
theorem four_few : fewL four.clashM four.ws.length = [0, 2] := by decide +kernel
theorem four_proves : four.proves [(3, 2), (0, 1)] = 0 := by decide +kernel
theorem four_provesN : four.provesN [(3, 2), (0, 1)] = 2 := by decide +kernel
theorem four_goneR : (four.goneR [0, 2]).1 = 0 := by decide +kernel
theorem four_without : four.without [0, 2] = less4 := by decide +kernel
theorem less4_check : less4.check = 0 := by decide +kernel
theorem less4_meat : less4.meat 4 90 = (23, 24, 0) := by decide +kernel
theorem less4_bounds : less4.bounds 4 = (⟨1, 4⟩, ⟨11, 40⟩, 0) := by decide +kernel
theorem less4_bounds2 : less4.bounds 2 = (⟨0, 0⟩, ⟨0, 0⟩, 6) := by decide +kernel
theorem less4_m4 : less4.month 4 = true := by decide +kernel
theorem less4_m2 : less4.month 2 = true := by decide +kernel
theorem four_clash {e : Ending} (h : ClashRes four.clashM four.ws.length e) : e = .returned (.tuple #[.agg #[.int .i64 0, .int .i64 1], .int .i64 0]) := by
  have h01 : four.clashM 0 1 = true := by decide +kernel
  have h00 : four.clashM 0 0 = false := by decide +kernel
  rcases h with ⟨a, b, ha, hb, hM, h1, h2, rfl⟩ | ⟨h1, _⟩
  · have ha0 : a = 0 := by
      rcases Nat.eq_zero_or_pos a with h | h
      · exact h
      · have := h1 0 h 1 (by decide)
        rw [h01] at this; cases this
    subst ha0
    have hb1 : b = 1 := by
      rcases Nat.lt_trichotomy b 1 with h | h | h
      · have : b = 0 := by omega
        subst this
        rw [h00] at hM; cases hM
      · exact h
      · have := h2 1 h
        rw [h01] at this; cases this
    subst hb1
    rfl
  · have := h1 0 (by decide) 1 (by decide)
    rw [h01] at this; cases this
theorem ints_flat (l : List Nat) : (l.map fun (n : Nat) => (n : Int)).flatMap intEnc = intsV l := by
  unfold intsV intEnc
  induction l with
  | nil => rfl
  | cons a l ih => rw [List.map_cons, List.flatMap_cons, ih]; rfl
theorem int_len (x : Int) : (intEnc x).length = 1 := rfl
theorem row_of_ints {W : World} {base : Nat} {v : Value} {l : List Nat} (h : W.ownsRow base 3 1 v l.length (intsV l)) :
    ∃ (ao : Option Addr) (cap : Nat), v = .slice ao l.length cap ∧ RowIn intEnc 1 W W.heap.size ao (l.map fun (n : Nat) => (n : Int)) := by
  rw [← ints_flat] at h
  obtain ⟨ao, cap, hv, hr, _, _⟩ := row_of_own (l := l.map fun (n : Nat) => (n : Int)) intEnc 1 int_len (by rw [List.length_map]; exact h)
  exact ⟨ao, cap, by rw [hv, List.length_map], hr⟩
theorem row_of_new {α : Type} (enc : α → List Value) (k : Nat) (hk : ∀ x, (enc x).length = k) (W : World) (t : TypeId) (cs : Array Value) (l : List α) (hl : (l.flatMap enc).toArray = cs) : RowIn enc k (W.alloc (.cells cs t)) (W.alloc (.cells cs t)).heap.size (some ⟨W.heap.size, 0, none⟩) l :=
  row_of_blk enc k hk (t := t) (hl ▸ Blk.new W t cs) (by simp)
theorem RowIn.later {α : Type} {enc : α → List Value} {k : Nat} {w w' : World} {A : Option Addr} {xs : List α} (h : RowIn enc k w w.heap.size A xs) (hb : Below w.heap.size w w') : RowIn enc k w' w'.heap.size A xs := (h.below hb).mono hb.size
theorem alc (w : World) (o : Obj) : Below w.heap.size w (w.alloc o) := (Below.refl _ _).alloc (Nat.le_refl _) _

set_option maxRecDepth 100000 in
set_option maxHeartbeats 2000000 in
theorem awake_any (w : World) : Calls Try.prog 15 #[] w fun e w' => e = .returned (.bool true) ∧ Below w.heap.size w w' := by
  have hqp := fun W => eq_pair W 0 1 0 1
  have hqs := fun W => eq_span W 9998 23 24 23 24
  have hq1 := fun W => eq_rat W 1 4 1 4
  have hq2 := fun W => eq_rat W 11 40 11 40
  simp only [beq_self_eq_true, Bool.and_self, Nat.reduceAdd] at hqp hqs hq1 hq2
  have HQP := Lib.hid hqp
  have HQS := Lib.hid hqs
  have HQ1 := Lib.hid hq1
  have HQ2 := Lib.hid hq2
  clear hqp hqs hq1 hq2
  go_enter Try.func15, Try.ntmps15
  go_wp2_with fail
  refine (four_any _).mono ?_
  rintro e w1 ⟨A1, rfl, hr1, hb1⟩
  go_wp2_with fail
  refine (fewest_any four A1 4 _ hr1 four_check).mono ?_
  rintro e w2 ⟨v, rfl, hown, hb2⟩
  rw [four_few] at hown
  obtain ⟨ao, cp, rfl, hrow⟩ := row_of_ints hown
  have hB : Below w.heap.size w w2 := Below.step hb1 hb2
  have HROW := Lib.hid hrow
  clear hr1 hb1 hb2 hown hrow
  go_wp2_with fail
  refine (four_any _).mono ?_
  rintro e w3 ⟨A2, rfl, hr2, hb3⟩
  go_wp2_with fail
  refine (clash_any four A2 4 _ hr2 four_check).mono ?_
  rintro e w4 ⟨he, hb4⟩
  have he := four_clash he
  subst he
  have hb5 := Below.step hb3 hb4
  have ehb5 := Below.step hB hb5
  clear hB
  have hB := ehb5
  clear ehb5
  have ehb5 := Lib.hid (RowIn.later HROW.out hb5)
  clear HROW
  have HROW := ehb5
  clear ehb5
  clear hr2 hb3 hb4 hb5
  go_wp2_with fail
  have hb5 := alc w4 (.cells #[.int .i64 0, .int .i64 1] 36)
  have HP := Lib.hid (Blk.new w4 36 #[.int .i64 0, .int .i64 1])
  have ehb5 := Below.step hB hb5
  clear hB
  have hB := ehb5
  clear ehb5
  have ehb5 := Lib.hid (RowIn.later HROW.out hb5)
  clear HROW
  have HROW := ehb5
  clear ehb5
  generalize w4.alloc (.cells #[.int .i64 0, .int .i64 1] 36) = w5 at HP hB HROW ⊢
  clear hb5
  generalize w4.heap.size = g3 at HP ⊢
  refine (four_any _).mono ?_
  rintro e w6 ⟨A3, rfl, hr3, hb6⟩
  have ehb6 := Below.step hB hb6
  clear hB
  have hB := ehb6
  clear ehb6
  have ehb6 := Lib.hid (RowIn.later HROW.out hb6)
  clear HROW
  have HROW := ehb6
  clear ehb6
  have ehb6 := Lib.hid (Blk.later HP.out hb6)
  clear HP
  have HP := ehb6
  clear ehb6
  have HR3 := Lib.hid hr3
  clear hb6 hr3
  go_wp2_with fail
  have hb7 := alc w6 (.cells #[.int .i64 3, .int .i64 2, .int .i64 0, .int .i64 1] 36)
  have hp7 := row_of_new pairEnc 2 (fun _ => rfl) w6 36 #[.int .i64 3, .int .i64 2, .int .i64 0, .int .i64 1] [((3 : Int), (2 : Int)), (0, 1)] rfl
  have ehb7 := Below.step hB hb7
  clear hB
  have hB := ehb7
  clear ehb7
  have ehb7 := Lib.hid (RowIn.later HROW.out hb7)
  clear HROW
  have HROW := ehb7
  clear ehb7
  have ehb7 := Lib.hid (RowIn.later HR3.out hb7)
  clear HR3
  have HR3 := ehb7
  clear ehb7
  have ehb7 := Lib.hid (Blk.later HP.out hb7)
  clear HP
  have HP := ehb7
  clear ehb7
  generalize w6.alloc (.cells #[.int .i64 3, .int .i64 2, .int .i64 0, .int .i64 1] 36) = w7 at *
  refine (proves_any four A3 4 _ [((3 : Int), (2 : Int)), (0, 1)] 2 _ HR3.out four_check hp7 (by decide)).mono ?_
  rintro e w8 ⟨rfl, hb8⟩
  rw [four_proves, four_provesN]
  have ehb8 := Below.step hB hb8
  clear hB
  have hB := ehb8
  clear ehb8
  have ehb8 := Lib.hid (RowIn.later HROW.out hb8)
  clear HROW
  have HROW := ehb8
  clear ehb8
  have ehb8 := Lib.hid (Blk.later HP.out hb8)
  clear HP
  have HP := ehb8
  clear ehb8
  clear hb7 hp7 hb8 HR3
  go_wp2_with fail
  refine (four_any _).mono ?_
  rintro e w9 ⟨A4, rfl, hr4, hb9⟩
  have ehb9 := Below.step hB hb9
  clear hB
  have hB := ehb9
  clear ehb9
  have ehb9 := Lib.hid (RowIn.later HROW.out hb9)
  clear HROW
  have HROW := ehb9
  clear ehb9
  have ehb9 := Lib.hid (Blk.later HP.out hb9)
  clear HP
  have HP := ehb9
  clear ehb9
  have HR4 := Lib.hid hr4
  clear hb9 hr4
  go_wp2_with fail
  have hb7 := alc w9 (.cells #[.int .i64 0, .int .i64 2] 3)
  have hp7 := row_of_new intEnc 1 int_len w9 3 #[.int .i64 0, .int .i64 2] [(0 : Int), 2] rfl
  have ehb7 := Below.step hB hb7
  clear hB
  have hB := ehb7
  clear ehb7
  have ehb7 := Lib.hid (RowIn.later HROW.out hb7)
  clear HROW
  have HROW := ehb7
  clear ehb7
  have ehb7 := Lib.hid (RowIn.later HR4.out hb7)
  clear HR4
  have HR4 := ehb7
  clear ehb7
  have ehb7 := Lib.hid (Blk.later HP.out hb7)
  clear HP
  have HP := ehb7
  clear ehb7
  generalize w9.alloc (.cells #[.int .i64 0, .int .i64 2] 3) = w10 at *
  refine (without_any four A4 4 _ [(0 : Int), 2] 2 _ HR4.out four_check hp7 (by decide) (by decide)).mono ?_
  rintro e w11 ⟨A5, c5, rfl, hr5, hb8⟩
  rw [four_goneR, four_without]
  rw [four_without] at hr5
  have ehb8 := Below.step hB hb8
  clear hB
  have hB := ehb8
  clear ehb8
  have ehb8 := Lib.hid (RowIn.later HROW.out hb8)
  clear HROW
  have HROW := ehb8
  clear ehb8
  have ehb8 := Lib.hid (Blk.later HP.out hb8)
  clear HP
  have HP := ehb8
  clear ehb8
  have HR5 := Lib.hid hr5
  clear hb7 hp7 hb8 HR4 hr5
  unfold Hs.val
  have HMT := Lib.hid (fun V hr => meat_any less4 A5 c5 4 90 V hr less4_check less4_m4 (by decide) (by decide))
  rw [less4_meat] at HMT
  have HB4 := Lib.hid (fun V hr => bounds_any less4 A5 c5 4 V hr less4_check less4_m4)
  rw [less4_bounds] at HB4
  have HB2 := Lib.hid (fun V hr => bounds_any less4 A5 c5 2 V hr less4_check less4_m2)
  rw [less4_bounds2] at HB2
  go_wp2_with fail
  have hb5 := alc w11 (.cells #[.int .i64 less4.months, .int .i64 less4.peak, .slice A5 less4.ws.length c5] 25)
  have HH := Lib.hid (Blk.new w11 25 #[.int .i64 less4.months, .int .i64 less4.peak, .slice A5 less4.ws.length c5])
  have ehb5 := Below.step hB hb5
  clear hB
  have hB := ehb5
  clear ehb5
  have ehb5 := Lib.hid (RowIn.later HROW.out hb5)
  clear HROW
  have HROW := ehb5
  clear ehb5
  have ehb5 := Lib.hid (RowIn.later HR5.out hb5)
  clear HR5
  have HR5 := ehb5
  clear ehb5
  have ehb5 := Lib.hid (Blk.later HP.out hb5)
  clear HP
  have HP := ehb5
  clear ehb5
  generalize w11.alloc (.cells #[.int .i64 less4.months, .int .i64 less4.peak, .slice A5 less4.ws.length c5] 25) = w12 at HP hB HROW HR5 HH ⊢
  generalize w11.heap.size = g7 at HH ⊢
  clear hb5
  refine (HMT.out _ HR5.out).mono ?_
  rintro e w13 ⟨rfl, hb8⟩
  unfold spVal
  have ehb8 := Below.step hB hb8
  clear hB
  have hB := ehb8
  clear ehb8
  have ehb8 := Lib.hid (RowIn.later HROW.out hb8)
  clear HROW
  have HROW := ehb8
  clear ehb8
  have ehb8 := Lib.hid (RowIn.later HR5.out hb8)
  clear HR5
  have HR5 := ehb8
  clear ehb8
  have ehb8 := Lib.hid (Blk.later HP.out hb8)
  clear HP
  have HP := ehb8
  clear ehb8
  have ehb8 := Lib.hid (Blk.later HH.out hb8)
  clear HH
  have HH := ehb8
  clear ehb8
  clear hb8
  have h0 := Blk.cell HH.out 0
  have h1 := Blk.cell HH.out 1
  have h2 := Blk.cell HH.out 2
  have hf0 := Blk.frozen HH.out 0
  have hf1 := Blk.frozen HH.out 1
  have hf2 := Blk.frozen HH.out 2
  have hl := Blk.lt HH.out
  simp only [List.getElem?_toArray, List.getElem?_cons_zero, List.getElem?_cons_succ] at h0 h1 h2
  go_wp2_with fail
  have hb5 := alc w13 (.cells #[.int .i64 23, .int .i64 24] 47)
  have HS := Lib.hid (Blk.new w13 47 #[.int .i64 23, .int .i64 24])
  have ehb5 := Below.step hB hb5
  clear hB
  have hB := ehb5
  clear ehb5
  have ehb5 := Lib.hid (RowIn.later HROW.out hb5)
  clear HROW
  have HROW := ehb5
  clear ehb5
  have ehb5 := Lib.hid (RowIn.later HR5.out hb5)
  clear HR5
  have HR5 := ehb5
  clear ehb5
  have ehb5 := Lib.hid (Blk.later HP.out hb5)
  clear HP
  have HP := ehb5
  clear ehb5
  have ehb5 := Lib.hid (Blk.later HH.out hb5)
  clear HH
  have HH := ehb5
  clear ehb5
  generalize w13.alloc (.cells #[.int .i64 23, .int .i64 24] 47) = w14 at HP hB HROW HR5 HH HS ⊢
  generalize w13.heap.size = g9 at HS ⊢
  clear h0 h1 h2 hf0 hf1 hf2 hl
  clear hb5
  refine (HB4.out _ HR5.out).mono ?_
  rintro e w15 ⟨rfl, hb8⟩
  unfold bdVal Rat2.val
  have ehb8 := Below.step hB hb8
  clear hB
  have hB := ehb8
  clear ehb8
  have ehb8 := Lib.hid (RowIn.later HROW.out hb8)
  clear HROW
  have HROW := ehb8
  clear ehb8
  have ehb8 := Lib.hid (RowIn.later HR5.out hb8)
  clear HR5
  have HR5 := ehb8
  clear ehb8
  have ehb8 := Lib.hid (Blk.later HP.out hb8)
  clear HP
  have HP := ehb8
  clear ehb8
  have ehb8 := Lib.hid (Blk.later HH.out hb8)
  clear HH
  have HH := ehb8
  clear ehb8
  have ehb8 := Lib.hid (Blk.later HS.out hb8)
  clear HS
  have HS := ehb8
  clear ehb8
  clear hb8
  have h0 := Blk.cell HH.out 0
  have h1 := Blk.cell HH.out 1
  have h2 := Blk.cell HH.out 2
  have hf0 := Blk.frozen HH.out 0
  have hf1 := Blk.frozen HH.out 1
  have hf2 := Blk.frozen HH.out 2
  have hl := Blk.lt HH.out
  simp only [List.getElem?_toArray, List.getElem?_cons_zero, List.getElem?_cons_succ] at h0 h1 h2
  go_wp2_with fail
  have hb5 := alc w15 (.cells #[.int .i64 1, .int .i64 4] 43)
  have HL := Lib.hid (Blk.new w15 43 #[.int .i64 1, .int .i64 4])
  have ehb5 := Below.step hB hb5
  clear hB
  have hB := ehb5
  clear ehb5
  have ehb5 := Lib.hid (RowIn.later HROW.out hb5)
  clear HROW
  have HROW := ehb5
  clear ehb5
  have ehb5 := Lib.hid (RowIn.later HR5.out hb5)
  clear HR5
  have HR5 := ehb5
  clear ehb5
  have ehb5 := Lib.hid (Blk.later HP.out hb5)
  clear HP
  have HP := ehb5
  clear ehb5
  have ehb5 := Lib.hid (Blk.later HH.out hb5)
  clear HH
  have HH := ehb5
  clear ehb5
  have ehb5 := Lib.hid (Blk.later HS.out hb5)
  clear HS
  have HS := ehb5
  clear ehb5
  have hz : (w15.alloc (.cells #[.int .i64 1, .int .i64 4] 43)).heap.size = w15.heap.size + 1 := by simp
  generalize w15.alloc (.cells #[.int .i64 1, .int .i64 4] 43) = w16 at HP hB HROW HR5 HH HS HL hz ⊢
  generalize w15.heap.size = g11 at HL hz ⊢
  clear h0 h1 h2 hf0 hf1 hf2 hl
  clear hb5
  have hb5 := alc w16 (.cells #[.int .i64 11, .int .i64 40] 43)
  have HU := Lib.hid (Blk.new w16 43 #[.int .i64 11, .int .i64 40])
  rw [hz] at HU
  clear hz
  have ehb5 := Below.step hB hb5
  clear hB
  have hB := ehb5
  clear ehb5
  have ehb5 := Lib.hid (RowIn.later HROW.out hb5)
  clear HROW
  have HROW := ehb5
  clear ehb5
  have ehb5 := Lib.hid (RowIn.later HR5.out hb5)
  clear HR5
  have HR5 := ehb5
  clear ehb5
  have ehb5 := Lib.hid (Blk.later HP.out hb5)
  clear HP
  have HP := ehb5
  clear ehb5
  have ehb5 := Lib.hid (Blk.later HH.out hb5)
  clear HH
  have HH := ehb5
  clear ehb5
  have ehb5 := Lib.hid (Blk.later HS.out hb5)
  clear HS
  have HS := ehb5
  clear ehb5
  have ehb5 := Lib.hid (Blk.later HL.out hb5)
  clear HL
  have HL := ehb5
  clear ehb5
  generalize hw17 : w16.alloc (.cells #[.int .i64 11, .int .i64 40] 43) = w17 at HP hB HROW HR5 HH HS HL HU ⊢
  clear hb5 hw17
  refine (HB2.out _ HR5.out).mono ?_
  rintro e w18 ⟨rfl, hb8⟩
  unfold bdVal Rat2.val
  have ehb8 := Below.step hB hb8
  clear hB
  have hB := ehb8
  clear ehb8
  have ehb8 := Lib.hid (RowIn.later HROW.out hb8)
  clear HROW
  have HROW := ehb8
  clear ehb8
  have ehb8 := Lib.hid (Blk.later HP.out hb8)
  clear HP
  have HP := ehb8
  clear ehb8
  have ehb8 := Lib.hid (Blk.later HS.out hb8)
  clear HS
  have HS := ehb8
  clear ehb8
  have ehb8 := Lib.hid (Blk.later HL.out hb8)
  clear HL
  have HL := ehb8
  clear ehb8
  have ehb8 := Lib.hid (Blk.later HU.out hb8)
  clear HU
  have HU := ehb8
  clear ehb8
  clear hb8 HR5 HH
  go_wp2_with fail
  have hp7 := row_of_new intEnc 1 int_len ((w18.alloc (.cells #[.int .i64 0, .int .i64 0] 43)).alloc (.cells #[.int .i64 0, .int .i64 0] 43)) 3 #[.int .i64 0, .int .i64 2] [(0 : Int), 2] rfl
  have hb5 : Below w18.heap.size w18 (((w18.alloc (.cells #[.int .i64 0, .int .i64 0] 43)).alloc (.cells #[.int .i64 0, .int .i64 0] 43)).alloc (.cells #[.int .i64 0, .int .i64 2] 3)) := Below.step (Below.step (alc _ _) (alc _ _)) (alc _ _)
  have hz : ((w18.alloc (.cells #[.int .i64 0, .int .i64 0] 43)).alloc (.cells #[.int .i64 0, .int .i64 0] 43)).heap.size = w18.heap.size + 1 + 1 := by simp
  rw [hz] at hp7
  clear hz
  have ehb5 := Below.step hB hb5
  clear hB
  have hB := ehb5
  clear ehb5
  have ehb5 := Lib.hid (RowIn.later HROW.out hb5)
  clear HROW
  have HROW := ehb5
  clear ehb5
  have ehb5 := Lib.hid (Blk.later HP.out hb5)
  clear HP
  have HP := ehb5
  clear ehb5
  have ehb5 := Lib.hid (Blk.later HS.out hb5)
  clear HS
  have HS := ehb5
  clear ehb5
  have ehb5 := Lib.hid (Blk.later HL.out hb5)
  clear HL
  have HL := ehb5
  clear ehb5
  have ehb5 := Lib.hid (Blk.later HU.out hb5)
  clear HU
  have HU := ehb5
  clear ehb5
  generalize ((w18.alloc (.cells #[.int .i64 0, .int .i64 0] 43)).alloc (.cells #[.int .i64 0, .int .i64 0] 43)).alloc (.cells #[.int .i64 0, .int .i64 2] 3) = w19 at HP hB HROW HS HL HU hp7 ⊢
  clear hb5
  refine (eqI_any ao _ (([0, 2] : List Nat).map fun (n : Nat) => (n : Int)) [(0 : Int), 2] cp 2 _ HROW.out hp7 (by decide) (by decide)).mono ?_
  rintro e w20 ⟨rfl, hb8⟩
  have ehb8 := Below.step hB hb8
  clear hB
  have hB := ehb8
  clear ehb8
  have ehb8 := Lib.hid (Blk.later HP.out hb8)
  clear HP
  have HP := ehb8
  clear ehb8
  have ehb8 := Lib.hid (Blk.later HS.out hb8)
  clear HS
  have HS := ehb8
  clear ehb8
  have ehb8 := Lib.hid (Blk.later HL.out hb8)
  clear HL
  have HL := ehb8
  clear ehb8
  have ehb8 := Lib.hid (Blk.later HU.out hb8)
  clear HU
  have HU := ehb8
  clear ehb8
  rw [show decide ((([0, 2] : List Nat).map fun (n : Nat) => (n : Int)) = [(0 : Int), 2]) = true by decide]
  clear hb8 hp7 HROW
  have a0 := Blk.cell HP.out 0
  have a1 := Blk.cell HP.out 1
  have af0 := Blk.frozen HP.out 0
  have af1 := Blk.frozen HP.out 1
  have al := Blk.lt HP.out
  simp only [List.getElem?_toArray, List.getElem?_cons_zero, List.getElem?_cons_succ] at a0 a1
  have b0 := Blk.cell HS.out 0
  have b1 := Blk.cell HS.out 1
  have bf0 := Blk.frozen HS.out 0
  have bf1 := Blk.frozen HS.out 1
  have bl := Blk.lt HS.out
  simp only [List.getElem?_toArray, List.getElem?_cons_zero, List.getElem?_cons_succ] at b0 b1
  have c0 := Blk.cell HL.out 0
  have c1 := Blk.cell HL.out 1
  have cf0 := Blk.frozen HL.out 0
  have cf1 := Blk.frozen HL.out 1
  have cl := Blk.lt HL.out
  simp only [List.getElem?_toArray, List.getElem?_cons_zero, List.getElem?_cons_succ] at c0 c1
  have d0 := Blk.cell HU.out 0
  have d1 := Blk.cell HU.out 1
  have df0 := Blk.frozen HU.out 0
  have df1 := Blk.frozen HU.out 1
  have dl := Blk.lt HU.out
  simp only [List.getElem?_toArray, List.getElem?_cons_zero, List.getElem?_cons_succ] at d0 d1
  have hqp := HQP.out
  have hqs := HQS.out
  have hq1 := HQ1.out
  have hq2 := HQ2.out
  go_wp2
  go_ret
  exact ⟨rfl, hB⟩
end Go.Proofs.Ytjihnnbpfdhceaa

/- Words for laurellaw08.Made: an array of ratios that the call makes. Conditions: none beyond those that each theorem names. -/
set_option linter.unusedSimpArgs false
set_option linter.unusedVariables false
namespace Go.Proofs.Ytjihnnbpfdhceaa
open Go.RowKit Go.Shelf

/-- The cells of n ratios. -/
def ratCells (n : Nat) (r : Nat → Rat2) : Array Value := Array.ofFn (n := n * 2) fun i => if i.val % 2 = 0 then .int .i64 (r (i.val / 2)).num else .int .i64 (r (i.val / 2)).den
def updR (r : Nat → Rat2) (m : Nat) (v : Rat2) : Nat → Rat2 := fun j => if j = m then v else r j
theorem updR_same (r : Nat → Rat2) (m : Nat) (v : Rat2) : updR r m v m = v := by simp [updR]
theorem updR_other (r : Nat → Rat2) (m : Nat) (v : Rat2) {j : Nat} (h : j ≠ m) : updR r m v j = r j := by simp [updR, h]
theorem ratCells_size (n : Nat) (r : Nat → Rat2) : (ratCells n r).size = n * 2 := Array.size_ofFn
theorem ratCells_num (n : Nat) (r : Nat → Rat2) (m : Nat) (hm : m < n) : (ratCells n r)[m * 2]? = some (.int .i64 (r m).num) := by
  unfold ratCells
  rw [Array.getElem?_ofFn, dif_pos (by omega)]
  simp
theorem ratCells_den (n : Nat) (r : Nat → Rat2) (m : Nat) (hm : m < n) : (ratCells n r)[m * 2 + 1]? = some (.int .i64 (r m).den) := by
  unfold ratCells
  rw [Array.getElem?_ofFn, dif_pos (by omega)]
  have h1 : (m * 2 + 1) % 2 = 1 := by omega
  have h2 : (m * 2 + 1) / 2 = m := by omega
  simp [h1, h2]
theorem ratCells_setN (n : Nat) (r : Nat → Rat2) (m : Nat) (a : Int) (hm : m < n) : (ratCells n r).setIfInBounds (m * 2) (.int .i64 a) = ratCells n (updR r m ⟨a, (r m).den⟩) := by
  apply Array.ext_getElem?
  intro i
  rw [Array.getElem?_setIfInBounds]
  by_cases hi : m * 2 = i
  · subst hi
    rw [if_pos rfl, ratCells_size, if_pos (by omega), ratCells_num _ _ _ hm, updR_same]
  · rw [if_neg hi]
    unfold ratCells
    rw [Array.getElem?_ofFn, Array.getElem?_ofFn]
    by_cases hn : i < n * 2
    · rw [dif_pos hn, dif_pos hn]
      by_cases he : i % 2 = 0
      · simp only [he, if_true]
        rw [updR_other _ _ _ (by omega)]
      · simp only [he, if_false]
        by_cases hm2 : i / 2 = m
        · subst hm2; rw [updR_same]
        · rw [updR_other _ _ _ hm2]
    · rw [dif_neg hn, dif_neg hn]
theorem ratCells_setD (n : Nat) (r : Nat → Rat2) (m : Nat) (a : Int) (hm : m < n) : (ratCells n r).setIfInBounds (m * 2 + 1) (.int .i64 a) = ratCells n (updR r m ⟨(r m).num, a⟩) := by
  apply Array.ext_getElem?
  intro i
  rw [Array.getElem?_setIfInBounds]
  by_cases hi : m * 2 + 1 = i
  · subst hi
    rw [if_pos rfl, ratCells_size, if_pos (by omega), ratCells_den _ _ _ hm, updR_same]
  · rw [if_neg hi]
    unfold ratCells
    rw [Array.getElem?_ofFn, Array.getElem?_ofFn]
    by_cases hn : i < n * 2
    · rw [dif_pos hn, dif_pos hn]
      by_cases he : i % 2 = 0
      · simp only [he, if_true]
        by_cases hm2 : i / 2 = m
        · subst hm2; rw [updR_same]
        · rw [updR_other _ _ _ hm2]
      · simp only [he, if_false]
        rw [updR_other _ _ _ (by omega)]
    · rw [dif_neg hn, dif_neg hn]
theorem ratCells_set2 (n : Nat) (r : Nat → Rat2) (m : Nat) (a b : Int) (hm : m < n) : ((ratCells n r).setIfInBounds (m * 2) (.int .i64 a)).setIfInBounds (m * 2 + 1) (.int .i64 b) = ratCells n (updR r m ⟨a, b⟩) := by
  rw [ratCells_setN _ _ _ _ hm, ratCells_setD _ _ _ _ hm, updR_same]
  congr 1
  funext j
  unfold updR
  split <;> rfl
theorem ratCells_made (n : Nat) : madeCells #[.int .i64 0, .int .i64 0] (n * 2) = ratCells n (fun _ => ⟨0, 0⟩) := by
  apply Array.ext_getElem?
  intro i
  unfold madeCells ratCells
  rw [Array.getElem?_ofFn]
  by_cases hn : i < n * 2
  · rw [dif_pos hn]
    rw [Array.getElem?_map, Array.getElem?_range, if_pos hn]
    by_cases he : i % 2 = 0
    · simp [he]
    · have : i % 2 = 1 := by omega
      simp [this]
  · rw [dif_neg hn, Array.getElem?_eq_none (by simp; omega)]
def ratL (n : Nat) (r : Nat → Rat2) : List Rat2 := (List.range n).map r
theorem ratL_len (n : Nat) (r : Nat → Rat2) : (ratL n r).length = n := by simp [ratL]
theorem row_of_rat {W : World} {g : Nat} {n : Nat} {r : Nat → Rat2} (h : Blk W g 43 (ratCells n r)) {B : Nat} (hB : g < B) : RowIn Rat2.enc 2 W B (some ⟨g, 0, none⟩) (ratL n r) := fun i hi => by
  rw [ratL_len] at hi
  refine ⟨g, 0, rfl, hB, fun j v hv => ?_⟩
  have hv' : (Rat2.enc (r i))[j]? = some v := by simpa [ratL] using hv
  have hj : j < 2 := (List.getElem?_eq_some_iff.1 hv').1
  rw [h.cell, Nat.zero_add]
  rcases Nat.lt_or_ge j 1 with h1 | h1
  · obtain rfl : j = 0 := by omega
    rw [Nat.add_zero, ratCells_num _ _ _ hi]; exact hv'
  · obtain rfl : j = 1 := by omega
    rw [ratCells_den _ _ _ hi]; exact hv'

theorem HeapB.chg {A : Option Addr} {xs : List Int} {hb : Nat} {W W' : World} {S : List Nat} (h : HeapB A xs hb W) (hc : Chg S W W') (hS : ∀ k ∈ S, hb < k) : HeapB A xs hb W' := by
  obtain ⟨hr, c, nx, rd, hb1, h2⟩ := h
  refine ⟨hr.below (Chg.below hc (Below.refl _ _) (Nat.le_of_lt hb1.lt) (fun k hk => Nat.le_of_lt (hS k hk))), c, nx, rd, ?_, h2⟩
  exact (hc.block hb hb1.lt (fun hm => Nat.lt_irrefl _ (hS hb hm))).trans hb1
theorem Blk.chg {W W' : World} {g : Nat} {t : TypeId} {cs : Array Value} {S : List Nat} (h : Blk W g t cs) (hc : Chg S W W') (hS : g ∉ S) : Blk W' g t cs := (hc.block g h.lt hS).trans h
theorem HeapB.set_ {A : Option Addr} {xs : List Int} {hb : Nat} {W : World} (h : HeapB A xs hb W) {p : Addr} (hp : hb < p.block) (v : Value) : HeapB A xs hb (W.setCell p v) :=
  h.chg (S := [p.block]) ((Chg.refl _ _).set_ (.inl (by simp)) _) (by simpa using hp)

/-- While a house is made: its result, the house, its heap of numbers. -/
structure MdInv (A : Option Addr) (xs : List Int) (hb gx : Nat) (hc : Array Value) (w W : World) : Prop where
  chg : Chg [hb] w W
  hp : HeapB A xs hb W
  hlt : hb < w.heap.size
  glt : w.heap.size < gx
  res : Blk W w.heap.size 25 #[.int .i64 0, .int .i64 0, .slice none 0 0]
  hs : Blk W gx 25 hc
section
variable {A : Option Addr} {xs : List Int} {hb gx : Nat} {hc : Array Value} {w W W' : World}
theorem MdInv.later (i : MdInv A xs hb gx hc w W) (h : Below W.heap.size W W') : MdInv A xs hb gx hc w W' :=
  ⟨i.chg.later h, i.hp.later h, i.hlt, i.glt, i.res.later h, i.hs.later h⟩
theorem MdInv.call (i : MdInv A xs hb gx hc w W) (h : Chg [hb] W W') (h' : HeapB A xs hb W') : MdInv A xs hb gx hc w W' :=
  ⟨i.chg.trans h, h', i.hlt, i.glt, i.res.chg h (by have := i.hlt; simp; omega), i.hs.chg h (by have := i.hlt; have := i.glt; simp; omega)⟩
theorem MdInv.seth (i : MdInv A xs hb gx hc w W) (j : Nat) (v : Value) : MdInv A xs hb gx (hc.setIfInBounds j v) w (W.setCell ⟨gx, j, none⟩ v) :=
  ⟨i.chg.set_ (p := ⟨gx, j, none⟩) (.inr (by have := i.glt; simp; omega)) _, i.hp.set_ (p := ⟨gx, j, none⟩) (by have := i.hlt; have := i.glt; simp; omega) _, i.hlt, i.glt, i.res.far (p := ⟨gx, j, none⟩) (by have := i.glt; simp; omega) _, i.hs.set_ j v⟩
theorem MdInv.far (i : MdInv A xs hb gx hc w W) {p : Addr} (hp : gx < p.block) (v : Value) : MdInv A xs hb gx hc w (W.setCell p v) :=
  ⟨i.chg.set_ (.inr (by have := i.glt; omega)) _, i.hp.set_ (by have := i.hlt; have := i.glt; omega) _, i.hlt, i.glt, i.res.far (by have := i.glt; omega) _, i.hs.far (by omega) _⟩
theorem MdInv.grown {row : Option Nat} (i : MdInv A xs hb gx hc w W) (h : W.grownBy W' row) (hr : ∀ g, row = some g → gx < g) : MdInv A xs hb gx hc w W' := by
  have hlt := i.hlt
  have hglt := i.glt
  have hgs := i.hs.lt
  have hB : Below (gx + 1) W W' := ⟨h.os, h.tape, h.output, h.size, fun k hk => h.block k (by omega) (fun e => by have := hr k e.symm; omega)⟩
  refine ⟨⟨h.os.trans i.chg.os, h.tape.trans i.chg.tape, h.output.trans i.chg.output, Nat.le_trans i.chg.size h.size, fun k hk hn => (hB.block k (by omega)).trans (i.chg.block k hk hn)⟩, ?_, i.hlt, i.glt, i.res.below hB (by omega), i.hs.below hB (by omega)⟩
  obtain ⟨hr, c, nx, rd, hb1, h2⟩ := i.hp
  exact ⟨hr.below' hB (by omega), c, nx, rd, hb1.below hB (by omega), h2⟩
theorem Blk.grown {g : Nat} {t : TypeId} {cs : Array Value} {row : Option Nat} (h : Blk W g t cs) (hg : W.grownBy W' row) (hr : ∀ g', row = some g' → g < g') : Blk W' g t cs :=
  (hg.block g h.lt (fun e => by have := hr g e.symm; omega)).trans h
end
end Go.Proofs.Ytjihnnbpfdhceaa

/- laurellaw08.Made: houses made of numbers. Conditions: none beyond those that each theorem names. -/
set_option linter.unusedSimpArgs false
set_option linter.unusedVariables false
namespace Go.Proofs.Ytjihnnbpfdhceaa
open Go.RowKit Go.Shelf
attribute [local go_sem] Oper.semAt_some
attribute [local go_sem ↓] Go.wp_at_zero Go.wp_at_succ

def WgMade (mo : Int) (r : Nat → Rat2) (wrong : Int) (x : Wg) : Prop :=
  (0 ≤ x.month ∧ x.month < mo) ∧ (1 ≤ x.slo ∧ x.slo ≤ x.shi ∧ x.shi ≤ 500) ∧ (1 ≤ x.mlo ∧ x.mlo ≤ x.mhi ∧ x.mhi ≤ 500) ∧
  (wrong = 0 → x.mlo * 200 ≤ (r x.month.toNat).num * x.shi ∧ (r x.month.toNat).num * x.slo ≤ x.mhi * 200)
structure MadeOk (h : Hs) (r : Nat → Rat2) (months weighings : Nat) (wrong : Int) : Prop where
  mo : 1 ≤ h.months ∧ h.months ≤ months
  pk : 0 ≤ h.peak ∧ h.peak < h.months
  len : h.ws.length ≤ weighings
  rat : ∀ j : Nat, (j : Int) < h.months → 8 ≤ (r j).num ∧ (r j).num ≤ 90 ∧ (r j).den = 200
  up : ∀ j : Nat, (j : Int) < h.peak → (r j).num ≤ (r (j + 1)).num
  down : ∀ j : Nat, h.peak ≤ j → (j : Int) + 1 < h.months → (r (j + 1)).num ≤ (r j).num
  ws : ∀ x ∈ h.ws, WgMade h.months r wrong x

def UpTo (P q : Nat) (r : Nat → Rat2) (kk : Int) : Prop :=
  (∀ j, q ≤ j → j ≤ P → 8 ≤ (r j).num ∧ (r j).num ≤ 90 ∧ (r j).den = 200) ∧ (∀ j, q ≤ j → j < P → (r j).num ≤ (r (j + 1)).num) ∧ (r q).num = kk
def DownTo (P q : Nat) (r : Nat → Rat2) (kk : Int) : Prop :=
  (∀ j, j < q → 8 ≤ (r j).num ∧ (r j).num ≤ 90 ∧ (r j).den = 200) ∧ (∀ j, j < P → (r j).num ≤ (r (j + 1)).num) ∧ (∀ j, P ≤ j → j + 1 < q → (r (j + 1)).num ≤ (r j).num) ∧ (r (q - 1)).num = kk
theorem UpTo.start (P : Nat) (r : Nat → Rat2) (n : Int) (h : 8 ≤ n) (h' : n ≤ 90) : UpTo P P (updR r P ⟨n, 200⟩) n :=
  ⟨fun j h1 h2 => by obtain rfl : j = P := by omega
                     rw [updR_same]; exact ⟨h, h', rfl⟩, fun j h1 h2 => by omega, by rw [updR_same]⟩
theorem UpTo.step {P p : Nat} {r : Nat → Rat2} {kk : Int} (h : UpTo P (p + 1) r kk) (hp : p < P) (n : Int) (h1 : 8 ≤ n) (h2 : n ≤ 90) (h3 : n ≤ kk) : UpTo P p (updR r p ⟨n, 200⟩) n := by
  refine ⟨fun j a b => ?_, fun j a b => ?_, by rw [updR_same]⟩
  · by_cases e : j = p
    · subst e; rw [updR_same]; exact ⟨h1, h2, rfl⟩
    · rw [updR_other _ _ _ e]; exact h.1 j (by omega) b
  · rw [updR_other _ _ _ (show j + 1 ≠ p by omega)]
    by_cases e : j = p
    · subst e; rw [updR_same]
      show n ≤ _
      rw [h.2.2]; exact h3
    · rw [updR_other _ _ _ e]; exact h.2.1 j (by omega) b
theorem UpTo.turn {P : Nat} {r : Nat → Rat2} {kk n : Int} (h : UpTo P 0 r kk) : DownTo P (P + 1) r (r P).num :=
  ⟨fun j a => h.1 j (by omega) (by omega), fun j a => h.2.1 j (by omega) a, fun j a b => by omega, rfl⟩
theorem DownTo.step {P q : Nat} {r : Nat → Rat2} {kk : Int} (h : DownTo P q r kk) (hp : P < q) (n : Int) (h1 : 8 ≤ n) (h2 : n ≤ 90) (h3 : n ≤ kk) : DownTo P (q + 1) (updR r q ⟨n, 200⟩) n := by
  obtain ⟨a, b, c, d⟩ := h
  refine ⟨fun j hj => ?_, fun j hj => ?_, fun j hj hj2 => ?_, by rw [Nat.add_sub_cancel, updR_same]⟩
  · by_cases e : j = q
    · subst e; rw [updR_same]; exact ⟨h1, h2, rfl⟩
    · rw [updR_other _ _ _ e]; exact a j (by omega)
  · rw [updR_other _ _ _ (show j ≠ q by omega), updR_other _ _ _ (show j + 1 ≠ q by omega)]; exact b j hj
  · rw [updR_other _ _ _ (show j ≠ q by omega)]
    by_cases e : j + 1 = q
    · rw [e, updR_same]
      show n ≤ _
      have : j = q - 1 := by omega
      rw [this, d]; exact h3
    · rw [updR_other _ _ _ e]; exact c j hj (by omega)

theorem wgMade_mk {N mo : Nat} {r : Nat → Rat2} {wrong sh ua ub uc ud me : Int} (h : mo < N) (h1 : 30 ≤ sh) (h2 : sh ≤ 400) (a1 : 0 ≤ ua) (b1 : 0 ≤ ub) (b2 : ub ≤ 4) (c1 : 0 ≤ uc) (d1 : 0 ≤ ud) (d2 : ud ≤ 3) (e1 : 1 ≤ me) (e2 : me ≤ 180)
    (n1 : 8 ≤ (r mo).num) (m1 : me * 200 ≤ sh * (r mo).num) (m2 : sh * (r mo).num < (me + 1) * 200) : WgMade N r wrong ⟨mo, max 1 (sh - ua), sh + ub, max 1 (me - uc), me + 1 + ud⟩ := by
  refine ⟨⟨by simp only; omega, by simp only; omega⟩, ⟨by simp only; omega, by simp only; omega, by simp only; omega⟩, ⟨by simp only; omega, by simp only; omega, by simp only; omega⟩, fun _ => ?_⟩
  simp only [Int.toNat_natCast]
  have e3 : sh * (r mo).num ≤ (r mo).num * (sh + ub) := by
    rw [Int.mul_comm sh]
    exact Int.mul_le_mul_of_nonneg_left (by omega) (by omega)
  have e4 : (r mo).num * max 1 (sh - ua) ≤ sh * (r mo).num := by
    rw [Int.mul_comm sh]
    exact Int.mul_le_mul_of_nonneg_left (by omega) (by omega)
  generalize (r mo).num * (sh + ub) = X at e3 ⊢
  generalize (r mo).num * max 1 (sh - ua) = Y at e4 ⊢
  generalize sh * (r mo).num = Z at m1 m2 e3 e4
  omega
theorem wgMade_mk2 {N mo : Nat} {r : Nat → Rat2} {wrong sh ua ub uc ud me b : Int} (hw : wrong ≠ 0) (h : mo < N) (h1 : 30 ≤ sh) (h2 : sh ≤ 400) (a1 : 0 ≤ ua) (b1 : 0 ≤ ub) (b2 : ub ≤ 4) (c1 : 0 ≤ uc) (d1 : 0 ≤ ud) (d2 : ud ≤ 3) (e1 : 1 ≤ me) (e2 : me ≤ 180)
    (f2 : b ≤ 12) : WgMade N r wrong ⟨mo, max 1 (sh - ua), sh + ub, max 1 (max 1 (me - uc) + b), max 1 (me + 1 + ud + b)⟩ := by
  refine ⟨⟨by simp only; omega, by simp only; omega⟩, ⟨by simp only; omega, by simp only; omega, by simp only; omega⟩, ⟨by simp only; omega, by simp only; omega, by simp only; omega⟩, fun h0 => absurd h0 hw⟩

set_option maxRecDepth 100000 in
set_option maxHeartbeats 4000000 in
theorem made_any (A : Option Addr) (xs : List Int) (hb : Nat) (months weighings : Nat) (wrong : Int) (w : World) (h : HeapB A xs hb w) (hl : xs.length ≤ 140737488355328) (hm1 : 1 ≤ months) (hm2 : months ≤ 12) (hw2 : weighings ≤ 14) (hg0 : 0 ≤ wrong) (hg1 : wrong ≤ 100) :
    Calls Try.prog 10 #[.pointer (some ⟨hb, 0, none⟩), .int .i64 months, .int .i64 weighings, .int .i64 wrong] w fun e w' =>
      ∃ (h : Hs) (r : Nat → Rat2) (A1 : Option Addr) (c1 : Nat) (A2 : Option Addr) (n : Nat) (c2 : Nat), e = .returned (.tuple #[h.val A1 c1, .slice A2 n c2]) ∧ h.months = n ∧ RowIn Wg.enc 5 w' w'.heap.size A1 h.ws ∧ RowIn Rat2.enc 2 w' w'.heap.size A2 (ratL n r) ∧
        Chg [hb] w w' ∧ HeapB A xs hb w' ∧ MadeOk h r months weighings wrong := by
  obtain ⟨i0, hi0, hz0, hz1, hz2⟩ := info_parts info_ratio
  obtain ⟨j0, hj0, hy0, hy1, hy2⟩ := info_parts info_wg
  have HF := Lib.hid (fun lo hi V h h1 h2 h3 h4 => from_any A xs hb lo hi V h hl h1 h2 h3 h4)
  have HU := Lib.hid (fun m V h h1 h2 => upto_any A xs hb m V h hl h1 h2)
  have HO := Lib.hid (fun m V h h1 h2 => once_any A xs hb m V h hl h1 h2)
  have HH := Lib.hid h
  have hlt := h.lt
  clear h hl
  go_enter Try.func10, Try.ntmps10
  go_wp2_with fail
  have hr0 := Lib.hid (Blk.new w 25 #[.int .i64 0, .int .i64 0, .slice none 0 0])
  have hb0 := alc w (.cells #[.int .i64 0, .int .i64 0, .slice none 0 0] 25)
  have hh0 := Lib.hid (HH.out.later hb0)
  generalize w.alloc (.cells #[.int .i64 0, .int .i64 0, .slice none 0 0] 25) = w1 at hr0 hb0 hh0 ⊢
  refine (HF.out _ _ _ hh0.out (by omega) (by omega) (by omega) (by omega)).mono ?_
  rintro e w2 ⟨n0, hn1, hn2, rfl, hc2, hh2⟩
  obtain ⟨N, rfl⟩ := Int.eq_ofNat_of_zero_le (show 0 ≤ n0 by omega)
  have hbw2 : Chg [hb] w w2 := (Chg.of_below hb0).trans hc2
  have hr2 := Lib.hid (hr0.out.chg hc2 (by simp; omega))
  have HH2 := Lib.hid hh2
  have hsz2 : w.heap.size < w2.heap.size := by have := hr2.out.lt; omega
  clear hb0 hc2 hh2 hr0 hh0
  go_wp2_with fail
  have hb3 := alc w2 (.cells #[.int .i64 N, .int .i64 0, .slice none 0 0] 25)
  have HI := Lib.hid (show MdInv A xs hb w2.heap.size #[.int .i64 N, .int .i64 0, .slice none 0 0] w (w2.alloc (.cells #[.int .i64 N, .int .i64 0, .slice none 0 0] 25)) from ⟨hbw2.later hb3, HH2.out.later hb3, hlt, hsz2, hr2.out.later hb3, Blk.new _ _ _⟩)
  generalize w2.alloc (.cells #[.int .i64 N, .int .i64 0, .slice none 0 0] 25) = w3 at HI ⊢
  generalize w2.heap.size = gx at HI hsz2 ⊢
  clear hb3 hbw2 hr2 HH2
  refine (HU.out _ _ HI.out.hp (by omega) (by omega)).mono ?_
  rintro e w4 ⟨p0, hp1, hp2, rfl, hc4, hh4⟩
  obtain ⟨P, rfl⟩ := Int.eq_ofNat_of_zero_le (show 0 ≤ p0 by omega)
  have hPN : P < N := by omega
  have hN12 : N ≤ 12 := by omega
  have hN1 : 1 ≤ N := by omega
  have HJ := Lib.hid (HI.out.call hc4 hh4)
  clear hc4 hh4 HI hn1 hp1 hp2
  have c0 := Blk.cell HJ.out.hs 0
  have c1 := Blk.cell HJ.out.hs 1
  have c2 := Blk.cell HJ.out.hs 2
  have cf0 := Blk.frozen HJ.out.hs 0
  have cf1 := Blk.frozen HJ.out.hs 1
  have cf2 := Blk.frozen HJ.out.hs 2
  have cl := Blk.lt HJ.out.hs
  simp only [List.getElem?_toArray, List.getElem?_cons_zero, List.getElem?_cons_succ] at c0 c1 c2
  have HJ2 := Lib.hid (HJ.out.seth 1 (.int .i64 P))
  simp only [List.setIfInBounds_toArray, List.set_cons_zero, List.set_cons_succ] at HJ2
  have hmk := run_make_n (P := Try.prog) 26 43 i0 _ 2 Try.underlying26 hi0 hz0 hz1 N (by omega) (by omega)
  have hze : (Value.agg #[.int .i64 0, .int .i64 0]).cells = #[.int .i64 0, .int .i64 0] := rfl
  rw [hze, ratCells_made] at hmk
  clear hze
  go_wp2_with fail
  clear c0 c1 c2 cf0 cf1 cf2 cl
  have hsz4 : gx < w4.heap.size := HJ.out.hs.lt
  have HJ3 := Lib.hid (HJ2.out.later (alc _ (.cells (ratCells N fun _ => ⟨0, 0⟩) 43)))
  have hR3 := Blk.new (w4.setCell ⟨gx, 1, none⟩ (.int .i64 P)) 43 (ratCells N fun _ => ⟨0, 0⟩)
  rw [World.size_setCell] at hR3
  generalize (w4.setCell ⟨gx, 1, none⟩ (.int .i64 P)).alloc (.cells (ratCells N fun _ => ⟨0, 0⟩) 43) = w5 at HJ3 hR3 ⊢
  generalize w4.heap.size = gr at hR3 hsz4 ⊢
  have HR3 := Lib.hid hR3
  clear HJ HJ2 hmk hR3
  refine (HF.out _ _ _ HJ3.out.hp (by omega) (by omega) (by omega) (by omega)).mono ?_
  rintro e w6 ⟨n, hn1, hn2', rfl, hc6, hh6⟩
  have hn90 : n ≤ 90 := by omega
  have HJ4 := Lib.hid (HJ3.out.call hc6 hh6)
  have HR4 := Lib.hid (HR3.out.chg hc6 (by simp; omega))
  clear HJ3 HR3 hc6 hh6 hn2'
  have c0 := Blk.cell HJ4.out.hs 0
  have c1 := Blk.cell HJ4.out.hs 1
  have c2 := Blk.cell HJ4.out.hs 2
  have cf0 := Blk.frozen HJ4.out.hs 0
  have cf1 := Blk.frozen HJ4.out.hs 1
  have cf2 := Blk.frozen HJ4.out.hs 2
  have cl := Blk.lt HJ4.out.hs
  simp only [List.getElem?_toArray, List.getElem?_cons_zero, List.getElem?_cons_succ] at c0 c1 c2
  have r0 := Blk.cell HR4.out (P * 2)
  have r1 := Blk.cell HR4.out (P * 2 + 1)
  have rf0 := Blk.frozen HR4.out (P * 2)
  have rf1 := Blk.frozen HR4.out (P * 2 + 1)
  have rl := Blk.lt HR4.out
  rw [ratCells_num _ _ _ hPN] at r0
  rw [ratCells_den _ _ _ hPN] at r1
  go_wp2
  have HJ5 := Lib.hid ((HJ4.out.far (p := ⟨gr, P * 2, none⟩) hsz4 (.int .i64 n)).far (p := ⟨gr, P * 2 + 1, none⟩) hsz4 (.int .i64 200))
  have HR5 := Lib.hid ((HR4.out.set_ (P * 2) (.int .i64 n)).set_ (P * 2 + 1) (.int .i64 200))
  rw [ratCells_set2 _ _ _ _ _ hPN] at HR5
  generalize (w6.setCell ⟨gr, P * 2, none⟩ (.int .i64 n)).setCell ⟨gr, P * 2 + 1, none⟩ (.int .i64 200) = w7 at HJ5 HR5 ⊢
  clear c0 c1 c2 cf0 cf1 cf2 cl
  clear r0 r1 rf0 rf1 rl
  clear HJ4 HR4
  have HUP := Lib.hid (UpTo.start P (fun _ => ⟨0, 0⟩) n (by omega) hn90)
  go_loopw [13, 14] (fun m k wr => ∃ (q : Nat) (kk : Int) (r : Nat → Rat2), q ≤ P ∧ m = .int .i64 ((q : Int) - 1) ∧ k = .int .i64 kk ∧ (8 ≤ kk ∧ kk ≤ 90) ∧ MdInv A xs hb gx #[.int .i64 N, .int .i64 P, .slice none 0 0] w wr ∧ Blk wr gr 43 (ratCells N r) ∧ UpTo P q r kk ∧ (r P).num = n) (fun m _ _ => (intOf m + 1).toNat)
  case atStart => exact ⟨P, n, _, Nat.le_refl _, rfl, rfl, ⟨by omega, hn90⟩, HJ5.out, HR5.out, HUP.out, by rw [updR_same]⟩
  case round =>
    clear HJ5 HR5 HUP
    obtain ⟨q, kk, r, hq, hm, rfl, ⟨hk1, hk2⟩, hI, hR, hup, hrn⟩ := hrel
    have HI := Lib.hid hI
    have HR := Lib.hid hR
    have HUP := Lib.hid hup
    have HRN := Lib.hid hrn
    clear hI hR hup hrn
    cases q with
    | succ p =>
      rw [show (((p + 1 : Nat) : Int) - 1) = p by omega] at hm
      subst hm
      go_wp2_with fail
      refine (HU.out _ _ HI.out.hp (by omega) (by omega)).mono ?_
      rintro e w8 ⟨u, hu1, hu2, rfl, hc8, hh8⟩
      have HI8 := Lib.hid (HI.out.call hc8 hh8)
      have HR8 := Lib.hid (HR.out.chg hc8 (by simp; omega))
      have hu9 : u ≤ 9 := by omega
      have hpN : p < N := by omega
      clear hc8 hh8 HI HR hu2
      have r0 := Blk.cell HR8.out (p * 2)
      have r1 := Blk.cell HR8.out (p * 2 + 1)
      have rf0 := Blk.frozen HR8.out (p * 2)
      have rf1 := Blk.frozen HR8.out (p * 2 + 1)
      have rl := Blk.lt HR8.out
      rw [ratCells_num _ _ _ hpN] at r0
      rw [ratCells_den _ _ _ hpN] at r1
      go_wp2
      refine ⟨⟨p, max 8 (kk - u), updR r p ⟨max 8 (kk - u), 200⟩, by omega, rfl, rfl, by omega, (HI8.out.far (p := ⟨gr, p * 2, none⟩) hsz4 _).far (p := ⟨gr, p * 2 + 1, none⟩) hsz4 _, ?_, HUP.out.step (by omega) _ (by omega) (by omega) (by omega), ?_⟩, by simp [intOf]⟩
      · rw [← ratCells_set2 _ _ _ _ _ hpN]
        exact (HR8.out.set_ _ _).set_ _ _
      · rw [updR_other _ _ _ (by omega)]; exact HRN.out
    | zero =>
      have : ((0 : Nat) : Int) - 1 = -1 := by omega
      rw [this] at hm
      clear this
      subst hm
      have HDN := Lib.hid (HUP.out.turn (n := 0))
      rw [HRN.out] at HDN
      clear HUP HRN
      obtain ⟨wo, rfl⟩ : ∃ wo : World, wo = wr := ⟨_, rfl⟩
      have c0 := Blk.cell HI.out.hs 0
      have c1 := Blk.cell HI.out.hs 1
      have c2 := Blk.cell HI.out.hs 2
      have cf0 := Blk.frozen HI.out.hs 0
      have cf1 := Blk.frozen HI.out.hs 1
      have cf2 := Blk.frozen HI.out.hs 2
      have cl := Blk.lt HI.out.hs
      simp only [List.getElem?_toArray, List.getElem?_cons_zero, List.getElem?_cons_succ] at c0 c1 c2
      go_wp2
      clear c0 c1 c2 cf0 cf1 cf2 cl
      go_loopw [15, 16] (fun m k wr => ∃ (q : Nat) (kk : Int) (r : Nat → Rat2), (P + 1 ≤ q ∧ q ≤ N) ∧ m = .int .i64 (q : Int) ∧ k = .int .i64 kk ∧ (8 ≤ kk ∧ kk ≤ 90) ∧ MdInv A xs hb gx #[.int .i64 N, .int .i64 P, .slice none 0 0] w wr ∧ Blk wr gr 43 (ratCells N r) ∧ DownTo P q r kk) (fun m _ _ => (N - intOf m).toNat)
      case atStart => exact ⟨P + 1, n, _, ⟨Nat.le_refl _, hPN⟩, by go_num, rfl, ⟨by omega, hn90⟩, HI.out, HR.out, HDN.out⟩
      case round =>
        clear HI HR HDN
        obtain ⟨q, kk, r, ⟨hq1, hq2⟩, rfl, rfl, ⟨hk1, hk2⟩, hI, hR, hup⟩ := hrel
        have HI := Lib.hid hI
        have HR := Lib.hid hR
        have HUP := Lib.hid hup
        clear hI hR hup
        have c0 := Blk.cell HI.out.hs 0
        have c1 := Blk.cell HI.out.hs 1
        have c2 := Blk.cell HI.out.hs 2
        have cf0 := Blk.frozen HI.out.hs 0
        have cf1 := Blk.frozen HI.out.hs 1
        have cf2 := Blk.frozen HI.out.hs 2
        have cl := Blk.lt HI.out.hs
        simp only [List.getElem?_toArray, List.getElem?_cons_zero, List.getElem?_cons_succ] at c0 c1 c2
        by_cases hlt2 : q < N
        · go_wp2_with fail
          clear c0 c1 c2 cf0 cf1 cf2 cl
          refine (HU.out _ _ HI.out.hp (by omega) (by omega)).mono ?_
          rintro e w8 ⟨u, hu1, hu2, rfl, hc8, hh8⟩
          have HI8 := Lib.hid (HI.out.call hc8 hh8)
          have HR8 := Lib.hid (HR.out.chg hc8 (by simp; omega))
          have hu9 : u ≤ 9 := by omega
          clear hc8 hh8 HI HR hu2
          have r0 := Blk.cell HR8.out (q * 2)
          have r1 := Blk.cell HR8.out (q * 2 + 1)
          have rf0 := Blk.frozen HR8.out (q * 2)
          have rf1 := Blk.frozen HR8.out (q * 2 + 1)
          have rl := Blk.lt HR8.out
          rw [ratCells_num _ _ _ hlt2] at r0
          rw [ratCells_den _ _ _ hlt2] at r1
          go_wp2
          refine ⟨⟨q + 1, max 8 (kk - u), updR r q ⟨max 8 (kk - u), 200⟩, ⟨by omega, by omega⟩, by go_num, rfl, by omega, (HI8.out.far (p := ⟨gr, q * 2, none⟩) hsz4 _).far (p := ⟨gr, q * 2 + 1, none⟩) hsz4 _, ?_, HUP.out.step (by omega) _ (by omega) (by omega) (by omega)⟩, by simp [intOf]; omega⟩
          rw [← ratCells_set2 _ _ _ _ _ hlt2]
          exact (HR8.out.set_ _ _).set_ _ _
        · obtain rfl : N = q := by omega
          obtain ⟨wn, rfl⟩ : ∃ wn : World, wn = wr := ⟨_, rfl⟩
          go_wp2_with fail
          clear c0 c1 c2 cf0 cf1 cf2 cl
          refine (HU.out _ _ HI.out.hp (by omega) (by omega)).mono ?_
          rintro e w9 ⟨cn, hu1, hu2, rfl, hc8, hh8⟩
          obtain ⟨C, rfl⟩ := Int.eq_ofNat_of_zero_le (show 0 ≤ cn by omega)
          have hCw : C ≤ weighings := by omega
          have HI9 := Lib.hid (HI.out.call hc8 hh8)
          have HR9 := Lib.hid (HR.out.chg hc8 (by simp; omega))
          have hgx9 : gx < w9.heap.size := HI9.out.hs.lt
          have hgr9 : gr < w9.heap.size := HR9.out.lt
          clear hc8 hh8 HI HR hu1 hu2
          go_wp2
          go_loopw [84] (fun i wr => ∃ (j : Nat) (v : Value) (ws : List Wg), j ≤ C ∧ i = .int .i64 j ∧ ws.length = j ∧ Aside (∀ x ∈ ws, WgMade N r wrong x) ∧ MdInv A xs hb gx #[.int .i64 N, .int .i64 P, v] w wr ∧ Blk wr gr 43 (ratCells N r) ∧ wr.ownsRow w9.heap.size 55 5 v ws.length (ws.flatMap Wg.enc) ∧ w9.heap.size ≤ wr.heap.size) (fun i _ => (C - intOf i).toNat)
          case atStart => exact ⟨0, .slice none 0 0, [], by omega, rfl, rfl, fun x hx => by simp at hx, HI9.out, HR9.out, World.ownsRow_nil _ _ _ 5, Nat.le_refl _⟩
          case round =>
            clear HI9 HR9
            obtain ⟨j, v, ws, hj, rfl, hwl, HWM, hI, hR, hOw, HZ⟩ := hrel
            have HI := Lib.hid hI
            have HR := Lib.hid hR
            have HOw := Lib.hid hOw
            have HWL := Lib.hid hwl
            clear hI hR hOw hwl
            have c0 := Blk.cell HI.out.hs 0
            have c1 := Blk.cell HI.out.hs 1
            have c2 := Blk.cell HI.out.hs 2
            have cf0 := Blk.frozen HI.out.hs 0
            have cf1 := Blk.frozen HI.out.hs 1
            have cf2 := Blk.frozen HI.out.hs 2
            have cl := Blk.lt HI.out.hs
            simp only [List.getElem?_toArray, List.getElem?_cons_zero, List.getElem?_cons_succ] at c0 c1 c2
            by_cases hlt3 : j < C
            · go_wp2_with fail
              clear c0 c1 c2 cf0 cf1 cf2 cl
              refine (HU.out _ _ HI.out.hp (by omega) (by omega)).mono ?_
              rintro e w10 ⟨mo0, hu1, hu2, rfl, hc8, hh8⟩
              obtain ⟨mo, rfl⟩ := Int.eq_ofNat_of_zero_le (show 0 ≤ mo0 by omega)
              have hmo : mo < N := by omega
              have HI10 := Lib.hid (HI.out.call hc8 hh8)
              have HR10 := Lib.hid (HR.out.chg hc8 (by simp; omega))
              have HOw10 := Lib.hid (ownsRow_chg HOw.out hc8 (by simp; omega))
              have HZ10 := Nat.le_trans HZ hc8.size
              clear hc8 hh8 HI HR HOw hu1 hu2
              go_wp2_with fail
              refine (HF.out _ _ _ HI10.out.hp (by omega) (by omega) (by omega) (by omega)).mono ?_
              rintro e w11 ⟨sh, hs1, hs2', rfl, hc8, hh8⟩
              have hs2 : sh ≤ 400 := by omega
              have HI := Lib.hid (HI10.out.call hc8 hh8)
              have HR := Lib.hid (HR10.out.chg hc8 (by simp; omega))
              have HOw := Lib.hid (ownsRow_chg HOw10.out hc8 (by simp; omega))
              clear HZ
              have HZ := Nat.le_trans HZ10 hc8.size
              clear hc8 hh8 HI10 HR10 HOw10 hs2'
              have hrb := HUP.out.1 mo hmo
              obtain ⟨hrb1, hrb2, _⟩ := hrb
              have hpr := mul_bd (x := sh) (y := (r mo).num) (M := 400) (N := 90) (by omega) hs2 (by omega) hrb2
              obtain ⟨hpr1, hpr2⟩ := hpr
              have r0 := Blk.cell HR.out (mo * 2)
              have r1 := Blk.cell HR.out (mo * 2 + 1)
              have rf0 := Blk.frozen HR.out (mo * 2)
              have rf1 := Blk.frozen HR.out (mo * 2 + 1)
              have rl := Blk.lt HR.out
              rw [ratCells_num _ _ _ hmo] at r0
              rw [ratCells_den _ _ _ hmo] at r1
              go_wp2_with fail
              clear r0 r1 rf0 rf1 rl
              refine (HU.out _ _ HI.out.hp (by omega) (by omega)).mono ?_
              rintro e w12 ⟨ua, huaa, hx2, rfl, hc8, hh8⟩
              have huab : ua ≤ 4 := by omega
              have xI := Lib.hid (HI.out.call hc8 hh8)
              have xR := Lib.hid (HR.out.chg hc8 (by simp; omega))
              have xO := Lib.hid (ownsRow_chg HOw.out hc8 (by simp; omega))
              have HZ' := Nat.le_trans HZ hc8.size
              clear hc8 hh8 hx2 HI HR HOw
              have HI := xI
              have HR := xR
              have HOw := xO
              clear xI xR xO HZ
              have HZ := HZ'
              clear HZ'
              go_wp2_with fail
              refine (HU.out _ _ HI.out.hp (by omega) (by omega)).mono ?_
              rintro e w13 ⟨ub, huba, hx2, rfl, hc8, hh8⟩
              have hubb : ub ≤ 4 := by omega
              have xI := Lib.hid (HI.out.call hc8 hh8)
              have xR := Lib.hid (HR.out.chg hc8 (by simp; omega))
              have xO := Lib.hid (ownsRow_chg HOw.out hc8 (by simp; omega))
              have HZ' := Nat.le_trans HZ hc8.size
              clear hc8 hh8 hx2 HI HR HOw
              have HI := xI
              have HR := xR
              have HOw := xO
              clear xI xR xO HZ
              have HZ := HZ'
              clear HZ'
              go_wp2_with fail
              have hme1 : 0 ≤ sh * (r mo).num / 200 := Int.ediv_nonneg hpr1 (by omega)
              have hme2 : sh * (r mo).num / 200 ≤ 180 := by omega
              have hme3 : sh * (r mo).num / 200 * 200 ≤ sh * (r mo).num := by omega
              have hme4 : sh * (r mo).num < (sh * (r mo).num / 200 + 1) * 200 := by omega
              have hpr3 : 30 * 8 ≤ sh * (r mo).num := Int.mul_le_mul hs1 hrb1 (by omega) (by omega)
              have hme5 : 1 ≤ sh * (r mo).num / 200 := by omega
              generalize sh * (r mo).num / 200 = me at hme1 hme2 hme3 hme4 hme5 ⊢
              refine (HU.out _ _ HI.out.hp (by omega) (by omega)).mono ?_
              rintro e w14 ⟨uc, huca, hx2, rfl, hc8, hh8⟩
              have hucb : uc ≤ 3 := by omega
              have xI := Lib.hid (HI.out.call hc8 hh8)
              have xR := Lib.hid (HR.out.chg hc8 (by simp; omega))
              have xO := Lib.hid (ownsRow_chg HOw.out hc8 (by simp; omega))
              have HZ' := Nat.le_trans HZ hc8.size
              clear hc8 hh8 hx2 HI HR HOw
              have HI := xI
              have HR := xR
              have HOw := xO
              clear xI xR xO HZ
              have HZ := HZ'
              clear HZ'
              go_wp2_with fail
              refine (HU.out _ _ HI.out.hp (by omega) (by omega)).mono ?_
              rintro e w15 ⟨ud, huda, hx2, rfl, hc8, hh8⟩
              have hudb : ud ≤ 3 := by omega
              have xI := Lib.hid (HI.out.call hc8 hh8)
              have xR := Lib.hid (HR.out.chg hc8 (by simp; omega))
              have xO := Lib.hid (ownsRow_chg HOw.out hc8 (by simp; omega))
              have HZ' := Nat.le_trans HZ hc8.size
              clear hc8 hh8 hx2 HI HR HOw
              have HI := xI
              have HR := xR
              have HOw := xO
              clear xI xR xO HZ
              have HZ := HZ'
              clear HZ'
              go_wp2_with fail
              refine (weighed_any _ _ _ _ _ _).mono ?_
              rintro e w16 ⟨rfl, hb8⟩
              unfold Wg.val
              have xI := Lib.hid (HI.out.later hb8)
              have xR := Lib.hid (HR.out.later hb8)
              have xO := Lib.hid (ownsRow_keep HOw.out hb8)
              have HZ9 := Nat.le_trans HZ hb8.size
              clear hb8 HI HR HOw
              have hb8 := alc w16 (.cells #[.int .i64 mo, .int .i64 (max 1 (sh - ua)), .int .i64 (sh + ub), .int .i64 (max 1 (me - uc)), .int .i64 (me + 1 + ud)] 55)
              have HX := Lib.hid (Blk.new w16 55 #[.int .i64 mo, .int .i64 (max 1 (sh - ua)), .int .i64 (sh + ub), .int .i64 (max 1 (me - uc)), .int .i64 (me + 1 + ud)])
              have HI := Lib.hid (xI.out.later hb8)
              have HR := Lib.hid (xR.out.later hb8)
              have HOw := Lib.hid (ownsRow_keep xO.out hb8)
              have hgw : gx < w16.heap.size := xI.out.hs.lt
              have hvl : ∀ k, v.ownBlock = some k → k < w16.heap.size := fun k hk => (xO.out.lt k hk).2
              have hgw2 : gr < w16.heap.size := xR.out.lt
              clear hb8
              by_cases hwr : wrong = 0
              · subst hwr
                have c0 := Blk.cell xI.out.hs 0
                have c1 := Blk.cell xI.out.hs 1
                have c2 := Blk.cell xI.out.hs 2
                have cf0 := Blk.frozen xI.out.hs 0
                have cf1 := Blk.frozen xI.out.hs 1
                have cf2 := Blk.frozen xI.out.hs 2
                have cl := Blk.lt xI.out.hs
                simp only [List.getElem?_toArray, List.getElem?_cons_zero, List.getElem?_cons_succ] at c0 c1 c2
                have HWX : Hid (WgMade N r 0 ⟨mo, max 1 (sh - ua), sh + ub, max 1 (me - uc), me + 1 + ud⟩) := Lib.hid (wgMade_mk hmo hs1 hs2 huaa huba hubb huca huda hudb hme5 hme2 hrb1 hme3 hme4)
                clear xI xR xO
                have hwl2 : ws.length ≤ 14 := by have := HWL.out; omega
                have hgx2 : gx < (w16.alloc (.cells #[.int .i64 mo, .int .i64 (max 1 (sh - ua)), .int .i64 (sh + ub), .int .i64 (max 1 (me - uc)), .int .i64 (me + 1 + ud)] 55)).heap.size := HI.out.hs.lt
                have hvb : ∀ k, v.ownBlock = some k → w9.heap.size ≤ k := fun k hk => (HOw.out.lt k hk).1
                have hOw2 := (HOw.out).alloc (.cells #[.int .i64 (⟨mo, max 1 (sh - ua), sh + ub, max 1 (me - uc), me + 1 + ud⟩ : Wg).month, .int .i64 (⟨mo, max 1 (sh - ua), sh + ub, max 1 (me - uc), me + 1 + ud⟩ : Wg).slo, .int .i64 (⟨mo, max 1 (sh - ua), sh + ub, max 1 (me - uc), me + 1 + ud⟩ : Wg).shi, .int .i64 (⟨mo, max 1 (sh - ua), sh + ub, max 1 (me - uc), me + 1 + ud⟩ : Wg).mlo, .int .i64 (⟨mo, max 1 (sh - ua), sh + ub, max 1 (me - uc), me + 1 + ud⟩ : Wg).mhi] 55)
                simp only at hOw2
                go_wp2_with (at_builtin; go_loud (refine wpList_append_own _ rfl _ _ 23 rfl w9.heap.size 55 j0 _ 5 40 Try.underlying23 hj0 hy0 hy1 hy2 rfl (by decide) v _ _ rfl hOw2 ⟨w16.heap.size + 1, 0, none⟩ 1 1 (Wg.enc (⟨mo, max 1 (sh - ua), sh + ub, max 1 (me - uc), me + 1 + ud⟩ : Wg)) rfl rfl ?c1 ?c2 ?c3 ?c4 ?c5 ?_))
                case c1 =>
                  have := Blk.new (w16.alloc (.cells #[.int .i64 mo, .int .i64 (max 1 (sh - ua)), .int .i64 (sh + ub), .int .i64 (max 1 (me - uc)), .int .i64 (me + 1 + ud)] 55)) 55 #[.int .i64 (⟨mo, max 1 (sh - ua), sh + ub, max 1 (me - uc), me + 1 + ud⟩ : Wg).month, .int .i64 (⟨mo, max 1 (sh - ua), sh + ub, max 1 (me - uc), me + 1 + ud⟩ : Wg).slo, .int .i64 (⟨mo, max 1 (sh - ua), sh + ub, max 1 (me - uc), me + 1 + ud⟩ : Wg).shi, .int .i64 (⟨mo, max 1 (sh - ua), sh + ub, max 1 (me - uc), me + 1 + ud⟩ : Wg).mlo, .int .i64 (⟨mo, max 1 (sh - ua), sh + ub, max 1 (me - uc), me + 1 + ud⟩ : Wg).mhi]
                  try simp only [World.size_alloc, World.size_setCell] at this
                  exact World.news_of_block (cs := #[.int .i64 (⟨mo, max 1 (sh - ua), sh + ub, max 1 (me - uc), me + 1 + ud⟩ : Wg).month, .int .i64 (⟨mo, max 1 (sh - ua), sh + ub, max 1 (me - uc), me + 1 + ud⟩ : Wg).slo, .int .i64 (⟨mo, max 1 (sh - ua), sh + ub, max 1 (me - uc), me + 1 + ud⟩ : Wg).shi, .int .i64 (⟨mo, max 1 (sh - ua), sh + ub, max 1 (me - uc), me + 1 + ud⟩ : Wg).mlo, .int .i64 (⟨mo, max 1 (sh - ua), sh + ub, max 1 (me - uc), me + 1 + ud⟩ : Wg).mhi]) (t := 55) (fr := (0, 0)) this
                case c2 => simp [Wg.enc, Value.oneCell']
                case c3 => unfold maxLen; omega
                case c4 => omega
                case c5 => simp; omega
                intro v' wn' hown' hgrow _
                have HI2 := Lib.hid ((HI.out.later (alc _ _)).grown hgrow (fun g hg => by have := hvb g hg; omega))
                have HR2 := Lib.hid ((HR.out.later (alc _ _)).grown hgrow (fun g hg => by have := hvb g hg; omega))
                have HO2 := Lib.hid hown'
                have hz2 := hgrow.size
                simp only [World.size_alloc, World.size_setCell] at hz2
                obtain ⟨g', cap', rfl⟩ := ownsRow_succ hown'
                have hg' : w9.heap.size ≤ g' := (hown'.lt g' rfl).1
                clear hown' hgrow hOw2 HI HR HOw
                have z0 := Blk.cell HI2.out.hs 0
                have z1 := Blk.cell HI2.out.hs 1
                have z2 := Blk.cell HI2.out.hs 2
                have zf0 := Blk.frozen HI2.out.hs 0
                have zf1 := Blk.frozen HI2.out.hs 1
                have zf2 := Blk.frozen HI2.out.hs 2
                have zl := Blk.lt HI2.out.hs
                simp only [List.getElem?_toArray, List.getElem?_cons_zero, List.getElem?_cons_succ] at z0 z1 z2
                go_wp2
                refine ⟨⟨j + 1, _, ws ++ [(⟨mo, max 1 (sh - ua), sh + ub, max 1 (me - uc), me + 1 + ud⟩ : Wg)], by omega, by go_num, by simp [HWL.out], ?_, HI2.out.seth 2 _, HR2.out.far (p := ⟨gx, 2, none⟩) (by simp; omega) _, ?_, ?_⟩, by simp [intOf]; omega⟩
                · intro y hy
                  rcases List.mem_append.1 hy with hy | hy
                  · exact HWM y hy
                  · rw [List.mem_singleton.1 hy]; exact HWX.out
                · rw [List.length_append, List.flatMap_append]
                  have := ownsRow_at HO2.out (w' := wn'.setCell ⟨gx, 2, none⟩ (.slice (some ⟨g', 0, none⟩) (ws.length + 1) cap')) (fun k hk hk1 hk2 => Below.heap_setCell wn' ⟨gx, 2, none⟩ _ k (by simp; omega))
                  simpa using this
                · simp; omega
              · have hwr2 : 0 < wrong := by omega
                have HWR := Lib.hid hwr
                clear hwr
                clear xI xR xO
                go_wp2_with fail
                generalize w16.alloc (.cells #[.int .i64 mo, .int .i64 (max 1 (sh - ua)), .int .i64 (sh + ub), .int .i64 (max 1 (me - uc)), .int .i64 (me + 1 + ud)] 55) = w17 at HX HI HR HOw ⊢
                refine (HO.out _ _ HI.out.hp (by omega) (by omega)).mono ?_
                rintro e w18 ⟨bb, rfl, hc8, hh8⟩
                have xI := Lib.hid (HI.out.call hc8 hh8)
                have xR := Lib.hid (HR.out.chg hc8 (by simp; omega))
                have xO := Lib.hid (ownsRow_chg HOw.out hc8 (by simp; omega))
                have xX := Lib.hid (HX.out.chg hc8 (by simp; omega))
                have HZ17 : w16.heap.size ≤ w18.heap.size := by have := HX.out.lt; have := hc8.size; omega
                clear hc8 hh8 HI HR HOw HX HZ
                have HZ := Nat.le_trans HZ9 HZ17
                have HI := xI
                have HR := xR
                have HOw := xO
                have HX := xX
                clear xI xR xO xX
                cases bb
                · have HWX : Hid (WgMade N r wrong ⟨mo, max 1 (sh - ua), sh + ub, max 1 (me - uc), me + 1 + ud⟩) := Lib.hid (wgMade_mk hmo hs1 hs2 huaa huba hubb huca huda hudb hme5 hme2 hrb1 hme3 hme4)
                  have y0 := Blk.cell HX.out 0
                  have y1 := Blk.cell HX.out 1
                  have y2 := Blk.cell HX.out 2
                  have y3 := Blk.cell HX.out 3
                  have y4 := Blk.cell HX.out 4
                  have yf0 := Blk.frozen HX.out 0
                  have yf1 := Blk.frozen HX.out 1
                  have yf2 := Blk.frozen HX.out 2
                  have yf3 := Blk.frozen HX.out 3
                  have yf4 := Blk.frozen HX.out 4
                  have yl := Blk.lt HX.out
                  simp only [List.getElem?_toArray, List.getElem?_cons_zero, List.getElem?_cons_succ] at y0 y1 y2 y3 y4
                  have c0 := Blk.cell HI.out.hs 0
                  have c1 := Blk.cell HI.out.hs 1
                  have c2 := Blk.cell HI.out.hs 2
                  have cf0 := Blk.frozen HI.out.hs 0
                  have cf1 := Blk.frozen HI.out.hs 1
                  have cf2 := Blk.frozen HI.out.hs 2
                  have cl := Blk.lt HI.out.hs
                  simp only [List.getElem?_toArray, List.getElem?_cons_zero, List.getElem?_cons_succ] at c0 c1 c2
                  clear HX
                  have hwl2 : ws.length ≤ 14 := by have := HWL.out; omega
                  have hgx2 : gx < (w18).heap.size := HI.out.hs.lt
                  have hvb : ∀ k, v.ownBlock = some k → w9.heap.size ≤ k := fun k hk => (HOw.out.lt k hk).1
                  have hOw2 := (HOw.out).alloc (.cells #[.int .i64 (⟨mo, max 1 (sh - ua), sh + ub, max 1 (me - uc), me + 1 + ud⟩ : Wg).month, .int .i64 (⟨mo, max 1 (sh - ua), sh + ub, max 1 (me - uc), me + 1 + ud⟩ : Wg).slo, .int .i64 (⟨mo, max 1 (sh - ua), sh + ub, max 1 (me - uc), me + 1 + ud⟩ : Wg).shi, .int .i64 (⟨mo, max 1 (sh - ua), sh + ub, max 1 (me - uc), me + 1 + ud⟩ : Wg).mlo, .int .i64 (⟨mo, max 1 (sh - ua), sh + ub, max 1 (me - uc), me + 1 + ud⟩ : Wg).mhi] 55)
                  simp only at hOw2
                  go_wp2_with (at_builtin; go_loud (refine wpList_append_own _ rfl _ _ 23 rfl w9.heap.size 55 j0 _ 5 40 Try.underlying23 hj0 hy0 hy1 hy2 rfl (by decide) v _ _ rfl hOw2 ⟨w18.heap.size, 0, none⟩ 1 1 (Wg.enc (⟨mo, max 1 (sh - ua), sh + ub, max 1 (me - uc), me + 1 + ud⟩ : Wg)) rfl rfl ?c1 ?c2 ?c3 ?c4 ?c5 ?_))
                  case c1 =>
                    have := Blk.new (w18) 55 #[.int .i64 (⟨mo, max 1 (sh - ua), sh + ub, max 1 (me - uc), me + 1 + ud⟩ : Wg).month, .int .i64 (⟨mo, max 1 (sh - ua), sh + ub, max 1 (me - uc), me + 1 + ud⟩ : Wg).slo, .int .i64 (⟨mo, max 1 (sh - ua), sh + ub, max 1 (me - uc), me + 1 + ud⟩ : Wg).shi, .int .i64 (⟨mo, max 1 (sh - ua), sh + ub, max 1 (me - uc), me + 1 + ud⟩ : Wg).mlo, .int .i64 (⟨mo, max 1 (sh - ua), sh + ub, max 1 (me - uc), me + 1 + ud⟩ : Wg).mhi]
                    try simp only [World.size_alloc, World.size_setCell] at this
                    exact World.news_of_block (cs := #[.int .i64 (⟨mo, max 1 (sh - ua), sh + ub, max 1 (me - uc), me + 1 + ud⟩ : Wg).month, .int .i64 (⟨mo, max 1 (sh - ua), sh + ub, max 1 (me - uc), me + 1 + ud⟩ : Wg).slo, .int .i64 (⟨mo, max 1 (sh - ua), sh + ub, max 1 (me - uc), me + 1 + ud⟩ : Wg).shi, .int .i64 (⟨mo, max 1 (sh - ua), sh + ub, max 1 (me - uc), me + 1 + ud⟩ : Wg).mlo, .int .i64 (⟨mo, max 1 (sh - ua), sh + ub, max 1 (me - uc), me + 1 + ud⟩ : Wg).mhi]) (t := 55) (fr := (0, 0)) this
                  case c2 => simp [Wg.enc, Value.oneCell']
                  case c3 => unfold maxLen; omega
                  case c4 => omega
                  case c5 => simp; omega
                  intro v' wn' hown' hgrow _
                  have HI2 := Lib.hid ((HI.out.later (alc _ _)).grown hgrow (fun g hg => by have := hvb g hg; omega))
                  have HR2 := Lib.hid ((HR.out.later (alc _ _)).grown hgrow (fun g hg => by have := hvb g hg; omega))
                  have HO2 := Lib.hid hown'
                  have hz2 := hgrow.size
                  simp only [World.size_alloc, World.size_setCell] at hz2
                  obtain ⟨g', cap', rfl⟩ := ownsRow_succ hown'
                  have hg' : w9.heap.size ≤ g' := (hown'.lt g' rfl).1
                  clear hown' hgrow hOw2 HI HR HOw
                  have z0 := Blk.cell HI2.out.hs 0
                  have z1 := Blk.cell HI2.out.hs 1
                  have z2 := Blk.cell HI2.out.hs 2
                  have zf0 := Blk.frozen HI2.out.hs 0
                  have zf1 := Blk.frozen HI2.out.hs 1
                  have zf2 := Blk.frozen HI2.out.hs 2
                  have zl := Blk.lt HI2.out.hs
                  simp only [List.getElem?_toArray, List.getElem?_cons_zero, List.getElem?_cons_succ] at z0 z1 z2
                  go_wp2
                  refine ⟨⟨j + 1, _, ws ++ [(⟨mo, max 1 (sh - ua), sh + ub, max 1 (me - uc), me + 1 + ud⟩ : Wg)], by omega, by go_num, by simp [HWL.out], ?_, HI2.out.seth 2 _, HR2.out.far (p := ⟨gx, 2, none⟩) (by simp; omega) _, ?_, ?_⟩, by simp [intOf]; omega⟩
                  · intro y hy
                    rcases List.mem_append.1 hy with hy | hy
                    · exact HWM y hy
                    · rw [List.mem_singleton.1 hy]; exact HWX.out
                  · rw [List.length_append, List.flatMap_append]
                    have := ownsRow_at HO2.out (w' := wn'.setCell ⟨gx, 2, none⟩ (.slice (some ⟨g', 0, none⟩) (ws.length + 1) cap')) (fun k hk hk1 hk2 => Below.heap_setCell wn' ⟨gx, 2, none⟩ _ k (by simp; omega))
                    simpa using this
                  · simp; omega
                · go_wp2_with fail
                  refine (HF.out _ _ _ HI.out.hp (by omega) (by omega) (by omega) (by omega)).mono ?_
                  rintro e w19 ⟨by0, hby1, hby2', rfl, hc8, hh8⟩
                  have hby2 : by0 ≤ 12 := by omega
                  have xI := Lib.hid (HI.out.call hc8 hh8)
                  have xR := Lib.hid (HR.out.chg hc8 (by simp; omega))
                  have xO := Lib.hid (ownsRow_chg HOw.out hc8 (by simp; omega))
                  have xX := Lib.hid (HX.out.chg hc8 (by simp; omega))
                  have HZ18 := Nat.le_trans HZ hc8.size
                  have hwz : w16.heap.size < w19.heap.size := xX.out.lt
                  clear hc8 hh8 HI HR HOw HX HZ hby2'
                  have HZ := HZ18
                  have HWX : Hid (WgMade N r wrong ⟨mo, max 1 (sh - ua), sh + ub, max 1 (max 1 (me - uc) + by0), max 1 (me + 1 + ud + by0)⟩) := Lib.hid (wgMade_mk2 HWR.out hmo hs1 hs2 huaa huba hubb huca huda hudb hme5 hme2 hby2)
                  have HI := Lib.hid ((xI.out.far (p := ⟨w16.heap.size, 3, none⟩) hgw (.int .i64 (max 1 (max 1 (me - uc) + by0)))).far (p := ⟨w16.heap.size, 4, none⟩) hgw (.int .i64 (max 1 (me + 1 + ud + by0))))
                  have HR := Lib.hid ((xR.out.far (p := ⟨w16.heap.size, 3, none⟩) (by simp; omega) (.int .i64 (max 1 (max 1 (me - uc) + by0)))).far (p := ⟨w16.heap.size, 4, none⟩) (by simp; omega) (.int .i64 (max 1 (me + 1 + ud + by0))))
                  have HOw := Lib.hid (ownsRow_at (w' := (w19.setCell ⟨w16.heap.size, 3, none⟩ (.int .i64 (max 1 (max 1 (me - uc) + by0)))).setCell ⟨w16.heap.size, 4, none⟩ (.int .i64 (max 1 (me + 1 + ud + by0)))) xO.out (fun k hk h1 h2 => (Below.heap_setCell _ ⟨w16.heap.size, 4, none⟩ _ k (by have := hvl k hk; simp; omega)).trans (Below.heap_setCell _ ⟨w16.heap.size, 3, none⟩ _ k (by have := hvl k hk; simp; omega))))
                  have y0 := Blk.cell xX.out 0
                  have y1 := Blk.cell xX.out 1
                  have y2 := Blk.cell xX.out 2
                  have y3 := Blk.cell xX.out 3
                  have y4 := Blk.cell xX.out 4
                  have yf0 := Blk.frozen xX.out 0
                  have yf1 := Blk.frozen xX.out 1
                  have yf2 := Blk.frozen xX.out 2
                  have yf3 := Blk.frozen xX.out 3
                  have yf4 := Blk.frozen xX.out 4
                  have yl := Blk.lt xX.out
                  simp only [List.getElem?_toArray, List.getElem?_cons_zero, List.getElem?_cons_succ] at y0 y1 y2 y3 y4
                  have c0 := Blk.cell xI.out.hs 0
                  have c1 := Blk.cell xI.out.hs 1
                  have c2 := Blk.cell xI.out.hs 2
                  have cf0 := Blk.frozen xI.out.hs 0
                  have cf1 := Blk.frozen xI.out.hs 1
                  have cf2 := Blk.frozen xI.out.hs 2
                  have cl := Blk.lt xI.out.hs
                  simp only [List.getElem?_toArray, List.getElem?_cons_zero, List.getElem?_cons_succ] at c0 c1 c2
                  clear xI xR xO xX
                  have hwl2 : ws.length ≤ 14 := by have := HWL.out; omega
                  have hgx2 : gx < ((w19.setCell ⟨w16.heap.size, 3, none⟩ (.int .i64 (max 1 (max 1 (me - uc) + by0)))).setCell ⟨w16.heap.size, 4, none⟩ (.int .i64 (max 1 (me + 1 + ud + by0)))).heap.size := HI.out.hs.lt
                  have hvb : ∀ k, v.ownBlock = some k → w9.heap.size ≤ k := fun k hk => (HOw.out.lt k hk).1
                  have hOw2 := (HOw.out).alloc (.cells #[.int .i64 (⟨mo, max 1 (sh - ua), sh + ub, max 1 (max 1 (me - uc) + by0), max 1 (me + 1 + ud + by0)⟩ : Wg).month, .int .i64 (⟨mo, max 1 (sh - ua), sh + ub, max 1 (max 1 (me - uc) + by0), max 1 (me + 1 + ud + by0)⟩ : Wg).slo, .int .i64 (⟨mo, max 1 (sh - ua), sh + ub, max 1 (max 1 (me - uc) + by0), max 1 (me + 1 + ud + by0)⟩ : Wg).shi, .int .i64 (⟨mo, max 1 (sh - ua), sh + ub, max 1 (max 1 (me - uc) + by0), max 1 (me + 1 + ud + by0)⟩ : Wg).mlo, .int .i64 (⟨mo, max 1 (sh - ua), sh + ub, max 1 (max 1 (me - uc) + by0), max 1 (me + 1 + ud + by0)⟩ : Wg).mhi] 55)
                  simp only at hOw2
                  go_wp2_with (at_builtin; go_loud (refine wpList_append_own _ rfl _ _ 23 rfl w9.heap.size 55 j0 _ 5 40 Try.underlying23 hj0 hy0 hy1 hy2 rfl (by decide) v _ _ rfl hOw2 ⟨w19.heap.size, 0, none⟩ 1 1 (Wg.enc (⟨mo, max 1 (sh - ua), sh + ub, max 1 (max 1 (me - uc) + by0), max 1 (me + 1 + ud + by0)⟩ : Wg)) rfl rfl ?c1 ?c2 ?c3 ?c4 ?c5 ?_))
                  case c1 =>
                    have := Blk.new ((w19.setCell ⟨w16.heap.size, 3, none⟩ (.int .i64 (max 1 (max 1 (me - uc) + by0)))).setCell ⟨w16.heap.size, 4, none⟩ (.int .i64 (max 1 (me + 1 + ud + by0)))) 55 #[.int .i64 (⟨mo, max 1 (sh - ua), sh + ub, max 1 (max 1 (me - uc) + by0), max 1 (me + 1 + ud + by0)⟩ : Wg).month, .int .i64 (⟨mo, max 1 (sh - ua), sh + ub, max 1 (max 1 (me - uc) + by0), max 1 (me + 1 + ud + by0)⟩ : Wg).slo, .int .i64 (⟨mo, max 1 (sh - ua), sh + ub, max 1 (max 1 (me - uc) + by0), max 1 (me + 1 + ud + by0)⟩ : Wg).shi, .int .i64 (⟨mo, max 1 (sh - ua), sh + ub, max 1 (max 1 (me - uc) + by0), max 1 (me + 1 + ud + by0)⟩ : Wg).mlo, .int .i64 (⟨mo, max 1 (sh - ua), sh + ub, max 1 (max 1 (me - uc) + by0), max 1 (me + 1 + ud + by0)⟩ : Wg).mhi]
                    try simp only [World.size_alloc, World.size_setCell] at this
                    exact World.news_of_block (cs := #[.int .i64 (⟨mo, max 1 (sh - ua), sh + ub, max 1 (max 1 (me - uc) + by0), max 1 (me + 1 + ud + by0)⟩ : Wg).month, .int .i64 (⟨mo, max 1 (sh - ua), sh + ub, max 1 (max 1 (me - uc) + by0), max 1 (me + 1 + ud + by0)⟩ : Wg).slo, .int .i64 (⟨mo, max 1 (sh - ua), sh + ub, max 1 (max 1 (me - uc) + by0), max 1 (me + 1 + ud + by0)⟩ : Wg).shi, .int .i64 (⟨mo, max 1 (sh - ua), sh + ub, max 1 (max 1 (me - uc) + by0), max 1 (me + 1 + ud + by0)⟩ : Wg).mlo, .int .i64 (⟨mo, max 1 (sh - ua), sh + ub, max 1 (max 1 (me - uc) + by0), max 1 (me + 1 + ud + by0)⟩ : Wg).mhi]) (t := 55) (fr := (0, 0)) this
                  case c2 => simp [Wg.enc, Value.oneCell']
                  case c3 => unfold maxLen; omega
                  case c4 => omega
                  case c5 => simp; omega
                  intro v' wn' hown' hgrow _
                  have HI2 := Lib.hid ((HI.out.later (alc _ _)).grown hgrow (fun g hg => by have := hvb g hg; omega))
                  have HR2 := Lib.hid ((HR.out.later (alc _ _)).grown hgrow (fun g hg => by have := hvb g hg; omega))
                  have HO2 := Lib.hid hown'
                  have hz2 := hgrow.size
                  simp only [World.size_alloc, World.size_setCell] at hz2
                  obtain ⟨g', cap', rfl⟩ := ownsRow_succ hown'
                  have hg' : w9.heap.size ≤ g' := (hown'.lt g' rfl).1
                  clear hown' hgrow hOw2 HI HR HOw
                  have z0 := Blk.cell HI2.out.hs 0
                  have z1 := Blk.cell HI2.out.hs 1
                  have z2 := Blk.cell HI2.out.hs 2
                  have zf0 := Blk.frozen HI2.out.hs 0
                  have zf1 := Blk.frozen HI2.out.hs 1
                  have zf2 := Blk.frozen HI2.out.hs 2
                  have zl := Blk.lt HI2.out.hs
                  simp only [List.getElem?_toArray, List.getElem?_cons_zero, List.getElem?_cons_succ] at z0 z1 z2
                  go_wp2
                  refine ⟨⟨j + 1, _, ws ++ [(⟨mo, max 1 (sh - ua), sh + ub, max 1 (max 1 (me - uc) + by0), max 1 (me + 1 + ud + by0)⟩ : Wg)], by omega, by go_num, by simp [HWL.out], ?_, HI2.out.seth 2 _, HR2.out.far (p := ⟨gx, 2, none⟩) (by simp; omega) _, ?_, ?_⟩, by simp [intOf]; omega⟩
                  · intro y hy
                    rcases List.mem_append.1 hy with hy | hy
                    · exact HWM y hy
                    · rw [List.mem_singleton.1 hy]; exact HWX.out
                  · rw [List.length_append, List.flatMap_append]
                    have := ownsRow_at HO2.out (w' := wn'.setCell ⟨gx, 2, none⟩ (.slice (some ⟨g', 0, none⟩) (ws.length + 1) cap')) (fun k hk hk1 hk2 => Below.heap_setCell wn' ⟨gx, 2, none⟩ _ k (by simp; omega))
                    simpa using this
                  · simp; omega
            · obtain rfl : C = j := by omega
              obtain ⟨ao, cap, rfl, hrow, _, hrb⟩ := row_of_own Wg.enc 5 wg_len HOw.out
              have d0 := Blk.cell HI.out.res 0
              have d1 := Blk.cell HI.out.res 1
              have d2 := Blk.cell HI.out.res 2
              have df0 := Blk.frozen HI.out.res 0
              have df1 := Blk.frozen HI.out.res 1
              have df2 := Blk.frozen HI.out.res 2
              have dl := Blk.lt HI.out.res
              simp only [List.getElem?_toArray, List.getElem?_cons_zero, List.getElem?_cons_succ] at d0 d1 d2
              go_wp2
              refine bodyPost_ret (v := .tuple #[.agg #[.int .i64 N, .int .i64 P, .slice ao ws.length cap], .slice (some ⟨gr, 0, none⟩) N N]) ?_ rfl ⟨⟨N, P, ws⟩, r, ao, cap, some ⟨gr, 0, none⟩, N, N, rfl, rfl, ?_, ?_, ?_, ?_, ?_⟩
              · have hY2 := ((HI.out.res.set_ 0 (.int .i64 N)).set_ 1 (.int .i64 P)).set_ 2 (.slice ao ws.length cap)
                simp only [List.setIfInBounds_toArray, List.set_cons_zero, List.set_cons_succ] at hY2
                have e0 := Blk.cell hY2 0
                have e1 := Blk.cell hY2 1
                have e2 := Blk.cell hY2 2
                have ef0 := Blk.frozen hY2 0
                have ef1 := Blk.frozen hY2 1
                have ef2 := Blk.frozen hY2 2
                have el := Blk.lt hY2
                simp only [List.getElem?_toArray, List.getElem?_cons_zero, List.getElem?_cons_succ] at e0 e1 e2
                simp [results, Try.results10, go_sem, e0, e1, e2]
              · have hB3 : Below (w.heap.size + 1) wr wr := Below.refl _ _
                intro i hi
                obtain ⟨b, o, hA, hb1, hcc⟩ := hrow i hi
                subst hA
                have hbb := hrb _ rfl
                refine ⟨b, o, rfl, by simpa using hb1, fun q u hu => ?_⟩
                have hne : w.heap.size ≠ b := by simp only at hbb; omega
                exact (((World.cell?_setCell_far _ ⟨w.heap.size, 2, none⟩ ⟨b, _, none⟩ _ hne).trans (World.cell?_setCell_far _ ⟨w.heap.size, 1, none⟩ ⟨b, _, none⟩ _ hne)).trans (World.cell?_setCell_far _ ⟨w.heap.size, 0, none⟩ ⟨b, _, none⟩ _ hne)).trans (hcc q u hu)
              · refine row_of_rat ((((HR.out.far (p := ⟨w.heap.size, 0, none⟩) ?_ _).far (p := ⟨w.heap.size, 1, none⟩) ?_ _).far (p := ⟨w.heap.size, 2, none⟩) ?_ _)) ?_
                all_goals (have := HR.out.lt; simp; omega)
              · exact ((HI.out.chg.set_ (p := ⟨w.heap.size, 0, none⟩) (.inr (Nat.le_refl _)) _).set_ (p := ⟨w.heap.size, 1, none⟩) (.inr (Nat.le_refl _)) _).set_ (p := ⟨w.heap.size, 2, none⟩) (.inr (Nat.le_refl _)) _
              · exact ((HI.out.hp.set_ (p := ⟨w.heap.size, 0, none⟩) hlt _).set_ (p := ⟨w.heap.size, 1, none⟩) hlt _).set_ (p := ⟨w.heap.size, 2, none⟩) hlt _
              · have hu := HUP.out
                refine ⟨⟨by simp only; omega, by simp only; omega⟩, ⟨by simp only; omega, by simp only; omega⟩, by have := HWL.out; simp only; omega, fun q hq => hu.1 q (by simp only at hq; omega), fun q hq => hu.2.1 q (by simp only at hq; omega), fun q hq hq2 => hu.2.2.1 q (by simp only at hq; omega) (by simp only at hq2; omega), fun x hx => HWM x hx⟩
end Go.Proofs.Ytjihnnbpfdhceaa
