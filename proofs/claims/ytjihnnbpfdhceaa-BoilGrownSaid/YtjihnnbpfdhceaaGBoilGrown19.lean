/- The law's heap of numbers: laurelkit.Pile, pick, Upto, From, Once. Conditions: none beyond those that each theorem names. -/
import Derived.Test.YtjihnnbpfdhceaaGBoilGrown4
import Derived.Test.YtjihnnbpfdhceaaGBoilGrown6
set_option linter.unusedSimpArgs false
set_option linter.unusedVariables false
namespace Go.Proofs.Ytjihnnbpfdhceaa
open Go.RowKit

def byteEnc (x : Int) : List Value := [.int .u8 x]
/-- A heap of numbers in block hb, over bytes at A. -/
structure HeapB (A : Option Addr) (xs : List Int) (hb : Nat) (W : World) : Prop where
  row : RowIn byteEnc 1 W hb A xs
  blk : ∃ (c nx rd : Nat), Blk W hb 95 #[.slice A xs.length c, .int .i64 nx, .int .u32 rd] ∧ nx ≤ xs.length ∧ rd < 4294967296
theorem HeapB.lt {A : Option Addr} {xs : List Int} {hb : Nat} {W : World} (h : HeapB A xs hb W) : hb < W.heap.size := by
  obtain ⟨_, c, nx, rd, hB, _⟩ := h
  exact hB.lt
theorem HeapB.later {A : Option Addr} {xs : List Int} {hb : Nat} {W W' : World} (h : HeapB A xs hb W) (hB : Below W.heap.size W W') : HeapB A xs hb W' := by
  obtain ⟨hr, c, nx, rd, hb1, h2⟩ := h
  exact ⟨hr.below' hB (Nat.le_of_lt hb1.lt), c, nx, rd, hb1.later hB, h2⟩
theorem RowIn.byte {B : Nat} {w : World} {A : Option Addr} {l : List Int} (h : RowIn byteEnc 1 w B A l) (i : Nat) (hi : i < l.length) :
    ∃ b o x, A = some ⟨b, o, none⟩ ∧ b < B ∧ l[i] = x ∧ w.cell? ⟨b, o + i, none⟩ = some (.int .u8 x) := by
  obtain ⟨b, o, hA, hb, hc⟩ := h i hi
  have := hc 0 _ rfl
  rw [Nat.mul_one, Nat.add_zero] at this
  exact ⟨b, o, l[i], hA, hb, rfl, this⟩

set_option maxHeartbeats 400000 in
theorem pile_any (A : Option Addr) (xs : List Int) (c : Nat) (w : World) (hr : RowIn byteEnc 1 w w.heap.size A xs) :
    Calls Try.prog 11 #[.slice A xs.length c] w fun e w' => e = .returned (.pointer (some ⟨w.heap.size, 0, none⟩)) ∧ HeapB A xs w.heap.size w' ∧ Below w.heap.size w w' := by
  have HR := Lib.hid hr
  clear hr
  go_enter Try.func11, Try.ntmps11
  go_wp2
  go_ret
  refine ⟨rfl, ⟨HR.out.below ((Below.refl _ _).alloc (Nat.le_refl _) _), c, 0, 0, Blk.new _ _ _, by omega, by omega⟩, (Below.refl _ _).alloc (Nat.le_refl _) _⟩

theorem and15 (X : Int) : 0 ≤ bits BinOp.and IntKind.u32 X 32767 ∧ bits BinOp.and IntKind.u32 X 32767 ≤ 32767 := by
  have h2 : (BitVec.ofInt 32 (32767 : Int)).toNat = 32767 := by decide
  have h3 : (BitVec.ofInt 32 X).toNat &&& 32767 ≤ 32767 := Nat.and_le_right
  have h4 : bits BinOp.and IntKind.u32 X 32767 = IntKind.u32.wrap (((BitVec.ofInt 32 X).toNat &&& 32767 : Nat) : Int) := by
    show IntKind.u32.wrap ((BitVec.ofInt 32 X &&& BitVec.ofInt 32 32767).toNat : Int) = _
    rw [BitVec.toNat_and, h2]
  have h5 : IntKind.u32.wrap (((BitVec.ofInt 32 X).toNat &&& 32767 : Nat) : Int) = (((BitVec.ofInt 32 X).toNat &&& 32767 : Nat) : Int) := by
    rw [IntKind.wrap_u32]; omega
  omega
theorem and_lo (X : Int) : 0 ≤ wrap64 (bits BinOp.and IntKind.u32 X 32767) := by
  have := and15 X
  rw [IntWalk.wrap64_in _ ⟨by omega, by omega⟩]; omega
theorem and_hi (X : Int) : wrap64 (bits BinOp.and IntKind.u32 X 32767) ≤ 32767 := by
  have := and15 X
  rw [IntWalk.wrap64_in _ ⟨by omega, by omega⟩]; omega
structure PickInv (A : Option Addr) (xs : List Int) (hb c nx rd : Nat) (w W : World) : Prop where
  chg : Chg [hb] w W
  row : RowIn byteEnc 1 W hb A xs
  blk : Blk W hb 95 #[.slice A xs.length c, .int .i64 nx, .int .u32 rd]
theorem PickInv.drewN {A : Option Addr} {xs : List Int} {hb c nx rd : Nat} {w W : World} (h : PickInv A xs hb c nx rd w W) (n : Nat) : PickInv A xs hb c nx rd w (W.drewN n) :=
  ⟨h.chg.later (below_drewN (Below.refl _ _) _), h.row.below' (below_drewN (Below.refl _ _) _) (Nat.le_of_lt h.blk.lt), h.blk.drewN n⟩
theorem PickInv.set1 {A : Option Addr} {xs : List Int} {hb c nx rd : Nat} {w W : World} (h : PickInv A xs hb c nx rd w W) (v : Int) (n : Nat) (hv : v = n) : PickInv A xs hb c n rd w (W.setCell ⟨hb, 1, none⟩ (.int .i64 v)) := by
  subst hv
  exact ⟨h.chg.set_ (p := ⟨hb, 1, none⟩) (.inl (by simp)) _, h.row.below ((Below.refl _ _).setCell (p := ⟨hb, 1, none⟩) (Nat.le_refl _) _), h.blk.set_ 1 _⟩
theorem PickInv.set2 {A : Option Addr} {xs : List Int} {hb c nx rd : Nat} {w W : World} (h : PickInv A xs hb c nx rd w W) (v : Int) (n : Nat) (hv : v = n) : PickInv A xs hb c nx n w (W.setCell ⟨hb, 2, none⟩ (.int .u32 v)) := by
  subst hv
  exact ⟨h.chg.set_ (p := ⟨hb, 2, none⟩) (.inl (by simp)) _, h.row.below ((Below.refl _ _).setCell (p := ⟨hb, 2, none⟩) (Nat.le_refl _) _), h.blk.set_ 2 _⟩

set_option maxHeartbeats 1000000 in
theorem pick_any (A : Option Addr) (xs : List Int) (hb : Nat) (w : World) (h : HeapB A xs hb w) (hl : xs.length ≤ 140737488355328) :
    Calls Try.prog 65 #[.pointer (some ⟨hb, 0, none⟩)] w fun e w' => ∃ n : Int, 0 ≤ n ∧ n ≤ 32767 ∧ e = .returned (.int .i64 n) ∧ Chg [hb] w w' ∧ HeapB A xs hb w' := by
  obtain ⟨hr, c, nx, rd, hB, hn, hd⟩ := h
  have hI : PickInv A xs hb c nx rd w w := ⟨Chg.refl _ _, hr, hB⟩
  have c0 := Blk.cell hB 0
  have c1 := Blk.cell hB 1
  have c2 := Blk.cell hB 2
  have cf0 := Blk.frozen hB 0
  have cf1 := Blk.frozen hB 1
  have cf2 := Blk.frozen hB 2
  have cl := Blk.lt hB
  simp only [List.getElem?_toArray, List.getElem?_cons_zero, List.getElem?_cons_succ] at c0 c1 c2
  have HB := Lib.hid hB
  have HR := Lib.hid hr
  have HI := Lib.hid hI
  clear hr hB hI
  by_cases hk : nx < xs.length
  · obtain ⟨b, o, x, rfl, hb1, hx, x0⟩ := HR.out.byte nx hk
    clear hx
    go_enter Try.func65, Try.ntmps65
    go_wp2
    go_quiet (fail)
    have hI := HI.out.drewN nq
    have HI2 := Lib.hid hI
    generalize w.drewN nq = w2 at hI HI2 ⊢
    clear c0 c1 c2 cf0 cf1 cf2 cl
    have c0 := Blk.cell hI.blk 0
    have c1 := Blk.cell hI.blk 1
    have c2 := Blk.cell hI.blk 2
    have cf0 := Blk.frozen hI.blk 0
    have cf1 := Blk.frozen hI.blk 1
    have cf2 := Blk.frozen hI.blk 2
    have cl := Blk.lt hI.blk
    simp only [List.getElem?_toArray, List.getElem?_cons_zero, List.getElem?_cons_succ] at c0 c1 c2
    obtain ⟨_, _, y, hA, _, hx, y0⟩ := hI.row.byte nx hk
    injection hA with hA
    injection hA with h1 h2
    subst h1
    subst h2
    clear hx hI x0
    go_wp2
    go_quiet (fail)
    have hI := HI2.out.drewN nq
    have HI3 := Lib.hid hI
    generalize w2.drewN nq = w3 at hI HI3 ⊢
    clear c0 c1 c2 cf0 cf1 cf2 cl
    have c0 := Blk.cell hI.blk 0
    have c1 := Blk.cell hI.blk 1
    have c2 := Blk.cell hI.blk 2
    have cf0 := Blk.frozen hI.blk 0
    have cf1 := Blk.frozen hI.blk 1
    have cf2 := Blk.frozen hI.blk 2
    have cl := Blk.lt hI.blk
    simp only [List.getElem?_toArray, List.getElem?_cons_zero, List.getElem?_cons_succ] at c0 c1 c2
    clear hI y0
    go_wp2
    have hI := HI3.out.set1 (nx + 1) (nx + 1) (by simp)
    have HI4 := Lib.hid hI
    generalize w3.setCell ⟨hb, 1, none⟩ (.int .i64 (nx + 1)) = w4 at hI HI4 ⊢
    clear c0 c1 c2 cf0 cf1 cf2 cl
    have c0 := Blk.cell hI.blk 0
    have c1 := Blk.cell hI.blk 1
    have c2 := Blk.cell hI.blk 2
    have cf0 := Blk.frozen hI.blk 0
    have cf1 := Blk.frozen hI.blk 1
    have cf2 := Blk.frozen hI.blk 2
    have cl := Blk.lt hI.blk
    simp only [List.getElem?_toArray, List.getElem?_cons_zero, List.getElem?_cons_succ] at c0 c1 c2
    by_cases hk2 : nx + 1 < xs.length
    · go_quiet (fail)
      have hI := hI.drewN nq
      have HI5 := Lib.hid hI
      generalize w4.drewN nq = w5 at hI HI5 ⊢
      clear c0 c1 c2 cf0 cf1 cf2 cl
      have c0 := Blk.cell hI.blk 0
      have c1 := Blk.cell hI.blk 1
      have c2 := Blk.cell hI.blk 2
      have cf0 := Blk.frozen hI.blk 0
      have cf1 := Blk.frozen hI.blk 1
      have cf2 := Blk.frozen hI.blk 2
      have cl := Blk.lt hI.blk
      simp only [List.getElem?_toArray, List.getElem?_cons_zero, List.getElem?_cons_succ] at c0 c1 c2
      clear hI
      go_wp2
      go_ret
      exact ⟨_, and_lo _, and_hi _, rfl, HI5.out.chg, HI5.out.row, c, nx + 1, rd, HI5.out.blk, by omega, hd⟩
    · have hk3 : xs.length ≤ nx + 1 := by omega
      go_quiet (fail)
      have hI := hI.drewN nq
      have HI5 := Lib.hid hI
      generalize w4.drewN nq = w5 at hI HI5 ⊢
      clear c0 c1 c2 cf0 cf1 cf2 cl
      have c0 := Blk.cell hI.blk 0
      have c1 := Blk.cell hI.blk 1
      have c2 := Blk.cell hI.blk 2
      have cf0 := Blk.frozen hI.blk 0
      have cf1 := Blk.frozen hI.blk 1
      have cf2 := Blk.frozen hI.blk 2
      have cl := Blk.lt hI.blk
      simp only [List.getElem?_toArray, List.getElem?_cons_zero, List.getElem?_cons_succ] at c0 c1 c2
      clear hI
      go_wp2
      go_ret
      have hI6 := (HI5.out.set1 0 0 rfl).set2 _ ((rd + 1) % 4294967296) rfl
      exact ⟨_, and_lo _, and_hi _, rfl, hI6.chg, hI6.row, c, 0, _, hI6.blk, by omega, by omega⟩
  · have hk' : xs.length ≤ nx := by omega
    go_enter Try.func65, Try.ntmps65
    go_wp2
    go_quiet (fail)
    have hI := HI.out.drewN nq
    have HI3 := Lib.hid hI
    generalize w.drewN nq = w3 at hI HI3 ⊢
    clear c0 c1 c2 cf0 cf1 cf2 cl
    have c0 := Blk.cell hI.blk 0
    have c1 := Blk.cell hI.blk 1
    have c2 := Blk.cell hI.blk 2
    have cf0 := Blk.frozen hI.blk 0
    have cf1 := Blk.frozen hI.blk 1
    have cf2 := Blk.frozen hI.blk 2
    have cl := Blk.lt hI.blk
    simp only [List.getElem?_toArray, List.getElem?_cons_zero, List.getElem?_cons_succ] at c0 c1 c2
    clear hI
    go_wp2
    have hI := HI3.out.set1 (nx + 1) (nx + 1) (by simp)
    have HI4 := Lib.hid hI
    generalize w3.setCell ⟨hb, 1, none⟩ (.int .i64 (nx + 1)) = w4 at hI HI4 ⊢
    clear c0 c1 c2 cf0 cf1 cf2 cl
    have c0 := Blk.cell hI.blk 0
    have c1 := Blk.cell hI.blk 1
    have c2 := Blk.cell hI.blk 2
    have cf0 := Blk.frozen hI.blk 0
    have cf1 := Blk.frozen hI.blk 1
    have cf2 := Blk.frozen hI.blk 2
    have cl := Blk.lt hI.blk
    simp only [List.getElem?_toArray, List.getElem?_cons_zero, List.getElem?_cons_succ] at c0 c1 c2
    have hk3 : xs.length ≤ nx + 1 := by omega
    go_quiet (fail)
    have hI := hI.drewN nq
    have HI5 := Lib.hid hI
    generalize w4.drewN nq = w5 at hI HI5 ⊢
    clear c0 c1 c2 cf0 cf1 cf2 cl
    have c0 := Blk.cell hI.blk 0
    have c1 := Blk.cell hI.blk 1
    have c2 := Blk.cell hI.blk 2
    have cf0 := Blk.frozen hI.blk 0
    have cf1 := Blk.frozen hI.blk 1
    have cf2 := Blk.frozen hI.blk 2
    have cl := Blk.lt hI.blk
    simp only [List.getElem?_toArray, List.getElem?_cons_zero, List.getElem?_cons_succ] at c0 c1 c2
    clear hI
    go_wp2
    go_ret
    have hI6 := (HI5.out.set1 0 0 rfl).set2 _ ((rd + 1) % 4294967296) rfl
    exact ⟨_, and_lo _, and_hi _, rfl, hI6.chg, hI6.row, c, 0, _, hI6.blk, by omega, by omega⟩

set_option maxHeartbeats 1000000 in
theorem upto_any (A : Option Addr) (xs : List Int) (hb : Nat) (m : Int) (w : World) (h : HeapB A xs hb w) (hl : xs.length ≤ 140737488355328) (hm : -1000000 ≤ m) (hm' : m ≤ 1000000) :
    Calls Try.prog 26 #[.pointer (some ⟨hb, 0, none⟩), .int .i64 m] w fun e w' => ∃ n : Int, 0 ≤ n ∧ n ≤ max 0 m ∧ e = .returned (.int .i64 n) ∧ Chg [hb] w w' ∧ HeapB A xs hb w' := by
  have HP := Lib.hid (fun V h => pick_any A xs hb V h hl)
  have HH := Lib.hid h
  clear h
  go_enter Try.func26, Try.ntmps26
  go_wp2_with fail
  refine (HP.out _ HH.out).mono ?_
  rintro e w1 ⟨n, hn0, hn1, rfl, hc, hh⟩
  have HC := Lib.hid hc
  have HH1 := Lib.hid hh
  clear hc hh
  go_wp2
  all_goals go_ret
  all_goals first
    | exact ⟨n % (m + 1), Int.emod_nonneg _ (by omega), by have := Int.emod_lt_of_pos n (show 0 < m + 1 by omega); omega, rfl, HC.out, HH1.out⟩
    | exact ⟨0, by omega, by omega, rfl, HC.out, HH1.out⟩

set_option maxHeartbeats 1000000 in
theorem from_any (A : Option Addr) (xs : List Int) (hb : Nat) (lo hi : Int) (w : World) (h : HeapB A xs hb w) (hl : xs.length ≤ 140737488355328) (h1 : -100000 ≤ lo) (h2 : lo ≤ 100000) (h3 : -100000 ≤ hi) (h4 : hi ≤ 100000) :
    Calls Try.prog 25 #[.pointer (some ⟨hb, 0, none⟩), .int .i64 lo, .int .i64 hi] w fun e w' => ∃ n : Int, lo ≤ n ∧ n ≤ max lo hi ∧ e = .returned (.int .i64 n) ∧ Chg [hb] w w' ∧ HeapB A xs hb w' := by
  have HP := Lib.hid (fun V h => upto_any A xs hb (hi - lo) V h hl (by omega) (by omega))
  have HH := Lib.hid h
  clear h
  go_enter Try.func25, Try.ntmps25
  go_wp2_with fail
  refine (HP.out _ HH.out).mono ?_
  rintro e w1 ⟨n, hn0, hn1, rfl, hc, hh⟩
  have HC := Lib.hid hc
  have HH1 := Lib.hid hh
  clear hc hh
  have hn2 : n ≤ 200000 := by omega
  go_wp2
  go_ret
  exact ⟨lo + n, by omega, by omega, rfl, HC.out, HH1.out⟩

set_option maxHeartbeats 1000000 in
theorem once_any (A : Option Addr) (xs : List Int) (hb : Nat) (m : Int) (w : World) (h : HeapB A xs hb w) (hl : xs.length ≤ 140737488355328) (hm : -100000 ≤ m) (hm' : m ≤ 100000) :
    Calls Try.prog 45 #[.pointer (some ⟨hb, 0, none⟩), .int .i64 m] w fun e w' => ∃ b : Bool, e = .returned (.bool b) ∧ Chg [hb] w w' ∧ HeapB A xs hb w' := by
  have HP := Lib.hid (fun V h => upto_any A xs hb (m - 1) V h hl (by omega) (by omega))
  have HH := Lib.hid h
  clear h
  go_enter Try.func45, Try.ntmps45
  go_wp2_with fail
  refine (HP.out _ HH.out).mono ?_
  rintro e w1 ⟨n, hn0, hn1, rfl, hc, hh⟩
  have HC := Lib.hid hc
  have HH1 := Lib.hid hh
  clear hc hh
  cases hz : decide (n = 0)
  · have hz' : (n == 0) = false := by simpa using hz
    go_wp2
    go_ret
    exact ⟨_, rfl, HC.out, HH1.out⟩
  · obtain rfl : n = 0 := by simpa using hz
    go_wp2
    go_ret
    exact ⟨_, rfl, HC.out, HH1.out⟩
end Go.Proofs.Ytjihnnbpfdhceaa
