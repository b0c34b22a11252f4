/- boil.opened: a house at work. Conditions: none beyond those that each theorem names. -/
import Derived.Test.YtjihnnbpfdhceaaGBoilGrown2
import Derived.Test.YtjihnnbpfdhceaaGBoilGrown3
import Derived.KernelRfl
set_option linter.unusedSimpArgs false
set_option linter.unusedVariables false
namespace Go.Proofs.Ytjihnnbpfdhceaa
open Go.RowKit

/-- The cells of a desk: its house's three, and which weighings clash. -/
def deskCells (a b c : Value) (M : Nat → Nat → Bool) : Array Value := #[a, b, c] ++ Array.ofFn (n := 196) fun i => .bool (M (i.val / 14) (i.val % 14))
def noClash : Nat → Nat → Bool := fun _ _ => false

theorem deskCells_size (a b c : Value) (M : Nat → Nat → Bool) : (deskCells a b c M).size = 199 := by simp [deskCells]
theorem deskCells_at (a b c : Value) (M : Nat → Nat → Bool) (i j : Nat) (hi : i < 14) (hj : j < 14) : (deskCells a b c M)[3 + i * 14 + j]? = some (.bool (M i j)) := by
  unfold deskCells
  rw [Array.getElem?_append_right (by simp; omega)]
  have h1 : 3 + i * 14 + j - (#[a, b, c] : Array Value).size = i * 14 + j := by simp; omega
  rw [h1, Array.getElem?_ofFn, dif_pos (by omega)]
  have h2 : (i * 14 + j) / 14 = i := by omega
  have h3 : (i * 14 + j) % 14 = j := by omega
  simp only [h2, h3]
theorem deskCells_0 (a b c : Value) (M : Nat → Nat → Bool) : (deskCells a b c M)[0]? = some a := by
  unfold deskCells; rw [Array.getElem?_append_left (by simp)]; rfl
theorem deskCells_1 (a b c : Value) (M : Nat → Nat → Bool) : (deskCells a b c M)[1]? = some b := by
  unfold deskCells; rw [Array.getElem?_append_left (by simp)]; rfl
theorem deskCells_2 (a b c : Value) (M : Nat → Nat → Bool) : (deskCells a b c M)[2]? = some c := by
  unfold deskCells; rw [Array.getElem?_append_left (by simp)]; rfl
def updM (M : Nat → Nat → Bool) (i j : Nat) (v : Bool) : Nat → Nat → Bool := fun x y => if x = i ∧ y = j then v else M x y
theorem deskCells_set (a b c : Value) (M : Nat → Nat → Bool) (i j : Nat) (hi : i < 14) (hj : j < 14) (v : Bool) : (deskCells a b c M).setIfInBounds (3 + i * 14 + j) (.bool v) = deskCells a b c (updM M i j v) := by
  apply Array.ext_getElem?
  intro k
  rw [Array.getElem?_setIfInBounds]
  by_cases hk : 3 + i * 14 + j = k
  · rw [if_pos hk, if_pos (by rw [deskCells_size]; omega), ← hk, deskCells_at _ _ _ _ _ _ hi hj]
    simp [updM]
  · rw [if_neg hk]
    by_cases h3 : k < 3
    · unfold deskCells
      rw [Array.getElem?_append_left (by simp; omega), Array.getElem?_append_left (by simp; omega)]
    · by_cases h4 : k < 199
      · obtain ⟨x, y, hx, hy, rfl⟩ : ∃ x y, x < 14 ∧ y < 14 ∧ k = 3 + x * 14 + y := ⟨(k - 3) / 14, (k - 3) % 14, by omega, by omega, by omega⟩
        rw [deskCells_at _ _ _ _ _ _ hx hy, deskCells_at _ _ _ _ _ _ hx hy]
        have : ¬ (x = i ∧ y = j) := by rintro ⟨rfl, rfl⟩; exact hk rfl
        simp [updM, this]
      · rw [Array.getElem?_eq_none (by rw [deskCells_size]; omega), Array.getElem?_eq_none (by rw [deskCells_size]; omega)]

theorem zero_desk0 : Try.zeroCells134 = #[.int .i64 0, .int .i64 0, .slice none 0 0] ++ Array.replicate 196 (Value.bool false) := by kernel_rfl
theorem zero_desk (a b c : Value) : ((Try.zeroCells134.setIfInBounds 0 a).setIfInBounds 1 b).setIfInBounds 2 c = deskCells a b c noClash := by
  rw [zero_desk0]
  apply Array.ext_getElem?
  intro k
  rw [Array.getElem?_setIfInBounds, Array.getElem?_setIfInBounds, Array.getElem?_setIfInBounds]
  by_cases h2 : 2 = k
  · subst h2; rw [if_pos rfl, deskCells_2]; simp
  rw [if_neg h2]
  by_cases h1 : 1 = k
  · subst h1; rw [if_pos rfl, deskCells_1]; simp
  rw [if_neg h1]
  by_cases h0 : 0 = k
  · subst h0; rw [if_pos rfl, deskCells_0]; simp
  rw [if_neg h0]
  rw [Array.getElem?_append_right (by simp; omega)]
  by_cases h4 : k < 199
  · obtain ⟨x, y, hx, hy, rfl⟩ : ∃ x y, x < 14 ∧ y < 14 ∧ k = 3 + x * 14 + y := ⟨(k - 3) / 14, (k - 3) % 14, by omega, by omega, by omega⟩
    rw [deskCells_at _ _ _ _ _ _ hx hy, Array.getElem?_replicate, if_pos (by simp; omega)]
    rfl
  · rw [Array.getElem?_eq_none (by simp; omega), Array.getElem?_eq_none (by rw [deskCells_size]; omega)]

def Hs.clash (h : Hs) (x y : Wg) : Bool := h.under x.month y.month && aboveB x.least y.most
def Hs.clashM (h : Hs) : Nat → Nat → Bool := fun i j => if hi : i < h.ws.length ∧ j < h.ws.length then h.clash h.ws[i] h.ws[j] else false
/-- Which weighings clash, as far as a and b have come. -/
def Hs.partM (h : Hs) (a b : Nat) : Nat → Nat → Bool := fun i j => if i < a ∨ (i = a ∧ j < b) then h.clashM i j else false

def desk (h : Hs) (A : Option Addr) (c : Nat) (M : Nat → Nat → Bool) : Array Value := deskCells (.int .i64 h.months) (.int .i64 h.peak) (.slice A h.ws.length c) M

def Blk (w : World) (g : Nat) (t : TypeId) (cs : Array Value) : Prop := w.heap[g]? = some (.cells cs t (0, 0))
section
variable {w w' : World} {g : Nat} {t : TypeId} {cs : Array Value}
theorem Blk.lt (h : Blk w g t cs) : g < w.heap.size := by
  rcases Nat.lt_or_ge g w.heap.size with hlt | hge
  · exact hlt
  · unfold Blk at h; rw [Array.getElem?_eq_none hge] at h; cases h
theorem Blk.cell (h : Blk w g t cs) (i : Nat) : w.cell? ⟨g, i, none⟩ = cs[i]? := cell_of_row w g i cs t (0, 0) h
theorem Blk.frozen (h : Blk w g t cs) (i : Nat) : w.frozen? ⟨g, i, none⟩ = false := by
  unfold Blk at h
  simp [World.frozen?, h]
theorem Blk.new (w : World) (t : TypeId) (cs : Array Value) : Blk (w.alloc (.cells cs t)) w.heap.size t cs := heap_alloc_new w _
theorem Blk.drew (h : Blk w g t cs) : Blk w.drew g t cs := h
theorem Blk.drewN (h : Blk w g t cs) (n : Nat) : Blk (w.drewN n) g t cs := h
theorem Blk.alloc (h : Blk w g t cs) (o : Obj) : Blk (w.alloc o) g t cs := (Below.heap_alloc w o g h.lt).trans h
theorem Blk.set_ (h : Blk w g t cs) (i : Nat) (u : Value) : Blk (w.setCell ⟨g, i, none⟩ u) g t (cs.setIfInBounds i u) := by
  unfold Blk at h ⊢
  simp [World.setCell, Array.getElem?_modify, h]
theorem Blk.far (h : Blk w g t cs) {p : Addr} (hp : g ≠ p.block) (u : Value) : Blk (w.setCell p u) g t cs := (Below.heap_setCell w p u g hp).trans h
theorem Blk.below {B : Nat} (h : Blk w g t cs) (hb : Below B w w') (hg : g < B) : Blk w' g t cs := (hb.block g hg).trans h
theorem Blk.ne_ {g' : Nat} {t' : TypeId} {cs' : Array Value} (h : Blk w g t cs) (h' : Blk w g' t' cs') (hne : t ≠ t') : g ≠ g' := by
  rintro rfl
  unfold Blk at h h'
  rw [h] at h'
  injection h' with h'
  injection h' with _ ht
  exact hne ht
theorem Blk.later (h : Blk w g t cs) (hb : Below w.heap.size w w') : Blk w' g t cs := h.below hb h.lt
end

/-- A house in its box, and its desk, as far as it has come; what was below w's end lies as it lay. -/
structure OpInv (h : Hs) (A : Option Addr) (c : Nat) (w : World) (g : Nat) (M : Nat → Nat → Bool) (wr : World) : Prop where
  bel : Below w.heap.size w wr
  gt : w.heap.size < g
  house : Blk wr w.heap.size 25 #[.int .i64 h.months, .int .i64 h.peak, .slice A h.ws.length c]
  desk : Blk wr g 134 (desk h A c M)

section
variable {h : Hs} {A : Option Addr} {c : Nat} {w : World} {g : Nat} {M : Nat → Nat → Bool} {wr wr' : World}
theorem OpInv.later (i : OpInv h A c w g M wr) (hb : Below wr.heap.size wr wr') : OpInv h A c w g M wr' :=
  ⟨i.bel.trans (hb.mono i.bel.size), i.gt, i.house.later hb, i.desk.later hb⟩
theorem OpInv.alloc (i : OpInv h A c w g M wr) (o : Obj) : OpInv h A c w g M (wr.alloc o) := i.later ((Below.refl _ _).alloc (Nat.le_refl _) _)
theorem OpInv.set_ (i : OpInv h A c w g M wr) (a b : Nat) (v : Bool) (ha : a < 14) (hb : b < 14) : OpInv h A c w g (updM M a b v) (wr.setCell ⟨g, 3 + a * 14 + b, none⟩ (.bool v)) :=
  ⟨i.bel.setCell (by have := i.gt; simp; omega) _, i.gt, i.house.far (p := ⟨g, _, none⟩) (by have := i.gt; simp; omega) _, by
    have := i.desk.set_ (3 + a * 14 + b) (.bool v)
    unfold Ytjihnnbpfdhceaa.desk at this ⊢
    rw [deskCells_set _ _ _ _ _ _ ha hb] at this
    exact this⟩
end

theorem partM_0 (h : Hs) : h.partM 0 0 = noClash := by
  funext i j; simp [Hs.partM, noClash]
theorem partM_next (h : Hs) (a : Nat) (hl : h.ws.length ≤ 14) : h.partM a h.ws.length = h.partM (a + 1) 0 := by
  funext i j
  unfold Hs.partM
  by_cases h1 : i < a
  · rw [if_pos (.inl h1), if_pos (.inl (by omega))]
  · by_cases h2 : i = a
    · subst h2
      rw [if_pos (show i < i + 1 ∨ _ from .inl (by omega))]
      by_cases h3 : j < h.ws.length
      · rw [if_pos (.inr ⟨rfl, h3⟩)]
      · rw [if_neg (by omega)]; simp [Hs.clashM, h3]
    · rw [if_neg (by omega), if_neg (by omega)]
theorem partM_step (h : Hs) (a b : Nat) (ha : a < h.ws.length) (hb : b < h.ws.length) : updM (h.partM a b) a b (h.clash h.ws[a] h.ws[b]) = h.partM a (b + 1) := by
  funext i j
  unfold updM Hs.partM
  by_cases h1 : i = a ∧ j = b
  · obtain ⟨rfl, rfl⟩ := h1
    rw [if_pos ⟨rfl, rfl⟩, if_pos (.inr ⟨rfl, by omega⟩)]
    simp [Hs.clashM, ha, hb]
  · rw [if_neg h1]
    by_cases h2 : i < a ∨ (i = a ∧ j < b)
    · rw [if_pos h2, if_pos (by omega)]
    · rw [if_neg h2, if_neg (by omega)]
theorem partM_all (h : Hs) : h.partM h.ws.length 0 = h.clashM := by
  funext i j
  unfold Hs.partM
  by_cases h1 : i < h.ws.length
  · rw [if_pos (.inl h1)]
  · rw [if_neg (by omega)]; simp [Hs.clashM, h1]

theorem check_len {h : Hs} (hk : h.check = 0) : h.ws.length ≤ 14 := by
  unfold Hs.check at hk
  by_cases h1 : 14 < h.ws.length
  · simp [h1] at hk
  · omega
theorem check_ok {h : Hs} (hk : h.check = 0) : ∀ x ∈ h.ws, x.Ok := by
  unfold Hs.check at hk
  intro x hx
  have h3 : h.ws.all Wg.measured = true := by
    cases h : h.ws.all Wg.measured
    · rw [h] at hk; split at hk
      · omega
      · split at hk
        · omega
        · simp at hk
    · rfl
  have := List.all_eq_true.1 h3 x hx
  simp [Wg.measured, inB] at this
  obtain ⟨⟨⟨a, b⟩, c, d⟩, ⟨e, f⟩, g, i⟩ := this
  exact ⟨a, b, c, d, e, f, g, i⟩

/-- Bounds of a weighing's ratios. -/
structure Rat2.Bd (r : Rat2) : Prop where
  n0 : 0 ≤ r.num
  n1 : r.num ≤ 1000000
  d0 : 0 ≤ r.den
  d1 : r.den ≤ 1000000
theorem lowest_bd (n d : Int) (hn : 0 ≤ n) (hn' : n ≤ 1000000) (hd : 0 ≤ d) (hd' : d ≤ 1000000) : (lowest n d).Bd := by
  unfold lowest
  have h1 := Int.ediv_le_self (Int.gcd n d : Int) hn
  have h2 := Int.ediv_le_self (Int.gcd n d : Int) hd
  exact ⟨Int.ediv_nonneg hn (by omega), by simp only; omega, Int.ediv_nonneg hd (by omega), by simp only; omega⟩
theorem Wg.Ok.least_bd {x : Wg} (h : x.Ok) : x.least.Bd := lowest_bd _ _ (by have := h.mlo1; omega) (by have := h.mlo2; omega) (by have := h.shi1; omega) (by have := h.shi2; omega)
theorem Wg.Ok.most_bd {x : Wg} (h : x.Ok) : x.most.Bd := lowest_bd _ _ (by have := h.mhi1; omega) (by have := h.mhi2; omega) (by have := h.slo1; omega) (by have := h.slo2; omega)
theorem prod_bd {a b : Rat2} (ha : a.Bd) (hb : b.Bd) : 0 ≤ a.num * b.den ∧ a.num * b.den ≤ 1000000000000 := by
  have := mul_bd ha.n0 ha.n1 hb.d0 hb.d1
  exact ⟨this.1, by omega⟩

theorem Below.step {W V V' : World} (h : Below W.heap.size W V) (h' : Below V.heap.size V V') : Below W.heap.size W V' := h.trans (h'.mono h.size)
theorem later_cell {W V V' : World} {p : Addr} {v : Value} (hS : Below W.heap.size W V) (hb : Below V.heap.size V V') (hp : p.block < W.heap.size) (h : V.cell? p = some v) : V'.cell? p = some v :=
  (hb.cell (Nat.lt_of_lt_of_le hp hS.size)).trans h

set_option maxHeartbeats 1000000 in
theorem opened_any (h : Hs) (A : Option Addr) (c : Nat) (w : World) (hr : RowIn Wg.enc 5 w w.heap.size A h.ws) (hk : h.check = 0) :
    Calls Try.prog 48 #[h.val A c] w fun e w' => ∃ g, e = .returned (.tuple #[.pointer (some ⟨g, 0, none⟩), .int .i64 0]) ∧ w.heap.size ≤ g ∧ w'.heap[g]? = some (.cells (desk h A c h.clashM) 134 (0, 0)) ∧ Below w.heap.size w w' := by
  have hl := check_len hk
  have HOK := Lib.hid (check_ok hk)
  have HR := Lib.hid hr
  have HK := Lib.hid hk
  clear hr hk
  have hzd := zero_desk
  unfold Hs.val
  go_enter Try.func48, Try.ntmps48
  go_wp2_with fail
  refine (check_any h A c _ ((HR.out.below ((Below.refl _ _).alloc (Nat.le_refl _) _)).mono (by simp)) (by omega)).mono ?_
  rintro e w1 ⟨rfl, hb1⟩
  have zhb1 := hb1.size
  try simp only [World.size_alloc, World.size_setCell, World.size_drew] at zhb1
  rw [HK.out]
  have hlt1 : w.heap.size < w1.heap.size := by omega
  have c0 : (w1).cell? ⟨w.heap.size, 0, none⟩ = some (.int .i64 h.months) := by rw [hb1.cell (p := ⟨w.heap.size, 0, none⟩) (by first | assumption | omega | (simp; done) | (simp; omega) | (simp at *; omega))]; simp [go_sem]
  have c1 : (w1).cell? ⟨w.heap.size, 1, none⟩ = some (.int .i64 h.peak) := by rw [hb1.cell (p := ⟨w.heap.size, 1, none⟩) (by first | assumption | omega | (simp; done) | (simp; omega) | (simp at *; omega))]; simp [go_sem]
  have c2 : (w1).cell? ⟨w.heap.size, 2, none⟩ = some (.slice A h.ws.length c) := by rw [hb1.cell (p := ⟨w.heap.size, 2, none⟩) (by first | assumption | omega | (simp; done) | (simp; omega) | (simp at *; omega))]; simp [go_sem]
  have hI0 : OpInv h A c w w1.heap.size (h.partM 0 0) (w1.alloc (.cells (deskCells (.int .i64 h.months) (.int .i64 h.peak) (.slice A h.ws.length c) noClash) 134)) := by
    refine ⟨(by repeat (first | exact Below.refl _ _ | exact hb1 | refine Below.drew ?_ | refine below_drewN ?_ _ | refine Below.setCell ?_ (by first | assumption | omega | (simp; done) | (simp; omega) | (simp at *; omega)) _ | refine Below.alloc ?_ (by first | assumption | omega | (simp; done) | (simp; omega) | (simp at *; omega)) _ | refine Below.trans ?_ (Below.mono hb1 (by first | assumption | omega | (simp; done) | (simp; omega) | (simp at *; omega))))), hlt1, ?_, ?_⟩
    · exact ((Blk.new w 25 _).later hb1).alloc _
    · rw [partM_0]; exact Blk.new _ _ _
  go_wp2
  clear c0 c1 c2 hzd
  go_loopw [21] (fun i wr => ∃ a : Nat, a ≤ h.ws.length ∧ i = .int .i64 a ∧ OpInv h A c w w1.heap.size (h.partM a 0) wr) (fun i _ => h.ws.length - (intOf i).toNat)
  case atStart => exact ⟨0, Nat.zero_le _, rfl, hI0⟩
  case round =>
    clear hI0
    obtain ⟨a, ha, rfl, hI⟩ := hrel
    by_cases hlt : a < h.ws.length
    · obtain ⟨b0, o0, x, rfl, hB0, hx, x0, x1, x2, x3, x4⟩ := (HR.out.below hI.bel).wg a hlt
      have hB1 : b0 < wr.heap.size := Nat.lt_of_lt_of_le hB0 hI.bel.size
      have hn1 := hI.house.lt
      have c2 := hI.house.cell 2
      rw [show (#[.int .i64 h.months, .int .i64 h.peak, .slice (some ⟨b0, o0, none⟩) h.ws.length c] : Array Value)[2]? = some (.slice (some ⟨b0, o0, none⟩) h.ws.length c) from rfl] at c2
      have HX := Lib.hid hx
      clear hx
      go_wp2
      obtain ⟨wo, rfl⟩ : ∃ wo : World, wo = wr := ⟨_, rfl⟩
      have hI2 := hI.alloc (.cells #[.int .i64 x.month, .int .i64 x.slo, .int .i64 x.shi, .int .i64 x.mlo, .int .i64 x.mhi] 55)
      have hV2 := Blk.new wo 55 #[.int .i64 x.month, .int .i64 x.slo, .int .i64 x.shi, .int .i64 x.mlo, .int .i64 x.mhi]
      clear x0 x1 x2 x3 x4 c2 hn1 hI
      go_loopw [29] (fun j wi => ∃ b : Nat, b ≤ h.ws.length ∧ j = .int .i64 b ∧ OpInv h (some ⟨b0, o0, none⟩) c w w1.heap.size (h.partM a b) wi ∧ Blk wi wo.heap.size 55 #[.int .i64 x.month, .int .i64 x.slo, .int .i64 x.shi, .int .i64 x.mlo, .int .i64 x.mhi]) (fun j _ => h.ws.length - (intOf j).toNat)
      case atStart => exact ⟨0, Nat.zero_le _, rfl, hI2, hV2⟩
      case round =>
        clear hI2 hV2
        obtain ⟨b, hb, rfl, hI, hV⟩ := hrel
        by_cases hltb : b < h.ws.length
        · obtain ⟨_, _, y, hA, _, hy, y0, y1, y2, y3, y4⟩ := (HR.out.below hI.bel).wg b hltb
          injection hA with hA
          injection hA with hA1 hA2
          subst hA1
          subst hA2
          have HY := Lib.hid hy
          clear hy
          have hlv := hV.lt
          have hlh := hI.house.lt
          go_wp2
          have hI3 := hI.alloc (.cells #[.int .i64 y.month, .int .i64 y.slo, .int .i64 y.shi, .int .i64 y.mlo, .int .i64 y.mhi] 55)
          have hV3 := hV.alloc (.cells #[.int .i64 y.month, .int .i64 y.slo, .int .i64 y.shi, .int .i64 y.mlo, .int .i64 y.mhi] 55)
          have hU3 := Blk.new wr 55 #[.int .i64 y.month, .int .i64 y.slo, .int .i64 y.shi, .int .i64 y.mlo, .int .i64 y.mhi]
          clear y0 y1 y2 y3 y4 hlv hlh hI hV
          generalize hU : wr.heap.size = ub at hU3 ⊢
          clear hU
          generalize wr.alloc _ = W at hI3 hV3 hU3 ⊢
          have hlh := hI3.house.lt
          have hlv := hV3.lt
          have hlu := hU3.lt
          have f0 := hI3.house.cell 0
          have f1 := hI3.house.cell 1
          have f2 := hI3.house.cell 2
          have v0 := hV3.cell 0
          have v1 := hV3.cell 1
          have v2 := hV3.cell 2
          have v3 := hV3.cell 3
          have v4 := hV3.cell 4
          have u0 := hU3.cell 0
          have u1 := hU3.cell 1
          have u2 := hU3.cell 2
          have u3 := hU3.cell 3
          have u4 := hU3.cell 4
          simp only [List.getElem?_toArray, List.getElem?_cons_zero, List.getElem?_cons_succ] at f0 f1 f2 v0 v1 v2 v3 v4 u0 u1 u2 u3 u4
          have ha14 : a < 14 := by omega
          have hb14 : b < 14 := by omega
          have d := hI3.desk.cell (3 + a * 14 + b)
          have df := hI3.desk.frozen (3 + a * 14 + b)
          rw [desk, deskCells_at _ _ _ _ _ _ ha14 hb14] at d
          have ha14' : (a : Int) < 14 := by omega
          have hb14' : (b : Int) < 14 := by omega
          have hXY : h.clash x y = h.clash h.ws[a] h.ws[b] := by rw [HX.out, HY.out]
          have HXY := Lib.hid hXY
          clear hXY
          have Ff0 := fun u => Later.cell f0 u
          have Ff1 := fun u => Later.cell f1 u
          have Ff2 := fun u => Later.cell f2 u
          have Fv0 := fun u => Later.cell v0 u
          have Fv1 := fun u => Later.cell v1 u
          have Fv2 := fun u => Later.cell v2 u
          have Fv3 := fun u => Later.cell v3 u
          have Fv4 := fun u => Later.cell v4 u
          have Fu0 := fun u => Later.cell u0 u
          have Fu1 := fun u => Later.cell u1 u
          have Fu2 := fun u => Later.cell u2 u
          have Fu3 := fun u => Later.cell u3 u
          have Fu4 := fun u => Later.cell u4 u
          have Fd := fun u => Later.cell d u
          have Fdf := fun u => Later.frozen d df u
          clear f0 f1 f2 v0 v1 v2 v3 v4 u0 u1 u2 u3 u4 d df
          have HU := Lib.hid (fun V => under_any h (some ⟨b0, o0, none⟩) c x.month y.month V)
          have HLE := Lib.hid (fun V => least_any x (by rw [← HX.out]; exact HOK.out _ (List.getElem_mem _)) V)
          have HMO := Lib.hid (fun V => most_any y (by rw [← HY.out]; exact HOK.out _ (List.getElem_mem _)) V)
          cases hun : h.under x.month y.month
          · rw [hun] at HU
            have hcl : h.clash x y = false := by simp [Hs.clash, hun]
            have HCL := Lib.hid hcl
            clear hun hcl
            refine wp_region_later_tail 20 (by kernel_rfl) (by kernel_rfl) ?_
            simp only [List.take_succ_cons, List.take_zero, List.drop_succ_cons, List.drop_zero]
            repeat (go_big_quiet_step ((go_at_call 47; exact Later.call (HU.out _))))
            refine wpQuiet_nil ?_
            intro u
            go_wp2
            refine ⟨⟨b + 1, by omega, by go_num, ?_, (hV3.later u.below).far (p := ⟨w1.heap.size, _, none⟩) (Blk.ne_ hV3 hI3.desk (by decide)) _⟩, by simp [intOf]; omega⟩
            have := (hI3.later u.below).set_ a b false ha14 hb14
            rw [← HCL.out, HXY.out, partM_step h a b hlt hltb] at this
            rw [← HCL.out, HXY.out]
            exact this
          · rw [hun] at HU
            have hcl : h.clash x y = aboveB x.least y.most := by simp [Hs.clash, hun]
            have HCL := Lib.hid hcl
            clear hun hcl
            have hxk : x.Ok := by rw [← HX.out]; exact HOK.out _ (List.getElem_mem _)
            have hyk : y.Ok := by rw [← HY.out]; exact HOK.out _ (List.getElem_mem _)
            have HAB := Lib.hid (fun V => above_any x.least y.most V (prod_bd hxk.least_bd hyk.most_bd) (prod_bd hyk.most_bd hxk.least_bd))
            clear hxk hyk
            refine wp_region_later_tail 20 (by kernel_rfl) (by kernel_rfl) ?_
            simp only [List.take_succ_cons, List.take_zero, List.drop_succ_cons, List.drop_zero]
            repeat (go_big_quiet_step ((first | (go_at_call 47; exact Later.call (HU.out _)) | (go_at_call 82; exact Later.call (HLE.out _)) | (go_at_call 54; exact Later.call (HMO.out _)) | (go_at_call 81; exact Later.call (HAB.out _)))))
            refine wpQuiet_nil ?_
            intro u
            go_wp2
            refine ⟨⟨b + 1, by omega, by go_num, ?_, (hV3.later u.below).far (p := ⟨w1.heap.size, _, none⟩) (Blk.ne_ hV3 hI3.desk (by decide)) _⟩, by simp [intOf]; omega⟩
            have := (hI3.later u.below).set_ a b (aboveB x.least y.most) ha14 hb14
            rw [← HCL.out, HXY.out, partM_step h a b hlt hltb] at this
            rw [← HCL.out, HXY.out]
            exact this
        · obtain rfl : b = h.ws.length := by omega
          go_wp2
          go_roundw
          case rel => exact ⟨a + 1, by omega, by go_num, by rw [← partM_next h a hl]; exact hI⟩
          case measure => simp [intOf]; omega
    · obtain rfl : a = h.ws.length := by omega
      rw [partM_all] at hI
      go_wp2
      go_ret2
      exact ⟨_, rfl, Nat.le_of_lt hI.gt, hI.desk, hI.bel⟩
end Go.Proofs.Ytjihnnbpfdhceaa
