/- Words for laurellaw08.Made: an array of ratios that the call makes. Conditions: none beyond those that each theorem names. -/
import Derived.Test.YtjihnnbpfdhceaaB4
set_option linter.unusedSimpArgs false
set_option linter.unusedVariables false
namespace Go.Proofs.Ytjihnnbpfdhceaa
open Go.RowKit Go.Shelf

/-- The cells of n ratios. -/
def ratCells (n : Nat) (r : Nat → Rat2) : Array Value := Array.ofFn (n := n * 2) fun i => if i.val % 2 = 0 then .int .i64 (r (i.val / 2)).num else .int .i64 (r (i.val / 2)).den
def updR (r : Nat → Rat2) (m : Nat) (v : Rat2) : Nat → Rat2 := fun j => if j = m then v else r j
theorem updR_same (r : Nat → Rat2) (m : Nat) (v : Rat2) : updR r m v m = v := by simp [updR]
theorem updR_other (r : Nat → Rat2) (m : Nat) (v : Rat2) {j : Nat} (h : j ≠ m) : updR r m v j = r j := by simp [updR, h]
theorem ratCells_size (n : Nat) (r : Nat → Rat2) : (ratCells n r).size = n * 2 := Array.size_ofFn
theorem ratCells_num (n : Nat) (r : Nat → Rat2) (m : Nat) (hm : m < n) : (ratCells n r)[m * 2]? = some (.int .i64 (r m).num) := by
  unfold ratCells
  rw [Array.getElem?_ofFn, dif_pos (by omega)]
  simp
theorem ratCells_den (n : Nat) (r : Nat → Rat2) (m : Nat) (hm : m < n) : (ratCells n r)[m * 2 + 1]? = some (.int .i64 (r m).den) := by
  unfold ratCells
  rw [Array.getElem?_ofFn, dif_pos (by omega)]
  have h1 : (m * 2 + 1) % 2 = 1 := by omega
  have h2 : (m * 2 + 1) / 2 = m := by omega
  simp [h1, h2]
theorem ratCells_setN (n : Nat) (r : Nat → Rat2) (m : Nat) (a : Int) (hm : m < n) : (ratCells n r).setIfInBounds (m * 2) (.int .i64 a) = ratCells n (updR r m ⟨a, (r m).den⟩) := by
  apply Array.ext_getElem?
  intro i
  rw [Array.getElem?_setIfInBounds]
  by_cases hi : m * 2 = i
  · subst hi
    rw [if_pos rfl, ratCells_size, if_pos (by omega), ratCells_num _ _ _ hm, updR_same]
  · rw [if_neg hi]
    unfold ratCells
    rw [Array.getElem?_ofFn, Array.getElem?_ofFn]
    by_cases hn : i < n * 2
    · rw [dif_pos hn, dif_pos hn]
      by_cases he : i % 2 = 0
      · simp only [he, if_true]
        rw [updR_other _ _ _ (by omega)]
      · simp only [he, if_false]
        by_cases hm2 : i / 2 = m
        · subst hm2; rw [updR_same]
        · rw [updR_other _ _ _ hm2]
    · rw [dif_neg hn, dif_neg hn]
theorem ratCells_setD (n : Nat) (r : Nat → Rat2) (m : Nat) (a : Int) (hm : m < n) : (ratCells n r).setIfInBounds (m * 2 + 1) (.int .i64 a) = ratCells n (updR r m ⟨(r m).num, a⟩) := by
  apply Array.ext_getElem?
  intro i
  rw [Array.getElem?_setIfInBounds]
  by_cases hi : m * 2 + 1 = i
  · subst hi
    rw [if_pos rfl, ratCells_size, if_pos (by omega), ratCells_den _ _ _ hm, updR_same]
  · rw [if_neg hi]
    unfold ratCells
    rw [Array.getElem?_ofFn, Array.getElem?_ofFn]
    by_cases hn : i < n * 2
    · rw [dif_pos hn, dif_pos hn]
      by_cases he : i % 2 = 0
      · simp only [he, if_true]
        by_cases hm2 : i / 2 = m
        · subst hm2; rw [updR_same]
        · rw [updR_other _ _ _ hm2]
      · simp only [he, if_false]
        rw [updR_other _ _ _ (by omega)]
    · rw [dif_neg hn, dif_neg hn]
theorem ratCells_set2 (n : Nat) (r : Nat → Rat2) (m : Nat) (a b : Int) (hm : m < n) : ((ratCells n r).setIfInBounds (m * 2) (.int .i64 a)).setIfInBounds (m * 2 + 1) (.int .i64 b) = ratCells n (updR r m ⟨a, b⟩) := by
  rw [ratCells_setN _ _ _ _ hm, ratCells_setD _ _ _ _ hm, updR_same]
  congr 1
  funext j
  unfold updR
  split <;> rfl
theorem ratCells_made (n : Nat) : madeCells #[.int .i64 0, .int .i64 0] (n * 2) = ratCells n (fun _ => ⟨0, 0⟩) := by
  apply Array.ext_getElem?
  intro i
  unfold madeCells ratCells
  rw [Array.getElem?_ofFn]
  by_cases hn : i < n * 2
  · rw [dif_pos hn]
    rw [Array.getElem?_map, Array.getElem?_range, if_pos hn]
    by_cases he : i % 2 = 0
    · simp [he]
    · have : i % 2 = 1 := by omega
      simp [this]
  · rw [dif_neg hn, Array.getElem?_eq_none (by simp; omega)]
def ratL (n : Nat) (r : Nat → Rat2) : List Rat2 := (List.range n).map r
theorem ratL_len (n : Nat) (r : Nat → Rat2) : (ratL n r).length = n := by simp [ratL]
theorem row_of_rat {W : World} {g : Nat} {n : Nat} {r : Nat → Rat2} (h : Blk W g 43 (ratCells n r)) {B : Nat} (hB : g < B) : RowIn Rat2.enc 2 W B (some ⟨g, 0, none⟩) (ratL n r) := fun i hi => by
  rw [ratL_len] at hi
  refine ⟨g, 0, rfl, hB, fun j v hv => ?_⟩
  have hv' : (Rat2.enc (r i))[j]? = some v := by simpa [ratL] using hv
  have hj : j < 2 := (List.getElem?_eq_some_iff.1 hv').1
  rw [h.cell, Nat.zero_add]
  rcases Nat.lt_or_ge j 1 with h1 | h1
  · obtain rfl : j = 0 := by omega
    rw [Nat.add_zero, ratCells_num _ _ _ hi]; exact hv'
  · obtain rfl : j = 1 := by omega
    rw [ratCells_den _ _ _ hi]; exact hv'

theorem HeapB.chg {A : Option Addr} {xs : List Int} {hb : Nat} {W W' : World} {S : List Nat} (h : HeapB A xs hb W) (hc : Chg S W W') (hS : ∀ k ∈ S, hb < k) : HeapB A xs hb W' := by
  obtain ⟨hr, c, nx, rd, hb1, h2⟩ := h
  refine ⟨hr.below (Chg.below hc (Below.refl _ _) (Nat.le_of_lt hb1.lt) (fun k hk => Nat.le_of_lt (hS k hk))), c, nx, rd, ?_, h2⟩
  exact (hc.block hb hb1.lt (fun hm => Nat.lt_irrefl _ (hS hb hm))).trans hb1
theorem Blk.chg {W W' : World} {g : Nat} {t : TypeId} {cs : Array Value} {S : List Nat} (h : Blk W g t cs) (hc : Chg S W W') (hS : g ∉ S) : Blk W' g t cs := (hc.block g h.lt hS).trans h
theorem HeapB.set_ {A : Option Addr} {xs : List Int} {hb : Nat} {W : World} (h : HeapB A xs hb W) {p : Addr} (hp : hb < p.block) (v : Value) : HeapB A xs hb (W.setCell p v) :=
  h.chg (S := [p.block]) ((Chg.refl _ _).set_ (.inl (by simp)) _) (by simpa using hp)

/-- While a house is made: its result, the house, its heap of numbers. -/
structure MdInv (A : Option Addr) (xs : List Int) (hb gx : Nat) (hc : Array Value) (w W : World) : Prop where
  chg : Chg [hb] w W
  hp : HeapB A xs hb W
  hlt : hb < w.heap.size
  glt : w.heap.size < gx
  res : Blk W w.heap.size 25 #[.int .i64 0, .int .i64 0, .slice none 0 0]
  hs : Blk W gx 25 hc
section
variable {A : Option Addr} {xs : List Int} {hb gx : Nat} {hc : Array Value} {w W W' : World}
theorem MdInv.later (i : MdInv A xs hb gx hc w W) (h : Below W.heap.size W W') : MdInv A xs hb gx hc w W' :=
  ⟨i.chg.later h, i.hp.later h, i.hlt, i.glt, i.res.later h, i.hs.later h⟩
theorem MdInv.call (i : MdInv A xs hb gx hc w W) (h : Chg [hb] W W') (h' : HeapB A xs hb W') : MdInv A xs hb gx hc w W' :=
  ⟨i.chg.trans h, h', i.hlt, i.glt, i.res.chg h (by have := i.hlt; simp; omega), i.hs.chg h (by have := i.hlt; have := i.glt; simp; omega)⟩
theorem MdInv.seth (i : MdInv A xs hb gx hc w W) (j : Nat) (v : Value) : MdInv A xs hb gx (hc.setIfInBounds j v) w (W.setCell ⟨gx, j, none⟩ v) :=
  ⟨i.chg.set_ (p := ⟨gx, j, none⟩) (.inr (by have := i.glt; simp; omega)) _, i.hp.set_ (p := ⟨gx, j, none⟩) (by have := i.hlt; have := i.glt; simp; omega) _, i.hlt, i.glt, i.res.far (p := ⟨gx, j, none⟩) (by have := i.glt; simp; omega) _, i.hs.set_ j v⟩
theorem MdInv.far (i : MdInv A xs hb gx hc w W) {p : Addr} (hp : gx < p.block) (v : Value) : MdInv A xs hb gx hc w (W.setCell p v) :=
  ⟨i.chg.set_ (.inr (by have := i.glt; omega)) _, i.hp.set_ (by have := i.hlt; have := i.glt; omega) _, i.hlt, i.glt, i.res.far (by have := i.glt; omega) _, i.hs.far (by omega) _⟩
theorem MdInv.grown {row : Option Nat} (i : MdInv A xs hb gx hc w W) (h : W.grownBy W' row) (hr : ∀ g, row = some g → gx < g) : MdInv A xs hb gx hc w W' := by
  have hlt := i.hlt
  have hglt := i.glt
  have hgs := i.hs.lt
  have hB : Below (gx + 1) W W' := ⟨h.os, h.tape, h.output, h.size, fun k hk => h.block k (by omega) (fun e => by have := hr k e.symm; omega)⟩
  refine ⟨⟨h.os.trans i.chg.os, h.tape.trans i.chg.tape, h.output.trans i.chg.output, Nat.le_trans i.chg.size h.size, fun k hk hn => (hB.block k (by omega)).trans (i.chg.block k hk hn)⟩, ?_, i.hlt, i.glt, i.res.below hB (by omega), i.hs.below hB (by omega)⟩
  obtain ⟨hr, c, nx, rd, hb1, h2⟩ := i.hp
  exact ⟨hr.below' hB (by omega), c, nx, rd, hb1.below hB (by omega), h2⟩
theorem Blk.grown {g : Nat} {t : TypeId} {cs : Array Value} {row : Option Nat} (h : Blk W g t cs) (hg : W.grownBy W' row) (hr : ∀ g', row = some g' → g < g') : Blk W' g t cs :=
  (hg.block g h.lt (fun e => by have := hr g e.symm; omega)).trans h
end
end Go.Proofs.Ytjihnnbpfdhceaa
