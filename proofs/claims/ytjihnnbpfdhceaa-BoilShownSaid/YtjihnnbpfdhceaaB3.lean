/- The examples of the chapter: laurellaw08.Four, awake. Conditions: none beyond those that each theorem names. -/
import Derived.Test.YtjihnnbpfdhceaaB2
set_option linter.unusedSimpArgs false
set_option linter.unusedVariables false
namespace Go.Proofs.Ytjihnnbpfdhceaa
open Go.RowKit Go.Shelf
attribute [local go_sem] Oper.semAt_some
attribute [local go_sem ↓] Go.wp_at_zero Go.wp_at_succ

def four : Hs := ⟨5, 2, [⟨0, 100, 100, 10, 12⟩, ⟨1, 100, 100, 8, 9⟩, ⟨2, 50, 60, 12, 12⟩, ⟨4, 80, 80, 20, 22⟩]⟩
theorem four_check : four.check = 0 := by decide +kernel

theorem row_of_blk {α : Type} (enc : α → List Value) (k : Nat) (hk : ∀ x, (enc x).length = k) {W : World} {g : Nat} {t : TypeId} {l : List α} (h : Blk W g t (l.flatMap enc).toArray) {B : Nat} (hB : g < B) : RowIn enc k W B (some ⟨g, 0, none⟩) l := fun i hi => by
  refine ⟨g, 0, rfl, hB, fun j v hv => ?_⟩
  have hj : j < k := by
    have := (List.getElem?_eq_some_iff.1 hv).1
    rwa [hk] at this
  rw [h.cell, Nat.zero_add, List.getElem?_toArray, flat_get enc k hk l i hi j hj]
  exact hv

set_option maxRecDepth 100000 in
set_option maxHeartbeats 1000000 in
theorem four_any (w : World) :
    Calls Try.prog 50 #[] w fun e w' => ∃ A, e = .returned (four.val A 4) ∧ RowIn Wg.enc 5 w' w'.heap.size A four.ws ∧ Below w.heap.size w w' := by
  go_enter Try.func50, Try.ntmps50
  have hr0 : Blk (w.alloc (.cells #[.int .i64 0, .int .i64 0, .slice none 0 0] 25)) w.heap.size 25 #[.int .i64 0, .int .i64 0, .slice none 0 0] := Blk.new _ _ _
  have hB0 : Below w.heap.size w (w.alloc (.cells #[.int .i64 0, .int .i64 0, .slice none 0 0] 25)) := (Below.refl _ _).alloc (Nat.le_refl _) _
  go_wp2_with fail
  generalize w.alloc (.cells #[.int .i64 0, .int .i64 0, .slice none 0 0] 25) = w0 at hr0 hB0 ⊢
  refine (weighed_any _ _ _ _ _ _).mono ?_
  rintro e w1 ⟨rfl, hb1⟩
  unfold Wg.val
  have hr1 := hr0.later hb1
  have hB1 := hB0.trans (hb1.mono hB0.size)
  clear hr0 hb1 hB0
  go_wp2_with fail
  refine (weighed_any _ _ _ _ _ _).mono ?_
  rintro e w2 ⟨rfl, hb1⟩
  unfold Wg.val
  have hr0 := hr1.later hb1
  have hB0 := hB1.trans (hb1.mono hB1.size)
  clear hr1 hb1 hB1
  go_wp2_with fail
  refine (weighed_any _ _ _ _ _ _).mono ?_
  rintro e w3 ⟨rfl, hb1⟩
  unfold Wg.val
  have hr1 := hr0.later hb1
  have hB1 := hB0.trans (hb1.mono hB0.size)
  clear hr0 hb1 hB0
  go_wp2_with fail
  refine (weighed_any _ _ _ _ _ _).mono ?_
  rintro e w4 ⟨rfl, hb1⟩
  unfold Wg.val
  have hr0 := hr1.later hb1
  have hB0 := hB1.trans (hb1.mono hB1.size)
  clear hr1 hb1 hB1
  have r0 := Blk.cell hr0 0
  have r1 := Blk.cell hr0 1
  have r2 := Blk.cell hr0 2
  have rf0 := Blk.frozen hr0 0
  have rf1 := Blk.frozen hr0 1
  have rf2 := Blk.frozen hr0 2
  have rl := Blk.lt hr0
  simp only [List.getElem?_toArray, List.getElem?_cons_zero, List.getElem?_cons_succ] at r0 r1 r2
  have HR0 := Lib.hid hr0
  clear hr0
  go_wp2
  refine bodyPost_ret (v := four.val (some ⟨w4.heap.size, 0, none⟩) 4) ?_ rfl ⟨_, rfl, ?_, ?_⟩
  · have hY2 := (((HR0.out.set_ 0 (.int .i64 5)).set_ 1 (.int .i64 2)).set_ 2 (.slice (some ⟨w4.heap.size, 0, none⟩) 4 4)).alloc (.cells #[.int .i64 0, .int .i64 100, .int .i64 100, .int .i64 10, .int .i64 12, .int .i64 1, .int .i64 100, .int .i64 100, .int .i64 8, .int .i64 9, .int .i64 2, .int .i64 50, .int .i64 60, .int .i64 12, .int .i64 12, .int .i64 4, .int .i64 80, .int .i64 80, .int .i64 20, .int .i64 22] 55)
    simp only [List.setIfInBounds_toArray, List.set_cons_zero, List.set_cons_succ] at hY2
    have e0 := Blk.cell hY2 0
    have e1 := Blk.cell hY2 1
    have e2 := Blk.cell hY2 2
    have ef0 := Blk.frozen hY2 0
    have ef1 := Blk.frozen hY2 1
    have ef2 := Blk.frozen hY2 2
    have el := Blk.lt hY2
    simp only [List.getElem?_toArray, List.getElem?_cons_zero, List.getElem?_cons_succ] at e0 e1 e2
    simp [results, Try.results50, go_sem, e0, e1, e2, Hs.val, four]
  · refine row_of_blk Wg.enc 5 wg_len (t := 55) ?_ (by simp)
    have hY3 := Blk.new (((w4.setCell ⟨w.heap.size, 0, none⟩ (.int .i64 5)).setCell ⟨w.heap.size, 1, none⟩ (.int .i64 2)).setCell ⟨w.heap.size, 2, none⟩ (.slice (some ⟨w4.heap.size, 0, none⟩) 4 4)) 55 (four.ws.flatMap Wg.enc).toArray
    simp only [World.size_setCell] at hY3
    exact hY3
  · exact (((hB0.setCell (p := ⟨w.heap.size, 0, none⟩) (Nat.le_refl _) _).setCell (p := ⟨w.heap.size, 1, none⟩) (Nat.le_refl _) _).setCell (p := ⟨w.heap.size, 2, none⟩) (Nat.le_refl _) _).alloc (by simp; exact hB0.size) _
end Go.Proofs.Ytjihnnbpfdhceaa
