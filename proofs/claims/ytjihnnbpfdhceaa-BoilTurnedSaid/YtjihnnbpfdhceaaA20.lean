/- boil.greatest, slices.MinFunc of ratios. Conditions: none beyond those that each theorem names. -/
import Derived.Test.YtjihnnbpfdhceaaA19
set_option linter.unusedSimpArgs false
set_option linter.unusedVariables false
namespace Go.Proofs.Ytjihnnbpfdhceaa
open Go.RowKit Go.Shelf
attribute [local go_sem] Oper.semAt_some

theorem RowIn.rat {B : Nat} {w : World} {A : Option Addr} {l : List Rat2} (h : RowIn Rat2.enc 2 w B A l) (i : Nat) (hi : i < l.length) :
    ∃ b o x, A = some ⟨b, o, none⟩ ∧ b < B ∧ l[i] = x ∧ w.cell? ⟨b, o + i * 2, none⟩ = some (.int .i64 x.num) ∧ w.cell? ⟨b, o + i * 2 + 1, none⟩ = some (.int .i64 x.den) := by
  obtain ⟨b, o, hA, hb, hc⟩ := h i hi
  exact ⟨b, o, l[i], hA, hb, rfl, hc 0 _ rfl, hc 1 _ rfl⟩

def grStep (r q : Rat2) : Rat2 := if aboveB q r then q else r
def gr (r : Rat2) (l : List Rat2) : Rat2 := l.foldl grStep r
theorem gr_snoc (r : Rat2) (l : List Rat2) (k : Nat) (hk : k < l.length) (x : Rat2) (hx : l[k] = x) : gr r (l.take (k + 1)) = grStep (gr r (l.take k)) x := by
  unfold gr; rw [List.take_succ_eq_append_getElem hk, List.foldl_append, hx]; rfl
theorem gr_bd (r : Rat2) (l : List Rat2) (hr : r.Bd) (hl : ∀ q ∈ l, q.Bd) : (gr r l).Bd := by
  unfold gr
  induction l generalizing r with
  | nil => exact hr
  | cons q l ih =>
    rw [List.foldl_cons]
    refine ih _ ?_ (fun x hx => hl x (List.mem_cons_of_mem _ hx))
    unfold grStep
    split
    · exact hl q List.mem_cons_self
    · exact hr

set_option maxRecDepth 100000 in
set_option maxHeartbeats 1000000 in
theorem greatest_any (r : Rat2) (A : Option Addr) (l : List Rat2) (c : Nat) (w : World) (hR : RowIn Rat2.enc 2 w w.heap.size A l) (hr : r.Bd) (hl : ∀ q ∈ l, q.Bd) (hn : l.length ≤ 1000000) :
    Calls Try.prog 57 #[r.val, .slice A l.length c] w fun e w' => e = .returned (gr r l).val ∧ Below w.heap.size w w' := by
  have HR := Lib.hid hR
  have HL := Lib.hid hl
  have HB := Lib.hid hr
  clear hR hl hr
  unfold Rat2.val
  go_enter Try.func57, Try.ntmps57
  go_wp2
  have hb1 : Below w.heap.size w ((w.alloc (.cells #[.int .i64 r.num, .int .i64 r.den] 43)).alloc (.cells #[.int .i64 0, .int .i64 0] 43)) := by repeat (first | exact Below.refl _ _ | exact Below.refl _ _ | refine Below.drew ?_ | refine below_drewN ?_ _ | refine Below.setCell ?_ (by first | assumption | omega | (simp; done) | (simp; omega) | (simp at *; omega)) _ | refine Below.alloc ?_ (by first | assumption | omega | (simp; done) | (simp; omega) | (simp at *; omega)) _ | refine Below.trans ?_ (Below.mono Below.refl _ _ (by first | assumption | omega | (simp; done) | (simp; omega) | (simp at *; omega))))
  have hx1 : Blk ((w.alloc (.cells #[.int .i64 r.num, .int .i64 r.den] 43)).alloc (.cells #[.int .i64 0, .int .i64 0] 43)) w.heap.size 43 #[.int .i64 r.num, .int .i64 r.den] := (Blk.new _ _ _).alloc _
  have hy1 : Blk ((w.alloc (.cells #[.int .i64 r.num, .int .i64 r.den] 43)).alloc (.cells #[.int .i64 0, .int .i64 0] 43)) (w.heap.size + 1) 43 #[.int .i64 0, .int .i64 0] := by
    have := Blk.new (w.alloc (.cells #[.int .i64 r.num, .int .i64 r.den] 43)) 43 #[.int .i64 0, .int .i64 0]
    rwa [World.size_alloc] at this
  generalize (w.alloc (.cells #[.int .i64 r.num, .int .i64 r.den] 43)).alloc (.cells #[.int .i64 0, .int .i64 0] 43) = w1 at hb1 hx1 hy1 ⊢
  go_loopw [9] (fun i wr => ∃ k : Nat, k ≤ l.length ∧ i = .int .i64 k ∧ Below w.heap.size w wr ∧ Blk wr w.heap.size 43 #[.int .i64 (gr r (l.take k)).num, .int .i64 (gr r (l.take k)).den] ∧ Blk wr (w.heap.size + 1) 43 #[.int .i64 0, .int .i64 0]) (fun i _ => l.length - (intOf i).toNat)
  case atStart => exact ⟨0, by omega, rfl, hb1, by rw [List.take_zero]; exact hx1, hy1⟩
  case round =>
    clear hb1 hx1 hy1
    obtain ⟨k, hk, rfl, hB, hX, hY⟩ := hrel
    by_cases hlt : k < l.length
    · obtain ⟨b0, o0, x, rfl, hB0, hx, x0, x1⟩ := (HR.out.below hB).rat k hlt
      have hB1 : b0 < wr.heap.size := Nat.lt_of_lt_of_le hB0 hB.size
      have hxb : x.Bd := by rw [← hx]; exact HL.out _ (List.getElem_mem _)
      have hgb : (gr r (l.take k)).Bd := gr_bd _ _ HB.out (fun q hq => HL.out q (List.mem_of_mem_take hq))
      have HS := Lib.hid (gr_snoc r l k hlt x hx)
      have HAB := Lib.hid (fun V => above_any x (gr r (l.take k)) V (prod_bd hxb hgb) (prod_bd hgb hxb))
      generalize hgk : gr r (l.take k) = q at hX HS HAB
      have c0 := hX.cell 0
      have c1 := hX.cell 1
      simp only [List.getElem?_toArray, List.getElem?_cons_zero, List.getElem?_cons_succ] at c0 c1
      have hwl := hX.lt
      have hyl := hY.lt
      have HX := Lib.hid hX
      have HY := Lib.hid hY
      have HZ := hB.size
      clear hx hX hY hxb hgb hgk
      go_wp2_with fail
      refine (HAB.out _).mono ?_
      rintro e w4 ⟨rfl, hb4⟩
      have hB5 : Below wr.heap.size wr w4 := ((Below.refl _ _).alloc (Nat.le_refl _) _).trans (hb4.mono (by simp))
      have hB4 : Below w.heap.size w w4 := hB.trans (hB5.mono HZ)
      have hX4 := HX.out.later hB5
      have hY4 := HY.out.later hB5
      have hv4 : Blk w4 wr.heap.size 43 #[.int .i64 x.num, .int .i64 x.den] := (Blk.new wr 43 _).later hb4
      have v0 := hv4.cell 0
      have v1 := hv4.cell 1
      have d0 := hX4.cell 0
      have d1 := hX4.cell 1
      have f0 := hX4.frozen 0
      have f1 := hX4.frozen 1
      simp only [List.getElem?_toArray, List.getElem?_cons_zero, List.getElem?_cons_succ] at v0 v1 d0 d1
      have HX4 := Lib.hid hX4
      have HY4 := Lib.hid hY4
      clear hX4 hY4 hv4 x0 x1 c0 c1 hb4 HX HY HAB
      cases hab : aboveB x q
      · have hs : gr r (l.take (k + 1)) = q := by rw [HS.out]; unfold grStep; rw [hab]; rfl
        have HSS := Lib.hid hs
        clear hab hs HS
        go_wp2
        go_roundw
        case rel => exact ⟨k + 1, by omega, by go_num, hB4, by rw [HSS.out]; exact HX4.out, HY4.out⟩
        case measure => simp [intOf]; omega
      · have hs : gr r (l.take (k + 1)) = x := by rw [HS.out]; unfold grStep; rw [hab]; rfl
        have HSS := Lib.hid hs
        clear hab hs HS
        go_wp2
        go_roundw
        case rel =>
          refine ⟨k + 1, by omega, by go_num, ((hB4.setCell (p := ⟨w.heap.size, 0, none⟩) (by simp) _).setCell (p := ⟨w.heap.size, 1, none⟩) (by simp) _), ?_, (HY4.out.far (p := ⟨w.heap.size, 0, none⟩) (by simp) _).far (p := ⟨w.heap.size, 1, none⟩) (by simp) _⟩
          rw [HSS.out]
          exact (HX4.out.set_ 0 _).set_ 1 _
        case measure => simp [intOf]; omega
    · obtain rfl : k = l.length := by omega
      rw [List.take_length] at hX
      have c0 := hX.cell 0
      have c1 := hX.cell 1
      have d0 := hY.cell 0
      have d1 := hY.cell 1
      have f0 := hY.frozen 0
      have f1 := hY.frozen 1
      simp only [List.getElem?_toArray, List.getElem?_cons_zero, List.getElem?_cons_succ] at c0 c1 d0 d1
      have HY := Lib.hid hY
      have HX := Lib.hid hX
      clear hX hY
      go_wp2
      refine bodyPost_ret (v := (gr r l).val) ?_ rfl ⟨rfl, (hB.setCell (p := ⟨w.heap.size + 1, 0, none⟩) (by simp) _).setCell (p := ⟨w.heap.size + 1, 1, none⟩) (by simp) _⟩
      have hY2 := (HY.out.set_ 0 (.int .i64 (gr r l).num)).set_ 1 (.int .i64 (gr r l).den)
      have e0 := hY2.cell 0
      have e1 := hY2.cell 1
      simp only [List.setIfInBounds_toArray, List.set_cons_zero, List.set_cons_succ, List.getElem?_toArray, List.getElem?_cons_zero, List.getElem?_cons_succ] at e0 e1
      unfold Rat2.val
      simp [results, Try.results57, go_sem, e0, e1]
end Go.Proofs.Ytjihnnbpfdhceaa
