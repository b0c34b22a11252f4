/- laurellaw08.clash, agree's parts. Conditions: none beyond those that each theorem names. -/
import Derived.Test.YtjihnnbpfdhceaaB6
import Derived.Test.YtjihnnbpfdhceaaM1
set_option linter.unusedSimpArgs false
set_option linter.unusedVariables false
namespace Go.Proofs.Ytjihnnbpfdhceaa
open Go.RowKit Go.Shelf
attribute [local go_sem] Oper.semAt_some
attribute [local go_sem ↓] Go.wp_at_zero Go.wp_at_succ

theorem clash_iff (h : Hs) (x y : Wg) (hx : x.Ok) (hy : y.Ok) : h.clash x y = (h.under x.month y.month && decide (y.mhi * x.shi < x.mlo * y.slo)) := by
  unfold Hs.clash
  congr 1
  rw [Bool.eq_iff_iff, aboveB_true, decide_eq_true_eq]
  unfold Wg.least Wg.most
  rw [rle_lowest_l hx.mlo1 hx.shi1]
  obtain ⟨g, hg, e1, e2, _⟩ := lowest_spec y.mhi y.slo hy.mhi1 hy.slo1
  generalize lowest y.mhi y.slo = q at e1 e2 ⊢
  rw [← e1, ← e2, Int.mul_right_comm, ← Int.mul_assoc]
  constructor
  · intro h1
    exact Int.mul_lt_mul_of_pos_right (by omega) (by omega)
  · intro h1 h2
    have := Int.mul_le_mul_of_nonneg_right h2 (show 0 ≤ g by omega)
    omega

/-- The five cells of a weighing, in each world in which they lie unturned. -/
def WgCells (b o : Nat) (x : Wg) (w : World) : Prop := w.cell? ⟨b, o, none⟩ = some (.int .i64 x.month) ∧ w.cell? ⟨b, o + 1, none⟩ = some (.int .i64 x.slo) ∧
      w.cell? ⟨b, o + 2, none⟩ = some (.int .i64 x.shi) ∧ w.cell? ⟨b, o + 3, none⟩ = some (.int .i64 x.mlo) ∧ w.cell? ⟨b, o + 4, none⟩ = some (.int .i64 x.mhi)
theorem RowIn.wgs {B : Nat} {w : World} {A : Option Addr} {ws : List Wg} (h : RowIn Wg.enc 5 w B A ws) (i : Nat) (hi : i < ws.length) :
    ∃ b o x, A = some ⟨b, o, none⟩ ∧ b < B ∧ ws[i] = x ∧ ∀ w', Below B w w' → WgCells b (o + i * 5) x w' := by
  obtain ⟨b, o, hA, hb, hc⟩ := h i hi
  exact ⟨b, o, ws[i], hA, hb, rfl, fun w' hw => ⟨(hw.cell (p := ⟨b, _, none⟩) hb).trans (hc 0 _ rfl), (hw.cell (p := ⟨b, _, none⟩) hb).trans (hc 1 _ rfl), (hw.cell (p := ⟨b, _, none⟩) hb).trans (hc 2 _ rfl), (hw.cell (p := ⟨b, _, none⟩) hb).trans (hc 3 _ rfl), (hw.cell (p := ⟨b, _, none⟩) hb).trans (hc 4 _ rfl)⟩⟩

set_option maxRecDepth 100000 in
set_option maxHeartbeats 1000000 in
theorem lawclash_any (h : Hs) (A : Option Addr) (c : Nat) (a b : Nat) (w : World) (hr : RowIn Wg.enc 5 w w.heap.size A h.ws) (hok : ∀ x ∈ h.ws, x.Ok) (ha : a < h.ws.length) (hb : b < h.ws.length) (hl : h.ws.length ≤ 1000000) :
    Calls Try.prog 12 #[h.val A c, .int .i64 a, .int .i64 b] w fun e w' => e = .returned (.bool (h.clash h.ws[a] h.ws[b])) ∧ Below w.heap.size w w' := by
  rw [clash_iff _ _ _ (hok _ (List.getElem_mem _)) (hok _ (List.getElem_mem _))]
  have HR := Lib.hid hr
  clear hr
  obtain ⟨b1, o1, x, rfl, hB1, hx, hxc⟩ := HR.out.wgs a ha
  obtain ⟨b2, o2, y, hA, hB2, hy, hyc⟩ := HR.out.wgs b hb
  injection hA with hA
  injection hA with hA1 hA2
  subst hA1
  subst hA2
  have hxo := hok _ (List.getElem_mem ha)
  have hyo := hok _ (List.getElem_mem hb)
  rw [hx] at hxo
  rw [hy] at hyo
  rw [hx, hy]
  clear hx hy
  obtain ⟨p1, p2, p3, p4, p5, p6, p7, p8⟩ := hxo
  obtain ⟨q1, q2, q3, q4, q5, q6, q7, q8⟩ := hyo
  have m1 := mul_bd (x := x.mlo) (y := y.slo) (M := 1000) (N := 1000) (by omega) p6 (by omega) q2
  have m2 := mul_bd (x := y.mhi) (y := x.shi) (M := 1000) (N := 1000) (by omega) q8 (by omega) p4
  obtain ⟨m1, m1'⟩ := m1
  obtain ⟨m2, m2'⟩ := m2
  have HU := Lib.hid (fun V => lawunder_any h (some ⟨b1, o1, none⟩) c x.month y.month V)
  unfold Hs.val
  go_enter Try.func12, Try.ntmps12
  go_wp2
  have hb0 := alc w (.cells #[.int .i64 h.months, .int .i64 h.peak, .slice (some ⟨b1, o1, none⟩) h.ws.length c] 25)
  have HH := Lib.hid (Blk.new w 25 #[.int .i64 h.months, .int .i64 h.peak, .slice (some ⟨b1, o1, none⟩) h.ws.length c])
  have hB1' : b1 < (w.alloc (.cells #[.int .i64 h.months, .int .i64 h.peak, .slice (some ⟨b1, o1, none⟩) h.ws.length c] 25)).heap.size := by simp; omega
  have hB2' : b1 < (w.alloc (.cells #[.int .i64 h.months, .int .i64 h.peak, .slice (some ⟨b1, o1, none⟩) h.ws.length c] 25)).heap.size + 1 := by simp; omega
  obtain ⟨x0, x1, x2, x3, x4⟩ := hxc _ hb0
  obtain ⟨y0, y1, y2, y3, y4⟩ := hyc _ hb0
  have HXC := Lib.hid hxc
  have HYC := Lib.hid hyc
  clear hxc hyc
  generalize w.alloc (.cells #[.int .i64 h.months, .int .i64 h.peak, .slice (some ⟨b1, o1, none⟩) h.ws.length c] 25) = w1 at hb0 HH x0 x1 x2 x3 x4 y0 y1 y2 y3 y4 hB1' hB2' ⊢
  have c0 := Blk.cell HH.out 0
  have c1 := Blk.cell HH.out 1
  have c2 := Blk.cell HH.out 2
  have cf0 := Blk.frozen HH.out 0
  have cf1 := Blk.frozen HH.out 1
  have cf2 := Blk.frozen HH.out 2
  have cl := Blk.lt HH.out
  simp only [List.getElem?_toArray, List.getElem?_cons_zero, List.getElem?_cons_succ] at c0 c1 c2
  go_region
  · have HX := Lib.hid (((Blk.new w1 55 #[.int .i64 x.month, .int .i64 x.slo, .int .i64 x.shi, .int .i64 x.mlo, .int .i64 x.mhi]).alloc (.cells #[.int .i64 y.month, .int .i64 y.slo, .int .i64 y.shi, .int .i64 y.mlo, .int .i64 y.mhi] 55)).drew)
    have HY := Lib.hid ((Blk.new (w1.alloc (.cells #[.int .i64 x.month, .int .i64 x.slo, .int .i64 x.shi, .int .i64 x.mlo, .int .i64 x.mhi] 55)) 55 #[.int .i64 y.month, .int .i64 y.slo, .int .i64 y.shi, .int .i64 y.mlo, .int .i64 y.mhi]).drew)
    rw [World.size_alloc] at HY
    have hb1 : Below w.heap.size w (((w1.alloc (.cells #[.int .i64 x.month, .int .i64 x.slo, .int .i64 x.shi, .int .i64 x.mlo, .int .i64 x.mhi] 55)).alloc (.cells #[.int .i64 y.month, .int .i64 y.slo, .int .i64 y.shi, .int .i64 y.mlo, .int .i64 y.mhi] 55)).drew) := Below.step hb0 (Below.drew (Below.step (alc _ _) (alc _ _)))
    have hH1 := Lib.hid ((((HH.out.alloc (.cells #[.int .i64 x.month, .int .i64 x.slo, .int .i64 x.shi, .int .i64 x.mlo, .int .i64 x.mhi] 55)).alloc (.cells #[.int .i64 y.month, .int .i64 y.slo, .int .i64 y.shi, .int .i64 y.mlo, .int .i64 y.mhi] 55)).drew))
    go_wp2_with fail
    generalize ((w1.alloc (.cells #[.int .i64 x.month, .int .i64 x.slo, .int .i64 x.shi, .int .i64 x.mlo, .int .i64 x.mhi] 55)).alloc (.cells #[.int .i64 y.month, .int .i64 y.slo, .int .i64 y.shi, .int .i64 y.mlo, .int .i64 y.mhi] 55)).drew = w2 at HX HY hb1 hH1 ⊢
    refine (HU.out _).mono ?_
    rintro e w3 ⟨rfl, hb2⟩
    have hB3 := Below.step hb1 hb2
    have ehb2 := Lib.hid (Blk.later HX.out hb2)
    clear HX
    have HX := ehb2
    clear ehb2
    have ehb2 := Lib.hid (Blk.later HY.out hb2)
    clear HY
    have HY := ehb2
    clear ehb2
    clear hb2 hb1
    cases hu : h.under x.month y.month
    · have HU2 := Lib.hid hu
      clear hu
      go_wp2
      go_ret
      exact ⟨ret_bool (by simp [HU2.out]), hB3⟩
    · have HU2 := Lib.hid hu
      clear hu
      clear c0 c1 c2 cf0 cf1 cf2 cl
      clear x0 x1 x2 x3 x4 y0 y1 y2 y3 y4
      have x0 := Blk.cell HX.out 0
      have x1 := Blk.cell HX.out 1
      have x2 := Blk.cell HX.out 2
      have x3 := Blk.cell HX.out 3
      have x4 := Blk.cell HX.out 4
      have xf0 := Blk.frozen HX.out 0
      have xf1 := Blk.frozen HX.out 1
      have xf2 := Blk.frozen HX.out 2
      have xf3 := Blk.frozen HX.out 3
      have xf4 := Blk.frozen HX.out 4
      have xl := Blk.lt HX.out
      simp only [List.getElem?_toArray, List.getElem?_cons_zero, List.getElem?_cons_succ] at x0 x1 x2 x3 x4
      have y0 := Blk.cell HY.out 0
      have y1 := Blk.cell HY.out 1
      have y2 := Blk.cell HY.out 2
      have y3 := Blk.cell HY.out 3
      have y4 := Blk.cell HY.out 4
      have yf0 := Blk.frozen HY.out 0
      have yf1 := Blk.frozen HY.out 1
      have yf2 := Blk.frozen HY.out 2
      have yf3 := Blk.frozen HY.out 3
      have yf4 := Blk.frozen HY.out 4
      have yl := Blk.lt HY.out
      simp only [List.getElem?_toArray, List.getElem?_cons_zero, List.getElem?_cons_succ] at y0 y1 y2 y3 y4
      go_wp2
      all_goals go_ret
      all_goals exact ⟨ret_bool (by first | (simp [HU2.out]; done) | (simp [HU2.out]; omega)), hB3⟩
  · have HY := Lib.hid (((Blk.new w1 55 #[.int .i64 y.month, .int .i64 y.slo, .int .i64 y.shi, .int .i64 y.mlo, .int .i64 y.mhi]).alloc (.cells #[.int .i64 x.month, .int .i64 x.slo, .int .i64 x.shi, .int .i64 x.mlo, .int .i64 x.mhi] 55)).drew)
    have HX := Lib.hid ((Blk.new (w1.alloc (.cells #[.int .i64 y.month, .int .i64 y.slo, .int .i64 y.shi, .int .i64 y.mlo, .int .i64 y.mhi] 55)) 55 #[.int .i64 x.month, .int .i64 x.slo, .int .i64 x.shi, .int .i64 x.mlo, .int .i64 x.mhi]).drew)
    rw [World.size_alloc] at HX
    have hb1 : Below w.heap.size w (((w1.alloc (.cells #[.int .i64 y.month, .int .i64 y.slo, .int .i64 y.shi, .int .i64 y.mlo, .int .i64 y.mhi] 55)).alloc (.cells #[.int .i64 x.month, .int .i64 x.slo, .int .i64 x.shi, .int .i64 x.mlo, .int .i64 x.mhi] 55)).drew) := Below.step hb0 (Below.drew (Below.step (alc _ _) (alc _ _)))
    have hH1 := Lib.hid ((((HH.out.alloc (.cells #[.int .i64 y.month, .int .i64 y.slo, .int .i64 y.shi, .int .i64 y.mlo, .int .i64 y.mhi] 55)).alloc (.cells #[.int .i64 x.month, .int .i64 x.slo, .int .i64 x.shi, .int .i64 x.mlo, .int .i64 x.mhi] 55)).drew))
    go_wp2_with fail
    generalize ((w1.alloc (.cells #[.int .i64 y.month, .int .i64 y.slo, .int .i64 y.shi, .int .i64 y.mlo, .int .i64 y.mhi] 55)).alloc (.cells #[.int .i64 x.month, .int .i64 x.slo, .int .i64 x.shi, .int .i64 x.mlo, .int .i64 x.mhi] 55)).drew = w2 at HX HY hb1 hH1 ⊢
    refine (HU.out _).mono ?_
    rintro e w3 ⟨rfl, hb2⟩
    have hB3 := Below.step hb1 hb2
    have ehb2 := Lib.hid (Blk.later HX.out hb2)
    clear HX
    have HX := ehb2
    clear ehb2
    have ehb2 := Lib.hid (Blk.later HY.out hb2)
    clear HY
    have HY := ehb2
    clear ehb2
    clear hb2 hb1
    cases hu : h.under x.month y.month
    · have HU2 := Lib.hid hu
      clear hu
      go_wp2
      go_ret
      exact ⟨ret_bool (by simp [HU2.out]), hB3⟩
    · have HU2 := Lib.hid hu
      clear hu
      clear c0 c1 c2 cf0 cf1 cf2 cl
      clear x0 x1 x2 x3 x4 y0 y1 y2 y3 y4
      have x0 := Blk.cell HX.out 0
      have x1 := Blk.cell HX.out 1
      have x2 := Blk.cell HX.out 2
      have x3 := Blk.cell HX.out 3
      have x4 := Blk.cell HX.out 4
      have xf0 := Blk.frozen HX.out 0
      have xf1 := Blk.frozen HX.out 1
      have xf2 := Blk.frozen HX.out 2
      have xf3 := Blk.frozen HX.out 3
      have xf4 := Blk.frozen HX.out 4
      have xl := Blk.lt HX.out
      simp only [List.getElem?_toArray, List.getElem?_cons_zero, List.getElem?_cons_succ] at x0 x1 x2 x3 x4
      have y0 := Blk.cell HY.out 0
      have y1 := Blk.cell HY.out 1
      have y2 := Blk.cell HY.out 2
      have y3 := Blk.cell HY.out 3
      have y4 := Blk.cell HY.out 4
      have yf0 := Blk.frozen HY.out 0
      have yf1 := Blk.frozen HY.out 1
      have yf2 := Blk.frozen HY.out 2
      have yf3 := Blk.frozen HY.out 3
      have yf4 := Blk.frozen HY.out 4
      have yl := Blk.lt HY.out
      simp only [List.getElem?_toArray, List.getElem?_cons_zero, List.getElem?_cons_succ] at y0 y1 y2 y3 y4
      go_wp2
      all_goals go_ret
      all_goals exact ⟨ret_bool (by first | (simp [HU2.out]; done) | (simp [HU2.out]; omega)), hB3⟩
end Go.Proofs.Ytjihnnbpfdhceaa
