/- laurellaw08.clash, agree's parts. Conditions: none beyond those that each theorem names. -/
import Derived.Test.YtjihnnbpfdhceaaGBoilGrown20
import Derived.Test.YtjihnnbpfdhceaaGBoilGrown21
set_option linter.unusedSimpArgs false
set_option linter.unusedVariables false
namespace Go.Proofs.Ytjihnnbpfdhceaa
open Go.RowKit Go.Shelf
attribute [local go_sem] Oper.semAt_some
attribute [local go_sem ↓] Go.wp_at_zero Go.wp_at_succ

theorem clash_iff (h : Hs) (x y : Wg) (hx : x.Ok) (hy : y.Ok) : h.clash x y = (h.under x.month y.month && decide (y.mhi * x.shi < x.mlo * y.slo)) := by
  unfold Hs.clash
  congr 1
  rw [Bool.eq_iff_iff, aboveB_true, decide_eq_true_eq]
  unfold Wg.least Wg.most
  rw [rle_lowest_l hx.mlo1 hx.shi1]
  obtain ⟨g, hg, e1, e2, _⟩ := lowest_spec y.mhi y.slo hy.mhi1 hy.slo1
  generalize lowest y.mhi y.slo = q at e1 e2 ⊢
  rw [← e1, ← e2, Int.mul_right_comm, ← Int.mul_assoc]
  constructor
  · intro h1
    exact Int.mul_lt_mul_of_pos_right (by omega) (by omega)
  · intro h1 h2
    have := Int.mul_le_mul_of_nonneg_right h2 (show 0 ≤ g by omega)
    omega

/-- The five cells of a weighing, in each world in which they lie unturned. -/
def WgCells (b o : Nat) (x : Wg) (w : World) : Prop := w.cell? ⟨b, o, none⟩ = some (.int .i64 x.month) ∧ w.cell? ⟨b, o + 1, none⟩ = some (.int .i64 x.slo) ∧
      w.cell? ⟨b, o + 2, none⟩ = some (.int .i64 x.shi) ∧ w.cell? ⟨b, o + 3, none⟩ = some (.int .i64 x.mlo) ∧ w.cell? ⟨b, o + 4, none⟩ = some (.int .i64 x.mhi)
theorem RowIn.wgs {B : Nat} {w : World} {A : Option Addr} {ws : List Wg} (h : RowIn Wg.enc 5 w B A ws) (i : Nat) (hi : i < ws.length) :
    ∃ b o x, A = some ⟨b, o, none⟩ ∧ b < B ∧ ws[i] = x ∧ ∀ w', Below B w w' → WgCells b (o + i * 5) x w' := by
  obtain ⟨b, o, hA, hb, hc⟩ := h i hi
  exact ⟨b, o, ws[i], hA, hb, rfl, fun w' hw => ⟨(hw.cell (p := ⟨b, _, none⟩) hb).trans (hc 0 _ rfl), (hw.cell (p := ⟨b, _, none⟩) hb).trans (hc 1 _ rfl), (hw.cell (p := ⟨b, _, none⟩) hb).trans (hc 2 _ rfl), (hw.cell (p := ⟨b, _, none⟩) hb).trans (hc 3 _ rfl), (hw.cell (p := ⟨b, _, none⟩) hb).trans (hc 4 _ rfl)⟩⟩

set_option maxRecDepth 100000 in
set_option maxHeartbeats 1000000 in
theorem lawclash_any (h : Hs) (A : Option Addr) (c : Nat) (a b : Nat) (w : World) (hr : RowIn Wg.enc 5 w w.heap.size A h.ws) (hok : ∀ x ∈ h.ws, x.Ok) (ha : a < h.ws.length) (hb : b < h.ws.length) (hl : h.ws.length ≤ 1000000) :
    Calls Try.prog 12 #[h.val A c, .int .i64 a, .int .i64 b] w fun e w' => e = .returned (.bool (h.clash h.ws[a] h.ws[b])) ∧ Below w.heap.size w w' := by
  rw [clash_iff _ _ _ (hok _ (List.getElem_mem _)) (hok _ (List.getElem_mem _))]
  have HR := Lib.hid hr
  clear hr
  obtain ⟨b1, o1, x, rfl, hB1, hx, hxc⟩ := HR.out.wgs a ha
  obtain ⟨b2, o2, y, hA, hB2, hy, hyc⟩ := HR.out.wgs b hb
  injection hA with hA
  injection hA with hA1 hA2
  subst hA1
  subst hA2
  have hxo := hok _ (List.getElem_mem ha)
  have hyo := hok _ (List.getElem_mem hb)
  rw [hx] at hxo
  rw [hy] at hyo
  rw [hx, hy]
  clear hx hy
  obtain ⟨p1, p2, p3, p4, p5, p6, p7, p8⟩ := hxo
  obtain ⟨q1, q2, q3, q4, q5, q6, q7, q8⟩ := hyo
  have m1 := mul_bd (x := x.mlo) (y := y.slo) (M := 1000) (N := 1000) (by omega) p6 (by omega) q2
  have m2 := mul_bd (x := y.mhi) (y := x.shi) (M := 1000) (N := 1000) (by omega) q8 (by omega) p4
  obtain ⟨m1, m1'⟩ := m1
  obtain ⟨m2, m2'⟩ := m2
  have HU := Lib.hid (fun V => lawunder_any h (some ⟨b1, o1, none⟩) c x.month y.month V)
  unfold Hs.val
  go_enter Try.func12, Try.ntmps12
  go_wp2
  have hb0 := alc w (.cells #[.int .i64 h.months, .int .i64 h.peak, .slice (some ⟨b1, o1, none⟩) h.ws.length c] 25)
  have HH := Lib.hid (Blk.new w 25 #[.int .i64 h.months, .int .i64 h.peak, .slice (some ⟨b1, o1, none⟩) h.ws.length c])
  have hB1' : b1 < (w.alloc (.cells #[.int .i64 h.months, .int .i64 h.peak, .slice (some ⟨b1, o1, none⟩) h.ws.length c] 25)).heap.size := by simp; omega
  have hB2' : b1 < (w.alloc (.cells #[.int .i64 h.months, .int .i64 h.peak, .slice (some ⟨b1, o1, none⟩) h.ws.length c] 25)).heap.size + 1 := by simp; omega
  obtain ⟨x0, x1, x2, x3, x4⟩ := hxc _ hb0
  obtain ⟨y0, y1, y2, y3, y4⟩ := hyc _ hb0
  have HXC := Lib.hid hxc
  have HYC := Lib.hid hyc
  clear hxc hyc
  generalize w.alloc (.cells #[.int .i64 h.months, .int .i64 h.peak, .slice (some ⟨b1, o1, none⟩) h.ws.length c] 25) = w1 at hb0 HH x0 x1 x2 x3 x4 y0 y1 y2 y3 y4 hB1' hB2' ⊢
  have c0 := Blk.cell HH.out 0
  have c1 := Blk.cell HH.out 1
  have c2 := Blk.cell HH.out 2
  have cf0 := Blk.frozen HH.out 0
  have cf1 := Blk.frozen HH.out 1
  have cf2 := Blk.frozen HH.out 2
  have cl := Blk.lt HH.out
  simp only [List.getElem?_toArray, List.getElem?_cons_zero, List.getElem?_cons_succ] at c0 c1 c2
  go_region
  · have HX := Lib.hid (((Blk.new w1 55 #[.int .i64 x.month, .int .i64 x.slo, .int .i64 x.shi, .int .i64 x.mlo, .int .i64 x.mhi]).alloc (.cells #[.int .i64 y.month, .int .i64 y.slo, .int .i64 y.shi, .int .i64 y.mlo, .int .i64 y.mhi] 55)).drew)
    have HY := Lib.hid ((Blk.new (w1.alloc (.cells #[.int .i64 x.month, .int .i64 x.slo, .int .i64 x.shi, .int .i64 x.mlo, .int .i64 x.mhi] 55)) 55 #[.int .i64 y.month, .int .i64 y.slo, .int .i64 y.shi, .int .i64 y.mlo, .int .i64 y.mhi]).drew)
    rw [World.size_alloc] at HY
    have hb1 : Below w.heap.size w (((w1.alloc (.cells #[.int .i64 x.month, .int .i64 x.slo, .int .i64 x.shi, .int .i64 x.mlo, .int .i64 x.mhi] 55)).alloc (.cells #[.int .i64 y.month, .int .i64 y.slo, .int .i64 y.shi, .int .i64 y.mlo, .int .i64 y.mhi] 55)).drew) := Below.step hb0 (Below.drew (Below.step (alc _ _) (alc _ _)))
    have hH1 := Lib.hid ((((HH.out.alloc (.cells #[.int .i64 x.month, .int .i64 x.slo, .int .i64 x.shi, .int .i64 x.mlo, .int .i64 x.mhi] 55)).alloc (.cells #[.int .i64 y.month, .int .i64 y.slo, .int .i64 y.shi, .int .i64 y.mlo, .int .i64 y.mhi] 55)).drew))
    go_wp2_with fail
    generalize ((w1.alloc (.cells #[.int .i64 x.month, .int .i64 x.slo, .int .i64 x.shi, .int .i64 x.mlo, .int .i64 x.mhi] 55)).alloc (.cells #[.int .i64 y.month, .int .i64 y.slo, .int .i64 y.shi, .int .i64 y.mlo, .int .i64 y.mhi] 55)).drew = w2 at HX HY hb1 hH1 ⊢
    refine (HU.out _).mono ?_
    rintro e w3 ⟨rfl, hb2⟩
    have hB3 := Below.step hb1 hb2
    have ehb2 := Lib.hid (Blk.later HX.out hb2)
    clear HX
    have HX := ehb2
    clear ehb2
    have ehb2 := Lib.hid (Blk.later HY.out hb2)
    clear HY
    have HY := ehb2
    clear ehb2
    clear hb2 hb1
    cases hu : h.under x.month y.month
    · have HU2 := Lib.hid hu
      clear hu
      go_wp2
      go_ret
      exact ⟨ret_bool (by simp [HU2.out]), hB3⟩
    · have HU2 := Lib.hid hu
      clear hu
      clear c0 c1 c2 cf0 cf1 cf2 cl
      clear x0 x1 x2 x3 x4 y0 y1 y2 y3 y4
      have x0 := Blk.cell HX.out 0
      have x1 := Blk.cell HX.out 1
      have x2 := Blk.cell HX.out 2
      have x3 := Blk.cell HX.out 3
      have x4 := Blk.cell HX.out 4
      have xf0 := Blk.frozen HX.out 0
      have xf1 := Blk.frozen HX.out 1
      have xf2 := Blk.frozen HX.out 2
      have xf3 := Blk.frozen HX.out 3
      have xf4 := Blk.frozen HX.out 4
      have xl := Blk.lt HX.out
      simp only [List.getElem?_toArray, List.getElem?_cons_zero, List.getElem?_cons_succ] at x0 x1 x2 x3 x4
      have y0 := Blk.cell HY.out 0
      have y1 := Blk.cell HY.out 1
      have y2 := Blk.cell HY.out 2
      have y3 := Blk.cell HY.out 3
      have y4 := Blk.cell HY.out 4
      have yf0 := Blk.frozen HY.out 0
      have yf1 := Blk.frozen HY.out 1
      have yf2 := Blk.frozen HY.out 2
      have yf3 := Blk.frozen HY.out 3
      have yf4 := Blk.frozen HY.out 4
      have yl := Blk.lt HY.out
      simp only [List.getElem?_toArray, List.getElem?_cons_zero, List.getElem?_cons_succ] at y0 y1 y2 y3 y4
      go_wp2
      all_goals go_ret
      all_goals exact ⟨ret_bool (by first | (simp [HU2.out]; done) | (simp [HU2.out]; omega)), hB3⟩
  · have HY := Lib.hid (((Blk.new w1 55 #[.int .i64 y.month, .int .i64 y.slo, .int .i64 y.shi, .int .i64 y.mlo, .int .i64 y.mhi]).alloc (.cells #[.int .i64 x.month, .int .i64 x.slo, .int .i64 x.shi, .int .i64 x.mlo, .int .i64 x.mhi] 55)).drew)
    have HX := Lib.hid ((Blk.new (w1.alloc (.cells #[.int .i64 y.month, .int .i64 y.slo, .int .i64 y.shi, .int .i64 y.mlo, .int .i64 y.mhi] 55)) 55 #[.int .i64 x.month, .int .i64 x.slo, .int .i64 x.shi, .int .i64 x.mlo, .int .i64 x.mhi]).drew)
    rw [World.size_alloc] at HX
    have hb1 : Below w.heap.size w (((w1.alloc (.cells #[.int .i64 y.month, .int .i64 y.slo, .int .i64 y.shi, .int .i64 y.mlo, .int .i64 y.mhi] 55)).alloc (.cells #[.int .i64 x.month, .int .i64 x.slo, .int .i64 x.shi, .int .i64 x.mlo, .int .i64 x.mhi] 55)).drew) := Below.step hb0 (Below.drew (Below.step (alc _ _) (alc _ _)))
    have hH1 := Lib.hid ((((HH.out.alloc (.cells #[.int .i64 y.month, .int .i64 y.slo, .int .i64 y.shi, .int .i64 y.mlo, .int .i64 y.mhi] 55)).alloc (.cells #[.int .i64 x.month, .int .i64 x.slo, .int .i64 x.shi, .int .i64 x.mlo, .int .i64 x.mhi] 55)).drew))
    go_wp2_with fail
    generalize ((w1.alloc (.cells #[.int .i64 y.month, .int .i64 y.slo, .int .i64 y.shi, .int .i64 y.mlo, .int .i64 y.mhi] 55)).alloc (.cells #[.int .i64 x.month, .int .i64 x.slo, .int .i64 x.shi, .int .i64 x.mlo, .int .i64 x.mhi] 55)).drew = w2 at HX HY hb1 hH1 ⊢
    refine (HU.out _).mono ?_
    rintro e w3 ⟨rfl, hb2⟩
    have hB3 := Below.step hb1 hb2
    have ehb2 := Lib.hid (Blk.later HX.out hb2)
    clear HX
    have HX := ehb2
    clear ehb2
    have ehb2 := Lib.hid (Blk.later HY.out hb2)
    clear HY
    have HY := ehb2
    clear ehb2
    clear hb2 hb1
    cases hu : h.under x.month y.month
    · have HU2 := Lib.hid hu
      clear hu
      go_wp2
      go_ret
      exact ⟨ret_bool (by simp [HU2.out]), hB3⟩
    · have HU2 := Lib.hid hu
      clear hu
      clear c0 c1 c2 cf0 cf1 cf2 cl
      clear x0 x1 x2 x3 x4 y0 y1 y2 y3 y4
      have x0 := Blk.cell HX.out 0
      have x1 := Blk.cell HX.out 1
      have x2 := Blk.cell HX.out 2
      have x3 := Blk.cell HX.out 3
      have x4 := Blk.cell HX.out 4
      have xf0 := Blk.frozen HX.out 0
      have xf1 := Blk.frozen HX.out 1
      have xf2 := Blk.frozen HX.out 2
      have xf3 := Blk.frozen HX.out 3
      have xf4 := Blk.frozen HX.out 4
      have xl := Blk.lt HX.out
      simp only [List.getElem?_toArray, List.getElem?_cons_zero, List.getElem?_cons_succ] at x0 x1 x2 x3 x4
      have y0 := Blk.cell HY.out 0
      have y1 := Blk.cell HY.out 1
      have y2 := Blk.cell HY.out 2
      have y3 := Blk.cell HY.out 3
      have y4 := Blk.cell HY.out 4
      have yf0 := Blk.frozen HY.out 0
      have yf1 := Blk.frozen HY.out 1
      have yf2 := Blk.frozen HY.out 2
      have yf3 := Blk.frozen HY.out 3
      have yf4 := Blk.frozen HY.out 4
      have yl := Blk.lt HY.out
      simp only [List.getElem?_toArray, List.getElem?_cons_zero, List.getElem?_cons_succ] at y0 y1 y2 y3 y4
      go_wp2
      all_goals go_ret
      all_goals exact ⟨ret_bool (by first | (simp [HU2.out]; done) | (simp [HU2.out]; omega)), hB3⟩
end Go.Proofs.Ytjihnnbpfdhceaa

/- Plain: houses that are made are right; to clash is an order; the first pair. No program in sight. -/
set_option linter.unusedSimpArgs false
set_option linter.unusedVariables false
namespace Go.Proofs.Ytjihnnbpfdhceaa

theorem clashM_in (h : Hs) {i j : Nat} (hi : i < h.ws.length) (hj : j < h.ws.length) : h.clashM i j = h.clash h.ws[i] h.ws[j] := by
  unfold Hs.clashM; simp [hi, hj]
theorem under_trans (h : Hs) {a b c : Int} (h1 : h.under a b = true) (h2 : h.under b c = true) : h.under a c = true := by
  unfold Hs.under at *
  simp at *
  omega
theorem under_peak (h : Hs) (a : Int) : h.under a h.peak = true := by
  unfold Hs.under; simp; omega
theorem under_antisymm (h : Hs) {a b : Int} (h1 : h.under a b = true) (h2 : h.under b a = true) : a = b := by
  unfold Hs.under at *
  simp at *
  omega
theorem under_refl (h : Hs) (a : Int) : h.under a a = true := by
  unfold Hs.under; simp; omega
/-- A weighing as Check wants it. -/
structure Wg.Good (x : Wg) : Prop where
  ok : x.Ok
  s : x.slo ≤ x.shi
  m : x.mlo ≤ x.mhi
theorem check_good {h : Hs} (hk : h.check = 0) : ∀ x ∈ h.ws, x.Good := by
  intro x hx
  refine ⟨check_ok hk x hx, ?_, ?_⟩ <;>
  · have h3 : h.ws.all Wg.ordered = true := by
      unfold Hs.check at hk
      cases h4 : h.ws.all Wg.ordered
      · rw [h4] at hk
        split at hk
        · omega
        · split at hk
          · omega
          · split at hk
            · omega
            · simp at hk
      · rfl
    have := List.all_eq_true.1 h3 x hx
    simp [Wg.ordered] at this
    omega
theorem check_peak {h : Hs} (hk : h.check = 0) : 0 ≤ h.peak ∧ h.peak < h.months := by
  unfold Hs.check at hk
  split at hk
  · omega
  · split at hk
    · omega
    · rename_i h2
      simp [Hs.month, inB] at h2
      omega
theorem check_wmonth {h : Hs} (hk : h.check = 0) : ∀ x ∈ h.ws, 0 ≤ x.month ∧ x.month < h.months := by
  intro x hx
  unfold Hs.check at hk
  split at hk
  · omega
  · split at hk
    · omega
    · rename_i h2
      simp [Hs.month, inB] at h2
      have := h2.2 x hx
      omega
theorem check_intro {h : Hs} (h1 : 1 ≤ h.months ∧ h.months ≤ 12) (h2 : h.ws.length ≤ 14) (h3 : 0 ≤ h.peak ∧ h.peak < h.months) (h4 : ∀ x ∈ h.ws, 0 ≤ x.month ∧ x.month < h.months) (h5 : ∀ x ∈ h.ws, x.Good) : h.check = 0 := by
  unfold Hs.check
  rw [if_neg, if_neg, if_neg, if_neg]
  · simp only [Bool.not_eq_true', Bool.not_eq_false, List.all_eq_true]
    intro x hx
    have := h5 x hx
    simp [Wg.ordered, this.s, this.m]
  · simp only [Bool.not_eq_true', Bool.not_eq_false, List.all_eq_true]
    intro x hx
    have := (h5 x hx).ok
    obtain ⟨a, b, c, d, e, f, g, i⟩ := this
    simp [Wg.measured, inB, a, b, c, d, e, f, g, i]
  · simp only [Bool.or_eq_true, Bool.not_eq_true', not_or, Bool.not_eq_false, List.all_eq_true]
    refine ⟨by simp [Hs.month, inB]; omega, fun x hx => ?_⟩
    have := h4 x hx
    simp [Hs.month, inB]; omega
  · simp [inB]
    omega
theorem MadeOk.good {h : Hs} {r : Nat → Rat2} {mo we : Nat} {wr : Int} (H : MadeOk h r mo we wr) : ∀ x ∈ h.ws, x.Good := by
  intro x hx
  obtain ⟨_, ⟨a, b, c⟩, ⟨d, e, f⟩, _⟩ := H.ws x hx
  exact ⟨⟨by omega, by omega, by omega, by omega, by omega, by omega, by omega, by omega⟩, b, e⟩
theorem MadeOk.check {h : Hs} {r : Nat → Rat2} {mo we : Nat} {wr : Int} (H : MadeOk h r mo we wr) (h1 : mo ≤ 12) (h2 : we ≤ 14) : h.check = 0 :=
  check_intro ⟨H.mo.1, by have := H.mo.2; omega⟩ (by have := H.len; omega) H.pk (fun x hx => (H.ws x hx).1) H.good

theorem Wg.Good.least_le_most {x : Wg} (h : x.Good) : rle x.least x.most := by
  unfold Wg.least Wg.most
  rw [rle_lowest_l h.ok.mlo1 h.ok.shi1]
  obtain ⟨g, hg, e1, e2, _⟩ := lowest_spec x.mhi x.slo h.ok.mhi1 h.ok.slo1
  generalize lowest x.mhi x.slo = q at e1 e2 ⊢
  have h1 : x.mlo * x.slo ≤ x.mhi * x.shi := by
    have a1 := Int.mul_le_mul h.m h.s (by have := h.ok.slo1; omega) (by have := h.ok.mhi1; omega)
    exact a1
  rw [← e1, ← e2, Int.mul_right_comm, ← Int.mul_assoc] at h1
  exact Int.le_of_mul_le_mul_right h1 (by omega)
theorem Wg.Ok.least_pos {x : Wg} (h : x.Ok) : x.least.Pos := lowest_pos _ _ h.mlo1 h.shi1
theorem Wg.Ok.most_pos {x : Wg} (h : x.Ok) : x.most.Pos := lowest_pos _ _ h.mhi1 h.slo1
theorem clash_true {h : Hs} {x y : Wg} : h.clash x y = true ↔ h.under x.month y.month = true ∧ rlt y.most x.least := by
  unfold Hs.clash rlt
  rw [Bool.and_eq_true, aboveB_true]
theorem clash_trans {h : Hs} {x y z : Wg} (hx : x.Ok) (hy : y.Good) (hz : z.Ok) (h1 : h.clash x y = true) (h2 : h.clash y z = true) : h.clash x z = true := by
  rw [clash_true] at *
  refine ⟨under_trans h h1.1 h2.1, ?_⟩
  have a := rlt_of_lt_le hz.most_pos hy.ok.least_pos hy.ok.most_pos h2.2 hy.least_le_most
  exact rlt_of_lt_le hz.most_pos hy.ok.most_pos hx.least_pos a (rlt_le h1.2)
theorem clash_irrefl {h : Hs} {x : Wg} (hx : x.Good) : h.clash x x = false := by
  cases hc : h.clash x x
  · rfl
  · exact absurd hx.least_le_most (clash_true.1 hc).2
theorem clashM_trans {h : Hs} (hk : h.check = 0) {i j k : Nat} (h1 : h.clashM i j = true) (h2 : h.clashM j k = true) : h.clashM i k = true := by
  by_cases hi : i < h.ws.length
  · by_cases hj : j < h.ws.length
    · by_cases hl : k < h.ws.length
      · rw [clashM_in h hi hj] at h1
        rw [clashM_in h hj hl] at h2
        rw [clashM_in h hi hl]
        exact clash_trans (check_ok hk _ (List.getElem_mem _)) (check_good hk _ (List.getElem_mem _)) (check_ok hk _ (List.getElem_mem _)) h1 h2
      · unfold Hs.clashM at h2; simp [hl] at h2
    · unfold Hs.clashM at h2; simp [hj] at h2
  · unfold Hs.clashM at h1; simp [hi] at h1
theorem clashM_irrefl {h : Hs} (hk : h.check = 0) (i : Nat) : h.clashM i i = false := by
  by_cases hi : i < h.ws.length
  · rw [clashM_in h hi hi]; exact clash_irrefl (check_good hk _ (List.getElem_mem _))
  · unfold Hs.clashM; simp [hi]
theorem clashM_lt {h : Hs} {i j : Nat} (h1 : h.clashM i j = true) : i < h.ws.length ∧ j < h.ws.length := by
  unfold Hs.clashM at h1
  split at h1
  · assumption
  · cases h1

/-- (a, b) is the first pair of S that M names, or a is -1 and there is none. -/
def FirstIn (M : Nat → Nat → Bool) (S : Nat → Nat → Prop) (A B : Int) : Prop :=
  (A = -1 ∧ ∀ i j, S i j → M i j = false) ∨ (∃ a b : Nat, A = a ∧ B = b ∧ S a b ∧ M a b = true ∧ ∀ i j, S i j → (i < a ∨ (i = a ∧ j < b)) → M i j = false)
theorem FirstIn.congr {M : Nat → Nat → Bool} {S S' : Nat → Nat → Prop} {A B : Int} (h : FirstIn M S A B) (hS : ∀ i j, M i j = true → (S i j ↔ S' i j)) : FirstIn M S' A B := by
  rcases h with ⟨h1, h2⟩ | ⟨a, b, h1, h2, h3, h4, h5⟩
  · refine .inl ⟨h1, fun i j hs => ?_⟩
    cases hm : M i j
    · rfl
    · have := h2 i j ((hS i j hm).2 hs); rw [hm] at this; cases this
  · refine .inr ⟨a, b, h1, h2, (hS a b h4).1 h3, h4, fun i j hs hlt => ?_⟩
    cases hm : M i j
    · rfl
    · have := h5 i j ((hS i j hm).2 hs) hlt; rw [hm] at this; cases this
theorem FirstIn.miss {M : Nat → Nat → Bool} {S : Nat → Nat → Prop} {A B : Int} (h : FirstIn M S A B) (a b : Nat) (hm : M a b = false) : FirstIn M (fun i j => (i = a ∧ j = b) ∨ S i j) A B :=
  h.congr fun i j hij => ⟨fun hs => .inr hs, fun hs => hs.resolve_left (fun ⟨e1, e2⟩ => by subst e1; subst e2; rw [hm] at hij; cases hij)⟩
theorem FirstIn.hit {M : Nat → Nat → Bool} {S : Nat → Nat → Prop} (a b : Nat) (hm : M a b = true) (hS : ∀ i j, S i j → ¬ (i < a ∨ (i = a ∧ j < b))) : FirstIn M (fun i j => (i = a ∧ j = b) ∨ S i j) a b := by
  refine .inr ⟨a, b, rfl, rfl, .inl ⟨rfl, rfl⟩, hm, fun i j hs hlt => ?_⟩
  rcases hs with ⟨e1, e2⟩ | hs
  · omega
  · exact absurd hlt (hS i j hs)
theorem FirstIn.uniq {M : Nat → Nat → Bool} {S : Nat → Nat → Prop} {A B A' B' : Int} (h : FirstIn M S A B) (h' : FirstIn M S A' B') : A = A' ∧ (A ≠ -1 → B = B') := by
  rcases h with ⟨h1, h2⟩ | ⟨a, b, h1, h2, h3, h4, h5⟩
  · rcases h' with ⟨g1, g2⟩ | ⟨a', b', g1, g2, g3, g4, g5⟩
    · exact ⟨by omega, fun h => absurd h1 h⟩
    · have := h2 _ _ g3; rw [g4] at this; cases this
  · rcases h' with ⟨g1, g2⟩ | ⟨a', b', g1, g2, g3, g4, g5⟩
    · have := g2 _ _ h3; rw [h4] at this; cases this
    · have n1 : ¬ (a' < a ∨ (a' = a ∧ b' < b)) := fun hlt => by have := h5 _ _ g3 hlt; rw [g4] at this; cases this
      have n2 : ¬ (a < a' ∨ (a = a' ∧ b < b')) := fun hlt => by have := g5 _ _ h3 hlt; rw [h4] at this; cases this
      exact ⟨by omega, fun _ => by omega⟩
theorem ClashRes.open_ {M : Nat → Nat → Bool} {len : Nat} {e : Ending} (h : ClashRes M len e) : ∃ pa pb ee : Int, e = .returned (.tuple #[.agg #[.int .i64 pa, .int .i64 pb], .int .i64 ee]) ∧
    ((ee = 0 ∧ 0 ≤ pa ∧ FirstIn M (fun i j => i < len ∧ j < len) pa pb) ∨ (ee = 6 ∧ ∀ i j, i < len → j < len → M i j = false)) := by
  rcases h with ⟨a, b, ha, hb, hM, h1, h2, rfl⟩ | ⟨h1, rfl⟩
  · exact ⟨a, b, 0, rfl, .inl ⟨rfl, by omega, .inr ⟨a, b, rfl, rfl, ⟨ha, hb⟩, hM, fun i j ⟨_, hj⟩ hlt => by
      rcases hlt with hlt | ⟨rfl, hlt⟩
      · exact h1 i hlt j hj
      · exact h2 j hlt⟩⟩⟩
  · exact ⟨0, 0, 6, rfl, .inr ⟨rfl, fun i j hi hj => h1 i hi j hj⟩⟩
end Go.Proofs.Ytjihnnbpfdhceaa

/- Plain: true houses agree; what meat can have come out. No program in sight. -/
set_option linter.unusedSimpArgs false
set_option linter.unusedVariables false
namespace Go.Proofs.Ytjihnnbpfdhceaa

theorem mono_up {r : Nat → Rat2} {p : Int} (H : ∀ j : Nat, (j : Int) < p → (r j).num ≤ (r (j + 1)).num) (a : Nat) : ∀ d : Nat, (a : Int) + d ≤ p → (r a).num ≤ (r (a + d)).num := by
  intro d
  induction d with
  | zero => intro _; exact Int.le_refl _
  | succ d ih =>
    intro hd
    exact Int.le_trans (ih (by omega)) (H (a + d) (by omega))
theorem mono_down {r : Nat → Rat2} {p M : Int} (H : ∀ j : Nat, p ≤ j → (j : Int) + 1 < M → (r (j + 1)).num ≤ (r j).num) (a : Nat) (ha : p ≤ a) : ∀ d : Nat, (a : Int) + d < M → (r (a + d)).num ≤ (r a).num := by
  intro d
  induction d with
  | zero => intro _; exact Int.le_refl _
  | succ d ih =>
    intro hd
    exact Int.le_trans (H (a + d) (by omega) (by omega)) (ih (by omega))
theorem MadeOk.mono {h : Hs} {r : Nat → Rat2} {mo we : Nat} {wr : Int} (H : MadeOk h r mo we wr) {a b : Nat} (ha : (a : Int) < h.months) (hb : (b : Int) < h.months) (hu : h.under a b = true) : (r a).num ≤ (r b).num := by
  unfold Hs.under at hu
  simp at hu
  rcases hu with ⟨h1, h2⟩ | ⟨h1, h2⟩
  · obtain ⟨d, rfl⟩ := Nat.exists_eq_add_of_le h1
    exact mono_up H.up a d (by omega)
  · obtain ⟨d, rfl⟩ := Nat.exists_eq_add_of_le h2
    exact mono_down H.down b h1 d (by omega)
/-- The ratio that a month really had. -/
theorem MadeOk.den {h : Hs} {r : Nat → Rat2} {mo we : Nat} {wr : Int} (H : MadeOk h r mo we wr) {a : Nat} (ha : (a : Int) < h.months) : (r a).den = 200 := (H.rat a ha).2.2
theorem MadeOk.pos {h : Hs} {r : Nat → Rat2} {mo we : Nat} {wr : Int} (H : MadeOk h r mo we wr) {a : Nat} (ha : (a : Int) < h.months) : (r a).Pos := by
  obtain ⟨h1, h2, h3⟩ := H.rat a ha
  exact ⟨by omega, by omega⟩
theorem MadeOk.le_ {h : Hs} {r : Nat → Rat2} {mo we : Nat} {wr : Int} (H : MadeOk h r mo we wr) {a b : Nat} (ha : (a : Int) < h.months) (hb : (b : Int) < h.months) (hu : h.under a b = true) : rle (r a) (r b) := by
  unfold rle
  rw [H.den ha, H.den hb]
  have := H.mono ha hb hu
  omega
theorem MadeOk.wmonth {h : Hs} {r : Nat → Rat2} {mo we : Nat} {wr : Int} (H : MadeOk h r mo we wr) {x : Wg} (hx : x ∈ h.ws) : ∃ a : Nat, x.month = a ∧ (a : Int) < h.months := by
  obtain ⟨⟨h1, h2⟩, _⟩ := H.ws x hx
  exact ⟨x.month.toNat, by omega, by omega⟩
theorem MadeOk.true_ {h : Hs} {r : Nat → Rat2} {mo we : Nat} (H : MadeOk h r mo we 0) {x : Wg} (hx : x ∈ h.ws) {a : Nat} (ha : x.month = a) : rle x.least (r a) ∧ rle (r a) x.most := by
  obtain ⟨⟨m1, m2⟩, _, _, ht⟩ := H.ws x hx
  have hg := (H.good x hx).ok
  obtain ⟨t1, t2⟩ := ht rfl
  rw [ha, Int.toNat_natCast] at t1 t2
  have hd := H.den (a := a) (by omega)
  refine ⟨?_, ?_⟩
  · unfold Wg.least
    rw [rle_lowest_l hg.mlo1 hg.shi1, hd]; exact t1
  · unfold Wg.most
    rw [rle_lowest_r hg.mhi1 hg.slo1, hd]; exact t2
theorem agreeB_iff (M : Nat → Nat → Bool) : agreeB M = true ↔ ∀ i j, i < 14 → j < 14 → M i j = false := by
  unfold agreeB
  simp only [List.all_eq_true, List.mem_range, beq_iff_eq]
  exact ⟨fun h i j hi hj => h i hi j hj, fun h i hi j hj => h i j hi hj⟩
theorem agreeB_all {h : Hs} (hl : h.ws.length ≤ 14) : agreeB h.clashM = true ↔ ∀ i j, h.clashM i j = false := by
  rw [agreeB_iff]
  constructor
  · intro H i j
    cases hm : h.clashM i j
    · rfl
    · have hlt := clashM_lt hm
      have := H i j (by omega) (by omega)
      rw [hm] at this; cases this
  · intro H i j _ _; exact H i j
theorem agree_ws {h : Hs} (hl : h.ws.length ≤ 14) : agreeB h.clashM = true ↔ ∀ x ∈ h.ws, ∀ y ∈ h.ws, h.clash x y = false := by
  rw [agreeB_all hl]
  constructor
  · intro H x hx y hy
    obtain ⟨i, hi, rfl⟩ := List.getElem_of_mem hx
    obtain ⟨j, hj, rfl⟩ := List.getElem_of_mem hy
    rw [← clashM_in h hi hj]; exact H i j
  · intro H i j
    cases hm : h.clashM i j
    · rfl
    · obtain ⟨hi, hj⟩ := clashM_lt hm
      rw [clashM_in h hi hj, H _ (List.getElem_mem hi) _ (List.getElem_mem hj)] at hm
      cases hm
theorem clash_false {h : Hs} {x y : Wg} : h.clash x y = false ↔ (h.under x.month y.month = true → rle x.least y.most) := by
  have := clash_true (h := h) (x := x) (y := y)
  unfold rlt at this
  cases hc : h.clash x y
  · simp only [true_iff]
    intro hu
    rcases Classical.em (rle x.least y.most) with h1 | h1
    · exact h1
    · rw [hc] at this
      exact absurd (this.2 ⟨hu, h1⟩) (by simp)
  · rw [hc] at this
    have h1 := this.1 rfl
    simp only [Bool.true_eq_false, false_iff]
    exact fun H => h1.2 (H h1.1)
theorem MadeOk.agree {h : Hs} {r : Nat → Rat2} {mo we : Nat} (H : MadeOk h r mo we 0) (h2 : we ≤ 14) : agreeB h.clashM = true := by
  rw [agree_ws (by have := H.len; omega)]
  intro x hx y hy
  rw [clash_false]
  intro hu
  obtain ⟨a, ea, ha⟩ := H.wmonth hx
  obtain ⟨b, eb, hb⟩ := H.wmonth hy
  rw [ea, eb] at hu
  have h1 := (H.true_ hx ea).1
  have h3 := (H.true_ hy eb).2
  have h4 := H.le_ ha hb hu
  exact rle_trans (H.good x hx).ok.least_pos (H.pos hb) (H.good y hy).ok.most_pos (rle_trans (H.good x hx).ok.least_pos (H.pos ha) (H.pos hb) h1 h4) h3

/-! ### Meat -/
theorem ceil_spec (a d : Int) (hd : 1 ≤ d) : a ≤ (a + d - 1) / d * d ∧ ((a + d - 1) / d - 1) * d < a := by
  have h1 := Int.ediv_mul_le (a + d - 1) (show d ≠ 0 by omega)
  have h2 := Int.lt_ediv_add_one_mul_self (a + d - 1) (show 0 < d by omega)
  rw [Int.add_mul, Int.one_mul] at h2
  rw [Int.sub_mul, Int.one_mul]
  omega
theorem floor_spec (b e : Int) (he : 1 ≤ e) : b / e * e ≤ b ∧ b < (b / e + 1) * e :=
  ⟨Int.ediv_mul_le b (by omega), Int.lt_ediv_add_one_mul_self b (by omega)⟩
theorem le_of_mul {a b d : Int} (hd : 1 ≤ d) (h : a * d ≤ b * d) : a ≤ b := Int.le_of_mul_le_mul_right h (by omega)
theorem lt_of_mul {a b d : Int} (hd : 1 ≤ d) (h : a * d < b * d) : a < b := Int.lt_of_mul_lt_mul_right h (by omega)
def fitsB (lo hi : Rat2) (k n : Int) : Bool := decide (lo.num * n ≤ k * lo.den) && decide (k * hi.den ≤ hi.num * n)
/-- The bounds of what came out. -/
structure MeatBd (lo hi : Rat2) (n a b : Int) : Prop where
  a0 : 0 ≤ a
  a1 : a ≤ 1000000
  b0 : 0 ≤ b
  b1 : b ≤ 1000000
  l1 : lo.num * n ≤ a * lo.den
  l2 : (a - 1) * lo.den < lo.num * n
  u1 : b * hi.den ≤ hi.num * n
  u2 : hi.num * n < (b + 1) * hi.den
theorem meatBd {lo hi : Rat2} (hlo : lo.Ok1) (hhi : hi.Ok1) (n : Int) (h0 : 0 ≤ n) (h1 : n ≤ 1000) : MeatBd lo hi n ((lo.num * n + lo.den - 1) / lo.den) (hi.num * n / hi.den) := by
  obtain ⟨c1, c2⟩ := ceil_spec (lo.num * n) lo.den hlo.d0
  obtain ⟨f1, f2⟩ := floor_spec (hi.num * n) hi.den hhi.d0
  have p1 := mul_bd (x := lo.num) (y := n) (M := 1000) (N := 1000) (by have := hlo.n0; omega) hlo.n1 h0 h1
  have p2 := mul_bd (x := hi.num) (y := n) (M := 1000) (N := 1000) (by have := hhi.n0; omega) hhi.n1 h0 h1
  have d0 := hlo.d0
  have e0 := hhi.d0
  refine ⟨Int.ediv_nonneg (by omega) (by omega), ?_, Int.ediv_nonneg (by omega) (by omega), Int.le_trans (Int.ediv_le_self _ (by omega)) (by omega), c1, c2, f1, f2⟩
  have := le_of_mul (a := (lo.num * n + lo.den - 1) / lo.den - 1) (b := 999999) (d := lo.den) d0 (by
    have h3 : 999999 * 1 ≤ 999999 * lo.den := Int.mul_le_mul_of_nonneg_left d0 (by omega)
    rcases Nat.lt_or_ge 0 1 with _ | h
    · by_cases hz : lo.num * n ≤ 999999
      · omega
      · have hz2 : lo.num * n = 1000000 := by omega
        rw [hz2] at c2 ⊢
        by_cases hd1 : lo.den = 1
        · rw [hd1]; omega
        · have : 999999 * 2 ≤ 999999 * lo.den := Int.mul_le_mul_of_nonneg_left (by omega) (by omega)
          omega
    · omega)
  omega
theorem MeatBd.none_ {lo hi : Rat2} {n a b : Int} (H : MeatBd lo hi n a b) (hlo : 1 ≤ lo.den) (hhi : 1 ≤ hi.den) (hab : b < a) (k : Int) : fitsB lo hi k n = false := by
  unfold fitsB
  rw [Bool.and_eq_false_iff, decide_eq_false_iff_not, decide_eq_false_iff_not]
  rcases Int.lt_or_le k a with h | h
  · left
    intro h1
    have : k * lo.den ≤ (a - 1) * lo.den := Int.mul_le_mul_of_nonneg_right (by omega) (by omega)
    have := H.l2
    omega
  · right
    intro h1
    have : (b + 1) * hi.den ≤ k * hi.den := Int.mul_le_mul_of_nonneg_right (by omega) (by omega)
    have := H.u2
    omega
theorem MeatBd.fits {lo hi : Rat2} {n a b : Int} (H : MeatBd lo hi n a b) (hlo : 1 ≤ lo.den) (hhi : 1 ≤ hi.den) (hab : a ≤ b) : fitsB lo hi a n = true ∧ fitsB lo hi b n = true ∧ fitsB lo hi (a - 1) n = false ∧ fitsB lo hi (b + 1) n = false := by
  unfold fitsB
  have h1 : a * lo.den ≤ b * lo.den := Int.mul_le_mul_of_nonneg_right hab (by omega)
  have h2 : a * hi.den ≤ b * hi.den := Int.mul_le_mul_of_nonneg_right hab (by omega)
  have l1 := H.l1
  have l2 := H.l2
  have u1 := H.u1
  have u2 := H.u2
  simp only [Bool.and_eq_true, Bool.and_eq_false_iff, decide_eq_true_eq, decide_eq_false_iff_not]
  exact ⟨⟨by omega, by omega⟩, ⟨by omega, by omega⟩, .inl (by omega), .inr (by omega)⟩
theorem MeatBd.mono {lo hi : Rat2} {n a b a' b' : Int} (H : MeatBd lo hi n a b) (H' : MeatBd lo hi (n + 1) a' b') (hlo : lo.Ok1) (hhi : hi.Ok1) : a ≤ a' ∧ b ≤ b' := by
  have n1 := hlo.n0
  have n2 := hhi.n0
  have l2 := H.l2
  have l1' := H'.l1
  have u1 := H.u1
  have u2' := H'.u2
  rw [Int.mul_add, Int.mul_one] at l1' u2'
  have h1 := lt_of_mul (a := a - 1) (b := a') hlo.d0 (by omega)
  have h2 := lt_of_mul (a := b) (b := b' + 1) hhi.d0 (by omega)
  omega
theorem MeatBd.zero {lo hi : Rat2} {n a b : Int} (H : MeatBd lo hi n a b) (hlo : 1 ≤ lo.den) (hhi : 1 ≤ hi.den) (hn : n = 0) : a = 0 ∧ b = 0 := by
  subst hn
  have l2 := H.l2
  have u1 := H.u1
  have a0 := H.a0
  have b0 := H.b0
  rw [Int.mul_zero] at l2 u1
  refine ⟨?_, ?_⟩
  · rcases Int.lt_or_le 0 a with h | h
    · have : 0 ≤ (a - 1) * lo.den := Int.mul_nonneg (by omega) (by omega)
      omega
    · omega
  · rcases Int.lt_or_le 0 b with h | h
    · have : 1 * 1 ≤ b * hi.den := Int.mul_le_mul (by omega) hhi (by omega) (by omega)
      omega
    · omega
theorem meat_cases {h : Hs} (hk : h.check = 0) (m n : Int) (h0 : 0 ≤ n) (h1 : n ≤ 1000) (hb : (h.bounds m).2.2 = 0) : ∃ a b, MeatBd (h.bounds m).1 (h.bounds m).2.1 n a b ∧ ((a ≤ b ∧ h.meat m n = (a, b, 0)) ∨ (b < a ∧ h.meat m n = (0, 0, 8))) := by
  rcases bounds_cases hk m with ⟨_, hlo, hhi⟩ | ⟨he, _⟩
  · refine ⟨_, _, meatBd hlo hhi n h0 h1, ?_⟩
    unfold Hs.meat
    simp only
    rw [if_neg (by simpa using hb)]
    by_cases hgt : ((h.bounds m).1.num * n + (h.bounds m).1.den - 1) / (h.bounds m).1.den > (h.bounds m).2.1.num * n / (h.bounds m).2.1.den
    · right; exact ⟨hgt, by rw [if_pos hgt]⟩
    · left; exact ⟨by omega, by rw [if_neg hgt]⟩
  · omega
theorem meat_err {h : Hs} {m n : Int} (hb : (h.bounds m).2.2 ≠ 0) : h.meat m n = (0, 0, (h.bounds m).2.2) := by
  unfold Hs.meat; simp only; rw [if_pos hb]
theorem kept_err {h : Hs} {m n t : Int} (hb : (h.meat m n).2.2 ≠ 0) : h.kept m n t = (0, (h.meat m n).2.2) := by
  unfold Hs.kept; rw [if_pos hb]
theorem kept_ok {h : Hs} {m n t : Int} (hb : (h.meat m n).2.2 = 0) : h.kept m n t = (max 0 ((h.meat m n).1 - t), 0) := by
  unfold Hs.kept; rw [if_neg (by simpa using hb)]
theorem bounds_err {h : Hs} (hag : agreeB h.clashM = true) (m : Int) : (h.bounds m).2.2 = 0 ∨ (h.bounds m).2.2 = 6 := by
  unfold Hs.bounds
  rw [if_neg (by simp [hag])]
  split <;> simp
end Go.Proofs.Ytjihnnbpfdhceaa

/- Plain: houses turned round. No program in sight. -/
set_option linter.unusedSimpArgs false
set_option linter.unusedVariables false
namespace Go.Proofs.Ytjihnnbpfdhceaa

def turnW (M : Int) (x : Wg) : Wg := ⟨M - 1 - x.month, x.slo, x.shi, x.mlo, x.mhi⟩
def Hs.turned (h : Hs) : Hs := ⟨h.months, h.months - 1 - h.peak, h.ws.map (turnW h.months)⟩
theorem turned_under (h : Hs) (a b : Int) : h.turned.under (h.months - 1 - a) (h.months - 1 - b) = h.under a b := by
  unfold Hs.under Hs.turned
  rw [Bool.eq_iff_iff]
  simp
  omega
theorem turned_clash (h : Hs) (x y : Wg) : h.turned.clash (turnW h.months x) (turnW h.months y) = h.clash x y := by
  unfold Hs.clash
  show (h.turned.under (h.months - 1 - x.month) (h.months - 1 - y.month) && _) = _
  rw [turned_under]
  rfl
theorem turned_len (h : Hs) : h.turned.ws.length = h.ws.length := by unfold Hs.turned; simp
theorem turned_clashM (h : Hs) : h.turned.clashM = h.clashM := by
  funext i j
  by_cases hi : i < h.ws.length
  · by_cases hj : j < h.ws.length
    · rw [clashM_in h hi hj, clashM_in h.turned (by rw [turned_len]; exact hi) (by rw [turned_len]; exact hj)]
      have e1 : h.turned.ws[i]'(by rw [turned_len]; exact hi) = turnW h.months h.ws[i] := by simp [Hs.turned]
      have e2 : h.turned.ws[j]'(by rw [turned_len]; exact hj) = turnW h.months h.ws[j] := by simp [Hs.turned]
      rw [e1, e2]
      exact turned_clash h _ _
    · unfold Hs.clashM; rw [dif_neg (by rw [turned_len]; omega), dif_neg (by omega)]
  · unfold Hs.clashM; rw [dif_neg (by rw [turned_len]; omega), dif_neg (by omega)]
theorem turned_lowers (h : Hs) (m : Int) : h.turned.lowers (h.months - 1 - m) = h.lowers m := by
  unfold Hs.lowers
  show ((h.ws.map (turnW h.months)).filter fun x => h.turned.under x.month (h.months - 1 - m)).map Wg.least = _
  rw [List.filter_map, List.map_map]
  congr 1
  congr 1
  funext x
  exact turned_under h _ _
theorem turned_uppers (h : Hs) (m : Int) : h.turned.uppers (h.months - 1 - m) = h.uppers m := by
  unfold Hs.uppers
  show ((h.ws.map (turnW h.months)).filter fun x => h.turned.under (h.months - 1 - m) x.month).map Wg.most = _
  rw [List.filter_map, List.map_map]
  congr 1
  congr 1
  funext x
  exact turned_under h _ _
theorem turned_bounds (h : Hs) (m : Int) : h.turned.bounds (h.months - 1 - m) = h.bounds m := by
  unfold Hs.bounds
  rw [turned_clashM, turned_lowers, turned_uppers]
theorem turned_check {h : Hs} (hk : h.check = 0) : h.turned.check = 0 := by
  have hm := check_months hk
  have hp := check_peak hk
  have hl := check_len hk
  refine check_intro hm (by rw [turned_len]; exact hl) ⟨by simp only [Hs.turned]; omega, by simp only [Hs.turned]; omega⟩ ?_ ?_
  · intro x hx
    obtain ⟨y, hy, rfl⟩ := List.mem_map.1 hx
    have := check_wmonth hk y hy
    simp only [Hs.turned, turnW]; omega
  · intro x hx
    obtain ⟨y, hy, rfl⟩ := List.mem_map.1 hx
    obtain ⟨⟨a, b, c, d, e, f, g, i⟩, s, m⟩ := check_good hk y hy
    exact ⟨⟨a, b, c, d, e, f, g, i⟩, s, m⟩
/-- The first k turned. -/
def turnTo (M : Int) (ws : List Wg) (k : Nat) : List Wg := (ws.take k).map (turnW M) ++ ws.drop k
theorem turnTo_len (M : Int) (ws : List Wg) (k : Nat) : (turnTo M ws k).length = ws.length := by
  unfold turnTo
  rw [List.length_append, List.length_map, List.length_take, List.length_drop]; omega
theorem turnTo_0 (M : Int) (ws : List Wg) : turnTo M ws 0 = ws := by simp [turnTo]
theorem turnTo_all (M : Int) (ws : List Wg) : turnTo M ws ws.length = ws.map (turnW M) := by simp [turnTo]
theorem turnTo_step (M : Int) (ws : List Wg) (k : Nat) (hk : k < ws.length) : (turnTo M ws k).set k (turnW M ws[k]) = turnTo M ws (k + 1) := by
  unfold turnTo
  rw [List.set_append_right _ _ (by simp; omega)]
  rw [List.take_succ_eq_append_getElem hk, List.map_append]
  simp [Nat.min_eq_left (Nat.le_of_lt hk)]
  rw [List.drop_eq_getElem_cons hk, List.set_cons_zero]
theorem turnTo_get (M : Int) (ws : List Wg) (k : Nat) (hk : k < ws.length) : (turnTo M ws k)[k]'(by rw [turnTo_len]; exact hk) = ws[k] := by
  unfold turnTo
  rw [List.getElem_append_right (by simp; omega)]
  simp [Nat.min_eq_left (Nat.le_of_lt hk)]
end Go.Proofs.Ytjihnnbpfdhceaa
