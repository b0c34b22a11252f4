/- slices.MinFunc of ratios. Conditions: none beyond those that each theorem names. -/
import Derived.Test.YtjihnnbpfdhceaaA20
set_option linter.unusedSimpArgs false
set_option linter.unusedVariables false
namespace Go.Proofs.Ytjihnnbpfdhceaa
open Go.RowKit Go.Shelf
attribute [local go_sem] Oper.semAt_some

def cmpR (a b : Rat2) : Int := a.num * b.den - b.num * a.den
set_option maxHeartbeats 400000 in
theorem bounds1_any (a b : Rat2) (w : World) (h1 : 0 ≤ a.num * b.den ∧ a.num * b.den ≤ 1000000000000) (h2 : 0 ≤ b.num * a.den ∧ b.num * a.den ≤ 1000000000000) :
    Calls Try.prog 56 #[a.val, b.val] w fun e w' => e = .returned (.int .i64 (cmpR a b)) ∧ Below w.heap.size w w' := by
  unfold Rat2.val
  obtain ⟨an, ad⟩ := a
  obtain ⟨bn, bd⟩ := b
  obtain ⟨h1, h1'⟩ := h1
  obtain ⟨h2, h2'⟩ := h2
  simp only at h1 h1' h2 h2'
  go_enter Try.func56, Try.ntmps56
  go_wp2
  go_ret
  exact ⟨rfl, by repeat (first | exact Below.refl _ _ | exact Below.refl _ _ | refine Below.drew ?_ | refine below_drewN ?_ _ | refine Below.setCell ?_ (by first | assumption | omega | (simp; done) | (simp; omega) | (simp at *; omega)) _ | refine Below.alloc ?_ (by first | assumption | omega | (simp; done) | (simp; omega) | (simp at *; omega)) _ | refine Below.trans ?_ (Below.mono Below.refl _ _ (by first | assumption | omega | (simp; done) | (simp; omega) | (simp at *; omega))))⟩

def mnStep (m q : Rat2) : Rat2 := if aboveB m q then q else m
def mn (m : Rat2) (l : List Rat2) : Rat2 := l.foldl mnStep m
theorem mn_snoc (m : Rat2) (l : List Rat2) (k : Nat) (hk : k < l.length) (x : Rat2) (hx : l[k] = x) : mn m (l.take (k + 1)) = mnStep (mn m (l.take k)) x := by
  unfold mn; rw [List.take_succ_eq_append_getElem hk, List.foldl_append, hx]; rfl
theorem mn_bd (r : Rat2) (l : List Rat2) (hr : r.Bd) (hl : ∀ q ∈ l, q.Bd) : (mn r l).Bd := by
  unfold mn
  induction l generalizing r with
  | nil => exact hr
  | cons q l ih =>
    rw [List.foldl_cons]
    refine ih _ ?_ (fun x hx => hl x (List.mem_cons_of_mem _ hx))
    unfold mnStep
    split
    · exact hl q List.mem_cons_self
    · exact hr
theorem cmp_lt (x q : Rat2) : (decide (cmpR x q < 0)) = aboveB q x := by
  unfold cmpR aboveB
  exact decide_eq_decide.2 (by omega)

set_option maxRecDepth 100000 in
set_option maxHeartbeats 1000000 in
theorem minfunc_any (A : Option Addr) (r : Rat2) (l : List Rat2) (c : Nat) (w : World) (hR : RowIn Rat2.enc 2 w w.heap.size A (r :: l)) (hl : ∀ q ∈ r :: l, q.Bd) (hn : (r :: l).length ≤ 1000000) :
    Calls Try.prog 55 #[.slice A (r :: l).length c, .func (.func 56) #[] #[]] w fun e w' => e = .returned (mn r l).val ∧ Below w.heap.size w w' := by
  have HR := Lib.hid hR
  have HL := Lib.hid hl
  have hz : (l.length : Int) + 1 ≤ 1000000 := by simp at hn; omega
  obtain ⟨b0, o0, x0, rfl, hB0, hx0, p0, p1⟩ := hR.rat 0 (by simp)
  obtain rfl : r = x0 := hx0
  simp only [Nat.zero_mul, Nat.add_zero] at p0 p1
  clear hR hl hn
  simp only [List.length_cons]
  obtain ⟨n, hnn⟩ : ∃ n : Nat, n = l.length + 1 := ⟨_, rfl⟩
  rw [← hnn]
  have hn1 : (1 : Int) ≤ (n : Int) := by omega
  have hn0 : (0 : Int) < (n : Int) := by omega
  have hn2 : (n : Int) ≤ 1000000 := by omega
  have HNN := Lib.hid hnn
  have hB0w : b0 < w.heap.size := hB0
  clear hnn hz
  go_enter Try.func55, Try.ntmps55
  go_wp2
  have hb1 : Below w.heap.size w ((w.alloc (.cells #[.int .i64 0, .int .i64 0] 43)).alloc (.cells #[.int .i64 r.num, .int .i64 r.den] 43)) := by repeat (first | exact Below.refl _ _ | exact Below.refl _ _ | refine Below.drew ?_ | refine below_drewN ?_ _ | refine Below.setCell ?_ (by first | assumption | omega | (simp; done) | (simp; omega) | (simp at *; omega)) _ | refine Below.alloc ?_ (by first | assumption | omega | (simp; done) | (simp; omega) | (simp at *; omega)) _ | refine Below.trans ?_ (Below.mono Below.refl _ _ (by first | assumption | omega | (simp; done) | (simp; omega) | (simp at *; omega))))
  have hy1 : Blk ((w.alloc (.cells #[.int .i64 0, .int .i64 0] 43)).alloc (.cells #[.int .i64 r.num, .int .i64 r.den] 43)) w.heap.size 43 #[.int .i64 0, .int .i64 0] := (Blk.new _ _ _).alloc _
  have hx1 : Blk ((w.alloc (.cells #[.int .i64 0, .int .i64 0] 43)).alloc (.cells #[.int .i64 r.num, .int .i64 r.den] 43)) (w.heap.size + 1) 43 #[.int .i64 r.num, .int .i64 r.den] := by
    have := Blk.new (w.alloc (.cells #[.int .i64 0, .int .i64 0] 43)) 43 #[.int .i64 r.num, .int .i64 r.den]
    rwa [World.size_alloc] at this
  generalize (w.alloc (.cells #[.int .i64 0, .int .i64 0] 43)).alloc (.cells #[.int .i64 r.num, .int .i64 r.den] 43) = w1 at hb1 hx1 hy1 ⊢
  clear p0 p1
  go_loopw [6] (fun i wr => ∃ k : Nat, k ≤ l.length ∧ i = .int .i64 ((k : Int) + 1) ∧ Below w.heap.size w wr ∧ Blk wr (w.heap.size + 1) 43 #[.int .i64 (mn r (l.take k)).num, .int .i64 (mn r (l.take k)).den] ∧ Blk wr w.heap.size 43 #[.int .i64 0, .int .i64 0]) (fun i _ => n - (intOf i).toNat)
  case atStart => exact ⟨0, by omega, rfl, hb1, by rw [List.take_zero]; exact hx1, hy1⟩
  case round =>
    clear hb1 hx1 hy1
    obtain ⟨k, hk, rfl, hB, hX, hY⟩ := hrel
    have hNN := HNN.out
    by_cases hlt : k < l.length
    · obtain ⟨b1, o1, x, hA, hB1, hx, x0, x1⟩ := (HR.out.below hB).rat (k + 1) (by simp; omega)
      injection hA with hA
      injection hA with hA1 hA2
      subst hA1
      subst hA2
      have hx' : l[k] = x := by simpa using hx
      have hB1 : b0 < wr.heap.size := Nat.lt_of_lt_of_le hB0w hB.size
      have hxb : x.Bd := by rw [← hx']; exact HL.out _ (List.mem_cons_of_mem _ (List.getElem_mem _))
      have hgb : (mn r (l.take k)).Bd := mn_bd _ _ (HL.out _ List.mem_cons_self) (fun q hq => HL.out q (List.mem_cons_of_mem _ (List.mem_of_mem_take hq)))
      have HS := Lib.hid (mn_snoc r l k hlt x hx')
      have HAB := Lib.hid (fun V => bounds1_any x (mn r (l.take k)) V (prod_bd hxb hgb) (prod_bd hgb hxb))
      generalize hgk : mn r (l.take k) = q at hX HS HAB
      have c0 := hX.cell 0
      have c1 := hX.cell 1
      simp only [List.getElem?_toArray, List.getElem?_cons_zero, List.getElem?_cons_succ] at c0 c1
      have hwl := hX.lt
      have hyl := hY.lt
      have HX := Lib.hid hX
      have HY := Lib.hid hY
      have HZ := hB.size
      have hkn : (k : Int) + 1 < (n : Int) := by omega
      have HX0 := Lib.hid x0
      have HX1 := Lib.hid x1
      have e0 : o0 + (k + 1) * 2 = o0 + ((k : Int) + 1).toNat * 2 := by omega
      have Fc0 := fun u => Later.cell c0 u
      have Fc1 := fun u => Later.cell c1 u
      have Fx0 := fun u => Later.cell x0 u
      have Fx1 := fun u => Later.cell x1 u
      clear hx hX hY hxb hgb hgk hx' x0 x1 c0 c1 hNN e0
      go_wp2
      refine wp_region_later (by kernel_rfl) (by kernel_rfl) ?_
      repeat (go_big_quiet_step ((go_at_call 56; exact Later.call (HAB.out _))))
      refine wpQuiet_nil ?_
      intro u
      have hub := u.below
      have hB5 : Below w.heap.size w u.w := hB.trans (hub.mono HZ)
      have hX5 := HX.out.later hub
      have hY5 := HY.out.later hub
      have f0 := hX5.frozen 0
      have f1 := hX5.frozen 1
      have d0 := hX5.cell 0
      have d1 := hX5.cell 1
      simp only [List.getElem?_toArray, List.getElem?_cons_zero, List.getElem?_cons_succ] at d0 d1
      have y0 := Later.cell HX0.out u
      have y1 := Later.cell HX1.out u
      have HX5 := Lib.hid hX5
      have HY5 := Lib.hid hY5
      clear hX5 hY5 HAB HX HY HX0 HX1
      by_cases hc : cmpR x q < 0
      · have hs : mn r (l.take (k + 1)) = x := by rw [HS.out]; unfold mnStep; rw [← cmp_lt, decide_eq_true hc]; rfl
        have HSS := Lib.hid hs
        clear hs HS
        go_wp2
        go_roundw
        case rel =>
          refine ⟨k + 1, by omega, by go_num, ((hB5.setCell (p := ⟨w.heap.size + 1, 0, none⟩) (by simp) _).setCell (p := ⟨w.heap.size + 1, 1, none⟩) (by simp) _), ?_, (HY5.out.far (p := ⟨w.heap.size + 1, 0, none⟩) (by simp) _).far (p := ⟨w.heap.size + 1, 1, none⟩) (by simp) _⟩
          rw [HSS.out]
          exact (HX5.out.set_ 0 _).set_ 1 _
        case measure => simp [intOf]; omega
      · have hs : mn r (l.take (k + 1)) = q := by rw [HS.out]; unfold mnStep; rw [← cmp_lt, decide_eq_false hc]; rfl
        have HSS := Lib.hid hs
        clear hs HS
        go_wp2
        go_roundw
        case rel => exact ⟨k + 1, by omega, by go_num, hB5, by rw [HSS.out]; exact HX5.out, HY5.out⟩
        case measure => simp [intOf]; omega
    · obtain rfl : k = l.length := by omega
      rw [List.take_length] at hX
      have c0 := hX.cell 0
      have c1 := hX.cell 1
      have d0 := hY.cell 0
      have d1 := hY.cell 1
      have f0 := hY.frozen 0
      have f1 := hY.frozen 1
      simp only [List.getElem?_toArray, List.getElem?_cons_zero, List.getElem?_cons_succ] at c0 c1 d0 d1
      have HY := Lib.hid hY
      have HX := Lib.hid hX
      have hkn : ¬ (l.length : Int) + 1 < (n : Int) := by omega
      clear hX hY hNN
      go_wp2
      refine bodyPost_ret (v := (mn r l).val) ?_ rfl ⟨rfl, (hB.setCell (p := ⟨w.heap.size, 0, none⟩) (by simp) _).setCell (p := ⟨w.heap.size, 1, none⟩) (by simp) _⟩
      have hY2 := (HY.out.set_ 0 (.int .i64 (mn r l).num)).set_ 1 (.int .i64 (mn r l).den)
      have e0 := hY2.cell 0
      have e1 := hY2.cell 1
      simp only [List.setIfInBounds_toArray, List.set_cons_zero, List.set_cons_succ, List.getElem?_toArray, List.getElem?_cons_zero, List.getElem?_cons_succ] at e0 e1
      unfold Rat2.val
      simp [results, Try.results55, go_sem, e0, e1]
end Go.Proofs.Ytjihnnbpfdhceaa
