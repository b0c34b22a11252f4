/- boil.Kept. Conditions: none beyond those that each theorem names. -/
import Derived.Test.YtjihnnbpfdhceaaA23
set_option linter.unusedSimpArgs false
set_option linter.unusedVariables false
namespace Go.Proofs.Ytjihnnbpfdhceaa
open Go.RowKit Go.Shelf
attribute [local go_sem] Oper.semAt_some

theorem meat_bd {h : Hs} (hk : h.check = 0) (m s : Int) (hs0 : 0 ≤ s) (hs1 : s ≤ 1000) : 0 ≤ (h.meat m s).1 ∧ (h.meat m s).1 ≤ 2000000 := by
  unfold Hs.meat
  simp only
  split
  · simp
  · rename_i hz
    rcases bounds_cases hk m with ⟨_, hlo, hhi⟩ | ⟨hz', _⟩
    · split
      · simp
      · have p1 := mul_bd (x := (h.bounds m).1.num) (y := s) (M := 1000) (N := 1000) (by have := hlo.n0; omega) hlo.n1 hs0 hs1
        have d0 := hlo.d0
        have d1 := hlo.d1
        simp only
        exact ⟨Int.ediv_nonneg (by omega) (by omega), Int.le_trans (Int.ediv_le_self _ (by omega)) (by omega)⟩
    · exfalso; omega
/-- boil.Kept's answer. -/
def Hs.kept (h : Hs) (m s t : Int) : Int × Int := if (h.meat m s).2.2 ≠ 0 then (0, (h.meat m s).2.2) else (max 0 ((h.meat m s).1 - t), 0)

set_option maxRecDepth 100000 in
set_option maxHeartbeats 1000000 in
theorem kept_any (h : Hs) (A : Option Addr) (c : Nat) (m s t : Int) (w : World) (hr : RowIn Wg.enc 5 w w.heap.size A h.ws) (hk : h.check = 0) (hm : h.month m = true) (hs0 : 0 ≤ s) (hs1 : s ≤ 1000) (ht0 : 0 ≤ t) (ht1 : t ≤ 1000) :
    Calls Try.prog 18 #[h.val A c, .int .i64 m, .int .i64 s, .int .i64 t] w fun e w' => e = .returned (.tuple #[.int .i64 (h.kept m s t).1, .int .i64 (h.kept m s t).2]) ∧ Below w.heap.size w w' := by
  have hlen := check_len hk
  have HR := Lib.hid hr
  have HK := Lib.hid hk
  have HIN := Lib.hid (fun V => in_any t 0 1000 V)
  rw [show inB t 0 1000 = true by simp [inB]; omega] at HIN
  have HMT := Lib.hid (fun V hr => meat_any h A c m s V hr hk hm hs0 hs1)
  have hbd := meat_bd hk m s hs0 hs1
  have HKP : Hid (∀ B, h.meat m s = B → h.kept m s t = (if B.2.2 ≠ 0 then (0, B.2.2) else (max 0 (B.1 - t), 0))) := Lib.hid (fun B hB => by unfold Hs.kept; rw [hB])
  clear hr hk hm
  unfold Hs.val
  go_enter Try.func18, Try.ntmps18
  go_wp2_with fail
  refine (check_any h A c _ ((HR.out.below ((Below.refl _ _).alloc (Nat.le_refl _) _)).mono (by simp)) (by omega)).mono ?_
  rintro e w1 ⟨rfl, hb1⟩
  rw [HK.out]
  have hbw1 : Below w.heap.size w w1 := ((Below.refl _ _).alloc (Nat.le_refl _) _).trans (hb1.mono (by simp))
  have hho : Blk w1 w.heap.size 25 #[.int .i64 h.months, .int .i64 h.peak, .slice A h.ws.length c] := (Blk.new w 25 _).later hb1
  clear hb1
  go_wp2_with fail
  refine (HIN.out _).mono ?_
  rintro e w2 ⟨rfl, rfl⟩
  have hc0 := hho.cell 0
  have hc1 := hho.cell 1
  have hc2 := hho.cell 2
  simp only [List.getElem?_toArray, List.getElem?_cons_zero, List.getElem?_cons_succ] at hc0 hc1 hc2
  go_wp2_with fail
  refine (HMT.out _ ((HR.out.below hbw1).mono hbw1.size)).mono ?_
  rintro e w3 ⟨rfl, hb3⟩
  have hbw3 : Below w.heap.size w w3 := hbw1.trans (hb3.mono hbw1.size)
  have HQ := Lib.hid (HKP.out _ rfl)
  unfold spVal
  generalize h.meat m s = B at hbd HQ ⊢
  obtain ⟨lo, hi, ee⟩ := B
  simp only at hbd ⊢
  obtain ⟨l0, l1⟩ := hbd
  clear hb3 hho hc0 hc1 hc2 hbw1 HMT HKP
  by_cases hz : ee = 0
  · subst hz
    have HM : Hid (h.kept m s t = (max 0 (lo - t), 0)) := Lib.hid (by rw [HQ.out]; simp)
    clear HQ
    have hbA : Below w.heap.size w (w3.alloc (.cells #[.int .i64 lo, .int .i64 hi] 47)) := hbw3.alloc hbw3.size _
    go_wp2
    go_ret2
    exact ⟨by rw [HM.out]; rfl, hbA⟩
  · have hq : (ee != 0) = true := bne_iff_ne.2 hz
    have HM : Hid (h.kept m s t = (0, ee)) := Lib.hid (by rw [HQ.out]; simp [hz])
    clear HQ
    have hbA : Below w.heap.size w (w3.alloc (.cells #[.int .i64 lo, .int .i64 hi] 47)) := hbw3.alloc hbw3.size _
    go_wp2
    go_ret2
    exact ⟨by rw [HM.out]; rfl, hbA⟩
end Go.Proofs.Ytjihnnbpfdhceaa
