/- Plain: houses turned round. No program in sight. -/
import Derived.Test.YtjihnnbpfdhceaaM3
set_option linter.unusedSimpArgs false
set_option linter.unusedVariables false
namespace Go.Proofs.Ytjihnnbpfdhceaa

def turnW (M : Int) (x : Wg) : Wg := ⟨M - 1 - x.month, x.slo, x.shi, x.mlo, x.mhi⟩
def Hs.turned (h : Hs) : Hs := ⟨h.months, h.months - 1 - h.peak, h.ws.map (turnW h.months)⟩
theorem turned_under (h : Hs) (a b : Int) : h.turned.under (h.months - 1 - a) (h.months - 1 - b) = h.under a b := by
  unfold Hs.under Hs.turned
  rw [Bool.eq_iff_iff]
  simp
  omega
theorem turned_clash (h : Hs) (x y : Wg) : h.turned.clash (turnW h.months x) (turnW h.months y) = h.clash x y := by
  unfold Hs.clash
  show (h.turned.under (h.months - 1 - x.month) (h.months - 1 - y.month) && _) = _
  rw [turned_under]
  rfl
theorem turned_len (h : Hs) : h.turned.ws.length = h.ws.length := by unfold Hs.turned; simp
theorem turned_clashM (h : Hs) : h.turned.clashM = h.clashM := by
  funext i j
  by_cases hi : i < h.ws.length
  · by_cases hj : j < h.ws.length
    · rw [clashM_in h hi hj, clashM_in h.turned (by rw [turned_len]; exact hi) (by rw [turned_len]; exact hj)]
      have e1 : h.turned.ws[i]'(by rw [turned_len]; exact hi) = turnW h.months h.ws[i] := by simp [Hs.turned]
      have e2 : h.turned.ws[j]'(by rw [turned_len]; exact hj) = turnW h.months h.ws[j] := by simp [Hs.turned]
      rw [e1, e2]
      exact turned_clash h _ _
    · unfold Hs.clashM; rw [dif_neg (by rw [turned_len]; omega), dif_neg (by omega)]
  · unfold Hs.clashM; rw [dif_neg (by rw [turned_len]; omega), dif_neg (by omega)]
theorem turned_lowers (h : Hs) (m : Int) : h.turned.lowers (h.months - 1 - m) = h.lowers m := by
  unfold Hs.lowers
  show ((h.ws.map (turnW h.months)).filter fun x => h.turned.under x.month (h.months - 1 - m)).map Wg.least = _
  rw [List.filter_map, List.map_map]
  congr 1
  congr 1
  funext x
  exact turned_under h _ _
theorem turned_uppers (h : Hs) (m : Int) : h.turned.uppers (h.months - 1 - m) = h.uppers m := by
  unfold Hs.uppers
  show ((h.ws.map (turnW h.months)).filter fun x => h.turned.under (h.months - 1 - m) x.month).map Wg.most = _
  rw [List.filter_map, List.map_map]
  congr 1
  congr 1
  funext x
  exact turned_under h _ _
theorem turned_bounds (h : Hs) (m : Int) : h.turned.bounds (h.months - 1 - m) = h.bounds m := by
  unfold Hs.bounds
  rw [turned_clashM, turned_lowers, turned_uppers]
theorem turned_check {h : Hs} (hk : h.check = 0) : h.turned.check = 0 := by
  have hm := check_months hk
  have hp := check_peak hk
  have hl := check_len hk
  refine check_intro hm (by rw [turned_len]; exact hl) ⟨by simp only [Hs.turned]; omega, by simp only [Hs.turned]; omega⟩ ?_ ?_
  · intro x hx
    obtain ⟨y, hy, rfl⟩ := List.mem_map.1 hx
    have := check_wmonth hk y hy
    simp only [Hs.turned, turnW]; omega
  · intro x hx
    obtain ⟨y, hy, rfl⟩ := List.mem_map.1 hx
    obtain ⟨⟨a, b, c, d, e, f, g, i⟩, s, m⟩ := check_good hk y hy
    exact ⟨⟨a, b, c, d, e, f, g, i⟩, s, m⟩
/-- The first k turned. -/
def turnTo (M : Int) (ws : List Wg) (k : Nat) : List Wg := (ws.take k).map (turnW M) ++ ws.drop k
theorem turnTo_len (M : Int) (ws : List Wg) (k : Nat) : (turnTo M ws k).length = ws.length := by
  unfold turnTo
  rw [List.length_append, List.length_map, List.length_take, List.length_drop]; omega
theorem turnTo_0 (M : Int) (ws : List Wg) : turnTo M ws 0 = ws := by simp [turnTo]
theorem turnTo_all (M : Int) (ws : List Wg) : turnTo M ws ws.length = ws.map (turnW M) := by simp [turnTo]
theorem turnTo_step (M : Int) (ws : List Wg) (k : Nat) (hk : k < ws.length) : (turnTo M ws k).set k (turnW M ws[k]) = turnTo M ws (k + 1) := by
  unfold turnTo
  rw [List.set_append_right _ _ (by simp; omega)]
  rw [List.take_succ_eq_append_getElem hk, List.map_append]
  simp [Nat.min_eq_left (Nat.le_of_lt hk)]
  rw [List.drop_eq_getElem_cons hk, List.set_cons_zero]
theorem turnTo_get (M : Int) (ws : List Wg) (k : Nat) (hk : k < ws.length) : (turnTo M ws k)[k]'(by rw [turnTo_len]; exact hk) = ws[k] := by
  unfold turnTo
  rw [List.getElem_append_right (by simp; omega)]
  simp [Nat.min_eq_left (Nat.le_of_lt hk)]
end Go.Proofs.Ytjihnnbpfdhceaa
