/- slices.IndexFunc, slices.ContainsFunc and boil.every at the element types of this program, whatever the predicate. Conditions: none beyond those that each theorem names. -/
import Derived.Test.YtjihnnbpfdhceaaA2
import Derived.Laws.EntriesVeiled
import Derived.Shelf.Abstract
set_option linter.unusedSimpArgs false
set_option linter.unusedVariables false
namespace Go.Proofs.Ytjihnnbpfdhceaa
open Go.RowKit

/-- What is asked of a predicate: at each element of xs, in each world in which all that lay in W lies unturned. -/
def PredOk {α : Type} (val : α → Value) (g : FuncId) (cap : Array Value) (W : World) (xs : List α) (p : α → Bool) : Prop :=
  ∀ (w : World) (x : α), x ∈ xs → Below W.heap.size W w → Calls Try.prog g (#[val x] ++ cap) w fun e w' => e = .returned (.bool (p x)) ∧ Below w.heap.size w w'

theorem PredOk.later {α : Type} {val : α → Value} {g : FuncId} {cap : Array Value} {W W' : World} {xs : List α} {p : α → Bool} (h : PredOk val g cap W xs p) (hb : Below W.heap.size W W') : PredOk val g cap W' xs p :=
  fun w x hx hw => h w x hx (hb.trans (hw.mono hb.size))

def idxI {α : Type} (xs : List α) (p : α → Bool) : Int := match xs.findIdx? p with | some i => (i : Int) | none => -1

theorem idxI_hit {α : Type} (xs : List α) (p : α → Bool) (k : Nat) (hk : k < xs.length) (hp : p xs[k] = true) (ha : ∀ j (h : j < k), p (xs[j]'(by omega)) = false) : idxI xs p = k := by
  have : xs.findIdx? p = some k := List.findIdx?_eq_some_iff_getElem.2 ⟨hk, hp, fun j hj => by simpa using ha j hj⟩
  simp [idxI, this]
theorem idxI_miss {α : Type} (xs : List α) (p : α → Bool) (ha : ∀ j (h : j < xs.length), p xs[j] = false) : idxI xs p = -1 := by
  have : xs.findIdx? p = none := List.findIdx?_eq_none_iff.2 fun x hx => by
    obtain ⟨j, hj, rfl⟩ := List.getElem_of_mem hx
    exact ha j hj
  simp [idxI, this]
theorem idxI_any {α : Type} (xs : List α) (p : α → Bool) : decide (idxI xs p ≥ 0) = xs.any p := by
  unfold idxI
  cases h : xs.findIdx? p with
  | none => 
    have := List.findIdx?_eq_none_iff.1 h
    simp only [show ¬ (-1 : Int) ≥ 0 by omega, decide_false]
    symm
    rw [List.any_eq_false]
    exact fun x hx => by simp [this x hx]
  | some i =>
    obtain ⟨hi, hp, _⟩ := List.findIdx?_eq_some_iff_getElem.1 h
    simp only [show ((i : Int) ≥ 0) by omega, decide_true]
    symm
    rw [List.any_eq_true]
    exact ⟨_, List.getElem_mem hi, hp⟩

set_option maxHeartbeats 400000 in
theorem indexW_any (g : FuncId) (cap : Array Value) (eg : ∀ args w, (callFunc g args).run Try.prog w = .ok (.enter g args) w) (p : Wg → Bool) (A : Option Addr) (xs : List Wg) (c : Nat) (w : World)
    (hr : RowIn Wg.enc 5 w w.heap.size A xs) (hp : PredOk Wg.val g cap w xs p) (hl : xs.length ≤ 1000000) :
    Calls Try.prog 97 #[.slice A xs.length c, .func (.func g) #[] cap] w fun e w' => e = .returned (.int .i64 (idxI xs p)) ∧ Below w.heap.size w w' := by
  go_enter Try.func97, Try.ntmps97
  go_wp2
  go_loopw [8] (fun i wr => ∃ j : Nat, j ≤ xs.length ∧ i = .int .i64 j ∧ Aside (∀ q (h : q < xs.length), q < j → p xs[q] = false) ∧ Aside (Below w.heap.size w wr)) (fun i _ => xs.length - (intOf i).toNat)
  case atStart => exact ⟨0, Nat.zero_le _, rfl, fun q _ h => absurd h (Nat.not_lt_zero _), Below.refl _ _⟩
  case round =>
    obtain ⟨k, hk, rfl, HA, hbw⟩ := hrel
    have hbw' : Below w.heap.size w wr := hbw
    clear hbw
    have hbw := hbw'
    clear hbw'
    by_cases hlt : k < xs.length
    · obtain ⟨b, o, x, rfl, hB, hx, c0, c1, c2, c3, c4⟩ := (hr.below hbw).wg k hlt
      have hcall := hp wr x (by rw [← hx]; exact List.getElem_mem hlt) hbw
      have HX := Lib.hid hx
      clear hx hr hp
      cases hq : p x with
      | true =>
        rw [hq] at hcall
        have HC := Lib.hid hcall
        clear hcall
        go_wp2_with fail
        refine HC.out.mono ?_
        rintro e w' ⟨rfl, hb'⟩
        go_wp2
        go_ret
        refine ⟨ret_int ?_, hbw.trans (hb'.mono hbw.size)⟩
        rw [idxI_hit xs p k hlt (by rw [HX.out]; exact hq) (fun j hj => HA.out j (by omega) hj)]
      | false =>
        rw [hq] at hcall
        have HC := Lib.hid hcall
        clear hcall
        go_wp2_with fail
        refine HC.out.mono ?_
        rintro e w' ⟨rfl, hb'⟩
        go_wp2
        go_roundw
        case rel =>
          refine ⟨k + 1, by omega, by go_num, (show Aside _ from fun j hj hjk => ?_), hbw.trans (hb'.mono hbw.size)⟩
          by_cases e : j = k
          · subst e
            rw [HX.out]; exact hq
          · exact HA.out j hj (by omega)
        case measure => simp [intOf]; omega
    · obtain rfl : k = xs.length := by omega
      clear hr hp
      go_wp2
      go_ret
      exact ⟨ret_int (idxI_miss xs p (fun j hj => HA.out j hj hj)).symm, hbw⟩
set_option maxHeartbeats 400000 in
theorem containsW_any (g : FuncId) (cap : Array Value) (eg : ∀ args w, (callFunc g args).run Try.prog w = .ok (.enter g args) w) (p : Wg → Bool) (A : Option Addr) (xs : List Wg) (c : Nat) (w : World)
    (hr : RowIn Wg.enc 5 w w.heap.size A xs) (hp : PredOk Wg.val g cap w xs p) (hl : xs.length ≤ 1000000) :
    Calls Try.prog 87 #[.slice A xs.length c, .func (.func g) #[] cap] w fun e w' => e = .returned (.bool (xs.any p)) ∧ Below w.heap.size w w' := by
  rw [← idxI_any]
  have HR := Lib.hid hr
  have HP := Lib.hid hp
  clear hr hp
  go_enter Try.func87, Try.ntmps87
  go_wp2_with (go_at_call 97; refine (indexW_any g cap eg p A xs c _ HR.out HP.out hl).mono ?_; rintro e w' ⟨rfl, hb⟩)
  go_ret
  exact ⟨rfl, hb⟩
set_option maxHeartbeats 400000 in
theorem everyW_pred (g : FuncId) (cap : Array Value) (eg : ∀ args w, (callFunc g args).run Try.prog w = .ok (.enter g args) w) (p : Wg → Bool) (xs : List Wg) (w : World) (n : Nat) (hn : n < w.heap.size)
    (hc : w.cell? ⟨n, 0, none⟩ = some (.func (.func g) #[] cap)) (hp : PredOk Wg.val g cap w xs p) : PredOk Wg.val 88 #[.pointer (some ⟨n, 0, none⟩)] w xs (fun x => !p x) := by
  intro w1 x hx hb
  have hcall := hp (w1.alloc (.cells #[.int .i64 x.month, .int .i64 x.slo, .int .i64 x.shi, .int .i64 x.mlo, .int .i64 x.mhi] 55)) x hx (hb.alloc hb.size _)
  have hc1 := (hb.cell (p := ⟨n, 0, none⟩) hn).trans hc
  have hlt : n < w1.heap.size := Nat.lt_of_lt_of_le hn hb.size
  clear hp hc
  have HC := Lib.hid hcall
  clear hcall
  unfold Wg.val at *
  rw [show ∀ a b : Value, (#[a] ++ #[b] : Array Value) = #[a, b] from fun _ _ => rfl]
  cases hq : p x
  all_goals
    rw [hq] at HC
    have HQ := Lib.hid hq
    clear hq
    go_enter Try.func88, Try.ntmps88
    go_wp2_with fail
    refine HC.out.mono ?_
    rintro e w' ⟨rfl, hb'⟩
    go_wp2
    go_ret
    exact ⟨by rw [HQ.out]; rfl, ((Below.refl _ _).alloc (Nat.le_refl _) _).trans (hb'.mono (by simp))⟩

set_option maxHeartbeats 400000 in
theorem everyW_any (g : FuncId) (cap : Array Value) (eg : ∀ args w, (callFunc g args).run Try.prog w = .ok (.enter g args) w) (p : Wg → Bool) (A : Option Addr) (xs : List Wg) (c : Nat) (w : World)
    (hr : RowIn Wg.enc 5 w w.heap.size A xs) (hp : PredOk Wg.val g cap w xs p) (hl : xs.length ≤ 1000000) :
    Calls Try.prog 61 #[.slice A xs.length c, .func (.func g) #[] cap] w fun e w' => e = .returned (.bool (xs.all p)) ∧ Below w.heap.size w w' := by
  have hba : Below w.heap.size w (w.alloc (.cells #[.func (.func g) #[] cap] 114)) := (Below.refl _ _).alloc (Nat.le_refl _) _
  have hpp := everyW_pred g cap eg p xs _ w.heap.size (by simp) (by simp) (hp.later hba)
  have hrr := (hr.below hba).mono (B' := (w.alloc (.cells #[.func (.func g) #[] cap] 114)).heap.size) (by simp)
  have eg2 := enters_of Try.func88 (by kernel_rfl) rfl
  have hcon := containsW_any 88 _ eg2 _ A xs c _ hrr hpp hl
  have HC := Lib.hid hcon
  clear hcon hp hr hrr hpp hba eg2
  go_enter Try.func61, Try.ntmps61
  go_wp2_with fail
  refine HC.out.mono ?_
  rintro e w' ⟨rfl, hb'⟩
  go_wp2
  go_ret
  refine ⟨?_, ((Below.refl _ _).alloc (Nat.le_refl _) _).trans (hb'.mono (by simp))⟩
  apply ret_bool
  rw [Bool.eq_iff_iff]; simp
end Go.Proofs.Ytjihnnbpfdhceaa
