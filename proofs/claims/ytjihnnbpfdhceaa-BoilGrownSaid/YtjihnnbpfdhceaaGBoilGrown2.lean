/- slices.IndexFunc, slices.ContainsFunc and boil.every at the element types of this program, whatever the predicate. Conditions: none beyond those that each theorem names. -/
import Derived.Test.YtjihnnbpfdhceaaGBoilGrown1
import Derived.Laws.EntriesVeiled
import Derived.Shelf.Abstract
set_option linter.unusedSimpArgs false
set_option linter.unusedVariables false
namespace Go.Proofs.Ytjihnnbpfdhceaa
open Go.RowKit

/-- What is asked of a predicate: at each element of xs, in each world in which all that lay in W lies unturned. -/
def PredOk {α : Type} (val : α → Value) (g : FuncId) (cap : Array Value) (W : World) (xs : List α) (p : α → Bool) : Prop :=
  ∀ (w : World) (x : α), x ∈ xs → Below W.heap.size W w → Calls Try.prog g (#[val x] ++ cap) w fun e w' => e = .returned (.bool (p x)) ∧ Below w.heap.size w w'

theorem PredOk.later {α : Type} {val : α → Value} {g : FuncId} {cap : Array Value} {W W' : World} {xs : List α} {p : α → Bool} (h : PredOk val g cap W xs p) (hb : Below W.heap.size W W') : PredOk val g cap W' xs p :=
  fun w x hx hw => h w x hx (hb.trans (hw.mono hb.size))

def idxI {α : Type} (xs : List α) (p : α → Bool) : Int := match xs.findIdx? p with | some i => (i : Int) | none => -1

theorem idxI_hit {α : Type} (xs : List α) (p : α → Bool) (k : Nat) (hk : k < xs.length) (hp : p xs[k] = true) (ha : ∀ j (h : j < k), p (xs[j]'(by omega)) = false) : idxI xs p = k := by
  have : xs.findIdx? p = some k := List.findIdx?_eq_some_iff_getElem.2 ⟨hk, hp, fun j hj => by simpa using ha j hj⟩
  simp [idxI, this]
theorem idxI_miss {α : Type} (xs : List α) (p : α → Bool) (ha : ∀ j (h : j < xs.length), p xs[j] = false) : idxI xs p = -1 := by
  have : xs.findIdx? p = none := List.findIdx?_eq_none_iff.2 fun x hx => by
    obtain ⟨j, hj, rfl⟩ := List.getElem_of_mem hx
    exact ha j hj
  simp [idxI, this]
theorem idxI_any {α : Type} (xs : List α) (p : α → Bool) : decide (idxI xs p ≥ 0) = xs.any p := by
  unfold idxI
  cases h : xs.findIdx? p with
  | none => 
    have := List.findIdx?_eq_none_iff.1 h
    simp only [show ¬ (-1 : Int) ≥ 0 by omega, decide_false]
    symm
    rw [List.any_eq_false]
    exact fun x hx => by simp [this x hx]
  | some i =>
    obtain ⟨hi, hp, _⟩ := List.findIdx?_eq_some_iff_getElem.1 h
    simp only [show ((i : Int) ≥ 0) by omega, decide_true]
    symm
    rw [List.any_eq_true]
    exact ⟨_, List.getElem_mem hi, hp⟩

set_option maxHeartbeats 400000 in
theorem indexW_any (g : FuncId) (cap : Array Value) (eg : ∀ args w, (callFunc g args).run Try.prog w = .ok (.enter g args) w) (p : Wg → Bool) (A : Option Addr) (xs : List Wg) (c : Nat) (w : World)
    (hr : RowIn Wg.enc 5 w w.heap.size A xs) (hp : PredOk Wg.val g cap w xs p) (hl : xs.length ≤ 1000000) :
    Calls Try.prog 97 #[.slice A xs.length c, .func (.func g) #[] cap] w fun e w' => e = .returned (.int .i64 (idxI xs p)) ∧ Below w.heap.size w w' := by
  go_enter Try.func97, Try.ntmps97
  go_wp2
  go_loopw [8] (fun i wr => ∃ j : Nat, j ≤ xs.length ∧ i = .int .i64 j ∧ Aside (∀ q (h : q < xs.length), q < j → p xs[q] = false) ∧ Aside (Below w.heap.size w wr)) (fun i _ => xs.length - (intOf i).toNat)
  case atStart => exact ⟨0, Nat.zero_le _, rfl, fun q _ h => absurd h (Nat.not_lt_zero _), Below.refl _ _⟩
  case round =>
    obtain ⟨k, hk, rfl, HA, hbw⟩ := hrel
    have hbw' : Below w.heap.size w wr := hbw
    clear hbw
    have hbw := hbw'
    clear hbw'
    by_cases hlt : k < xs.length
    · obtain ⟨b, o, x, rfl, hB, hx, c0, c1, c2, c3, c4⟩ := (hr.below hbw).wg k hlt
      have hcall := hp wr x (by rw [← hx]; exact List.getElem_mem hlt) hbw
      have HX := Lib.hid hx
      clear hx hr hp
      cases hq : p x with
      | true =>
        rw [hq] at hcall
        have HC := Lib.hid hcall
        clear hcall
        go_wp2_with fail
        refine HC.out.mono ?_
        rintro e w' ⟨rfl, hb'⟩
        go_wp2
        go_ret
        refine ⟨ret_int ?_, hbw.trans (hb'.mono hbw.size)⟩
        rw [idxI_hit xs p k hlt (by rw [HX.out]; exact hq) (fun j hj => HA.out j (by omega) hj)]
      | false =>
        rw [hq] at hcall
        have HC := Lib.hid hcall
        clear hcall
        go_wp2_with fail
        refine HC.out.mono ?_
        rintro e w' ⟨rfl, hb'⟩
        go_wp2
        go_roundw
        case rel =>
          refine ⟨k + 1, by omega, by go_num, (show Aside _ from fun j hj hjk => ?_), hbw.trans (hb'.mono hbw.size)⟩
          by_cases e : j = k
          · subst e
            rw [HX.out]; exact hq
          · exact HA.out j hj (by omega)
        case measure => simp [intOf]; omega
    · obtain rfl : k = xs.length := by omega
      clear hr hp
      go_wp2
      go_ret
      exact ⟨ret_int (idxI_miss xs p (fun j hj => HA.out j hj hj)).symm, hbw⟩
set_option maxHeartbeats 400000 in
theorem containsW_any (g : FuncId) (cap : Array Value) (eg : ∀ args w, (callFunc g args).run Try.prog w = .ok (.enter g args) w) (p : Wg → Bool) (A : Option Addr) (xs : List Wg) (c : Nat) (w : World)
    (hr : RowIn Wg.enc 5 w w.heap.size A xs) (hp : PredOk Wg.val g cap w xs p) (hl : xs.length ≤ 1000000) :
    Calls Try.prog 87 #[.slice A xs.length c, .func (.func g) #[] cap] w fun e w' => e = .returned (.bool (xs.any p)) ∧ Below w.heap.size w w' := by
  rw [← idxI_any]
  have HR := Lib.hid hr
  have HP := Lib.hid hp
  clear hr hp
  go_enter Try.func87, Try.ntmps87
  go_wp2_with (go_at_call 97; refine (indexW_any g cap eg p A xs c _ HR.out HP.out hl).mono ?_; rintro e w' ⟨rfl, hb⟩)
  go_ret
  exact ⟨rfl, hb⟩
set_option maxHeartbeats 400000 in
theorem everyW_pred (g : FuncId) (cap : Array Value) (eg : ∀ args w, (callFunc g args).run Try.prog w = .ok (.enter g args) w) (p : Wg → Bool) (xs : List Wg) (w : World) (n : Nat) (hn : n < w.heap.size)
    (hc : w.cell? ⟨n, 0, none⟩ = some (.func (.func g) #[] cap)) (hp : PredOk Wg.val g cap w xs p) : PredOk Wg.val 88 #[.pointer (some ⟨n, 0, none⟩)] w xs (fun x => !p x) := by
  intro w1 x hx hb
  have hcall := hp (w1.alloc (.cells #[.int .i64 x.month, .int .i64 x.slo, .int .i64 x.shi, .int .i64 x.mlo, .int .i64 x.mhi] 55)) x hx (hb.alloc hb.size _)
  have hc1 := (hb.cell (p := ⟨n, 0, none⟩) hn).trans hc
  have hlt : n < w1.heap.size := Nat.lt_of_lt_of_le hn hb.size
  clear hp hc
  have HC := Lib.hid hcall
  clear hcall
  unfold Wg.val at *
  rw [show ∀ a b : Value, (#[a] ++ #[b] : Array Value) = #[a, b] from fun _ _ => rfl]
  cases hq : p x
  all_goals
    rw [hq] at HC
    have HQ := Lib.hid hq
    clear hq
    go_enter Try.func88, Try.ntmps88
    go_wp2_with fail
    refine HC.out.mono ?_
    rintro e w' ⟨rfl, hb'⟩
    go_wp2
    go_ret
    exact ⟨by rw [HQ.out]; rfl, ((Below.refl _ _).alloc (Nat.le_refl _) _).trans (hb'.mono (by simp))⟩

set_option maxHeartbeats 400000 in
theorem everyW_any (g : FuncId) (cap : Array Value) (eg : ∀ args w, (callFunc g args).run Try.prog w = .ok (.enter g args) w) (p : Wg → Bool) (A : Option Addr) (xs : List Wg) (c : Nat) (w : World)
    (hr : RowIn Wg.enc 5 w w.heap.size A xs) (hp : PredOk Wg.val g cap w xs p) (hl : xs.length ≤ 1000000) :
    Calls Try.prog 61 #[.slice A xs.length c, .func (.func g) #[] cap] w fun e w' => e = .returned (.bool (xs.all p)) ∧ Below w.heap.size w w' := by
  have hba : Below w.heap.size w (w.alloc (.cells #[.func (.func g) #[] cap] 114)) := (Below.refl _ _).alloc (Nat.le_refl _) _
  have hpp := everyW_pred g cap eg p xs _ w.heap.size (by simp) (by simp) (hp.later hba)
  have hrr := (hr.below hba).mono (B' := (w.alloc (.cells #[.func (.func g) #[] cap] 114)).heap.size) (by simp)
  have eg2 := enters_of Try.func88 (by kernel_rfl) rfl
  have hcon := containsW_any 88 _ eg2 _ A xs c _ hrr hpp hl
  have HC := Lib.hid hcon
  clear hcon hp hr hrr hpp hba eg2
  go_enter Try.func61, Try.ntmps61
  go_wp2_with fail
  refine HC.out.mono ?_
  rintro e w' ⟨rfl, hb'⟩
  go_wp2
  go_ret
  refine ⟨?_, ((Below.refl _ _).alloc (Nat.le_refl _) _).trans (hb'.mono (by simp))⟩
  apply ret_bool
  rw [Bool.eq_iff_iff]; simp
end Go.Proofs.Ytjihnnbpfdhceaa

/- boil.Check. Conditions: none beyond those that each theorem names. -/
set_option linter.unusedSimpArgs false
set_option linter.unusedVariables false
namespace Go.Proofs.Ytjihnnbpfdhceaa
open Go.RowKit

def Wg.measured (x : Wg) : Bool := (inB x.slo 1 1000 && inB x.shi 1 1000) && (inB x.mlo 1 1000 && inB x.mhi 1 1000)
def Wg.ordered (x : Wg) : Bool := decide (x.slo ≤ x.shi) && decide (x.mlo ≤ x.mhi)
def Hs.check (h : Hs) : Int :=
  if !inB h.months 1 12 || decide (14 < h.ws.length) then 2
  else if !h.month h.peak || !(h.ws.all fun x => h.month x.month) then 1
  else if !(h.ws.all Wg.measured) then 3
  else if !(h.ws.all Wg.ordered) then 4 else 0

set_option maxHeartbeats 400000 in
theorem check1_any (lo hi : Int) (w : World) :
    Calls Try.prog 60 #[.agg #[.int .i64 lo, .int .i64 hi]] w fun e w' => e = .returned (.bool (inB lo 1 1000 && inB hi 1 1000)) ∧ Below w.heap.size w w' := by
  go_enter Try.func60, Try.ntmps60
  go_wp2_with fail
  refine (in_any _ _ _ _).mono ?_
  rintro e w' ⟨rfl, rfl⟩
  cases hq : inB lo 1 1000
  · go_wp2
    go_ret
    exact ⟨by simp [hq], (by repeat (first | exact Below.refl _ _ | exact Below.refl _ _ | refine Below.drew ?_ | refine below_drewN ?_ _ | refine Below.setCell ?_ (by first | assumption | omega | (simp; done) | (simp; omega) | (simp at *; omega)) _ | refine Below.alloc ?_ (by first | assumption | omega | (simp; done) | (simp; omega) | (simp at *; omega)) _ | refine Below.trans ?_ (Below.mono Below.refl _ _ (by first | assumption | omega | (simp; done) | (simp; omega) | (simp at *; omega)))))⟩
  · go_wp2_with fail
    refine (in_any _ _ _ _).mono ?_
    rintro e w' ⟨rfl, rfl⟩
    go_wp2
    go_ret
    exact ⟨by simp [hq], (Below.refl _ _).alloc (Nat.le_refl _) _⟩

set_option maxHeartbeats 400000 in
theorem check2_pred (h : Hs) (A : Option Addr) (c : Nat) (w : World) (n : Nat) (hn : n < w.heap.size) (hm : 0 ≤ h.months) (hm' : h.months ≤ 1000000)
    (hc : w.cell? ⟨n, 0, none⟩ = some (.func (.func 46) #[h.val A c] #[])) : PredOk Wg.val 62 #[.pointer (some ⟨n, 0, none⟩)] w h.ws (fun x => h.month x.month) := by
  intro w1 x hx hb
  have hc1 := (hb.cell (p := ⟨n, 0, none⟩) hn).trans hc
  have hlt : n < w1.heap.size := Nat.lt_of_lt_of_le hn hb.size
  clear hc
  unfold Wg.val
  rw [show ∀ a b : Value, (#[a] ++ #[b] : Array Value) = #[a, b] from fun _ _ => rfl]
  go_enter Try.func62, Try.ntmps62
  go_wp2_with fail
  refine (month_any h A c _ _ hm hm').mono ?_
  rintro e w' ⟨rfl, hb'⟩
  go_wp2
  go_ret
  exact ⟨rfl, by repeat (first | exact Below.refl _ _ | exact hb' | refine Below.drew ?_ | refine below_drewN ?_ _ | refine Below.setCell ?_ (by first | assumption | omega | (simp; done) | (simp; omega) | (simp at *; omega)) _ | refine Below.alloc ?_ (by first | assumption | omega | (simp; done) | (simp; omega) | (simp at *; omega)) _ | refine Below.trans ?_ (Below.mono hb' (by first | assumption | omega | (simp; done) | (simp; omega) | (simp at *; omega))))⟩

set_option maxHeartbeats 400000 in
theorem check3_pred (ws : List Wg) (w : World) (n : Nat) (hn : n < w.heap.size)
    (hc : w.cell? ⟨n, 0, none⟩ = some (.func (.func 60) #[] #[])) : PredOk Wg.val 63 #[.pointer (some ⟨n, 0, none⟩)] w ws Wg.measured := by
  intro w1 x hx hb
  have hc1 := (hb.cell (p := ⟨n, 0, none⟩) hn).trans hc
  have hlt : n < w1.heap.size := Nat.lt_of_lt_of_le hn hb.size
  clear hc
  unfold Wg.val
  rw [show ∀ a b : Value, (#[a] ++ #[b] : Array Value) = #[a, b] from fun _ _ => rfl]
  go_enter Try.func63, Try.ntmps63
  go_wp2_with fail
  refine (check1_any _ _ _).mono ?_
  rintro e w2 ⟨rfl, hb'⟩
  obtain ⟨chb', fhb'⟩ := bcell hb'
  have zhb' := hb'.size
  try simp only [World.size_alloc, World.size_setCell, World.size_drew] at zhb'
  cases hq : inB x.slo 1 1000 && inB x.shi 1 1000
  · go_wp2
    go_ret
    exact ⟨by simp [Wg.measured, hq], by repeat (first | exact Below.refl _ _ | exact hb' | refine Below.drew ?_ | refine below_drewN ?_ _ | refine Below.setCell ?_ (by first | assumption | omega | (simp; done) | (simp; omega) | (simp at *; omega)) _ | refine Below.alloc ?_ (by first | assumption | omega | (simp; done) | (simp; omega) | (simp at *; omega)) _ | refine Below.trans ?_ (Below.mono hb' (by first | assumption | omega | (simp; done) | (simp; omega) | (simp at *; omega))))⟩
  · go_wp2_with fail
    refine (check1_any _ _ _).mono ?_
    rintro e w' ⟨rfl, hb''⟩
    go_wp2
    go_ret
    refine ⟨by simp [Wg.measured, hq], ?_⟩
    have hB2 : Below w1.heap.size w1 w2 := by repeat (first | exact Below.refl _ _ | exact hb' | refine Below.drew ?_ | refine below_drewN ?_ _ | refine Below.setCell ?_ (by first | assumption | omega | (simp; done) | (simp; omega) | (simp at *; omega)) _ | refine Below.alloc ?_ (by first | assumption | omega | (simp; done) | (simp; omega) | (simp at *; omega)) _ | refine Below.trans ?_ (Below.mono hb' (by first | assumption | omega | (simp; done) | (simp; omega) | (simp at *; omega))))
    exact hB2.trans (hb''.mono hB2.size)

set_option maxHeartbeats 400000 in
theorem check4_pred (ws : List Wg) (w : World) : PredOk Wg.val 64 #[] w ws Wg.ordered := by
  intro w1 x hx hb
  unfold Wg.val
  rw [show ∀ a : Value, (#[a] ++ #[] : Array Value) = #[a] from fun _ => rfl]
  go_enter Try.func64, Try.ntmps64
  go_wp2
  all_goals go_ret
  all_goals (refine ⟨?_, by repeat (first | exact Below.refl _ _ | exact Below.refl _ _ | refine Below.drew ?_ | refine below_drewN ?_ _ | refine Below.setCell ?_ (by first | assumption | omega | (simp; done) | (simp; omega) | (simp at *; omega)) _ | refine Below.alloc ?_ (by first | assumption | omega | (simp; done) | (simp; omega) | (simp at *; omega)) _ | refine Below.trans ?_ (Below.mono Below.refl _ _ (by first | assumption | omega | (simp; done) | (simp; omega) | (simp at *; omega))))⟩; apply ret_bool; unfold Wg.ordered; rw [Bool.eq_iff_iff]; simp; try omega)

set_option maxHeartbeats 1000000 in
theorem check_any (h : Hs) (A : Option Addr) (c : Nat) (w : World) (hr : RowIn Wg.enc 5 w w.heap.size A h.ws) (hl : h.ws.length ≤ 1000000) :
    Calls Try.prog 24 #[h.val A c] w fun e w' => e = .returned (.int .i64 h.check) ∧ Below w.heap.size w w' := by
  have e46 := enters_of Try.func46 (by kernel_rfl) rfl
  have e60 := enters_of Try.func60 (by kernel_rfl) rfl
  have e62 := enters_of Try.func62 (by kernel_rfl) rfl
  have e63 := enters_of Try.func63 (by kernel_rfl) rfl
  have e64 := enters_of Try.func64 (by kernel_rfl) rfl
  have HR := Lib.hid hr
  clear hr
  unfold Hs.val
  go_enter Try.func24, Try.ntmps24
  go_wp2_with fail
  refine (in_any _ _ _ _).mono ?_
  rintro e w' ⟨rfl, rfl⟩
  cases hq : inB h.months 1 12
  · go_wp2
    go_ret
    exact ⟨by simp [Hs.check, hq], by repeat (first | exact Below.refl _ _ | exact Below.refl _ _ | refine Below.drew ?_ | refine below_drewN ?_ _ | refine Below.setCell ?_ (by first | assumption | omega | (simp; done) | (simp; omega) | (simp at *; omega)) _ | refine Below.alloc ?_ (by first | assumption | omega | (simp; done) | (simp; omega) | (simp at *; omega)) _ | refine Below.trans ?_ (Below.mono Below.refl _ _ (by first | assumption | omega | (simp; done) | (simp; omega) | (simp at *; omega))))⟩
  · have hm : 1 ≤ h.months ∧ h.months ≤ 12 := by simpa [inB] using hq
    obtain ⟨hm1, hm2⟩ := hm
    by_cases hlt : 14 < h.ws.length
    · go_wp2
      go_ret
      exact ⟨by simp [Hs.check, hlt], by repeat (first | exact Below.refl _ _ | exact Below.refl _ _ | refine Below.drew ?_ | refine below_drewN ?_ _ | refine Below.setCell ?_ (by first | assumption | omega | (simp; done) | (simp; omega) | (simp at *; omega)) _ | refine Below.alloc ?_ (by first | assumption | omega | (simp; done) | (simp; omega) | (simp at *; omega)) _ | refine Below.trans ?_ (Below.mono Below.refl _ _ (by first | assumption | omega | (simp; done) | (simp; omega) | (simp at *; omega))))⟩
    have hcm : h.check = if !h.month h.peak || !(h.ws.all fun x => h.month x.month) then 1
        else if !(h.ws.all Wg.measured) then 3 else if !(h.ws.all Wg.ordered) then 4 else 0 := by simp [Hs.check, hq, hlt]
    have HCM := Lib.hid hcm
    clear hcm
    go_wp2_with fail
    refine (month_any h A c _ _ (by omega) (by omega)).mono ?_
    rintro e w1 ⟨rfl, hb1⟩
    have zhb1 := hb1.size
    try simp only [World.size_alloc, World.size_setCell, World.size_drew] at zhb1
    have c0 : (w1).cell? ⟨w.heap.size, 2, none⟩ = some (.slice A h.ws.length c) := by rw [hb1.cell (p := ⟨w.heap.size, 2, none⟩) (by first | assumption | omega | (simp; done) | (simp; omega) | (simp at *; omega))]; simp [go_sem]
    have c1 : (w1).cell? ⟨w.heap.size + 1, 0, none⟩ = some (.func (.func 46) #[.agg #[.int .i64 h.months, .int .i64 h.peak, .slice A h.ws.length c]] #[]) := by rw [hb1.cell (p := ⟨w.heap.size + 1, 0, none⟩) (by first | assumption | omega | (simp; done) | (simp; omega) | (simp at *; omega))]; simp [go_sem]
    have c2 : (w1).cell? ⟨w.heap.size + 1 + 1, 0, none⟩ = some (.func (.func 60) #[] #[]) := by rw [hb1.cell (p := ⟨w.heap.size + 1 + 1, 0, none⟩) (by first | assumption | omega | (simp; done) | (simp; omega) | (simp at *; omega))]; simp [go_sem]
    have hB1 : Below w.heap.size w w1 := by repeat (first | exact Below.refl _ _ | exact hb1 | refine Below.drew ?_ | refine below_drewN ?_ _ | refine Below.setCell ?_ (by first | assumption | omega | (simp; done) | (simp; omega) | (simp at *; omega)) _ | refine Below.alloc ?_ (by first | assumption | omega | (simp; done) | (simp; omega) | (simp at *; omega)) _ | refine Below.trans ?_ (Below.mono hb1 (by first | assumption | omega | (simp; done) | (simp; omega) | (simp at *; omega))))
    cases hp : h.month h.peak
    · go_wp2
      go_ret
      refine ⟨?_, hB1⟩
      rw [HCM.out, hp]; rfl
    go_wp2_with fail
    refine (everyW_any _ _ e62 (fun x => h.month x.month) A h.ws c _ ?_ ?_ hl).mono ?_
    · exact (HR.out.below hB1).mono hB1.size
    · exact check2_pred h A c w1 _ (by omega) (by omega) (by omega) c1
    rintro e w2 ⟨rfl, hb2⟩
    have zhb2 := hb2.size
    try simp only [World.size_alloc, World.size_setCell, World.size_drew] at zhb2
    have hB2 : Below w.heap.size w w2 := hB1.trans (hb2.mono hB1.size)
    have c0 := (hb2.cell (p := ⟨w.heap.size, 2, none⟩) (by first | assumption | omega | (simp; done) | (simp; omega) | (simp at *; omega))).trans c0
    have c2 := (hb2.cell (p := ⟨w.heap.size + 1 + 1, 0, none⟩) (by first | assumption | omega | (simp; done) | (simp; omega) | (simp at *; omega))).trans c2
    cases hp2 : h.ws.all fun x => h.month x.month
    · go_wp2
      go_ret
      refine ⟨?_, hB2⟩
      rw [HCM.out, hp, hp2]; rfl
    go_wp2_with fail
    refine (everyW_any _ _ e63 Wg.measured A h.ws c _ ?_ ?_ hl).mono ?_
    · exact (HR.out.below hB2).mono hB2.size
    · exact check3_pred h.ws w2 _ (by omega) c2
    rintro e w3 ⟨rfl, hb3⟩
    have zhb3 := hb3.size
    try simp only [World.size_alloc, World.size_setCell, World.size_drew] at zhb3
    have hB3 : Below w.heap.size w w3 := hB2.trans (hb3.mono hB2.size)
    have c0 := (hb3.cell (p := ⟨w.heap.size, 2, none⟩) (by first | assumption | omega | (simp; done) | (simp; omega) | (simp at *; omega))).trans c0
    cases hp3 : h.ws.all Wg.measured
    · go_wp2
      go_ret
      refine ⟨?_, hB3⟩
      rw [HCM.out, hp, hp2, hp3]; rfl
    go_wp2_with fail
    refine (everyW_any _ _ e64 Wg.ordered A h.ws c _ ?_ ?_ hl).mono ?_
    · exact (HR.out.below hB3).mono hB3.size
    · exact check4_pred h.ws w3
    rintro e w4 ⟨rfl, hb4⟩
    have zhb4 := hb4.size
    try simp only [World.size_alloc, World.size_setCell, World.size_drew] at zhb4
    have hB4 : Below w.heap.size w w4 := hB3.trans (hb4.mono hB3.size)
    cases hp4 : h.ws.all Wg.ordered
    · go_wp2
      go_ret
      refine ⟨?_, hB4⟩
      rw [HCM.out, hp, hp2, hp3, hp4]; rfl
    go_wp2
    go_ret
    refine ⟨?_, hB4⟩
    rw [HCM.out, hp, hp2, hp3, hp4]; rfl
end Go.Proofs.Ytjihnnbpfdhceaa
