/- boil.Shown. Conditions: none beyond those that each theorem names. -/
import Derived.Test.YtjihnnbpfdhceaaGBoilGrown18
import Derived.Test.YtjihnnbpfdhceaaGBoilGrown20
set_option linter.unusedSimpArgs false
set_option linter.unusedVariables false
namespace Go.Proofs.Ytjihnnbpfdhceaa
open Go.RowKit Go.Shelf
attribute [local go_sem] Oper.semAt_some
attribute [local go_sem ↓] Go.wp_at_zero Go.wp_at_succ

/-- The ratio that boil.Shown shows of a month. -/
def Hs.shownAt (h : Hs) (m : Int) : Rat2 := gr ⟨1, 1000⟩ (h.lowers m)
def Hs.shownL (h : Hs) (k : Nat) : List Rat2 := (List.range k).map fun (m : Nat) => h.shownAt m
theorem shownL_snoc (h : Hs) (k : Nat) : h.shownL (k + 1) = h.shownL k ++ [h.shownAt k] := by
  unfold Hs.shownL; rw [List.range_succ, List.map_append]; rfl
theorem shownL_len (h : Hs) (k : Nat) : (h.shownL k).length = k := by unfold Hs.shownL; simp

set_option maxRecDepth 100000 in
set_option maxHeartbeats 1000000 in
theorem shown_err (h : Hs) (A : Option Addr) (c : Nat) (w : World) (hr : RowIn Wg.enc 5 w w.heap.size A h.ws) (hl : h.ws.length ≤ 1000000) (hk : h.check ≠ 0) :
    Calls Try.prog 23 #[h.val A c] w fun e w' => e = .returned (.tuple #[.slice none 0 0, .int .i64 h.check]) ∧ Below w.heap.size w w' := by
  have HOP := Lib.hid (fun V hr => opened_err h A c V hr hl hk)
  have HR := Lib.hid hr
  have hq : (h.check != 0) = true := by simpa using hk
  clear hr hk
  unfold Hs.val at HOP ⊢
  go_enter Try.func23, Try.ntmps23
  go_wp2_with fail
  refine (HOP.out _ (HR.out.later (alc _ _))).mono ?_
  rintro e w1 ⟨rfl, hb1⟩
  have hB := Below.step (alc w (.cells #[.int .i64 h.months, .int .i64 h.peak, .slice A h.ws.length c] 25)) hb1
  clear hb1
  go_wp2
  go_ret2
  exact ⟨rfl, hB⟩

set_option maxRecDepth 100000 in
set_option maxHeartbeats 1000000 in
theorem shown_clash (h : Hs) (A : Option Addr) (c : Nat) (w : World) (hr : RowIn Wg.enc 5 w w.heap.size A h.ws) (hk : h.check = 0) (hag : agreeB h.clashM = false) :
    Calls Try.prog 23 #[h.val A c] w fun e w' => e = .returned (.tuple #[.slice none 0 0, .int .i64 7]) ∧ Below w.heap.size w w' := by
  have HOP := Lib.hid (fun V hr => opened_any h A c V hr hk)
  have HR := Lib.hid hr
  have HA := Lib.hid hag
  clear hr hk hag
  unfold Hs.val at HOP ⊢
  go_enter Try.func23, Try.ntmps23
  go_wp2_with fail
  refine (HOP.out _ (HR.out.later (alc _ _))).mono ?_
  rintro e w1 ⟨g, rfl, hg, hgb, hb1⟩
  have hB := Below.step (alc w (.cells #[.int .i64 h.months, .int .i64 h.peak, .slice A h.ws.length c] 25)) hb1
  have hdk : Blk w1 g 134 (deskCells (.int .i64 h.months) (.int .i64 h.peak) (.slice A h.ws.length c) h.clashM) := hgb
  clear hb1 hg hgb
  go_wp2_with fail
  refine (agree_any _ _ _ _ _ _ hdk).mono ?_
  rintro e w2 ⟨rfl, rfl⟩
  rw [HA.out]
  go_wp2
  go_ret2
  exact ⟨rfl, hB⟩

set_option maxRecDepth 100000 in
set_option maxHeartbeats 2000000 in
theorem shown_ok (h : Hs) (A : Option Addr) (c : Nat) (w : World) (hr : RowIn Wg.enc 5 w w.heap.size A h.ws) (hk : h.check = 0) (hag : agreeB h.clashM = true) :
    Calls Try.prog 23 #[h.val A c] w fun e w' => ∃ A2 n c2, e = .returned (.tuple #[.slice A2 n c2, .int .i64 0]) ∧ h.months = (n : Nat) ∧ RowIn Rat2.enc 2 w' w'.heap.size A2 (h.shownL n) ∧ Below w.heap.size w w' := by
  obtain ⟨i0, hi0, hz0, hz1, hz2⟩ := info_parts info_ratio
  obtain ⟨N, hN⟩ := Int.eq_ofNat_of_zero_le (show 0 ≤ h.months by have := check_months hk; omega)
  have hN12 : N ≤ 12 := by have := check_months hk; omega
  have hlen := check_len hk
  have HOK := Lib.hid (check_ok hk)
  have HOP := Lib.hid (fun V hr => opened_any h A c V hr hk)
  have HLW := Lib.hid (fun (m : Int) V hr => lowers_any h A c m V hr hk)
  have HGR := Lib.hid (fun A2 l c2 V hR hl hn => greatest_any ⟨1, 1000⟩ A2 l c2 V hR ⟨by decide, by decide, by decide, by decide⟩ hl hn)
  have HR := Lib.hid hr
  have HA := Lib.hid hag
  clear hr hk hag
  unfold Hs.val at HOP HLW ⊢
  rw [hN] at HOP HLW ⊢
  have HN := Lib.hid hN
  clear hN
  unfold Rat2.val at HGR
  simp only at HGR
  go_enter Try.func23, Try.ntmps23
  go_wp2_with fail
  refine (HOP.out _ (HR.out.later (alc _ _))).mono ?_
  rintro e w1 ⟨g, rfl, hg, hgb, hb1⟩
  have hB := Below.step (alc w (.cells #[.int .i64 N, .int .i64 h.peak, .slice A h.ws.length c] 25)) hb1
  have hdk : Blk w1 g 134 (deskCells (.int .i64 h.months) (.int .i64 h.peak) (.slice A h.ws.length c) h.clashM) := hgb
  have HH := Lib.hid ((Blk.new w 25 #[.int .i64 N, .int .i64 h.peak, .slice A h.ws.length c]).later hb1)
  clear hb1 hg hgb
  go_wp2_with fail
  refine (agree_any _ _ _ _ _ _ hdk).mono ?_
  rintro e w2 ⟨rfl, rfl⟩
  rw [HA.out]
  clear hdk
  have hW : w.heap.size < w1.heap.size := HH.out.lt
  have p0 := Blk.cell HH.out 0
  have p1 := Blk.cell HH.out 1
  have p2 := Blk.cell HH.out 2
  have pf0 := Blk.frozen HH.out 0
  have pf1 := Blk.frozen HH.out 1
  have pf2 := Blk.frozen HH.out 2
  have pl := Blk.lt HH.out
  simp only [List.getElem?_toArray, List.getElem?_cons_zero, List.getElem?_cons_succ] at p0 p1 p2
  go_wp2
  clear p0 p1 p2 pf0 pf1 pf2 pl
  go_loopw [6, 21] (fun v i wr => ∃ k : Nat, k ≤ N ∧ i = .int .i64 k ∧ Below w1.heap.size w1 wr ∧ wr.ownsRow w1.heap.size 43 2 v (h.shownL k).length (flatR (h.shownL k))) (fun _ i _ => N - (intOf i).toNat)
  case atStart => exact ⟨0, by omega, rfl, Below.refl _ _, World.ownsRow_nil _ _ _ 2⟩
  case round =>
    obtain ⟨k, hk, rfl, hb, hOw⟩ := hrel
    have HOw := Lib.hid hOw
    clear hOw
    by_cases hlt : k < N
    · have hBr := Below.step hB hb
      have H1 := Lib.hid (HLW.out k _ (HR.out.later hBr))
      have p0 := Blk.cell (HH.out.later hb) 0
      have p1 := Blk.cell (HH.out.later hb) 1
      have p2 := Blk.cell (HH.out.later hb) 2
      have pf0 := Blk.frozen (HH.out.later hb) 0
      have pf1 := Blk.frozen (HH.out.later hb) 1
      have pf2 := Blk.frozen (HH.out.later hb) 2
      have pl := Blk.lt (HH.out.later hb)
      simp only [List.getElem?_toArray, List.getElem?_cons_zero, List.getElem?_cons_succ] at p0 p1 p2
      go_wp2_with fail
      refine H1.out.mono ?_
      rintro e w3 ⟨v3, rfl, hown3, hb3⟩
      obtain ⟨ao, cap, rfl, hrow, _, _⟩ := row_of_own Rat2.enc 2 rat_len hown3
      have HO3 := Lib.hid (ownsRow_keep HOw.out hb3)
      have hll : (h.lowers k).length ≤ 1000000 := by
        have := h.lowersTo_len k h.ws.length
        rw [Hs.lowersTo_all] at this
        omega
      have H2 := Lib.hid (HGR.out ao (h.lowers k) cap _ hrow (lowers_bd HOK.out k) hll)
      have ehb3 := Below.step hb hb3
      clear hb
      have hb := ehb3
      clear ehb3
      clear H1 hown3 hrow HOw hBr
      clear p0 p1 p2 pf0 pf1 pf2 pl
      go_wp2_with fail
      refine H2.out.mono ?_
      rintro e w4 ⟨rfl, hb4⟩
      have hO4 := ownsRow_keep HO3.out hb4
      have ehb4 := Below.step hb hb4
      clear hb
      have hb := ehb4
      clear ehb4
      clear H2 HO3
      have hsh : gr ⟨1, 1000⟩ (h.lowers k) = h.shownAt k := rfl
      rw [hsh]
      clear hsh
      have HZ := hb.size
      have hkl := shownL_len h k
      have HKL : (h.shownL k).length ≤ 12 := by omega
      clear hkl
      go_wp2_with (at_builtin; refine wpList_append_own _ rfl _ _ 26 rfl w1.heap.size 43 i0 _ 2 16 Try.underlying26 hi0 hz0 hz1 hz2 rfl (by decide) _ _ _ rfl (hO4.alloc _) ⟨w4.heap.size, 0, none⟩ 1 1 [.int .i64 (h.shownAt k).num, .int .i64 (h.shownAt k).den] rfl rfl ?c1 ?c2 ?c3 ?c4 ?c5 ?_)
      case c1 => exact World.news_of_block (cs := #[.int .i64 (h.shownAt k).num, .int .i64 (h.shownAt k).den]) (t := 43) (fr := (0, 0)) (heap_alloc_new w4 _)
      case c2 => simp [Value.oneCell']
      case c3 => unfold maxLen; omega
      case c4 => omega
      case c5 => simp; omega
      intro v' wn hown' hgrow _
      have hBn : Below w1.heap.size w1 wn := (hb.alloc HZ _).grown hgrow (by simp; omega) (fun g hg => (hO4.lt g hg).1)
      have HOw := Lib.hid hown'
      clear hown' hgrow hO4
      go_wp2
      go_roundw
      case rel => exact ⟨k + 1, by omega, by go_num, hBn, by rw [shownL_snoc, flatR_snoc, List.length_append]; exact HOw.out⟩
      case measure => simp [intOf]; omega
    · obtain rfl : N = k := by omega
      obtain ⟨ao, cap, rfl, hrow, _, _⟩ := row_of_own Rat2.enc 2 rat_len HOw.out
      have HRW := Lib.hid hrow
      have p0 := Blk.cell (HH.out.later hb) 0
      have p1 := Blk.cell (HH.out.later hb) 1
      have p2 := Blk.cell (HH.out.later hb) 2
      have pf0 := Blk.frozen (HH.out.later hb) 0
      have pf1 := Blk.frozen (HH.out.later hb) 1
      have pf2 := Blk.frozen (HH.out.later hb) 2
      have pl := Blk.lt (HH.out.later hb)
      simp only [List.getElem?_toArray, List.getElem?_cons_zero, List.getElem?_cons_succ] at p0 p1 p2
      clear hrow
      rw [shownL_len]
      go_wp2
      go_ret2
      exact ⟨ao, N, cap, rfl, rfl, HRW.out, Below.step hB hb⟩
end Go.Proofs.Ytjihnnbpfdhceaa

/- boil.Truth, boil.False and what they call. Conditions: none beyond those that each theorem names. -/
set_option linter.unusedSimpArgs false
set_option linter.unusedVariables false
namespace Go.Proofs.Ytjihnnbpfdhceaa
open Go.RowKit Go.Shelf
attribute [local go_sem] Oper.semAt_some
attribute [local go_sem ↓] Go.wp_at_zero Go.wp_at_succ

set_option maxHeartbeats 400000 in
theorem indexR_any (g : FuncId) (cap : Array Value) (eg : ∀ args w, (callFunc g args).run Try.prog w = .ok (.enter g args) w) (p : Rat2 → Bool) (A : Option Addr) (xs : List Rat2) (c : Nat) (w : World)
    (hr : RowIn Rat2.enc 2 w w.heap.size A xs) (hp : PredOk Rat2.val g cap w xs p) (hl : xs.length ≤ 1000000) :
    Calls Try.prog 105 #[.slice A xs.length c, .func (.func g) #[] cap] w fun e w' => e = .returned (.int .i64 (idxI xs p)) ∧ Below w.heap.size w w' := by
  go_enter Try.func105, Try.ntmps105
  go_wp2
  go_loopw [8] (fun i wr => ∃ j : Nat, j ≤ xs.length ∧ i = .int .i64 j ∧ Aside (∀ q (h : q < xs.length), q < j → p xs[q] = false) ∧ Aside (Below w.heap.size w wr)) (fun i _ => xs.length - (intOf i).toNat)
  case atStart => exact ⟨0, Nat.zero_le _, rfl, fun q _ h => absurd h (Nat.not_lt_zero _), Below.refl _ _⟩
  case round =>
    obtain ⟨k, hk, rfl, HA, hbw⟩ := hrel
    have hbw' : Below w.heap.size w wr := hbw
    clear hbw
    have hbw := hbw'
    clear hbw'
    by_cases hlt : k < xs.length
    · obtain ⟨b, o, x, rfl, hB, hx, c0, c1⟩ := (hr.below hbw).rat k hlt
      have hcall := hp wr x (by rw [← hx]; exact List.getElem_mem hlt) hbw
      have HX := Lib.hid hx
      clear hx hr hp
      cases hq : p x with
      | true =>
        rw [hq] at hcall
        have HC := Lib.hid hcall
        clear hcall
        go_wp2_with fail
        refine HC.out.mono ?_
        rintro e w' ⟨rfl, hb'⟩
        go_wp2
        go_ret
        refine ⟨ret_int ?_, hbw.trans (hb'.mono hbw.size)⟩
        rw [idxI_hit xs p k hlt (by rw [HX.out]; exact hq) (fun j hj => HA.out j (by omega) hj)]
      | false =>
        rw [hq] at hcall
        have HC := Lib.hid hcall
        clear hcall
        go_wp2_with fail
        refine HC.out.mono ?_
        rintro e w' ⟨rfl, hb'⟩
        go_wp2
        go_roundw
        case rel =>
          refine ⟨k + 1, by omega, by go_num, (show Aside _ from fun j hj hjk => ?_), hbw.trans (hb'.mono hbw.size)⟩
          by_cases e : j = k
          · subst e
            rw [HX.out]; exact hq
          · exact HA.out j hj (by omega)
        case measure => simp [intOf]; omega
    · obtain rfl : k = xs.length := by omega
      clear hr hp
      go_wp2
      go_ret
      exact ⟨ret_int (idxI_miss xs p (fun j hj => HA.out j hj hj)).symm, hbw⟩
set_option maxHeartbeats 400000 in
theorem containsR_any (g : FuncId) (cap : Array Value) (eg : ∀ args w, (callFunc g args).run Try.prog w = .ok (.enter g args) w) (p : Rat2 → Bool) (A : Option Addr) (xs : List Rat2) (c : Nat) (w : World)
    (hr : RowIn Rat2.enc 2 w w.heap.size A xs) (hp : PredOk Rat2.val g cap w xs p) (hl : xs.length ≤ 1000000) :
    Calls Try.prog 101 #[.slice A xs.length c, .func (.func g) #[] cap] w fun e w' => e = .returned (.bool (xs.any p)) ∧ Below w.heap.size w w' := by
  rw [← idxI_any]
  have HR := Lib.hid hr
  have HP := Lib.hid hp
  clear hr hp
  go_enter Try.func101, Try.ntmps101
  go_wp2_with (go_at_call 105; refine (indexR_any g cap eg p A xs c _ HR.out HP.out hl).mono ?_; rintro e w' ⟨rfl, hb⟩)
  go_ret
  exact ⟨rfl, hb⟩
set_option maxHeartbeats 400000 in
theorem everyR_pred (g : FuncId) (cap : Array Value) (eg : ∀ args w, (callFunc g args).run Try.prog w = .ok (.enter g args) w) (p : Rat2 → Bool) (xs : List Rat2) (w : World) (n : Nat) (hn : n < w.heap.size)
    (hc : w.cell? ⟨n, 0, none⟩ = some (.func (.func g) #[] cap)) (hp : PredOk Rat2.val g cap w xs p) : PredOk Rat2.val 102 #[.pointer (some ⟨n, 0, none⟩)] w xs (fun x => !p x) := by
  intro w1 x hx hb
  have hcall := hp (w1.alloc (.cells #[.int .i64 x.num, .int .i64 x.den] 43)) x hx (hb.alloc hb.size _)
  have hc1 := (hb.cell (p := ⟨n, 0, none⟩) hn).trans hc
  have hlt : n < w1.heap.size := Nat.lt_of_lt_of_le hn hb.size
  clear hp hc
  have HC := Lib.hid hcall
  clear hcall
  unfold Rat2.val at *
  rw [show ∀ a b : Value, (#[a] ++ #[b] : Array Value) = #[a, b] from fun _ _ => rfl]
  cases hq : p x
  all_goals
    rw [hq] at HC
    have HQ := Lib.hid hq
    clear hq
    go_enter Try.func102, Try.ntmps102
    go_wp2_with fail
    refine HC.out.mono ?_
    rintro e w' ⟨rfl, hb'⟩
    go_wp2
    go_ret
    exact ⟨by rw [HQ.out]; rfl, ((Below.refl _ _).alloc (Nat.le_refl _) _).trans (hb'.mono (by simp))⟩

set_option maxHeartbeats 400000 in
theorem everyR_any (g : FuncId) (cap : Array Value) (eg : ∀ args w, (callFunc g args).run Try.prog w = .ok (.enter g args) w) (p : Rat2 → Bool) (A : Option Addr) (xs : List Rat2) (c : Nat) (w : World)
    (hr : RowIn Rat2.enc 2 w w.heap.size A xs) (hp : PredOk Rat2.val g cap w xs p) (hl : xs.length ≤ 1000000) :
    Calls Try.prog 94 #[.slice A xs.length c, .func (.func g) #[] cap] w fun e w' => e = .returned (.bool (xs.all p)) ∧ Below w.heap.size w w' := by
  have hba : Below w.heap.size w (w.alloc (.cells #[.func (.func g) #[] cap] 142)) := (Below.refl _ _).alloc (Nat.le_refl _) _
  have hpp := everyR_pred g cap eg p xs _ w.heap.size (by simp) (by simp) (hp.later hba)
  have hrr := (hr.below hba).mono (B' := (w.alloc (.cells #[.func (.func g) #[] cap] 142)).heap.size) (by simp)
  have eg2 := enters_of Try.func102 (by kernel_rfl) rfl
  have hcon := containsR_any 102 _ eg2 _ A xs c _ hrr hpp hl
  have HC := Lib.hid hcon
  clear hcon hp hr hrr hpp hba eg2
  go_enter Try.func94, Try.ntmps94
  go_wp2_with fail
  refine HC.out.mono ?_
  rintro e w' ⟨rfl, hb'⟩
  go_wp2
  go_ret
  refine ⟨?_, ((Below.refl _ _).alloc (Nat.le_refl _) _).trans (hb'.mono (by simp))⟩
  apply ret_bool
  rw [Bool.eq_iff_iff]; simp

def Rat2.okB (r : Rat2) : Bool := inB r.num 1 1000000 && inB r.den 1 1000000
theorem Rat2.okB_bd {r : Rat2} (h : r.okB = true) : 1 ≤ r.num ∧ r.num ≤ 1000000 ∧ 1 ≤ r.den ∧ r.den ≤ 1000000 := by
  simp [Rat2.okB, inB] at h; omega
theorem Rat2.okB_Bd {r : Rat2} (h : r.okB = true) : r.Bd := by
  have := Rat2.okB_bd h
  exact ⟨by omega, by omega, by omega, by omega⟩
theorem ratios1_pred (l : List Rat2) (w : World) : PredOk Rat2.val 95 #[] w l Rat2.okB := by
  intro w1 x hx hb
  unfold Rat2.val
  rw [show ∀ a : Value, (#[a] ++ #[] : Array Value) = #[a] from fun _ => rfl]
  go_enter Try.func95, Try.ntmps95
  go_wp2_with fail
  refine (in_any _ _ _ _).mono ?_
  rintro e w' ⟨rfl, rfl⟩
  cases hq : inB x.num 1 1000000
  · go_wp2
    go_ret
    exact ⟨by simp [Rat2.okB, hq], (by repeat (first | exact Below.refl _ _ | exact Below.refl _ _ | refine Below.drew ?_ | refine below_drewN ?_ _ | refine Below.setCell ?_ (by first | assumption | omega | (simp; done) | (simp; omega) | (simp at *; omega)) _ | refine Below.alloc ?_ (by first | assumption | omega | (simp; done) | (simp; omega) | (simp at *; omega)) _ | refine Below.trans ?_ (Below.mono Below.refl _ _ (by first | assumption | omega | (simp; done) | (simp; omega) | (simp at *; omega)))))⟩
  · go_wp2_with fail
    refine (in_any _ _ _ _).mono ?_
    rintro e w' ⟨rfl, rfl⟩
    go_wp2
    go_ret
    exact ⟨by simp [Rat2.okB, hq], (Below.refl _ _).alloc (Nat.le_refl _) _⟩

def Hs.ratiosE (h : Hs) (l : List Rat2) : Int := if h.check ≠ 0 then h.check else if (l.length : Int) ≠ h.months then 2 else if l.all Rat2.okB = false then 3 else 0
set_option maxHeartbeats 1000000 in
theorem ratios_any (h : Hs) (A : Option Addr) (c : Nat) (A2 : Option Addr) (l : List Rat2) (c2 : Nat) (w : World) (hr : RowIn Wg.enc 5 w w.heap.size A h.ws) (hl : h.ws.length ≤ 1000000) (hr2 : RowIn Rat2.enc 2 w w.heap.size A2 l) (hl2 : l.length ≤ 1000000) :
    Calls Try.prog 79 #[h.val A c, .slice A2 l.length c2] w fun e w' => e = .returned (.int .i64 (h.ratiosE l)) ∧ Below w.heap.size w w' := by
  have eg := enters_of Try.func95 (by kernel_rfl) rfl
  have HCK := Lib.hid (fun V hr => check_any h A c V hr hl)
  have HR := Lib.hid hr
  have HR2 := Lib.hid hr2
  clear hr hr2
  unfold Hs.val at HCK ⊢
  go_enter Try.func79, Try.ntmps79
  go_wp2_with fail
  refine (HCK.out _ (HR.out.later (alc _ _))).mono ?_
  rintro e w1 ⟨rfl, hb1⟩
  have hB := Below.step (alc w (.cells #[.int .i64 h.months, .int .i64 h.peak, .slice A h.ws.length c] 25)) hb1
  have HH := Lib.hid ((Blk.new w 25 #[.int .i64 h.months, .int .i64 h.peak, .slice A h.ws.length c]).later hb1)
  clear hb1
  have p0 := Blk.cell HH.out 0
  have p1 := Blk.cell HH.out 1
  have p2 := Blk.cell HH.out 2
  have pf0 := Blk.frozen HH.out 0
  have pf1 := Blk.frozen HH.out 1
  have pf2 := Blk.frozen HH.out 2
  have pl := Blk.lt HH.out
  simp only [List.getElem?_toArray, List.getElem?_cons_zero, List.getElem?_cons_succ] at p0 p1 p2
  by_cases hk : h.check = 0
  · have HE : Hid (h.ratiosE l = if (l.length : Int) ≠ h.months then 2 else if l.all Rat2.okB = false then 3 else 0) := Lib.hid (by unfold Hs.ratiosE; rw [if_neg (by simpa using hk)])
    rw [hk]
    clear hk
    by_cases hm : (l.length : Int) = h.months
    · have hq : ((l.length : Int) != h.months) = false := by simp [hm]
      have HE2 : Hid (h.ratiosE l = if l.all Rat2.okB = false then 3 else 0) := Lib.hid (by rw [HE.out, if_neg (by simpa using hm)])
      clear hm HE
      go_wp2_with fail
      refine (everyR_any _ _ eg Rat2.okB A2 l c2 _ (HR2.out.later hB) (ratios1_pred l _) hl2).mono ?_
      rintro e w2 ⟨rfl, hb2⟩
      have ehb2 := Below.step hB hb2
      clear hB
      have hB := ehb2
      clear ehb2
      clear hb2
      clear p0 p1 p2 pf0 pf1 pf2 pl
      cases hq2 : l.all Rat2.okB
      · have HE3 : Hid (h.ratiosE l = 3) := Lib.hid (by rw [HE2.out, hq2]; rfl)
        clear hq2 HE2
        go_wp2
        go_ret
        exact ⟨by rw [HE3.out]; rfl, hB⟩
      · have HE3 : Hid (h.ratiosE l = 0) := Lib.hid (by rw [HE2.out, hq2]; rfl)
        clear hq2 HE2
        go_wp2
        go_ret
        exact ⟨by rw [HE3.out]; rfl, hB⟩
    · have hq : ((l.length : Int) != h.months) = true := bne_iff_ne.2 hm
      have HE2 : Hid (h.ratiosE l = 2) := Lib.hid (by rw [HE.out, if_pos (by simpa using hm)])
      clear hm HE
      go_wp2
      go_ret
      exact ⟨by rw [HE2.out]; rfl, hB⟩
  · have hq : (h.check != 0) = true := bne_iff_ne.2 hk
    have HE : Hid (h.ratiosE l = h.check) := Lib.hid (by unfold Hs.ratiosE; rw [if_pos (by simpa using hk)])
    clear hk
    go_wp2
    go_ret
    exact ⟨by rw [HE.out]; rfl, hB⟩

def Hs.violB (h : Hs) (l : List Rat2) (m : Nat) : Bool := if (m : Int) ≤ h.peak then aboveB (l.getD (m - 1) ⟨0, 0⟩) (l.getD m ⟨0, 0⟩) else aboveB (l.getD m ⟨0, 0⟩) (l.getD (m - 1) ⟨0, 0⟩)
def Hs.truthB (h : Hs) (l : List Rat2) : Bool := (List.range l.length).all fun m => decide (m = 0) || !h.violB l m
theorem truthB_no {h : Hs} {l : List Rat2} {m : Nat} (h1 : 1 ≤ m) (h2 : m < l.length) (hv : h.violB l m = true) : h.truthB l = false := by
  unfold Hs.truthB
  rw [List.all_eq_false]
  exact ⟨m, List.mem_range.2 h2, by simp [hv]; omega⟩
theorem truthB_yes {h : Hs} {l : List Rat2} (H : ∀ m, 1 ≤ m → m < l.length → h.violB l m = false) : h.truthB l = true := by
  unfold Hs.truthB
  rw [List.all_eq_true]
  intro m hm
  rcases Nat.eq_zero_or_pos m with h0 | h0
  · simp [h0]
  · simp [H m h0 (List.mem_range.1 hm)]

set_option maxRecDepth 100000 in
set_option maxHeartbeats 1000000 in
theorem truth_any (h : Hs) (A : Option Addr) (c : Nat) (A2 : Option Addr) (l : List Rat2) (c2 : Nat) (w : World) (hr2 : RowIn Rat2.enc 2 w w.heap.size A2 l) (hl2 : l.length ≤ 1000000) (hok : ∀ r ∈ l, r.okB = true) :
    Calls Try.prog 80 #[h.val A c, .slice A2 l.length c2] w fun e w' => e = .returned (.bool (h.truthB l)) ∧ Below w.heap.size w w' := by
  have HR2 := Lib.hid hr2
  have HOK := Lib.hid hok
  clear hr2 hok
  unfold Hs.val
  go_enter Try.func80, Try.ntmps80
  go_wp2
  have hB := alc w (.cells #[.int .i64 h.months, .int .i64 h.peak, .slice A h.ws.length c] 25)
  have HH := Lib.hid (Blk.new w 25 #[.int .i64 h.months, .int .i64 h.peak, .slice A h.ws.length c])
  generalize w.alloc (.cells #[.int .i64 h.months, .int .i64 h.peak, .slice A h.ws.length c] 25) = w1 at hB HH ⊢
  have hwl := HH.out.lt
  go_loopw [5] (fun i wr => ∃ k : Nat, i = .int .i64 ((k : Int) + 1) ∧ Below w1.heap.size w1 wr ∧ Aside (∀ j, 1 ≤ j → j < k + 1 → j < l.length → h.violB l j = false)) (fun i _ => (l.length - intOf i).toNat)
  case atStart => exact ⟨0, rfl, Below.refl _ _, fun j h1 h2 => by omega⟩
  case round =>
    obtain ⟨k, rfl, hb, HJ⟩ := hrel
    by_cases hlt : k + 1 < l.length
    · have hlt' : (k : Int) + 1 < l.length := by omega
      have hBr := Below.step hB hb
      obtain ⟨b0, o0, x, rfl, hB0, hx, x0, x1⟩ := (HR2.out.below hBr).rat k (by omega)
      obtain ⟨_, _, y, hA, _, hy, y0, y1⟩ := (HR2.out.below hBr).rat (k + 1) hlt
      injection hA with hA
      injection hA with hA1 hA2
      subst hA1
      subst hA2
      have hxk : x.okB = true := by rw [← hx]; exact HOK.out _ (List.getElem_mem _)
      have hyk : y.okB = true := by rw [← hy]; exact HOK.out _ (List.getElem_mem _)
      have hgx : l.getD k ⟨0, 0⟩ = x := by rw [List.getD_eq_getElem?_getD, List.getElem?_eq_getElem (by omega), hx]; rfl
      have hgy : l.getD (k + 1) ⟨0, 0⟩ = y := by rw [List.getD_eq_getElem?_getD, List.getElem?_eq_getElem hlt, hy]; rfl
      have HV : Hid (h.violB l (k + 1) = if ((k : Int) + 1) ≤ h.peak then aboveB x y else aboveB y x) := Lib.hid (by
        unfold Hs.violB
        rw [Nat.add_sub_cancel, hgx, hgy]
        simp)
      have HXY := Lib.hid (fun V => above_any x y V (prod_bd (Rat2.okB_Bd hxk) (Rat2.okB_Bd hyk)) (prod_bd (Rat2.okB_Bd hyk) (Rat2.okB_Bd hxk)))
      have HYX := Lib.hid (fun V => above_any y x V (prod_bd (Rat2.okB_Bd hyk) (Rat2.okB_Bd hxk)) (prod_bd (Rat2.okB_Bd hxk) (Rat2.okB_Bd hyk)))
      have hbl : b0 < wr.heap.size := Nat.lt_of_lt_of_le hB0 hBr.size
      clear hx hy hxk hyk hgx hgy
      have p0 := Blk.cell (HH.out.later hb) 0
      have p1 := Blk.cell (HH.out.later hb) 1
      have p2 := Blk.cell (HH.out.later hb) 2
      have pf0 := Blk.frozen (HH.out.later hb) 0
      have pf1 := Blk.frozen (HH.out.later hb) 1
      have pf2 := Blk.frozen (HH.out.later hb) 2
      have pl := Blk.lt (HH.out.later hb)
      simp only [List.getElem?_toArray, List.getElem?_cons_zero, List.getElem?_cons_succ] at p0 p1 p2
      have Fp1 := fun u => Later.cell p1 u
      have Fx0 := fun u => Later.cell x0 u
      have Fx1 := fun u => Later.cell x1 u
      have Fy0 := fun u => Later.cell y0 u
      have Fy1 := fun u => Later.cell y1 u
      clear p0 p2 pf0 pf1 pf2
      have hk0 : (0 : Int) ≤ (k : Int) + 1 := by omega
      unfold Rat2.val at HXY HYX
      go_wp2
      by_cases hpk : ((k : Int) + 1) ≤ h.peak
      · have HV2 : Hid (h.violB l (k + 1) = aboveB x y) := Lib.hid (by rw [HV.out, if_pos hpk])
        generalize aboveB x y = v at HV2 HXY
        clear HV p1 x0 x1 y0 y1
        have hnp : ¬ h.peak < (k : Int) + 1 := by omega
        cases v
        · have HNO : Hid (∀ j, 1 ≤ j → j < k + 1 + 1 → j < l.length → h.violB l j = false) := Lib.hid (fun j h1 h2 h3 => by
            by_cases e : j = k + 1
            · subst e; exact HV2.out
            · exact HJ.out j h1 (by omega) h3)
          clear HJ
          refine wp_region_later (by kernel_rfl) (by kernel_rfl) ?_
          repeat (go_big_quiet_step ((go_at_call 81; exact Later.call (HXY.out _))))
          refine wpQuiet_nil ?_
          intro u
          go_wp2
          go_roundw
          case rel => exact ⟨k + 1, by go_num, hb.trans (u.below.mono hb.size), HNO.out⟩
          case measure => simp [intOf]; omega
        · have HT : Hid (h.truthB l = false) := Lib.hid (truthB_no (by omega) hlt HV2.out)
          refine wp_region_later (by kernel_rfl) (by kernel_rfl) ?_
          repeat (go_big_quiet_step ((go_at_call 81; exact Later.call (HXY.out _))))
          refine wpQuiet_nil ?_
          intro u
          go_wp2
          go_ret
          exact ⟨by rw [HT.out]; rfl, Below.step hB (hb.trans (u.below.mono hb.size))⟩
      · have HV2 : Hid (h.violB l (k + 1) = aboveB y x) := Lib.hid (by rw [HV.out, if_neg hpk])
        generalize aboveB y x = v at HV2 HYX
        clear HV p1 x0 x1 y0 y1
        have hnp : h.peak < (k : Int) + 1 := by omega
        cases v
        · have HNO : Hid (∀ j, 1 ≤ j → j < k + 1 + 1 → j < l.length → h.violB l j = false) := Lib.hid (fun j h1 h2 h3 => by
            by_cases e : j = k + 1
            · subst e; exact HV2.out
            · exact HJ.out j h1 (by omega) h3)
          clear HJ
          refine wp_region_later (by kernel_rfl) (by kernel_rfl) ?_
          repeat (go_big_quiet_step ((go_at_call 81; exact Later.call (HYX.out _))))
          refine wpQuiet_nil ?_
          intro u
          go_wp2
          go_roundw
          case rel => exact ⟨k + 1, by go_num, hb.trans (u.below.mono hb.size), HNO.out⟩
          case measure => simp [intOf]; omega
        · have HT : Hid (h.truthB l = false) := Lib.hid (truthB_no (by omega) hlt HV2.out)
          refine wp_region_later (by kernel_rfl) (by kernel_rfl) ?_
          repeat (go_big_quiet_step ((go_at_call 81; exact Later.call (HYX.out _))))
          refine wpQuiet_nil ?_
          intro u
          go_wp2
          go_ret
          exact ⟨by rw [HT.out]; rfl, Below.step hB (hb.trans (u.below.mono hb.size))⟩
    · have hge : ¬ (k : Int) + 1 < l.length := by omega
      have HT : Hid (h.truthB l = true) := Lib.hid (truthB_yes fun m h1 h2 => HJ.out m h1 (by omega) h2)
      clear HJ
      go_wp2
      go_ret
      exact ⟨by rw [HT.out]; rfl, Below.step hB hb⟩
end Go.Proofs.Ytjihnnbpfdhceaa
