/- boil.Shown. Conditions: none beyond those that each theorem names. -/
import Derived.Test.YtjihnnbpfdhceaaA27
import Derived.Test.YtjihnnbpfdhceaaB4
set_option linter.unusedSimpArgs false
set_option linter.unusedVariables false
namespace Go.Proofs.Ytjihnnbpfdhceaa
open Go.RowKit Go.Shelf
attribute [local go_sem] Oper.semAt_some
attribute [local go_sem ↓] Go.wp_at_zero Go.wp_at_succ

/-- The ratio that boil.Shown shows of a month. -/
def Hs.shownAt (h : Hs) (m : Int) : Rat2 := gr ⟨1, 1000⟩ (h.lowers m)
def Hs.shownL (h : Hs) (k : Nat) : List Rat2 := (List.range k).map fun (m : Nat) => h.shownAt m
theorem shownL_snoc (h : Hs) (k : Nat) : h.shownL (k + 1) = h.shownL k ++ [h.shownAt k] := by
  unfold Hs.shownL; rw [List.range_succ, List.map_append]; rfl
theorem shownL_len (h : Hs) (k : Nat) : (h.shownL k).length = k := by unfold Hs.shownL; simp

set_option maxRecDepth 100000 in
set_option maxHeartbeats 1000000 in
theorem shown_err (h : Hs) (A : Option Addr) (c : Nat) (w : World) (hr : RowIn Wg.enc 5 w w.heap.size A h.ws) (hl : h.ws.length ≤ 1000000) (hk : h.check ≠ 0) :
    Calls Try.prog 23 #[h.val A c] w fun e w' => e = .returned (.tuple #[.slice none 0 0, .int .i64 h.check]) ∧ Below w.heap.size w w' := by
  have HOP := Lib.hid (fun V hr => opened_err h A c V hr hl hk)
  have HR := Lib.hid hr
  have hq : (h.check != 0) = true := by simpa using hk
  clear hr hk
  unfold Hs.val at HOP ⊢
  go_enter Try.func23, Try.ntmps23
  go_wp2_with fail
  refine (HOP.out _ (HR.out.later (alc _ _))).mono ?_
  rintro e w1 ⟨rfl, hb1⟩
  have hB := Below.step (alc w (.cells #[.int .i64 h.months, .int .i64 h.peak, .slice A h.ws.length c] 25)) hb1
  clear hb1
  go_wp2
  go_ret2
  exact ⟨rfl, hB⟩

set_option maxRecDepth 100000 in
set_option maxHeartbeats 1000000 in
theorem shown_clash (h : Hs) (A : Option Addr) (c : Nat) (w : World) (hr : RowIn Wg.enc 5 w w.heap.size A h.ws) (hk : h.check = 0) (hag : agreeB h.clashM = false) :
    Calls Try.prog 23 #[h.val A c] w fun e w' => e = .returned (.tuple #[.slice none 0 0, .int .i64 7]) ∧ Below w.heap.size w w' := by
  have HOP := Lib.hid (fun V hr => opened_any h A c V hr hk)
  have HR := Lib.hid hr
  have HA := Lib.hid hag
  clear hr hk hag
  unfold Hs.val at HOP ⊢
  go_enter Try.func23, Try.ntmps23
  go_wp2_with fail
  refine (HOP.out _ (HR.out.later (alc _ _))).mono ?_
  rintro e w1 ⟨g, rfl, hg, hgb, hb1⟩
  have hB := Below.step (alc w (.cells #[.int .i64 h.months, .int .i64 h.peak, .slice A h.ws.length c] 25)) hb1
  have hdk : Blk w1 g 134 (deskCells (.int .i64 h.months) (.int .i64 h.peak) (.slice A h.ws.length c) h.clashM) := hgb
  clear hb1 hg hgb
  go_wp2_with fail
  refine (agree_any _ _ _ _ _ _ hdk).mono ?_
  rintro e w2 ⟨rfl, rfl⟩
  rw [HA.out]
  go_wp2
  go_ret2
  exact ⟨rfl, hB⟩

set_option maxRecDepth 100000 in
set_option maxHeartbeats 2000000 in
theorem shown_ok (h : Hs) (A : Option Addr) (c : Nat) (w : World) (hr : RowIn Wg.enc 5 w w.heap.size A h.ws) (hk : h.check = 0) (hag : agreeB h.clashM = true) :
    Calls Try.prog 23 #[h.val A c] w fun e w' => ∃ A2 n c2, e = .returned (.tuple #[.slice A2 n c2, .int .i64 0]) ∧ h.months = (n : Nat) ∧ RowIn Rat2.enc 2 w' w'.heap.size A2 (h.shownL n) ∧ Below w.heap.size w w' := by
  obtain ⟨i0, hi0, hz0, hz1, hz2⟩ := info_parts info_ratio
  obtain ⟨N, hN⟩ := Int.eq_ofNat_of_zero_le (show 0 ≤ h.months by have := check_months hk; omega)
  have hN12 : N ≤ 12 := by have := check_months hk; omega
  have hlen := check_len hk
  have HOK := Lib.hid (check_ok hk)
  have HOP := Lib.hid (fun V hr => opened_any h A c V hr hk)
  have HLW := Lib.hid (fun (m : Int) V hr => lowers_any h A c m V hr hk)
  have HGR := Lib.hid (fun A2 l c2 V hR hl hn => greatest_any ⟨1, 1000⟩ A2 l c2 V hR ⟨by decide, by decide, by decide, by decide⟩ hl hn)
  have HR := Lib.hid hr
  have HA := Lib.hid hag
  clear hr hk hag
  unfold Hs.val at HOP HLW ⊢
  rw [hN] at HOP HLW ⊢
  have HN := Lib.hid hN
  clear hN
  unfold Rat2.val at HGR
  simp only at HGR
  go_enter Try.func23, Try.ntmps23
  go_wp2_with fail
  refine (HOP.out _ (HR.out.later (alc _ _))).mono ?_
  rintro e w1 ⟨g, rfl, hg, hgb, hb1⟩
  have hB := Below.step (alc w (.cells #[.int .i64 N, .int .i64 h.peak, .slice A h.ws.length c] 25)) hb1
  have hdk : Blk w1 g 134 (deskCells (.int .i64 h.months) (.int .i64 h.peak) (.slice A h.ws.length c) h.clashM) := hgb
  have HH := Lib.hid ((Blk.new w 25 #[.int .i64 N, .int .i64 h.peak, .slice A h.ws.length c]).later hb1)
  clear hb1 hg hgb
  go_wp2_with fail
  refine (agree_any _ _ _ _ _ _ hdk).mono ?_
  rintro e w2 ⟨rfl, rfl⟩
  rw [HA.out]
  clear hdk
  have hW : w.heap.size < w1.heap.size := HH.out.lt
  have p0 := Blk.cell HH.out 0
  have p1 := Blk.cell HH.out 1
  have p2 := Blk.cell HH.out 2
  have pf0 := Blk.frozen HH.out 0
  have pf1 := Blk.frozen HH.out 1
  have pf2 := Blk.frozen HH.out 2
  have pl := Blk.lt HH.out
  simp only [List.getElem?_toArray, List.getElem?_cons_zero, List.getElem?_cons_succ] at p0 p1 p2
  go_wp2
  clear p0 p1 p2 pf0 pf1 pf2 pl
  go_loopw [6, 21] (fun v i wr => ∃ k : Nat, k ≤ N ∧ i = .int .i64 k ∧ Below w1.heap.size w1 wr ∧ wr.ownsRow w1.heap.size 43 2 v (h.shownL k).length (flatR (h.shownL k))) (fun _ i _ => N - (intOf i).toNat)
  case atStart => exact ⟨0, by omega, rfl, Below.refl _ _, World.ownsRow_nil _ _ _ 2⟩
  case round =>
    obtain ⟨k, hk, rfl, hb, hOw⟩ := hrel
    have HOw := Lib.hid hOw
    clear hOw
    by_cases hlt : k < N
    · have hBr := Below.step hB hb
      have H1 := Lib.hid (HLW.out k _ (HR.out.later hBr))
      have p0 := Blk.cell (HH.out.later hb) 0
      have p1 := Blk.cell (HH.out.later hb) 1
      have p2 := Blk.cell (HH.out.later hb) 2
      have pf0 := Blk.frozen (HH.out.later hb) 0
      have pf1 := Blk.frozen (HH.out.later hb) 1
      have pf2 := Blk.frozen (HH.out.later hb) 2
      have pl := Blk.lt (HH.out.later hb)
      simp only [List.getElem?_toArray, List.getElem?_cons_zero, List.getElem?_cons_succ] at p0 p1 p2
      go_wp2_with fail
      refine H1.out.mono ?_
      rintro e w3 ⟨v3, rfl, hown3, hb3⟩
      obtain ⟨ao, cap, rfl, hrow, _, _⟩ := row_of_own Rat2.enc 2 rat_len hown3
      have HO3 := Lib.hid (ownsRow_keep HOw.out hb3)
      have hll : (h.lowers k).length ≤ 1000000 := by
        have := h.lowersTo_len k h.ws.length
        rw [Hs.lowersTo_all] at this
        omega
      have H2 := Lib.hid (HGR.out ao (h.lowers k) cap _ hrow (lowers_bd HOK.out k) hll)
      have ehb3 := Below.step hb hb3
      clear hb
      have hb := ehb3
      clear ehb3
      clear H1 hown3 hrow HOw hBr
      clear p0 p1 p2 pf0 pf1 pf2 pl
      go_wp2_with fail
      refine H2.out.mono ?_
      rintro e w4 ⟨rfl, hb4⟩
      have hO4 := ownsRow_keep HO3.out hb4
      have ehb4 := Below.step hb hb4
      clear hb
      have hb := ehb4
      clear ehb4
      clear H2 HO3
      have hsh : gr ⟨1, 1000⟩ (h.lowers k) = h.shownAt k := rfl
      rw [hsh]
      clear hsh
      have HZ := hb.size
      have hkl := shownL_len h k
      have HKL : (h.shownL k).length ≤ 12 := by omega
      clear hkl
      go_wp2_with (at_builtin; refine wpList_append_own _ rfl _ _ 26 rfl w1.heap.size 43 i0 _ 2 16 Try.underlying26 hi0 hz0 hz1 hz2 rfl (by decide) _ _ _ rfl (hO4.alloc _) ⟨w4.heap.size, 0, none⟩ 1 1 [.int .i64 (h.shownAt k).num, .int .i64 (h.shownAt k).den] rfl rfl ?c1 ?c2 ?c3 ?c4 ?c5 ?_)
      case c1 => exact World.news_of_block (cs := #[.int .i64 (h.shownAt k).num, .int .i64 (h.shownAt k).den]) (t := 43) (fr := (0, 0)) (heap_alloc_new w4 _)
      case c2 => simp [Value.oneCell']
      case c3 => unfold maxLen; omega
      case c4 => omega
      case c5 => simp; omega
      intro v' wn hown' hgrow _
      have hBn : Below w1.heap.size w1 wn := (hb.alloc HZ _).grown hgrow (by simp; omega) (fun g hg => (hO4.lt g hg).1)
      have HOw := Lib.hid hown'
      clear hown' hgrow hO4
      go_wp2
      go_roundw
      case rel => exact ⟨k + 1, by omega, by go_num, hBn, by rw [shownL_snoc, flatR_snoc, List.length_append]; exact HOw.out⟩
      case measure => simp [intOf]; omega
    · obtain rfl : N = k := by omega
      obtain ⟨ao, cap, rfl, hrow, _, _⟩ := row_of_own Rat2.enc 2 rat_len HOw.out
      have HRW := Lib.hid hrow
      have p0 := Blk.cell (HH.out.later hb) 0
      have p1 := Blk.cell (HH.out.later hb) 1
      have p2 := Blk.cell (HH.out.later hb) 2
      have pf0 := Blk.frozen (HH.out.later hb) 0
      have pf1 := Blk.frozen (HH.out.later hb) 1
      have pf2 := Blk.frozen (HH.out.later hb) 2
      have pl := Blk.lt (HH.out.later hb)
      simp only [List.getElem?_toArray, List.getElem?_cons_zero, List.getElem?_cons_succ] at p0 p1 p2
      clear hrow
      rw [shownL_len]
      go_wp2
      go_ret2
      exact ⟨ao, N, cap, rfl, rfl, HRW.out, Below.step hB hb⟩
end Go.Proofs.Ytjihnnbpfdhceaa
