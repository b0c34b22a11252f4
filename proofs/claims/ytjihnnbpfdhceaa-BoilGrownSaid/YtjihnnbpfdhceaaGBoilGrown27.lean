/- boil.Truth, boil.False. Conditions: none beyond those that each theorem names. -/
import Derived.Test.YtjihnnbpfdhceaaGBoilGrown26
import Derived.Test.YtjihnnbpfdhceaaGBoilGrown22
set_option linter.unusedSimpArgs false
set_option linter.unusedVariables false
namespace Go.Proofs.Ytjihnnbpfdhceaa
open Go.RowKit Go.Shelf
attribute [local go_sem] Oper.semAt_some
attribute [local go_sem ↓] Go.wp_at_zero Go.wp_at_succ

def Hs.truthR (h : Hs) (l : List Rat2) : Bool × Int := if h.ratiosE l ≠ 0 then (false, h.ratiosE l) else (h.truthB l, 0)
theorem ratiosE_ok {h : Hs} {l : List Rat2} (hz : h.ratiosE l = 0) : h.check = 0 ∧ (l.length : Int) = h.months ∧ ∀ r ∈ l, r.okB = true := by
  unfold Hs.ratiosE at hz
  split at hz
  · omega
  · rename_i h1
    split at hz
    · omega
    · rename_i h2
      split at hz
      · omega
      · rename_i h3
        refine ⟨by simpa using h1, by simpa using h2, ?_⟩
        simpa using h3

set_option maxRecDepth 100000 in
set_option maxHeartbeats 1000000 in
theorem truth_pub (h : Hs) (A : Option Addr) (c : Nat) (A2 : Option Addr) (l : List Rat2) (c2 : Nat) (w : World) (hr : RowIn Wg.enc 5 w w.heap.size A h.ws) (hl : h.ws.length ≤ 1000000) (hr2 : RowIn Rat2.enc 2 w w.heap.size A2 l) (hl2 : l.length ≤ 1000000) :
    Calls Try.prog 40 #[h.val A c, .slice A2 l.length c2] w fun e w' => e = .returned (.tuple #[.bool (h.truthR l).1, .int .i64 (h.truthR l).2]) ∧ Below w.heap.size w w' := by
  have HRA := Lib.hid (fun V hr hr2 => ratios_any h A c A2 l c2 V hr hl hr2 hl2)
  have HTR := Lib.hid (fun V hr2 hok => truth_any h A c A2 l c2 V hr2 hl2 hok)
  have HR := Lib.hid hr
  have HR2 := Lib.hid hr2
  clear hr hr2
  unfold Hs.val at HRA HTR ⊢
  go_enter Try.func40, Try.ntmps40
  go_wp2_with fail
  have hB := alc w (.cells #[.int .i64 h.months, .int .i64 h.peak, .slice A h.ws.length c] 25)
  refine (HRA.out _ (HR.out.later hB) (HR2.out.later hB)).mono ?_
  rintro e w1 ⟨rfl, hb1⟩
  have HH := Lib.hid ((Blk.new w 25 #[.int .i64 h.months, .int .i64 h.peak, .slice A h.ws.length c]).later hb1)
  have ehb1 := Below.step hB hb1
  clear hB
  have hB := ehb1
  clear ehb1
  clear hb1
  by_cases hz : h.ratiosE l = 0
  · obtain ⟨hk, hml, hok⟩ := ratiosE_ok hz
    have HE : Hid (h.truthR l = (h.truthB l, 0)) := Lib.hid (by unfold Hs.truthR; rw [if_neg (by simpa using hz)])
    have H1 := Lib.hid (HTR.out w1 (HR2.out.later hB) hok)
    rw [hz]
    clear hz hk hml hok
    have p0 := Blk.cell HH.out 0
    have p1 := Blk.cell HH.out 1
    have p2 := Blk.cell HH.out 2
    have pf0 := Blk.frozen HH.out 0
    have pf1 := Blk.frozen HH.out 1
    have pf2 := Blk.frozen HH.out 2
    have pl := Blk.lt HH.out
    simp only [List.getElem?_toArray, List.getElem?_cons_zero, List.getElem?_cons_succ] at p0 p1 p2
    go_wp2_with fail
    refine H1.out.mono ?_
    rintro e w2 ⟨rfl, hb2⟩
    have ehb2 := Below.step hB hb2
    clear hB
    have hB := ehb2
    clear ehb2
    clear hb2 H1
    go_wp2
    go_ret2
    exact ⟨by rw [HE.out]; rfl, hB⟩
  · have hq : (h.ratiosE l != 0) = true := bne_iff_ne.2 hz
    have HE : Hid (h.truthR l = (false, h.ratiosE l)) := Lib.hid (by unfold Hs.truthR; rw [if_pos (by simpa using hz)])
    clear hz
    go_wp2
    go_ret2
    exact ⟨by rw [HE.out]; rfl, hB⟩

/-- Not true with the ratio of its month. -/
def wrongB (l : List Rat2) (x : Wg) : Bool := aboveB x.least (l.getD x.month.toNat ⟨0, 0⟩) || aboveB (l.getD x.month.toNat ⟨0, 0⟩) x.most
def falseTo (h : Hs) (l : List Rat2) (k : Nat) : List Nat := (List.range k).filter fun i => wrongB l (h.ws.getD i ⟨0, 0, 0, 0, 0⟩)
def Hs.falseR (h : Hs) (l : List Rat2) : List Nat × Int := if h.ratiosE l ≠ 0 then ([], h.ratiosE l) else if h.truthB l = false then ([], 8) else (falseTo h l h.ws.length, 0)
theorem falseTo_no {h : Hs} {l : List Rat2} {k : Nat} (hw : wrongB l (h.ws.getD k ⟨0, 0, 0, 0, 0⟩) = false) : falseTo h l (k + 1) = falseTo h l k := by
  unfold falseTo; rw [List.range_succ, List.filter_append]; simp only [List.filter_cons, List.filter_nil, hw]; simp
theorem falseTo_yes {h : Hs} {l : List Rat2} {k : Nat} (hw : wrongB l (h.ws.getD k ⟨0, 0, 0, 0, 0⟩) = true) : falseTo h l (k + 1) = falseTo h l k ++ [k] := by
  unfold falseTo; rw [List.range_succ, List.filter_append]; simp only [List.filter_cons, List.filter_nil, hw]; simp
theorem falseTo_len (h : Hs) (l : List Rat2) (k : Nat) : (falseTo h l k).length ≤ k := by
  unfold falseTo
  have := List.length_filter_le (fun i => wrongB l (h.ws.getD i ⟨0, 0, 0, 0, 0⟩)) (List.range k)
  simpa using this

set_option maxRecDepth 100000 in
set_option maxHeartbeats 2000000 in
theorem false_pub (h : Hs) (A : Option Addr) (c : Nat) (A2 : Option Addr) (l : List Rat2) (c2 : Nat) (w : World) (hr : RowIn Wg.enc 5 w w.heap.size A h.ws) (hl : h.ws.length ≤ 1000000) (hr2 : RowIn Rat2.enc 2 w w.heap.size A2 l) (hl2 : l.length ≤ 1000000) :
    Calls Try.prog 41 #[h.val A c, .slice A2 l.length c2] w fun e w' => ∃ v, e = .returned (.tuple #[v, .int .i64 (h.falseR l).2]) ∧ w'.ownsRow w.heap.size 3 1 v (h.falseR l).1.length (intsV (h.falseR l).1) ∧ Below w.heap.size w w' := by
  obtain ⟨i0, hi0, hz0, hz1, hz2⟩ := info_parts info_int
  have HRA := Lib.hid (fun V hr hr2 => ratios_any h A c A2 l c2 V hr hl hr2 hl2)
  have HTR := Lib.hid (fun V hr2 hok => truth_any h A c A2 l c2 V hr2 hl2 hok)
  have HR := Lib.hid hr
  have HR2 := Lib.hid hr2
  clear hr hr2
  unfold Hs.val at HRA HTR ⊢
  go_enter Try.func41, Try.ntmps41
  go_wp2_with fail
  have hB := alc w (.cells #[.int .i64 h.months, .int .i64 h.peak, .slice A h.ws.length c] 25)
  refine (HRA.out _ (HR.out.later hB) (HR2.out.later hB)).mono ?_
  rintro e w1 ⟨rfl, hb1⟩
  have HH := Lib.hid ((Blk.new w 25 #[.int .i64 h.months, .int .i64 h.peak, .slice A h.ws.length c]).later hb1)
  have ehb1 := Below.step hB hb1
  clear hB
  have hB := ehb1
  clear ehb1
  clear hb1
  by_cases hz : h.ratiosE l = 0
  · obtain ⟨hk, hml, hok⟩ := ratiosE_ok hz
    have HE : Hid (h.falseR l = if h.truthB l = false then ([], 8) else (falseTo h l h.ws.length, 0)) := Lib.hid (by unfold Hs.falseR; rw [if_neg (by simpa using hz)])
    have H1 := Lib.hid (HTR.out w1 (HR2.out.later hB) hok)
    have HOK := Lib.hid (check_ok hk)
    have HWM := Lib.hid (check_wmonth hk)
    have HOKR := Lib.hid hok
    have HML := Lib.hid hml
    have hlen := check_len hk
    rw [hz]
    clear hz hk hml hok HRA HTR
    have p0 := Blk.cell HH.out 0
    have p1 := Blk.cell HH.out 1
    have p2 := Blk.cell HH.out 2
    have pf0 := Blk.frozen HH.out 0
    have pf1 := Blk.frozen HH.out 1
    have pf2 := Blk.frozen HH.out 2
    have pl := Blk.lt HH.out
    simp only [List.getElem?_toArray, List.getElem?_cons_zero, List.getElem?_cons_succ] at p0 p1 p2
    go_wp2_with fail
    refine H1.out.mono ?_
    rintro e w2 ⟨rfl, hb2⟩
    have ehb2 := Below.step hB hb2
    clear hB
    have hB := ehb2
    clear ehb2
    have ehb2 := Lib.hid (Blk.later HH.out hb2)
    clear HH
    have HH := ehb2
    clear ehb2
    clear hb2 H1
    clear p0 p1 p2 pf0 pf1 pf2 pl
    generalize h.truthB l = tb at HE ⊢
    cases tb
    · have HE2 : Hid (h.falseR l = ([], 8)) := Lib.hid (by rw [HE.out]; rfl)
      clear HE
      go_wp2
      go_ret2
      exact ⟨_, by rw [HE2.out]; rfl, by rw [HE2.out]; exact World.ownsRow_nil _ _ _ 1, hB⟩
    · have HE2 : Hid (h.falseR l = (falseTo h l h.ws.length, 0)) := Lib.hid (by rw [HE.out]; rfl)
      clear HE
      have p0 := Blk.cell HH.out 0
      have p1 := Blk.cell HH.out 1
      have p2 := Blk.cell HH.out 2
      have pf0 := Blk.frozen HH.out 0
      have pf1 := Blk.frozen HH.out 1
      have pf2 := Blk.frozen HH.out 2
      have pl := Blk.lt HH.out
      simp only [List.getElem?_toArray, List.getElem?_cons_zero, List.getElem?_cons_succ] at p0 p1 p2
      go_wp2
      clear p0 p1 p2 pf0 pf1 pf2 pl
      have hsz := hB.size
      go_loopw [7, 24] (fun v i wr => ∃ k : Nat, k ≤ h.ws.length ∧ i = .int .i64 k ∧ Below w2.heap.size w2 wr ∧ wr.ownsRow w2.heap.size 3 1 v (falseTo h l k).length (intsV (falseTo h l k))) (fun _ i _ => h.ws.length - (intOf i).toNat)
      case atStart => exact ⟨0, by omega, rfl, Below.refl _ _, World.ownsRow_nil _ _ _ 1⟩
      case round =>
        obtain ⟨k, hk, rfl, hb, hOw⟩ := hrel
        have HOw := Lib.hid hOw
        clear hOw
        by_cases hlt : k < h.ws.length
        · have hBr := Below.step hB hb
          obtain ⟨b0, o0, x, rfl, hB0, hx, x0, x1, x2, x3, x4⟩ := (HR.out.later hBr).wg k hlt
          have hxm := HWM.out x (by rw [← hx]; exact List.getElem_mem _)
          have hxo := HOK.out x (by rw [← hx]; exact List.getElem_mem _)
          have hgd : h.ws.getD k ⟨0, 0, 0, 0, 0⟩ = x := by rw [List.getD_eq_getElem?_getD, List.getElem?_eq_getElem hlt, hx]; rfl
          obtain ⟨mn, hmn⟩ := Int.eq_ofNat_of_zero_le hxm.1
          have hml : mn < l.length := by have := HML.out; omega
          obtain ⟨b1, o1, q, rfl, hB1, hq, y0, y1⟩ := (HR2.out.later hBr).rat mn hml
          have hqo := HOKR.out q (by rw [← hq]; exact List.getElem_mem _)
          have hgq : l.getD x.month.toNat ⟨0, 0⟩ = q := by rw [hmn, Int.toNat_natCast, List.getD_eq_getElem?_getD, List.getElem?_eq_getElem hml, hq]; rfl
          have HW : Hid (wrongB l (h.ws.getD k ⟨0, 0, 0, 0, 0⟩) = (aboveB x.least q || aboveB q x.most)) := Lib.hid (by rw [hgd]; unfold wrongB; rw [hgq])
          have HLE := Lib.hid (fun V => least_any x hxo V)
          have HMO := Lib.hid (fun V => most_any x hxo V)
          have HA1 := Lib.hid (fun V => above_any x.least q V (prod_bd hxo.least_bd (Rat2.okB_Bd hqo)) (prod_bd (Rat2.okB_Bd hqo) hxo.least_bd))
          have HA2 := Lib.hid (fun V => above_any q x.most V (prod_bd (Rat2.okB_Bd hqo) hxo.most_bd) (prod_bd hxo.most_bd (Rat2.okB_Bd hqo)))
          have HMN := Lib.hid hmn
          have hbl0 : b0 < wr.heap.size := hB0
          have hbl1 : b1 < wr.heap.size := hB1
          rw [hmn] at x0
          unfold Wg.val at HLE HMO
          rw [hmn] at HLE HMO
          unfold Rat2.val at HLE HMO HA1 HA2
          clear hx hxm hxo hgd hmn hq hqo hgq
          go_wp2
          have hb3 : Below wr.heap.size wr ((wr.alloc (.cells #[.int .i64 mn, .int .i64 x.slo, .int .i64 x.shi, .int .i64 x.mlo, .int .i64 x.mhi] 55)).alloc (.cells #[.int .i64 q.num, .int .i64 q.den] 43)) := Below.step (alc _ _) (alc _ _)
          have HX := Lib.hid ((Blk.new wr 55 #[.int .i64 mn, .int .i64 x.slo, .int .i64 x.shi, .int .i64 x.mlo, .int .i64 x.mhi]).alloc (.cells #[.int .i64 q.num, .int .i64 q.den] 43))
          have HQ := Lib.hid (Blk.new (wr.alloc (.cells #[.int .i64 mn, .int .i64 x.slo, .int .i64 x.shi, .int .i64 x.mlo, .int .i64 x.mhi] 55)) 43 #[.int .i64 q.num, .int .i64 q.den])
          rw [World.size_alloc] at HQ
          generalize (wr.alloc (.cells #[.int .i64 mn, .int .i64 x.slo, .int .i64 x.shi, .int .i64 x.mlo, .int .i64 x.mhi] 55)).alloc (.cells #[.int .i64 q.num, .int .i64 q.den] 43) = w5 at hb3 HX HQ ⊢
          clear x0 x1 x2 x3 x4 y0 y1
          have x0 := Blk.cell HX.out 0
          have x1 := Blk.cell HX.out 1
          have x2 := Blk.cell HX.out 2
          have x3 := Blk.cell HX.out 3
          have x4 := Blk.cell HX.out 4
          have xf0 := Blk.frozen HX.out 0
          have xf1 := Blk.frozen HX.out 1
          have xf2 := Blk.frozen HX.out 2
          have xf3 := Blk.frozen HX.out 3
          have xf4 := Blk.frozen HX.out 4
          have xl := Blk.lt HX.out
          simp only [List.getElem?_toArray, List.getElem?_cons_zero, List.getElem?_cons_succ] at x0 x1 x2 x3 x4
          have y0 := Blk.cell HQ.out 0
          have y1 := Blk.cell HQ.out 1
          have yf0 := Blk.frozen HQ.out 0
          have yf1 := Blk.frozen HQ.out 1
          have yl := Blk.lt HQ.out
          simp only [List.getElem?_toArray, List.getElem?_cons_zero, List.getElem?_cons_succ] at y0 y1
          have Fx0 := fun u => Later.cell x0 u
          have Fx1 := fun u => Later.cell x1 u
          have Fx2 := fun u => Later.cell x2 u
          have Fx3 := fun u => Later.cell x3 u
          have Fx4 := fun u => Later.cell x4 u
          have Fy0 := fun u => Later.cell y0 u
          have Fy1 := fun u => Later.cell y1 u
          clear x0 x1 x2 x3 x4 xf0 xf1 xf2 xf3 xf4 xl
          clear y0 y1 yf0 yf1 yl
          have hkl := falseTo_len h l k
          have HZ := Below.step hb hb3
          have HZs := HZ.size
          generalize aboveB x.least q = b1 at HW HA1
          cases b1
          · generalize aboveB q x.most = b2 at HW HA2
            have HW2 : Hid (wrongB l (h.ws.getD k ⟨0, 0, 0, 0, 0⟩) = b2) := Lib.hid (by rw [HW.out]; simp)
            clear HW
            refine wp_region_later (by kernel_rfl) (by kernel_rfl) ?_
            repeat (go_big_quiet_step ((first | (go_at_call 82; exact Later.call (HLE.out _)) | (go_at_call 54; exact Later.call (HMO.out _)) | (go_at_call 81; with_reducible exact Later.call (HA1.out _)) | (go_at_call 81; with_reducible exact Later.call (HA2.out _)))))
            refine wpQuiet_nil ?_
            intro u
            have hBu := Below.step HZ u.below
            have HOu := Lib.hid (ownsRow_keep HOw.out (Below.step hb3 u.below))
            cases b2
            · have HP := Lib.hid (falseTo_no HW2.out)
              go_wp2
              go_roundw
              case rel => exact ⟨k + 1, by omega, by go_num, hBu, by rw [HP.out]; exact HOu.out⟩
              case measure => simp [intOf]; omega
            · have HP := Lib.hid (falseTo_yes HW2.out)
              have hzu := hBu.size
              have hOw2 := HOu.out.alloc (.cells #[.int .i64 k] 3)
              go_wp2_with (at_builtin; refine wpList_append_own _ rfl _ _ 64 rfl w2.heap.size 3 i0 _ 1 8 Try.underlying64 hi0 hz0 hz1 hz2 rfl (by decide) _ _ _ rfl hOw2 ⟨(u.w).heap.size, 0, none⟩ 1 1 [.int .i64 k] rfl rfl ?c1 ?c2 ?c3 ?c4 ?c5 ?_)
              case c1 => exact World.news_of_block (cs := #[.int .i64 k]) (t := 3) (fr := (0, 0)) (heap_alloc_new (u.w) _)
              case c2 => simp [Value.oneCell']
              case c3 => unfold maxLen; omega
              case c4 => omega
              case c5 => simp; omega
              intro v' wn hown' hgrow _
              have hBn : Below w2.heap.size w2 wn := (hBu.alloc hzu _).grown hgrow (by simp; omega) (fun g hg => (HOu.out.lt g hg).1)
              have HOn := Lib.hid hown'
              clear hown' hgrow hOw2
              go_wp2
              go_roundw
              case rel => exact ⟨k + 1, by omega, by go_num, hBn, by rw [HP.out, intsV_snoc, List.length_append]; exact HOn.out⟩
              case measure => simp [intOf]; omega
          · have HW2 : Hid (wrongB l (h.ws.getD k ⟨0, 0, 0, 0, 0⟩) = true) := Lib.hid (by rw [HW.out]; simp)
            clear HW
            refine wp_region_later (by kernel_rfl) (by kernel_rfl) ?_
            repeat (go_big_quiet_step ((first | (go_at_call 82; exact Later.call (HLE.out _)) | (go_at_call 81; with_reducible exact Later.call (HA1.out _)))))
            refine wpQuiet_nil ?_
            intro u
            have hBu := Below.step HZ u.below
            have HOu := Lib.hid (ownsRow_keep HOw.out (Below.step hb3 u.below))
            have HP := Lib.hid (falseTo_yes HW2.out)
            have hzu := hBu.size
            have hOw2 := HOu.out.alloc (.cells #[.int .i64 k] 3)
            go_wp2_with (at_builtin; refine wpList_append_own _ rfl _ _ 64 rfl w2.heap.size 3 i0 _ 1 8 Try.underlying64 hi0 hz0 hz1 hz2 rfl (by decide) _ _ _ rfl hOw2 ⟨(u.w).heap.size, 0, none⟩ 1 1 [.int .i64 k] rfl rfl ?c1 ?c2 ?c3 ?c4 ?c5 ?_)
            case c1 => exact World.news_of_block (cs := #[.int .i64 k]) (t := 3) (fr := (0, 0)) (heap_alloc_new (u.w) _)
            case c2 => simp [Value.oneCell']
            case c3 => unfold maxLen; omega
            case c4 => omega
            case c5 => simp; omega
            intro v' wn hown' hgrow _
            have hBn : Below w2.heap.size w2 wn := (hBu.alloc hzu _).grown hgrow (by simp; omega) (fun g hg => (HOu.out.lt g hg).1)
            have HOn := Lib.hid hown'
            clear hown' hgrow hOw2
            go_wp2
            go_roundw
            case rel => exact ⟨k + 1, by omega, by go_num, hBn, by rw [HP.out, intsV_snoc, List.length_append]; exact HOn.out⟩
            case measure => simp [intOf]; omega
        · obtain rfl : h.ws.length = k := by omega
          go_wp2
          go_ret2
          exact ⟨_, by rw [HE2.out]; rfl, by rw [HE2.out]; exact ownsRow_base' HOw.out hsz, Below.step hB hb⟩
  · have hq : (h.ratiosE l != 0) = true := bne_iff_ne.2 hz
    have HE : Hid (h.falseR l = ([], h.ratiosE l)) := Lib.hid (by unfold Hs.falseR; rw [if_pos (by simpa using hz)])
    clear hz
    go_wp2
    go_ret2
    exact ⟨_, by rw [HE.out]; rfl, by rw [HE.out]; exact World.ownsRow_nil _ _ _ 1, hB⟩
end Go.Proofs.Ytjihnnbpfdhceaa
