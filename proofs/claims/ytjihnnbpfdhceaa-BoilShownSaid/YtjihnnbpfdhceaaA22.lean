/- boil.Bounds. Conditions: none beyond those that each theorem names. -/
import Derived.Test.YtjihnnbpfdhceaaA21
import Derived.Test.YtjihnnbpfdhceaaR4
set_option linter.unusedSimpArgs false
set_option linter.unusedVariables false
namespace Go.Proofs.Ytjihnnbpfdhceaa
open Go.RowKit Go.Shelf
attribute [local go_sem] Oper.semAt_some
attribute [local go_sem ↓] Go.wp_at_zero Go.wp_at_succ

def Hs.uppersTo (h : Hs) (m : Int) (k : Nat) : List Rat2 := ((h.ws.take k).filter fun x => h.under m x.month).map Wg.most
def Hs.uppers (h : Hs) (m : Int) : List Rat2 := (h.ws.filter fun x => h.under m x.month).map Wg.most
theorem Hs.uppersTo_all (h : Hs) (m : Int) : h.uppersTo m h.ws.length = h.uppers m := by unfold Hs.uppersTo Hs.uppers; rw [List.take_length]
theorem Hs.uppersTo_yes (h : Hs) (m : Int) (k : Nat) (hk : k < h.ws.length) (x : Wg) (hx : h.ws[k] = x) (hu : h.under m x.month = true) : h.uppersTo m (k + 1) = h.uppersTo m k ++ [x.most] := by
  unfold Hs.uppersTo
  rw [List.take_succ_eq_append_getElem hk, List.filter_append, List.map_append, hx]
  simp [hu]
theorem Hs.uppersTo_no (h : Hs) (m : Int) (k : Nat) (hk : k < h.ws.length) (x : Wg) (hx : h.ws[k] = x) (hu : h.under m x.month = false) : h.uppersTo m (k + 1) = h.uppersTo m k := by
  unfold Hs.uppersTo
  rw [List.take_succ_eq_append_getElem hk, List.filter_append, List.map_append, hx]
  simp [hu]
theorem Hs.uppersTo_len (h : Hs) (m : Int) (k : Nat) : (h.uppersTo m k).length ≤ k := by
  unfold Hs.uppersTo
  rw [List.length_map]
  have := List.length_filter_le (fun x => h.under m x.month) (h.ws.take k)
  rw [List.length_take] at this
  omega

/-- boil.Bounds's answer, of a month that there is. -/
def Hs.bounds (h : Hs) (m : Int) : Rat2 × Rat2 × Int :=
  if agreeB h.clashM = false then (⟨0, 0⟩, ⟨0, 0⟩, 7) else
  match h.lowers m, h.uppers m with
  | a :: l, b :: u => (gr a l, mn b u, 0)
  | _, _ => (⟨0, 0⟩, ⟨0, 0⟩, 6)
def bdVal (r : Rat2 × Rat2 × Int) : Value := .tuple #[r.1.val, r.2.1.val, .int .i64 r.2.2]

theorem check_months {h : Hs} (hk : h.check = 0) : 1 ≤ h.months ∧ h.months ≤ 12 := by
  unfold Hs.check at hk
  split at hk
  · cases hk
  · rename_i h1
    simp [inB] at h1
    omega
theorem info_ratio2 : (Try.prog.info? 43).map (·.size) = some 2 := by kernel_rfl
structure BdInv (h : Hs) (A : Option Addr) (c : Nat) (w : World) (g : Nat) (W : World) : Prop where
  bel : Below w.heap.size w W
  house : Blk W w.heap.size 25 #[.int .i64 h.months, .int .i64 h.peak, .slice A h.ws.length c]
  lo : Blk W (w.heap.size + 1) 43 #[.int .i64 0, .int .i64 0]
  hi : Blk W (w.heap.size + 1 + 1) 43 #[.int .i64 0, .int .i64 0]
  desk : Blk W g 134 (desk h A c h.clashM)
theorem BdInv.later {h : Hs} {A : Option Addr} {c : Nat} {w : World} {g : Nat} {W W' : World} (i : BdInv h A c w g W) (hb : Below W.heap.size W W') : BdInv h A c w g W' :=
  ⟨i.bel.trans (hb.mono i.bel.size), i.house.later hb, i.lo.later hb, i.hi.later hb, i.desk.later hb⟩

theorem lowers_bd {h : Hs} (hok : ∀ x ∈ h.ws, x.Ok) (m : Int) : ∀ q ∈ h.lowers m, q.Bd := by
  intro q hq
  obtain ⟨x, hx, rfl⟩ := List.mem_map.1 hq
  exact (hok x ((List.mem_filter.1 hx).1)).least_bd
theorem uppers_bd {h : Hs} (hok : ∀ x ∈ h.ws, x.Ok) (m : Int) : ∀ q ∈ h.uppers m, q.Bd := by
  intro q hq
  obtain ⟨x, hx, rfl⟩ := List.mem_map.1 hq
  exact (hok x ((List.mem_filter.1 hx).1)).most_bd
set_option maxRecDepth 100000 in
set_option maxHeartbeats 1000000 in
theorem bounds_any (h : Hs) (A : Option Addr) (c : Nat) (m : Int) (w : World) (hr : RowIn Wg.enc 5 w w.heap.size A h.ws) (hk : h.check = 0) (hm : h.month m = true) :
    Calls Try.prog 16 #[h.val A c, .int .i64 m] w fun e w' => e = .returned (bdVal (h.bounds m)) ∧ Below w.heap.size w w' := by
  obtain ⟨i0, hi0, hz0, hz1, hz2⟩ := info_parts info_ratio
  have hlen := check_len hk
  have HOK := Lib.hid (check_ok hk)
  have HR := Lib.hid hr
  have HK := Lib.hid hk
  have HM := Lib.hid hm
  clear hr hk hm
  unfold Hs.val
  go_enter Try.func16, Try.ntmps16
  go_wp2_with fail
  refine (opened_any h A c _ ((HR.out.below ((((Below.refl _ _).alloc (Nat.le_refl _) _).alloc (by simp) _).alloc (by simp; omega) _)).mono (by simp; omega)) HK.out).mono ?_
  rintro e w1 ⟨g, rfl, hg, hgb, hb1⟩
  have hI : BdInv h A c w g w1 := ⟨by repeat (first | exact Below.refl _ _ | exact hb1 | refine Below.drew ?_ | refine below_drewN ?_ _ | refine Below.setCell ?_ (by first | assumption | omega | (simp; done) | (simp; omega) | (simp at *; omega)) _ | refine Below.alloc ?_ (by first | assumption | omega | (simp; done) | (simp; omega) | (simp at *; omega)) _ | refine Below.trans ?_ (Below.mono hb1 (by first | assumption | omega | (simp; done) | (simp; omega) | (simp at *; omega)))), (((Blk.new w 25 _).alloc _).alloc _).later hb1, by
      have := Blk.new (w.alloc (.cells #[.int .i64 h.months, .int .i64 h.peak, .slice A h.ws.length c] 25)) 43 #[.int .i64 0, .int .i64 0]
      rw [World.size_alloc] at this
      exact (this.alloc _).later hb1, by
      have := Blk.new ((w.alloc (.cells #[.int .i64 h.months, .int .i64 h.peak, .slice A h.ws.length c] 25)).alloc (.cells #[.int .i64 0, .int .i64 0] 43)) 43 #[.int .i64 0, .int .i64 0]
      rw [World.size_alloc, World.size_alloc] at this
      exact this.later hb1, hgb⟩
  clear hg hgb hb1
  have HMO := Lib.hid (fun V => month_any h A c m V (by have := check_months HK.out; omega) (by have := check_months HK.out; omega))
  have HLO := Lib.hid (fun V hr => lowers_any h A c m V hr HK.out)
  rw [HM.out] at HMO
  have hc0 := hI.house.cell 0
  have hc1 := hI.house.cell 1
  have hc2 := hI.house.cell 2
  simp only [List.getElem?_toArray, List.getElem?_cons_zero, List.getElem?_cons_succ] at hc0 hc1 hc2
  have HI := Lib.hid hI
  clear hI
  go_wp2_with fail
  refine (HMO.out _).mono ?_
  rintro e w2 ⟨rfl, hb2⟩
  have hI2 := HI.out.later hb2
  have HI2 := Lib.hid hI2
  clear hc0 hc1 hc2 HI hb2 hI2
  go_wp2_with fail
  refine (agree_any _ _ _ _ g _ HI2.out.desk).mono ?_
  rintro e w3 ⟨rfl, rfl⟩
  cases hag : agreeB h.clashM
  · have hbd : h.bounds m = (⟨0, 0⟩, ⟨0, 0⟩, 7) := by unfold Hs.bounds; rw [if_pos hag]
    have HBD := Lib.hid hbd
    clear hbd hag
    go_wp2_with fail
    have hI3 : BdInv h A c w g w2 := HI2.out
    refine wp_region_plan (fun w' => Blk w' (w.heap.size + 1) 43 #[.int .i64 0, .int .i64 0] ∧ Blk w' (w.heap.size + 1 + 1) 43 #[.int .i64 0, .int .i64 0])
      [(0, true), (1, true), (2, false), (3, false), (4, false)] (by kernel_rfl) (by kernel_rfl) (fun _ _ _ _ _ h => h) ⟨hI3.lo, hI3.hi⟩ (fun hS => ?_)
    apply wpPlan_row (ty := 43) (g := w.heap.size + 1) (t := 43) (cs := #[.int .i64 0, .int .i64 0]) (fr := (0, 0)) (hg := fun w' hw' => hw'.1) (hu := Try.underlying43) (hd := rfl)
    case hi => (simp only [List.getElem?_toArray, List.getElem?_cons_succ, List.getElem?_cons_zero]; exact rfl)
    case hw => rfl
    case ho => rfl
    case hx => rfl
    case hi' => exact info_ratio2
    (simp only [Act.put, List.setIfInBounds_toArray, List.set_cons_zero, List.set_cons_succ])
    apply wpPlan_row (ty := 43) (g := w.heap.size + 1 + 1) (t := 43) (cs := #[.int .i64 0, .int .i64 0]) (fr := (0, 0)) (hg := fun w' hw' => hw'.2) (hu := Try.underlying43) (hd := rfl)
    case hi => (simp only [List.getElem?_toArray, List.getElem?_cons_succ, List.getElem?_cons_zero]; exact rfl)
    case hw => rfl
    case ho => rfl
    case hx => rfl
    case hi' => exact info_ratio2
    (simp only [Act.put, List.setIfInBounds_toArray, List.set_cons_zero, List.set_cons_succ])
    have l0 := Blk.cell hI3.lo 0
    have l1 := Blk.cell hI3.lo 1
    have lf0 := Blk.frozen hI3.lo 0
    have lf1 := Blk.frozen hI3.lo 1
    simp only [List.getElem?_toArray, List.getElem?_cons_zero, List.getElem?_cons_succ] at l0 l1
    have u0 := Blk.cell hI3.hi 0
    have u1 := Blk.cell hI3.hi 1
    have uf0 := Blk.frozen hI3.hi 0
    have uf1 := Blk.frozen hI3.hi 1
    simp only [List.getElem?_toArray, List.getElem?_cons_zero, List.getElem?_cons_succ] at u0 u1
    apply wpPlan_step
    case ho => (simp only [List.getElem?_toArray, List.getElem?_cons_succ, List.getElem?_cons_zero]; exact rfl)
    intro K hK
    rw [if_pos (by rfl)]
    go_simp
    have k1 : Below w.heap.size w (((w2.setCell ⟨w.heap.size + 1, 0, none⟩ (.int .i64 0)).setCell ⟨w.heap.size + 1, 1, none⟩ (.int .i64 0)).drew) := (((hI3.bel.setCell (p := ⟨w.heap.size + 1, 0, none⟩) (by simp) _).setCell (p := ⟨w.heap.size + 1, 1, none⟩) (by simp) _)).drew
    have k2 : Blk (((w2.setCell ⟨w.heap.size + 1, 0, none⟩ (.int .i64 0)).setCell ⟨w.heap.size + 1, 1, none⟩ (.int .i64 0)).drew) (w.heap.size + 1) 43 #[.int .i64 0, .int .i64 0] := (hI3.lo.set_ 0 _).set_ 1 _
    have k3 : Blk (((w2.setCell ⟨w.heap.size + 1, 0, none⟩ (.int .i64 0)).setCell ⟨w.heap.size + 1, 1, none⟩ (.int .i64 0)).drew) (w.heap.size + 1 + 1) 43 #[.int .i64 0, .int .i64 0] := (hI3.hi.far (p := ⟨w.heap.size + 1, 0, none⟩) (by simp) _).far (p := ⟨w.heap.size + 1, 1, none⟩) (by simp) _
    generalize ((w2.setCell ⟨w.heap.size + 1, 0, none⟩ (.int .i64 0)).setCell ⟨w.heap.size + 1, 1, none⟩ (.int .i64 0)).drew = w4 at k1 k2 k3 ⊢
    clear l0 l1 lf0 lf1 u0 u1 uf0 uf1 hS
    have hS4 := And.intro k2 k3
    refine hK.out _ _ (hS4) (fun hS => ?_)
    clear hK
    clear K
    try (simp only [Act.put, List.setIfInBounds_toArray, List.set_cons_zero, List.set_cons_succ])
    clear hS4 hS
    have u0 := Blk.cell k3 0
    have u1 := Blk.cell k3 1
    have uf0 := Blk.frozen k3 0
    have uf1 := Blk.frozen k3 1
    simp only [List.getElem?_toArray, List.getElem?_cons_zero, List.getElem?_cons_succ] at u0 u1
    apply wpPlan_step
    case ho => (simp only [List.getElem?_toArray, List.getElem?_cons_succ, List.getElem?_cons_zero]; exact rfl)
    intro K hK
    rw [if_pos (by rfl)]
    go_simp
    have k4 : Below w.heap.size w ((w4.setCell ⟨w.heap.size + 1 + 1, 0, none⟩ (.int .i64 0)).setCell ⟨w.heap.size + 1 + 1, 1, none⟩ (.int .i64 0)) := (k1.setCell (p := ⟨w.heap.size + 1 + 1, 0, none⟩) (by simp; omega) _).setCell (p := ⟨w.heap.size + 1 + 1, 1, none⟩) (by simp; omega) _
    have k5 : Blk ((w4.setCell ⟨w.heap.size + 1 + 1, 0, none⟩ (.int .i64 0)).setCell ⟨w.heap.size + 1 + 1, 1, none⟩ (.int .i64 0)) (w.heap.size + 1) 43 #[.int .i64 0, .int .i64 0] := (k2.far (p := ⟨w.heap.size + 1 + 1, 0, none⟩) (by simp) _).far (p := ⟨w.heap.size + 1 + 1, 1, none⟩) (by simp) _
    have k6 : Blk ((w4.setCell ⟨w.heap.size + 1 + 1, 0, none⟩ (.int .i64 0)).setCell ⟨w.heap.size + 1 + 1, 1, none⟩ (.int .i64 0)) (w.heap.size + 1 + 1) 43 #[.int .i64 0, .int .i64 0] := (k3.set_ 0 _).set_ 1 _
    generalize (w4.setCell ⟨w.heap.size + 1 + 1, 0, none⟩ (.int .i64 0)).setCell ⟨w.heap.size + 1 + 1, 1, none⟩ (.int .i64 0) = w5 at k4 k5 k6 ⊢
    clear u0 u1 uf0 uf1 k1 k2 k3
    have hS5 := And.intro k5 k6
    refine hK.out _ _ (hS5) (fun hS => ?_)
    clear hK
    clear K
    try (simp only [Act.put, List.setIfInBounds_toArray, List.set_cons_zero, List.set_cons_succ])
    clear hS5 hS
    apply wpPlan_step
    case ho => (simp only [List.getElem?_toArray, List.getElem?_cons_succ, List.getElem?_cons_zero]; exact rfl)
    intro K hK
    rw [if_pos (by rfl)]
    go_simp
    have hS5 := And.intro k5 k6
    refine hK.out _ _ (hS5) (fun hS => ?_)
    clear hK
    clear K
    try (simp only [Act.put, List.setIfInBounds_toArray, List.set_cons_zero, List.set_cons_succ])
    clear hS5 hS
    refine wpPlan_end ?_
    go_wp2
    have e1 := k5.cell 0
    have e2 := k5.cell 1
    have e3 := k6.cell 0
    have e4 := k6.cell 1
    simp only [List.getElem?_toArray, List.getElem?_cons_zero, List.getElem?_cons_succ] at e1 e2 e3 e4
    refine bodyPost_ret (v := bdVal (⟨0, 0⟩, ⟨0, 0⟩, 7)) ?_ rfl ⟨by rw [HBD.out], k4⟩
    unfold bdVal Rat2.val
    simp [results, Try.results16, go_sem, e1, e2, e3, e4]
  · have HAG := Lib.hid hag
    have hcc : BdInv h A c w g w2 := HI2.out
    have hc0 := hcc.house.cell 0
    have hc1 := hcc.house.cell 1
    have hc2 := hcc.house.cell 2
    simp only [List.getElem?_toArray, List.getElem?_cons_zero, List.getElem?_cons_succ] at hc0 hc1 hc2
    clear hcc hag
    go_wp2_with fail
    refine (HLO.out _ ((HR.out.below HI2.out.bel).mono HI2.out.bel.size)).mono ?_
    rintro e w3 ⟨lv, rfl, hlow, hb3⟩
    have hI3 := HI2.out.later hb3
    have HI3 := Lib.hid hI3
    have HLOW := Lib.hid hlow
    have hc2 := hI3.house.cell 2
    simp only [List.getElem?_toArray, List.getElem?_cons_zero, List.getElem?_cons_succ] at hc2
    have hb0 : Below w3.heap.size w3 w3 := Below.refl _ _
    have hzw3 := hI3.bel.size
    have hz22 : w.heap.size + 1 + 1 < w2.heap.size := HI2.out.hi.lt
    clear hlow hI3 hb3 hc0 hc1 HI2
    go_wp2
    go_loopw [9, 42] (fun v i wr => ∃ k : Nat, k ≤ h.ws.length ∧ i = .int .i64 k ∧ Below w3.heap.size w3 wr ∧ wr.ownsRow w3.heap.size 43 2 v (h.uppersTo m k).length (flatR (h.uppersTo m k))) (fun _ i _ => h.ws.length - (intOf i).toNat)
    case atStart => exact ⟨0, by omega, rfl, hb0, World.ownsRow_nil _ _ _ 2⟩
    case round =>
      clear hb0 hc2
      obtain ⟨k, hk, rfl, hB, hOw⟩ := hrel
      have hIr := HI3.out.later hB
      by_cases hlt : k < h.ws.length
      · obtain ⟨b0, o0, x, rfl, hB0, hx, x0, x1, x2, x3, x4⟩ := (HR.out.below hIr.bel).wg k hlt
        have hB1 : b0 < wr.heap.size := Nat.lt_of_lt_of_le hB0 hIr.bel.size
        have HX := Lib.hid hx
        have c0 := hIr.house.cell 0
        have c1 := hIr.house.cell 1
        have c2 := hIr.house.cell 2
        simp only [List.getElem?_toArray, List.getElem?_cons_zero, List.getElem?_cons_succ] at c0 c1 c2
        have hlk := h.uppersTo_len m k
        have HZ := hB.size
        have hwl := hIr.house.lt
        have HU := Lib.hid (fun V => under_any h (some ⟨b0, o0, none⟩) c m x.month V)
        have HLE := Lib.hid (fun V => most_any x (by rw [← HX.out]; exact HOK.out _ (List.getElem_mem _)) V)
        clear hx hIr
        go_wp2_with fail
        refine (HU.out _).mono ?_
        rintro e w4 ⟨rfl, hb4⟩
        have hz4 := hb4.size
        simp only [World.size_alloc] at hz4
        have hB5 : Below wr.heap.size wr w4 := ((Below.refl _ _).alloc (Nat.le_refl _) _).trans (hb4.mono (by simp))
        have hB4 : Below w3.heap.size w3 w4 := hB.trans (hB5.mono HZ)
        have hv4 : Blk w4 wr.heap.size 55 #[.int .i64 x.month, .int .i64 x.slo, .int .i64 x.shi, .int .i64 x.mlo, .int .i64 x.mhi] := (Blk.new wr 55 _).later hb4
        have v0 := hv4.cell 0
        have v1 := hv4.cell 1
        have v2 := hv4.cell 2
        have v3 := hv4.cell 3
        have v4 := hv4.cell 4
        simp only [List.getElem?_toArray, List.getElem?_cons_zero, List.getElem?_cons_succ] at v0 v1 v2 v3 v4
        have hOw4 := ownsRow_keep hOw hB5
        have HZ4 := hB4.size
        clear hOw hv4 x0 x1 x2 x3 x4 c0 c1 c2 hb4
        cases hu : h.under m x.month
        · have HP := Lib.hid (h.uppersTo_no m k hlt x HX.out hu)
          have HOw := Lib.hid hOw4
          clear hu hOw4
          go_wp2
          go_roundw
          case rel => exact ⟨k + 1, by omega, by go_num, hB4, by rw [HP.out]; exact HOw.out⟩
          case measure => simp [intOf]; omega
        · have HP := Lib.hid (h.uppersTo_yes m k hlt x HX.out hu)
          have HOw := Lib.hid hOw4
          clear hu hOw4
          go_wp2_with fail
          refine (HLE.out _).mono ?_
          rintro e w5 ⟨rfl, hb5⟩
          have hB6 : Below w3.heap.size w3 w5 := hB4.trans (hb5.mono HZ4)
          have hOw5 := ownsRow_keep HOw.out hb5
          have HZ5 := hB6.size
          clear v0 v1 v2 v3 v4 hb5 HOw
          unfold Rat2.val
          go_wp2_with (at_builtin; refine wpList_append_own _ rfl _ _ 26 rfl w3.heap.size 43 i0 _ 2 16 Try.underlying26 hi0 hz0 hz1 hz2 rfl (by decide) _ _ _ rfl (hOw5.alloc _) ⟨w5.heap.size, 0, none⟩ 1 1 [.int .i64 x.most.num, .int .i64 x.most.den] rfl rfl ?c1 ?c2 ?c3 ?c4 ?c5 ?_)
          case c1 => exact World.news_of_block (cs := #[.int .i64 x.most.num, .int .i64 x.most.den]) (t := 43) (fr := (0, 0)) (heap_alloc_new w5 _)
          case c2 => simp [Value.oneCell']
          case c3 => unfold maxLen; omega
          case c4 => omega
          case c5 => simp; omega
          intro v' wn hown' hgrow _
          have hBn : Below w3.heap.size w3 wn := (hB6.alloc HZ5 _).grown hgrow (by simp; omega) (fun g hg => (hOw5.lt g hg).1)
          have HOw := Lib.hid hown'
          clear hown' hgrow hOw5
          go_wp2
          go_roundw
          case rel => exact ⟨k + 1, by omega, by go_num, hBn, by rw [HP.out, flatR_snoc, List.length_append]; exact HOw.out⟩
          case measure => simp [intOf]; omega
      · obtain rfl : k = h.ws.length := by omega
        rw [Hs.uppersTo_all] at hOw
        obtain ⟨A1, d1, rfl, hrl, hcl, hbl1⟩ := row_of_own Rat2.enc 2 rat_len (ownsRow_keep HLOW.out hB)
        obtain ⟨A2, d2, rfl, hru, hcu, _⟩ := row_of_own Rat2.enc 2 rat_len hOw
        clear hOw HLOW
        have HRL := Lib.hid hrl
        have HRU := Lib.hid hru
        have HIR := Lib.hid hIr
        have hI3 : BdInv h A c w g wr := hIr
        have hbdl := lowers_bd HOK.out m
        have hbdu := uppers_bd HOK.out m
        have HBL := Lib.hid hbdl
        have HBU := Lib.hid hbdu
        have hll := h.lowersTo_len m h.ws.length
        rw [Hs.lowersTo_all] at hll
        have huu := h.uppersTo_len m h.ws.length
        rw [Hs.uppersTo_all] at huu
        clear hrl hru hbdl hbdu hIr
        cases hL : h.lowers m with
        | nil =>
          have hbd : h.bounds m = (⟨0, 0⟩, ⟨0, 0⟩, 6) := by unfold Hs.bounds; rw [if_neg (by rw [HAG.out]; exact Bool.noConfusion), hL]
          have HBD := Lib.hid hbd
          have hn1 : (h.lowers m).length = 0 := by rw [hL]; rfl
          rw [hL] at HRL HBL
          rw [hL] at *
          clear hbd
          go_wp2
          refine wp_region_plan (fun w' => Blk w' (w.heap.size + 1) 43 #[.int .i64 0, .int .i64 0] ∧ Blk w' (w.heap.size + 1 + 1) 43 #[.int .i64 0, .int .i64 0])
            [(0, true), (1, true), (2, false), (3, false), (4, false)] (by kernel_rfl) (by kernel_rfl) (fun _ _ _ _ _ h => h) ⟨hI3.lo, hI3.hi⟩ (fun hS => ?_)
          apply wpPlan_row (ty := 43) (g := w.heap.size + 1) (t := 43) (cs := #[.int .i64 0, .int .i64 0]) (fr := (0, 0)) (hg := fun w' hw' => hw'.1) (hu := Try.underlying43) (hd := rfl)
          case hi => (simp only [List.getElem?_toArray, List.getElem?_cons_succ, List.getElem?_cons_zero]; exact rfl)
          case hw => rfl
          case ho => rfl
          case hx => rfl
          case hi' => exact info_ratio2
          (simp only [Act.put, List.setIfInBounds_toArray, List.set_cons_zero, List.set_cons_succ])
          apply wpPlan_row (ty := 43) (g := w.heap.size + 1 + 1) (t := 43) (cs := #[.int .i64 0, .int .i64 0]) (fr := (0, 0)) (hg := fun w' hw' => hw'.2) (hu := Try.underlying43) (hd := rfl)
          case hi => (simp only [List.getElem?_toArray, List.getElem?_cons_succ, List.getElem?_cons_zero]; exact rfl)
          case hw => rfl
          case ho => rfl
          case hx => rfl
          case hi' => exact info_ratio2
          (simp only [Act.put, List.setIfInBounds_toArray, List.set_cons_zero, List.set_cons_succ])
          have l0 := Blk.cell hI3.lo 0
          have l1 := Blk.cell hI3.lo 1
          have lf0 := Blk.frozen hI3.lo 0
          have lf1 := Blk.frozen hI3.lo 1
          simp only [List.getElem?_toArray, List.getElem?_cons_zero, List.getElem?_cons_succ] at l0 l1
          have u0 := Blk.cell hI3.hi 0
          have u1 := Blk.cell hI3.hi 1
          have uf0 := Blk.frozen hI3.hi 0
          have uf1 := Blk.frozen hI3.hi 1
          simp only [List.getElem?_toArray, List.getElem?_cons_zero, List.getElem?_cons_succ] at u0 u1
          apply wpPlan_step
          case ho => (simp only [List.getElem?_toArray, List.getElem?_cons_succ, List.getElem?_cons_zero]; exact rfl)
          intro K hK
          rw [if_pos (by rfl)]
          go_simp
          have k1 : Below w.heap.size w (((wr.setCell ⟨w.heap.size + 1, 0, none⟩ (.int .i64 0)).setCell ⟨w.heap.size + 1, 1, none⟩ (.int .i64 0)).drew) := (((hI3.bel.setCell (p := ⟨w.heap.size + 1, 0, none⟩) (by simp) _).setCell (p := ⟨w.heap.size + 1, 1, none⟩) (by simp) _)).drew
          have k2 : Blk (((wr.setCell ⟨w.heap.size + 1, 0, none⟩ (.int .i64 0)).setCell ⟨w.heap.size + 1, 1, none⟩ (.int .i64 0)).drew) (w.heap.size + 1) 43 #[.int .i64 0, .int .i64 0] := (hI3.lo.set_ 0 _).set_ 1 _
          have k3 : Blk (((wr.setCell ⟨w.heap.size + 1, 0, none⟩ (.int .i64 0)).setCell ⟨w.heap.size + 1, 1, none⟩ (.int .i64 0)).drew) (w.heap.size + 1 + 1) 43 #[.int .i64 0, .int .i64 0] := (hI3.hi.far (p := ⟨w.heap.size + 1, 0, none⟩) (by simp) _).far (p := ⟨w.heap.size + 1, 1, none⟩) (by simp) _
          generalize ((wr.setCell ⟨w.heap.size + 1, 0, none⟩ (.int .i64 0)).setCell ⟨w.heap.size + 1, 1, none⟩ (.int .i64 0)).drew = w4 at k1 k2 k3 ⊢
          clear l0 l1 lf0 lf1 u0 u1 uf0 uf1 hS
          have hS4 := And.intro k2 k3
          refine hK.out _ _ (hS4) (fun hS => ?_)
          clear hK
          clear K
          try (simp only [Act.put, List.setIfInBounds_toArray, List.set_cons_zero, List.set_cons_succ])
          clear hS4 hS
          have u0 := Blk.cell k3 0
          have u1 := Blk.cell k3 1
          have uf0 := Blk.frozen k3 0
          have uf1 := Blk.frozen k3 1
          simp only [List.getElem?_toArray, List.getElem?_cons_zero, List.getElem?_cons_succ] at u0 u1
          apply wpPlan_step
          case ho => (simp only [List.getElem?_toArray, List.getElem?_cons_succ, List.getElem?_cons_zero]; exact rfl)
          intro K hK
          rw [if_pos (by rfl)]
          go_simp
          have k4 : Below w.heap.size w ((w4.setCell ⟨w.heap.size + 1 + 1, 0, none⟩ (.int .i64 0)).setCell ⟨w.heap.size + 1 + 1, 1, none⟩ (.int .i64 0)) := (k1.setCell (p := ⟨w.heap.size + 1 + 1, 0, none⟩) (by simp; omega) _).setCell (p := ⟨w.heap.size + 1 + 1, 1, none⟩) (by simp; omega) _
          have k5 : Blk ((w4.setCell ⟨w.heap.size + 1 + 1, 0, none⟩ (.int .i64 0)).setCell ⟨w.heap.size + 1 + 1, 1, none⟩ (.int .i64 0)) (w.heap.size + 1) 43 #[.int .i64 0, .int .i64 0] := (k2.far (p := ⟨w.heap.size + 1 + 1, 0, none⟩) (by simp) _).far (p := ⟨w.heap.size + 1 + 1, 1, none⟩) (by simp) _
          have k6 : Blk ((w4.setCell ⟨w.heap.size + 1 + 1, 0, none⟩ (.int .i64 0)).setCell ⟨w.heap.size + 1 + 1, 1, none⟩ (.int .i64 0)) (w.heap.size + 1 + 1) 43 #[.int .i64 0, .int .i64 0] := (k3.set_ 0 _).set_ 1 _
          generalize (w4.setCell ⟨w.heap.size + 1 + 1, 0, none⟩ (.int .i64 0)).setCell ⟨w.heap.size + 1 + 1, 1, none⟩ (.int .i64 0) = w5 at k4 k5 k6 ⊢
          clear u0 u1 uf0 uf1 k1 k2 k3
          have hS5 := And.intro k5 k6
          refine hK.out _ _ (hS5) (fun hS => ?_)
          clear hK
          clear K
          try (simp only [Act.put, List.setIfInBounds_toArray, List.set_cons_zero, List.set_cons_succ])
          clear hS5 hS
          apply wpPlan_step
          case ho => (simp only [List.getElem?_toArray, List.getElem?_cons_succ, List.getElem?_cons_zero]; exact rfl)
          intro K hK
          rw [if_pos (by rfl)]
          go_simp
          have hS5 := And.intro k5 k6
          refine hK.out _ _ (hS5) (fun hS => ?_)
          clear hK
          clear K
          try (simp only [Act.put, List.setIfInBounds_toArray, List.set_cons_zero, List.set_cons_succ])
          clear hS5 hS
          refine wpPlan_end ?_
          go_wp2
          have e1 := k5.cell 0
          have e2 := k5.cell 1
          have e3 := k6.cell 0
          have e4 := k6.cell 1
          simp only [List.getElem?_toArray, List.getElem?_cons_zero, List.getElem?_cons_succ] at e1 e2 e3 e4
          refine bodyPost_ret (v := bdVal (⟨0, 0⟩, ⟨0, 0⟩, 6)) ?_ rfl ⟨by rw [HBD.out], k4⟩
          unfold bdVal Rat2.val
          simp [results, Try.results16, go_sem, e1, e2, e3, e4]
        | cons a l =>
          have hn1 : ((l.length + 1 : Nat) : Int) ≠ 0 := by omega
          have hq1 : (((l.length + 1 : Nat) : Int) == 0) = false := beq_eq_false_iff_ne.2 hn1
          have hq3 : ((l.length : Int) + 1 == 0) = false := beq_eq_false_iff_ne.2 (by omega)
          cases hU : h.uppers m with
          | nil =>
            have hbd : h.bounds m = (⟨0, 0⟩, ⟨0, 0⟩, 6) := by unfold Hs.bounds; rw [if_neg (by rw [HAG.out]; exact Bool.noConfusion), hL, hU]
            have HBD := Lib.hid hbd
            rw [hL, hU] at *
            simp only [List.length_cons, List.length_nil] at *
            clear hbd
            go_wp2
            refine wp_region_plan (fun w' => Blk w' (w.heap.size + 1) 43 #[.int .i64 0, .int .i64 0] ∧ Blk w' (w.heap.size + 1 + 1) 43 #[.int .i64 0, .int .i64 0])
              [(0, true), (1, true), (2, false), (3, false), (4, false)] (by kernel_rfl) (by kernel_rfl) (fun _ _ _ _ _ h => h) ⟨hI3.lo, hI3.hi⟩ (fun hS => ?_)
            apply wpPlan_row (ty := 43) (g := w.heap.size + 1) (t := 43) (cs := #[.int .i64 0, .int .i64 0]) (fr := (0, 0)) (hg := fun w' hw' => hw'.1) (hu := Try.underlying43) (hd := rfl)
            case hi => (simp only [List.getElem?_toArray, List.getElem?_cons_succ, List.getElem?_cons_zero]; exact rfl)
            case hw => rfl
            case ho => rfl
            case hx => rfl
            case hi' => exact info_ratio2
            (simp only [Act.put, List.setIfInBounds_toArray, List.set_cons_zero, List.set_cons_succ])
            apply wpPlan_row (ty := 43) (g := w.heap.size + 1 + 1) (t := 43) (cs := #[.int .i64 0, .int .i64 0]) (fr := (0, 0)) (hg := fun w' hw' => hw'.2) (hu := Try.underlying43) (hd := rfl)
            case hi => (simp only [List.getElem?_toArray, List.getElem?_cons_succ, List.getElem?_cons_zero]; exact rfl)
            case hw => rfl
            case ho => rfl
            case hx => rfl
            case hi' => exact info_ratio2
            (simp only [Act.put, List.setIfInBounds_toArray, List.set_cons_zero, List.set_cons_succ])
            have l0 := Blk.cell hI3.lo 0
            have l1 := Blk.cell hI3.lo 1
            have lf0 := Blk.frozen hI3.lo 0
            have lf1 := Blk.frozen hI3.lo 1
            simp only [List.getElem?_toArray, List.getElem?_cons_zero, List.getElem?_cons_succ] at l0 l1
            have u0 := Blk.cell hI3.hi 0
            have u1 := Blk.cell hI3.hi 1
            have uf0 := Blk.frozen hI3.hi 0
            have uf1 := Blk.frozen hI3.hi 1
            simp only [List.getElem?_toArray, List.getElem?_cons_zero, List.getElem?_cons_succ] at u0 u1
            apply wpPlan_step
            case ho => (simp only [List.getElem?_toArray, List.getElem?_cons_succ, List.getElem?_cons_zero]; exact rfl)
            intro K hK
            rw [if_pos (by rfl)]
            go_simp
            have k1 : Below w.heap.size w (((wr.setCell ⟨w.heap.size + 1, 0, none⟩ (.int .i64 0)).setCell ⟨w.heap.size + 1, 1, none⟩ (.int .i64 0)).drew) := (((hI3.bel.setCell (p := ⟨w.heap.size + 1, 0, none⟩) (by simp) _).setCell (p := ⟨w.heap.size + 1, 1, none⟩) (by simp) _)).drew
            have k2 : Blk (((wr.setCell ⟨w.heap.size + 1, 0, none⟩ (.int .i64 0)).setCell ⟨w.heap.size + 1, 1, none⟩ (.int .i64 0)).drew) (w.heap.size + 1) 43 #[.int .i64 0, .int .i64 0] := (hI3.lo.set_ 0 _).set_ 1 _
            have k3 : Blk (((wr.setCell ⟨w.heap.size + 1, 0, none⟩ (.int .i64 0)).setCell ⟨w.heap.size + 1, 1, none⟩ (.int .i64 0)).drew) (w.heap.size + 1 + 1) 43 #[.int .i64 0, .int .i64 0] := (hI3.hi.far (p := ⟨w.heap.size + 1, 0, none⟩) (by simp) _).far (p := ⟨w.heap.size + 1, 1, none⟩) (by simp) _
            generalize ((wr.setCell ⟨w.heap.size + 1, 0, none⟩ (.int .i64 0)).setCell ⟨w.heap.size + 1, 1, none⟩ (.int .i64 0)).drew = w4 at k1 k2 k3 ⊢
            clear l0 l1 lf0 lf1 u0 u1 uf0 uf1 hS
            have hS4 := And.intro k2 k3
            refine hK.out _ _ (hS4) (fun hS => ?_)
            clear hK
            clear K
            try (simp only [Act.put, List.setIfInBounds_toArray, List.set_cons_zero, List.set_cons_succ])
            clear hS4 hS
            have u0 := Blk.cell k3 0
            have u1 := Blk.cell k3 1
            have uf0 := Blk.frozen k3 0
            have uf1 := Blk.frozen k3 1
            simp only [List.getElem?_toArray, List.getElem?_cons_zero, List.getElem?_cons_succ] at u0 u1
            apply wpPlan_step
            case ho => (simp only [List.getElem?_toArray, List.getElem?_cons_succ, List.getElem?_cons_zero]; exact rfl)
            intro K hK
            rw [if_pos (by rfl)]
            go_simp
            have k4 : Below w.heap.size w ((w4.setCell ⟨w.heap.size + 1 + 1, 0, none⟩ (.int .i64 0)).setCell ⟨w.heap.size + 1 + 1, 1, none⟩ (.int .i64 0)) := (k1.setCell (p := ⟨w.heap.size + 1 + 1, 0, none⟩) (by simp; omega) _).setCell (p := ⟨w.heap.size + 1 + 1, 1, none⟩) (by simp; omega) _
            have k5 : Blk ((w4.setCell ⟨w.heap.size + 1 + 1, 0, none⟩ (.int .i64 0)).setCell ⟨w.heap.size + 1 + 1, 1, none⟩ (.int .i64 0)) (w.heap.size + 1) 43 #[.int .i64 0, .int .i64 0] := (k2.far (p := ⟨w.heap.size + 1 + 1, 0, none⟩) (by simp) _).far (p := ⟨w.heap.size + 1 + 1, 1, none⟩) (by simp) _
            have k6 : Blk ((w4.setCell ⟨w.heap.size + 1 + 1, 0, none⟩ (.int .i64 0)).setCell ⟨w.heap.size + 1 + 1, 1, none⟩ (.int .i64 0)) (w.heap.size + 1 + 1) 43 #[.int .i64 0, .int .i64 0] := (k3.set_ 0 _).set_ 1 _
            generalize (w4.setCell ⟨w.heap.size + 1 + 1, 0, none⟩ (.int .i64 0)).setCell ⟨w.heap.size + 1 + 1, 1, none⟩ (.int .i64 0) = w5 at k4 k5 k6 ⊢
            clear u0 u1 uf0 uf1 k1 k2 k3
            have hS5 := And.intro k5 k6
            refine hK.out _ _ (hS5) (fun hS => ?_)
            clear hK
            clear K
            try (simp only [Act.put, List.setIfInBounds_toArray, List.set_cons_zero, List.set_cons_succ])
            clear hS5 hS
            apply wpPlan_step
            case ho => (simp only [List.getElem?_toArray, List.getElem?_cons_succ, List.getElem?_cons_zero]; exact rfl)
            intro K hK
            rw [if_pos (by rfl)]
            go_simp
            have hS5 := And.intro k5 k6
            refine hK.out _ _ (hS5) (fun hS => ?_)
            clear hK
            clear K
            try (simp only [Act.put, List.setIfInBounds_toArray, List.set_cons_zero, List.set_cons_succ])
            clear hS5 hS
            refine wpPlan_end ?_
            go_wp2
            have e1 := k5.cell 0
            have e2 := k5.cell 1
            have e3 := k6.cell 0
            have e4 := k6.cell 1
            simp only [List.getElem?_toArray, List.getElem?_cons_zero, List.getElem?_cons_succ] at e1 e2 e3 e4
            refine bodyPost_ret (v := bdVal (⟨0, 0⟩, ⟨0, 0⟩, 6)) ?_ rfl ⟨by rw [HBD.out], k4⟩
            unfold bdVal Rat2.val
            simp [results, Try.results16, go_sem, e1, e2, e3, e4]
          | cons b u =>
            have hbd : h.bounds m = (gr a l, mn b u, 0) := by unfold Hs.bounds; rw [if_neg (by rw [HAG.out]; exact Bool.noConfusion), hL, hU]
            have HBD := Lib.hid hbd
            have hq2 : (((u.length + 1 : Nat) : Int) == 0) = false := beq_eq_false_iff_ne.2 (by omega)
            have hq4 : ((u.length : Int) + 1 == 0) = false := beq_eq_false_iff_ne.2 (by omega)
            have hn4 : (0 : Int) < (l.length : Int) + 1 := by omega
            have hru' := HRU.out
            rw [hU] at hru'
            have hbu' := HBU.out
            rw [hU] at hbu'
            have hrl' := HRL.out
            rw [hL] at hrl'
            have hbl' := HBL.out
            rw [hL] at hbl'
            have HRU' := Lib.hid hru'
            have HRL' := Lib.hid hrl'
            have HBU' := Lib.hid hbu'
            have HBL' := Lib.hid hbl'
            rw [hU] at huu
            rw [hL] at hcl hll
            simp only [List.length_cons] at huu hcl hll
            try rw [hL]
            try rw [hU]
            simp only [List.length_cons]
            clear hbd hru' hbu' hrl' hbl' HRU HRL HBU HBL
            go_wp2_with fail
            refine (minfunc_any A2 b u d2 wr HRU'.out HBU'.out (by simp; omega)).mono ?_
            rintro e w4 ⟨rfl, hb4⟩
            have hI4 := hI3.later hb4
            have hrl4 := (HRL'.out.below hb4).mono hb4.size
            have u0 := Blk.cell hI4.hi 0
            have u1 := Blk.cell hI4.hi 1
            have uf0 := Blk.frozen hI4.hi 0
            have uf1 := Blk.frozen hI4.hi 1
            simp only [List.getElem?_toArray, List.getElem?_cons_zero, List.getElem?_cons_succ] at u0 u1
            unfold Rat2.val
            clear HRU' HRL'
            go_wp2_with fail
            have k1 : Below w.heap.size w ((w4.setCell ⟨w.heap.size + 1 + 1, 0, none⟩ (.int .i64 (mn b u).num)).setCell ⟨w.heap.size + 1 + 1, 1, none⟩ (.int .i64 (mn b u).den)) := (hI4.bel.setCell (p := ⟨w.heap.size + 1 + 1, 0, none⟩) (by simp; omega) _).setCell (p := ⟨w.heap.size + 1 + 1, 1, none⟩) (by simp; omega) _
            have k2 : Blk ((w4.setCell ⟨w.heap.size + 1 + 1, 0, none⟩ (.int .i64 (mn b u).num)).setCell ⟨w.heap.size + 1 + 1, 1, none⟩ (.int .i64 (mn b u).den)) (w.heap.size + 1) 43 #[.int .i64 0, .int .i64 0] := (hI4.lo.far (p := ⟨w.heap.size + 1 + 1, 0, none⟩) (by simp) _).far (p := ⟨w.heap.size + 1 + 1, 1, none⟩) (by simp) _
            have k3 : Blk ((w4.setCell ⟨w.heap.size + 1 + 1, 0, none⟩ (.int .i64 (mn b u).num)).setCell ⟨w.heap.size + 1 + 1, 1, none⟩ (.int .i64 (mn b u).den)) (w.heap.size + 1 + 1) 43 #[.int .i64 (mn b u).num, .int .i64 (mn b u).den] := (hI4.hi.set_ 0 _).set_ 1 _
            obtain ⟨b1, o1, x, rfl, hB1, hx1, x0, x1⟩ := hrl4.rat 0 (by simp)
            obtain rfl : a = x := hx1
            have hb1 : b1 ≠ w.heap.size + 1 + 1 := by have := hbl1 _ rfl; simp only at this; omega
            have k4 : RowIn Rat2.enc 2 ((w4.setCell ⟨w.heap.size + 1 + 1, 0, none⟩ (.int .i64 (mn b u).num)).setCell ⟨w.heap.size + 1 + 1, 1, none⟩ (.int .i64 (mn b u).den)) w4.heap.size (some ⟨b1, o1, none⟩) (a :: l) := fun i hi => by
              obtain ⟨b', o', hA, hb', hc'⟩ := hrl4 i hi
              injection hA with hA
              injection hA with h1 h2
              subst h1
              subst h2
              exact ⟨b1, o1, rfl, hb', fun j v hv => ((World.cell?_setCell_far _ ⟨w.heap.size + 1 + 1, 1, none⟩ ⟨b1, _, none⟩ _ (Ne.symm hb1)).trans (World.cell?_setCell_far _ ⟨w.heap.size + 1 + 1, 0, none⟩ ⟨b1, _, none⟩ _ (Ne.symm hb1))).trans (hc' j v hv)⟩
            have hz5 : ((w4.setCell ⟨w.heap.size + 1 + 1, 0, none⟩ (.int .i64 (mn b u).num)).setCell ⟨w.heap.size + 1 + 1, 1, none⟩ (.int .i64 (mn b u).den)).heap.size = w4.heap.size := by simp
            rw [← hz5] at k4
            generalize (w4.setCell ⟨w.heap.size + 1 + 1, 0, none⟩ (.int .i64 (mn b u).num)).setCell ⟨w.heap.size + 1 + 1, 1, none⟩ (.int .i64 (mn b u).den) = w5 at k1 k2 k3 k4 ⊢
            obtain ⟨_, _, _, hA, hB5, hx5, y0, y1⟩ := k4.rat 0 (by simp)
            injection hA with hA
            injection hA with h1 h2
            subst h1
            subst h2
            rw [← hx5] at y0 y1
            simp only [List.getElem_cons_zero, Nat.zero_mul, Nat.add_zero] at y0 y1
            have hll1 : (1 : Int) ≤ (l.length : Int) + 1 := by omega
            have hll2 : (l.length : Int) + 1 ≤ (d1 : Int) := by omega
            have hrt : RowIn Rat2.enc 2 w5.drew w5.heap.size (some ⟨b1, o1 + 2, none⟩) l := (RowIn.tail_ k4).below (Below.refl w5.heap.size w5).drew
            have HRT := Lib.hid hrt
            clear hI4 hrl4 u0 u1 uf0 uf1 x0 x1 hb4 hI3 HIR hrt
            refine wp_region_plan (fun w' => (w'.cell? ⟨b1, o1, none⟩ = some (.int .i64 a.num) ∧ w'.cell? ⟨b1, o1 + 1, none⟩ = some (.int .i64 a.den)) ∧ Blk w' (w.heap.size + 1 + 1) 43 #[.int .i64 (mn b u).num, .int .i64 (mn b u).den])
              [(0, true), (1, true), (2, true), (3, true), (4, true), (6, true), (5, false), (7, false), (8, false), (9, false)] (by kernel_rfl) (by kernel_rfl) (fun _ _ _ _ _ h => h) ⟨⟨y0, y1⟩, k3⟩ (fun hS => ?_)
            apply wpPlan_take
            case hi => (simp only [List.getElem?_toArray, List.getElem?_cons_succ, List.getElem?_cons_zero]; exact rfl)
            case hw => rfl
            case hr => (intro w' hSw; (try dsimp only at hSw); go_split_ands; go_simp; try with_reducible rfl)
            (simp only [Act.put, List.setIfInBounds_toArray, List.set_cons_zero, List.set_cons_succ])
            apply wpPlan_take
            case hi => (simp only [List.getElem?_toArray, List.getElem?_cons_succ, List.getElem?_cons_zero]; exact rfl)
            case hw => rfl
            case hr => (intro w' hSw; (try dsimp only at hSw); go_split_ands; go_simp; try with_reducible rfl)
            (simp only [Act.put, List.setIfInBounds_toArray, List.set_cons_zero, List.set_cons_succ])
            apply wpPlan_take
            case hi => (simp only [List.getElem?_toArray, List.getElem?_cons_succ, List.getElem?_cons_zero]; exact rfl)
            case hw => rfl
            case hr => (intro w' hSw; (try dsimp only at hSw); go_split_ands; go_simp; try with_reducible rfl)
            (simp only [Act.put, List.setIfInBounds_toArray, List.set_cons_zero, List.set_cons_succ])
            apply wpPlan_take
            case hi => (simp only [List.getElem?_toArray, List.getElem?_cons_succ, List.getElem?_cons_zero]; exact rfl)
            case hw => rfl
            case hr => (intro w' hSw; (try dsimp only at hSw); go_split_ands; go_simp; try with_reducible rfl)
            (simp only [Act.put, List.setIfInBounds_toArray, List.set_cons_zero, List.set_cons_succ])
            apply wpPlan_take
            case hi => (simp only [List.getElem?_toArray, List.getElem?_cons_succ, List.getElem?_cons_zero]; exact rfl)
            case hw => rfl
            case hr => (intro w' hSw; (try dsimp only at hSw); go_split_ands; go_simp; try with_reducible rfl)
            (simp only [Act.put, List.setIfInBounds_toArray, List.set_cons_zero, List.set_cons_succ])
            apply wpPlan_row (ty := 43) (g := w.heap.size + 1 + 1) (t := 43) (cs := #[.int .i64 (mn b u).num, .int .i64 (mn b u).den]) (fr := (0, 0)) (hg := fun w' hw' => hw'.2) (hu := Try.underlying43) (hd := rfl)
            case hi => (simp only [List.getElem?_toArray, List.getElem?_cons_succ, List.getElem?_cons_zero]; exact rfl)
            case hw => rfl
            case ho => rfl
            case hx => rfl
            case hi' => exact info_ratio2
            (simp only [Act.put, List.setIfInBounds_toArray, List.set_cons_zero, List.set_cons_succ])
            apply wpPlan_step
            case ho => (simp only [List.getElem?_toArray, List.getElem?_cons_succ, List.getElem?_cons_zero]; exact rfl)
            intro K hK
            rw [if_pos (by rfl)]
            go_wp2_with fail
            all_goals
              refine (greatest_any a _ l _ _ (by
                first
                | exact HRT.out
                | (have hl0 : l = [] := List.eq_nil_of_length_eq_zero (by omega)
                   rw [hl0]
                   exact RowIn.nil)) (HBL'.out _ List.mem_cons_self) (fun q hq => HBL'.out q (List.mem_cons_of_mem _ hq)) (by omega)).mono ?_
              rintro e w6 ⟨rfl, hb6⟩
              have hb6' : Below w5.heap.size w5 w6 := ((Below.refl _ _).drew).trans hb6
              have hz6 := hb6'.size
              have j1 : Below w.heap.size w w6 := k1.trans (hb6'.mono k1.size)
              have j2 := k2.later hb6'
              have j3 := k3.later hb6'
              have hS6 : (w6.cell? ⟨b1, o1, none⟩ = some (.int .i64 a.num) ∧ w6.cell? ⟨b1, o1 + 1, none⟩ = some (.int .i64 a.den)) ∧ Blk w6 (w.heap.size + 1 + 1) 43 #[.int .i64 (mn b u).num, .int .i64 (mn b u).den] :=
                ⟨⟨(hb6'.cell (p := ⟨b1, o1, none⟩) hB5).trans y0, (hb6'.cell (p := ⟨b1, o1 + 1, none⟩) hB5).trans y1⟩, j3⟩
              clear hS k1 k2 k3 hb6
              refine hK.out _ _ (hS6) (fun hS => ?_)
              clear hK
              clear K
              try (simp only [Act.put, List.setIfInBounds_toArray, List.set_cons_zero, List.set_cons_succ])
              clear hS6
              have l0 := Blk.cell j2 0
              have l1 := Blk.cell j2 1
              have lf0 := Blk.frozen j2 0
              have lf1 := Blk.frozen j2 1
              simp only [List.getElem?_toArray, List.getElem?_cons_zero, List.getElem?_cons_succ] at l0 l1
              unfold Rat2.val
              apply wpPlan_step
              case ho => (simp only [List.getElem?_toArray, List.getElem?_cons_succ, List.getElem?_cons_zero]; exact rfl)
              intro K hK
              rw [if_pos (by rfl)]
              go_simp
              have i1 : Below w.heap.size w ((w6.setCell ⟨w.heap.size + 1, 0, none⟩ (.int .i64 (gr a l).num)).setCell ⟨w.heap.size + 1, 1, none⟩ (.int .i64 (gr a l).den)) := (j1.setCell (p := ⟨w.heap.size + 1, 0, none⟩) (by simp) _).setCell (p := ⟨w.heap.size + 1, 1, none⟩) (by simp) _
              have i2 : Blk ((w6.setCell ⟨w.heap.size + 1, 0, none⟩ (.int .i64 (gr a l).num)).setCell ⟨w.heap.size + 1, 1, none⟩ (.int .i64 (gr a l).den)) (w.heap.size + 1) 43 #[.int .i64 (gr a l).num, .int .i64 (gr a l).den] := (j2.set_ 0 _).set_ 1 _
              have i3 : Blk ((w6.setCell ⟨w.heap.size + 1, 0, none⟩ (.int .i64 (gr a l).num)).setCell ⟨w.heap.size + 1, 1, none⟩ (.int .i64 (gr a l).den)) (w.heap.size + 1 + 1) 43 #[.int .i64 (mn b u).num, .int .i64 (mn b u).den] := (j3.far (p := ⟨w.heap.size + 1, 0, none⟩) (by simp) _).far (p := ⟨w.heap.size + 1, 1, none⟩) (by simp) _
              have hb1' : b1 ≠ w.heap.size + 1 := by have := hbl1 _ rfl; simp only at this; omega
              have i4 : (((w6.setCell ⟨w.heap.size + 1, 0, none⟩ (.int .i64 (gr a l).num)).setCell ⟨w.heap.size + 1, 1, none⟩ (.int .i64 (gr a l).den)).cell? ⟨b1, o1, none⟩ = some (.int .i64 a.num) ∧ ((w6.setCell ⟨w.heap.size + 1, 0, none⟩ (.int .i64 (gr a l).num)).setCell ⟨w.heap.size + 1, 1, none⟩ (.int .i64 (gr a l).den)).cell? ⟨b1, o1 + 1, none⟩ = some (.int .i64 a.den)) :=
                ⟨((World.cell?_setCell_far _ ⟨w.heap.size + 1, 1, none⟩ ⟨b1, _, none⟩ _ (Ne.symm hb1')).trans (World.cell?_setCell_far _ ⟨w.heap.size + 1, 0, none⟩ ⟨b1, _, none⟩ _ (Ne.symm hb1'))).trans hS.1.1,
                  ((World.cell?_setCell_far _ ⟨w.heap.size + 1, 1, none⟩ ⟨b1, _, none⟩ _ (Ne.symm hb1')).trans (World.cell?_setCell_far _ ⟨w.heap.size + 1, 0, none⟩ ⟨b1, _, none⟩ _ (Ne.symm hb1'))).trans hS.1.2⟩
              generalize (w6.setCell ⟨w.heap.size + 1, 0, none⟩ (.int .i64 (gr a l).num)).setCell ⟨w.heap.size + 1, 1, none⟩ (.int .i64 (gr a l).den) = w7 at i1 i2 i3 i4 ⊢
              clear l0 l1 lf0 lf1 hS j1 j2 j3
              have hS7 := And.intro i4 i3
              refine hK.out _ _ (hS7) (fun hS => ?_)
              clear hK
              clear K
              try (simp only [Act.put, List.setIfInBounds_toArray, List.set_cons_zero, List.set_cons_succ])
              clear hS7 hS
              have u0 := Blk.cell i3 0
              have u1 := Blk.cell i3 1
              have uf0 := Blk.frozen i3 0
              have uf1 := Blk.frozen i3 1
              simp only [List.getElem?_toArray, List.getElem?_cons_zero, List.getElem?_cons_succ] at u0 u1
              apply wpPlan_step
              case ho => (simp only [List.getElem?_toArray, List.getElem?_cons_succ, List.getElem?_cons_zero]; exact rfl)
              intro K hK
              rw [if_pos (by rfl)]
              go_simp
              have m1 : Below w.heap.size w ((w7.setCell ⟨w.heap.size + 1 + 1, 0, none⟩ (.int .i64 (mn b u).num)).setCell ⟨w.heap.size + 1 + 1, 1, none⟩ (.int .i64 (mn b u).den)) := (i1.setCell (p := ⟨w.heap.size + 1 + 1, 0, none⟩) (by simp; omega) _).setCell (p := ⟨w.heap.size + 1 + 1, 1, none⟩) (by simp; omega) _
              have m2 : Blk ((w7.setCell ⟨w.heap.size + 1 + 1, 0, none⟩ (.int .i64 (mn b u).num)).setCell ⟨w.heap.size + 1 + 1, 1, none⟩ (.int .i64 (mn b u).den)) (w.heap.size + 1) 43 #[.int .i64 (gr a l).num, .int .i64 (gr a l).den] := (i2.far (p := ⟨w.heap.size + 1 + 1, 0, none⟩) (by simp) _).far (p := ⟨w.heap.size + 1 + 1, 1, none⟩) (by simp) _
              have m3 : Blk ((w7.setCell ⟨w.heap.size + 1 + 1, 0, none⟩ (.int .i64 (mn b u).num)).setCell ⟨w.heap.size + 1 + 1, 1, none⟩ (.int .i64 (mn b u).den)) (w.heap.size + 1 + 1) 43 #[.int .i64 (mn b u).num, .int .i64 (mn b u).den] := (i3.set_ 0 _).set_ 1 _
              have m4 : (((w7.setCell ⟨w.heap.size + 1 + 1, 0, none⟩ (.int .i64 (mn b u).num)).setCell ⟨w.heap.size + 1 + 1, 1, none⟩ (.int .i64 (mn b u).den)).cell? ⟨b1, o1, none⟩ = some (.int .i64 a.num) ∧ ((w7.setCell ⟨w.heap.size + 1 + 1, 0, none⟩ (.int .i64 (mn b u).num)).setCell ⟨w.heap.size + 1 + 1, 1, none⟩ (.int .i64 (mn b u).den)).cell? ⟨b1, o1 + 1, none⟩ = some (.int .i64 a.den)) :=
                ⟨((World.cell?_setCell_far _ ⟨w.heap.size + 1 + 1, 1, none⟩ ⟨b1, _, none⟩ _ (Ne.symm hb1)).trans (World.cell?_setCell_far _ ⟨w.heap.size + 1 + 1, 0, none⟩ ⟨b1, _, none⟩ _ (Ne.symm hb1))).trans i4.1,
                  ((World.cell?_setCell_far _ ⟨w.heap.size + 1 + 1, 1, none⟩ ⟨b1, _, none⟩ _ (Ne.symm hb1)).trans (World.cell?_setCell_far _ ⟨w.heap.size + 1 + 1, 0, none⟩ ⟨b1, _, none⟩ _ (Ne.symm hb1))).trans i4.2⟩
              generalize (w7.setCell ⟨w.heap.size + 1 + 1, 0, none⟩ (.int .i64 (mn b u).num)).setCell ⟨w.heap.size + 1 + 1, 1, none⟩ (.int .i64 (mn b u).den) = w8 at m1 m2 m3 m4 ⊢
              clear u0 u1 uf0 uf1 i1 i2 i3 i4
              have hS8 := And.intro m4 m3
              refine hK.out _ _ (hS8) (fun hS => ?_)
              clear hK
              clear K
              try (simp only [Act.put, List.setIfInBounds_toArray, List.set_cons_zero, List.set_cons_succ])
              clear hS8 hS
              apply wpPlan_step
              case ho => (simp only [List.getElem?_toArray, List.getElem?_cons_succ, List.getElem?_cons_zero]; exact rfl)
              intro K hK
              rw [if_pos (by rfl)]
              go_simp
              have hS8 := And.intro m4 m3
              refine hK.out _ _ (hS8) (fun hS => ?_)
              clear hK
              clear K
              try (simp only [Act.put, List.setIfInBounds_toArray, List.set_cons_zero, List.set_cons_succ])
              clear hS8 hS
              refine wpPlan_end ?_
              go_wp2
              have e1 := m2.cell 0
              have e2 := m2.cell 1
              have e3 := m3.cell 0
              have e4 := m3.cell 1
              simp only [List.getElem?_toArray, List.getElem?_cons_zero, List.getElem?_cons_succ] at e1 e2 e3 e4
              refine bodyPost_ret (v := bdVal (gr a l, mn b u, 0)) ?_ rfl ⟨by rw [HBD.out], m1⟩
              unfold bdVal Rat2.val
              simp [results, Try.results16, go_sem, e1, e2, e3, e4]
end Go.Proofs.Ytjihnnbpfdhceaa
