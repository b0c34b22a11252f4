/- boil.Bounds. Conditions: none beyond those that each theorem names. -/
import Derived.Test.YtjihnnbpfdhceaaGBoilGrown15
import Derived.Test.YtjihnnbpfdhceaaGBoilGrown13
set_option linter.unusedSimpArgs false
set_option linter.unusedVariables false
namespace Go.Proofs.Ytjihnnbpfdhceaa
open Go.RowKit Go.Shelf
attribute [local go_sem] Oper.semAt_some
attribute [local go_sem ↓] Go.wp_at_zero Go.wp_at_succ

def Hs.uppersTo (h : Hs) (m : Int) (k : Nat) : List Rat2 := ((h.ws.take k).filter fun x => h.under m x.month).map Wg.most
def Hs.uppers (h : Hs) (m : Int) : List Rat2 := (h.ws.filter fun x => h.under m x.month).map Wg.most
theorem Hs.uppersTo_all (h : Hs) (m : Int) : h.uppersTo m h.ws.length = h.uppers m := by unfold Hs.uppersTo Hs.uppers; rw [List.take_length]
theorem Hs.uppersTo_yes (h : Hs) (m : Int) (k : Nat) (hk : k < h.ws.length) (x : Wg) (hx : h.ws[k] = x) (hu : h.under m x.month = true) : h.uppersTo m (k + 1) = h.uppersTo m k ++ [x.most] := by
  unfold Hs.uppersTo
  rw [List.take_succ_eq_append_getElem hk, List.filter_append, List.map_append, hx]
  simp [hu]
theorem Hs.uppersTo_no (h : Hs) (m : Int) (k : Nat) (hk : k < h.ws.length) (x : Wg) (hx : h.ws[k] = x) (hu : h.under m x.month = false) : h.uppersTo m (k + 1) = h.uppersTo m k := by
  unfold Hs.uppersTo
  rw [List.take_succ_eq_append_getElem hk, List.filter_append, List.map_append, hx]
  simp [hu]
theorem Hs.uppersTo_len (h : Hs) (m : Int) (k : Nat) : (h.uppersTo m k).length ≤ k := by
  unfold Hs.uppersTo
  rw [List.length_map]
  have := List.length_filter_le (fun x => h.under m x.month) (h.ws.take k)
  rw [List.length_take] at this
  omega

/-- boil.Bounds's answer, of a month that there is. -/
def Hs.bounds (h : Hs) (m : Int) : Rat2 × Rat2 × Int :=
  if agreeB h.clashM = false then (⟨0, 0⟩, ⟨0, 0⟩, 7) else
  match h.lowers m, h.uppers m with
  | a :: l, b :: u => (gr a l, mn b u, 0)
  | _, _ => (⟨0, 0⟩, ⟨0, 0⟩, 6)
def bdVal (r : Rat2 × Rat2 × Int) : Value := .tuple #[r.1.val, r.2.1.val, .int .i64 r.2.2]

theorem check_months {h : Hs} (hk : h.check = 0) : 1 ≤ h.months ∧ h.months ≤ 12 := by
  unfold Hs.check at hk
  split at hk
  · cases hk
  · rename_i h1
    simp [inB] at h1
    omega
theorem info_ratio2 : (Try.prog.info? 43).map (·.size) = some 2 := by kernel_rfl
structure BdInv (h : Hs) (A : Option Addr) (c : Nat) (w : World) (g : Nat) (W : World) : Prop where
  bel : Below w.heap.size w W
  house : Blk W w.heap.size 25 #[.int .i64 h.months, .int .i64 h.peak, .slice A h.ws.length c]
  lo : Blk W (w.heap.size + 1) 43 #[.int .i64 0, .int .i64 0]
  hi : Blk W (w.heap.size + 1 + 1) 43 #[.int .i64 0, .int .i64 0]
  desk : Blk W g 134 (desk h A c h.clashM)
theorem BdInv.later {h : Hs} {A : Option Addr} {c : Nat} {w : World} {g : Nat} {W W' : World} (i : BdInv h A c w g W) (hb : Below W.heap.size W W') : BdInv h A c w g W' :=
  ⟨i.bel.trans (hb.mono i.bel.size), i.house.later hb, i.lo.later hb, i.hi.later hb, i.desk.later hb⟩

theorem lowers_bd {h : Hs} (hok : ∀ x ∈ h.ws, x.Ok) (m : Int) : ∀ q ∈ h.lowers m, q.Bd := by
  intro q hq
  obtain ⟨x, hx, rfl⟩ := List.mem_map.1 hq
  exact (hok x ((List.mem_filter.1 hx).1)).least_bd
theorem uppers_bd {h : Hs} (hok : ∀ x ∈ h.ws, x.Ok) (m : Int) : ∀ q ∈ h.uppers m, q.Bd := by
  intro q hq
  obtain ⟨x, hx, rfl⟩ := List.mem_map.1 hq
  exact (hok x ((List.mem_filter.1 hx).1)).most_bd
set_option maxRecDepth 100000 in
set_option maxHeartbeats 1000000 in
theorem bounds_any (h : Hs) (A : Option Addr) (c : Nat) (m : Int) (w : World) (hr : RowIn Wg.enc 5 w w.heap.size A h.ws) (hk : h.check = 0) (hm : h.month m = true) :
    Calls Try.prog 16 #[h.val A c, .int .i64 m] w fun e w' => e = .returned (bdVal (h.bounds m)) ∧ Below w.heap.size w w' := by
  obtain ⟨i0, hi0, hz0, hz1, hz2⟩ := info_parts info_ratio
  have hlen := check_len hk
  have HOK := Lib.hid (check_ok hk)
  have HR := Lib.hid hr
  have HK := Lib.hid hk
  have HM := Lib.hid hm
  clear hr hk hm
  unfold Hs.val
  go_enter Try.func16, Try.ntmps16
  go_wp2_with fail
  refine (opened_any h A c _ ((HR.out.below ((((Below.refl _ _).alloc (Nat.le_refl _) _).alloc (by simp) _).alloc (by simp; omega) _)).mono (by simp; omega)) HK.out).mono ?_
  rintro e w1 ⟨g, rfl, hg, hgb, hb1⟩
  have hI : BdInv h A c w g w1 := ⟨by repeat (first | exact Below.refl _ _ | exact hb1 | refine Below.drew ?_ | refine below_drewN ?_ _ | refine Below.setCell ?_ (by first | assumption | omega | (simp; done) | (simp; omega) | (simp at *; omega)) _ | refine Below.alloc ?_ (by first | assumption | omega | (simp; done) | (simp; omega) | (simp at *; omega)) _ | refine Below.trans ?_ (Below.mono hb1 (by first | assumption | omega | (simp; done) | (simp; omega) | (simp at *; omega)))), (((Blk.new w 25 _).alloc _).alloc _).later hb1, by
      have := Blk.new (w.alloc (.cells #[.int .i64 h.months, .int .i64 h.peak, .slice A h.ws.length c] 25)) 43 #[.int .i64 0, .int .i64 0]
      rw [World.size_alloc] at this
      exact (this.alloc _).later hb1, by
      have := Blk.new ((w.alloc (.cells #[.int .i64 h.months, .int .i64 h.peak, .slice A h.ws.length c] 25)).alloc (.cells #[.int .i64 0, .int .i64 0] 43)) 43 #[.int .i64 0, .int .i64 0]
      rw [World.size_alloc, World.size_alloc] at this
      exact this.later hb1, hgb⟩
  clear hg hgb hb1
  have HMO := Lib.hid (fun V => month_any h A c m V (by have := check_months HK.out; omega) (by have := check_months HK.out; omega))
  have HLO := Lib.hid (fun V hr => lowers_any h A c m V hr HK.out)
  rw [HM.out] at HMO
  have hc0 := hI.house.cell 0
  have hc1 := hI.house.cell 1
  have hc2 := hI.house.cell 2
  simp only [List.getElem?_toArray, List.getElem?_cons_zero, List.getElem?_cons_succ] at hc0 hc1 hc2
  have HI := Lib.hid hI
  clear hI
  go_wp2_with fail
  refine (HMO.out _).mono ?_
  rintro e w2 ⟨rfl, hb2⟩
  have hI2 := HI.out.later hb2
  have HI2 := Lib.hid hI2
  clear hc0 hc1 hc2 HI hb2 hI2
  go_wp2_with fail
  refine (agree_any _ _ _ _ g _ HI2.out.desk).mono ?_
  rintro e w3 ⟨rfl, rfl⟩
  cases hag : agreeB h.clashM
  · have hbd : h.bounds m = (⟨0, 0⟩, ⟨0, 0⟩, 7) := by unfold Hs.bounds; rw [if_pos hag]
    have HBD := Lib.hid hbd
    clear hbd hag
    go_wp2_with fail
    have hI3 : BdInv h A c w g w2 := HI2.out
    refine wp_region_plan (fun w' => Blk w' (w.heap.size + 1) 43 #[.int .i64 0, .int .i64 0] ∧ Blk w' (w.heap.size + 1 + 1) 43 #[.int .i64 0, .int .i64 0])
      [(0, true), (1, true), (2, false), (3, false), (4, false)] (by kernel_rfl) (by kernel_rfl) (fun _ _ _ _ _ h => h) ⟨hI3.lo, hI3.hi⟩ (fun hS => ?_)
    apply wpPlan_row (ty := 43) (g := w.heap.size + 1) (t := 43) (cs := #[.int .i64 0, .int .i64 0]) (fr := (0, 0)) (hg := fun w' hw' => hw'.1) (hu := Try.underlying43) (hd := rfl)
    case hi => (simp only [List.getElem?_toArray, List.getElem?_cons_succ, List.getElem?_cons_zero]; exact rfl)
    case hw => rfl
    case ho => rfl
    case hx => rfl
    case hi' => exact info_ratio2
    (simp only [Act.put, List.setIfInBounds_toArray, List.set_cons_zero, List.set_cons_succ])
    apply wpPlan_row (ty := 43) (g := w.heap.size + 1 + 1) (t := 43) (cs := #[.int .i64 0, .int .i64 0]) (fr := (0, 0)) (hg := fun w' hw' => hw'.2) (hu := Try.underlying43) (hd := rfl)
    case hi => (simp only [List.getElem?_toArray, List.getElem?_cons_succ, List.getElem?_cons_zero]; exact rfl)
    case hw => rfl
    case ho => rfl
    case hx => rfl
    case hi' => exact info_ratio2
    (simp only [Act.put, List.setIfInBounds_toArray, List.set_cons_zero, List.set_cons_succ])
    have l0 := Blk.cell hI3.lo 0
    have l1 := Blk.cell hI3.lo 1
    have lf0 := Blk.frozen hI3.lo 0
    have lf1 := Blk.frozen hI3.lo 1
    simp only [List.getElem?_toArray, List.getElem?_cons_zero, List.getElem?_cons_succ] at l0 l1
    have u0 := Blk.cell hI3.hi 0
    have u1 := Blk.cell hI3.hi 1
    have uf0 := Blk.frozen hI3.hi 0
    have uf1 := Blk.frozen hI3.hi 1
    simp only [List.getElem?_toArray, List.getElem?_cons_zero, List.getElem?_cons_succ] at u0 u1
    apply wpPlan_step
    case ho => (simp only [List.getElem?_toArray, List.getElem?_cons_succ, List.getElem?_cons_zero]; exact rfl)
    intro K hK
    rw [if_pos (by rfl)]
    go_simp
    have k1 : Below w.heap.size w (((w2.setCell ⟨w.heap.size + 1, 0, none⟩ (.int .i64 0)).setCell ⟨w.heap.size + 1, 1, none⟩ (.int .i64 0)).drew) := (((hI3.bel.setCell (p := ⟨w.heap.size + 1, 0, none⟩) (by simp) _).setCell (p := ⟨w.heap.size + 1, 1, none⟩) (by simp) _)).drew
    have k2 : Blk (((w2.setCell ⟨w.heap.size + 1, 0, none⟩ (.int .i64 0)).setCell ⟨w.heap.size + 1, 1, none⟩ (.int .i64 0)).drew) (w.heap.size + 1) 43 #[.int .i64 0, .int .i64 0] := (hI3.lo.set_ 0 _).set_ 1 _
    have k3 : Blk (((w2.setCell ⟨w.heap.size + 1, 0, none⟩ (.int .i64 0)).setCell ⟨w.heap.size + 1, 1, none⟩ (.int .i64 0)).drew) (w.heap.size + 1 + 1) 43 #[.int .i64 0, .int .i64 0] := (hI3.hi.far (p := ⟨w.heap.size + 1, 0, none⟩) (by simp) _).far (p := ⟨w.heap.size + 1, 1, none⟩) (by simp) _
    generalize ((w2.setCell ⟨w.heap.size + 1, 0, none⟩ (.int .i64 0)).setCell ⟨w.heap.size + 1, 1, none⟩ (.int .i64 0)).drew = w4 at k1 k2 k3 ⊢
    clear l0 l1 lf0 lf1 u0 u1 uf0 uf1 hS
    have hS4 := And.intro k2 k3
    refine hK.out _ _ (hS4) (fun hS => ?_)
    clear hK
    clear K
    try (simp only [Act.put, List.setIfInBounds_toArray, List.set_cons_zero, List.set_cons_succ])
    clear hS4 hS
    have u0 := Blk.cell k3 0
    have u1 := Blk.cell k3 1
    have uf0 := Blk.frozen k3 0
    have uf1 := Blk.frozen k3 1
    simp only [List.getElem?_toArray, List.getElem?_cons_zero, List.getElem?_cons_succ] at u0 u1
    apply wpPlan_step
    case ho => (simp only [List.getElem?_toArray, List.getElem?_cons_succ, List.getElem?_cons_zero]; exact rfl)
    intro K hK
    rw [if_pos (by rfl)]
    go_simp
    have k4 : Below w.heap.size w ((w4.setCell ⟨w.heap.size + 1 + 1, 0, none⟩ (.int .i64 0)).setCell ⟨w.heap.size + 1 + 1, 1, none⟩ (.int .i64 0)) := (k1.setCell (p := ⟨w.heap.size + 1 + 1, 0, none⟩) (by simp; omega) _).setCell (p := ⟨w.heap.size + 1 + 1, 1, none⟩) (by simp; omega) _
    have k5 : Blk ((w4.setCell ⟨w.heap.size + 1 + 1, 0, none⟩ (.int .i64 0)).setCell ⟨w.heap.size + 1 + 1, 1, none⟩ (.int .i64 0)) (w.heap.size + 1) 43 #[.int .i64 0, .int .i64 0] := (k2.far (p := ⟨w.heap.size + 1 + 1, 0, none⟩) (by simp) _).far (p := ⟨w.heap.size + 1 + 1, 1, none⟩) (by simp) _
    have k6 : Blk ((w4.setCell ⟨w.heap.size + 1 + 1, 0, none⟩ (.int .i64 0)).setCell ⟨w.heap.size + 1 + 1, 1, none⟩ (.int .i64 0)) (w.heap.size + 1 + 1) 43 #[.int .i64 0, .int .i64 0] := (k3.set_ 0 _).set_ 1 _
    generalize (w4.setCell ⟨w.heap.size + 1 + 1, 0, none⟩ (.int .i64 0)).setCell ⟨w.heap.size + 1 + 1, 1, none⟩ (.int .i64 0) = w5 at k4 k5 k6 ⊢
    clear u0 u1 uf0 uf1 k1 k2 k3
    have hS5 := And.intro k5 k6
    refine hK.out _ _ (hS5) (fun hS => ?_)
    clear hK
    clear K
    try (simp only [Act.put, List.setIfInBounds_toArray, List.set_cons_zero, List.set_cons_succ])
    clear hS5 hS
    apply wpPlan_step
    case ho => (simp only [List.getElem?_toArray, List.getElem?_cons_succ, List.getElem?_cons_zero]; exact rfl)
    intro K hK
    rw [if_pos (by rfl)]
    go_simp
    have hS5 := And.intro k5 k6
    refine hK.out _ _ (hS5) (fun hS => ?_)
    clear hK
    clear K
    try (simp only [Act.put, List.setIfInBounds_toArray, List.set_cons_zero, List.set_cons_succ])
    clear hS5 hS
    refine wpPlan_end ?_
    go_wp2
    have e1 := k5.cell 0
    have e2 := k5.cell 1
    have e3 := k6.cell 0
    have e4 := k6.cell 1
    simp only [List.getElem?_toArray, List.getElem?_cons_zero, List.getElem?_cons_succ] at e1 e2 e3 e4
    refine bodyPost_ret (v := bdVal (⟨0, 0⟩, ⟨0, 0⟩, 7)) ?_ rfl ⟨by rw [HBD.out], k4⟩
    unfold bdVal Rat2.val
    simp [results, Try.results16, go_sem, e1, e2, e3, e4]
  · have HAG := Lib.hid hag
    have hcc : BdInv h A c w g w2 := HI2.out
    have hc0 := hcc.house.cell 0
    have hc1 := hcc.house.cell 1
    have hc2 := hcc.house.cell 2
    simp only [List.getElem?_toArray, List.getElem?_cons_zero, List.getElem?_cons_succ] at hc0 hc1 hc2
    clear hcc hag
    go_wp2_with fail
    refine (HLO.out _ ((HR.out.below HI2.out.bel).mono HI2.out.bel.size)).mono ?_
    rintro e w3 ⟨lv, rfl, hlow, hb3⟩
    have hI3 := HI2.out.later hb3
    have HI3 := Lib.hid hI3
    have HLOW := Lib.hid hlow
    have hc2 := hI3.house.cell 2
    simp only [List.getElem?_toArray, List.getElem?_cons_zero, List.getElem?_cons_succ] at hc2
    have hb0 : Below w3.heap.size w3 w3 := Below.refl _ _
    have hzw3 := hI3.bel.size
    have hz22 : w.heap.size + 1 + 1 < w2.heap.size := HI2.out.hi.lt
    clear hlow hI3 hb3 hc0 hc1 HI2
    go_wp2
    go_loopw [9, 42] (fun v i wr => ∃ k : Nat, k ≤ h.ws.length ∧ i = .int .i64 k ∧ Below w3.heap.size w3 wr ∧ wr.ownsRow w3.heap.size 43 2 v (h.uppersTo m k).length (flatR (h.uppersTo m k))) (fun _ i _ => h.ws.length - (intOf i).toNat)
    case atStart => exact ⟨0, by omega, rfl, hb0, World.ownsRow_nil _ _ _ 2⟩
    case round =>
      clear hb0 hc2
      obtain ⟨k, hk, rfl, hB, hOw⟩ := hrel
      have hIr := HI3.out.later hB
      by_cases hlt : k < h.ws.length
      · obtain ⟨b0, o0, x, rfl, hB0, hx, x0, x1, x2, x3, x4⟩ := (HR.out.below hIr.bel).wg k hlt
        have hB1 : b0 < wr.heap.size := Nat.lt_of_lt_of_le hB0 hIr.bel.size
        have HX := Lib.hid hx
        have c0 := hIr.house.cell 0
        have c1 := hIr.house.cell 1
        have c2 := hIr.house.cell 2
        simp only [List.getElem?_toArray, List.getElem?_cons_zero, List.getElem?_cons_succ] at c0 c1 c2
        have hlk := h.uppersTo_len m k
        have HZ := hB.size
        have hwl := hIr.house.lt
        have HU := Lib.hid (fun V => under_any h (some ⟨b0, o0, none⟩) c m x.month V)
        have HLE := Lib.hid (fun V => most_any x (by rw [← HX.out]; exact HOK.out _ (List.getElem_mem _)) V)
        clear hx hIr
        go_wp2_with fail
        refine (HU.out _).mono ?_
        rintro e w4 ⟨rfl, hb4⟩
        have hz4 := hb4.size
        simp only [World.size_alloc] at hz4
        have hB5 : Below wr.heap.size wr w4 := ((Below.refl _ _).alloc (Nat.le_refl _) _).trans (hb4.mono (by simp))
        have hB4 : Below w3.heap.size w3 w4 := hB.trans (hB5.mono HZ)
        have hv4 : Blk w4 wr.heap.size 55 #[.int .i64 x.month, .int .i64 x.slo, .int .i64 x.shi, .int .i64 x.mlo, .int .i64 x.mhi] := (Blk.new wr 55 _).later hb4
        have v0 := hv4.cell 0
        have v1 := hv4.cell 1
        have v2 := hv4.cell 2
        have v3 := hv4.cell 3
        have v4 := hv4.cell 4
        simp only [List.getElem?_toArray, List.getElem?_cons_zero, List.getElem?_cons_succ] at v0 v1 v2 v3 v4
        have hOw4 := ownsRow_keep hOw hB5
        have HZ4 := hB4.size
        clear hOw hv4 x0 x1 x2 x3 x4 c0 c1 c2 hb4
        cases hu : h.under m x.month
        · have HP := Lib.hid (h.uppersTo_no m k hlt x HX.out hu)
          have HOw := Lib.hid hOw4
          clear hu hOw4
          go_wp2
          go_roundw
          case rel => exact ⟨k + 1, by omega, by go_num, hB4, by rw [HP.out]; exact HOw.out⟩
          case measure => simp [intOf]; omega
        · have HP := Lib.hid (h.uppersTo_yes m k hlt x HX.out hu)
          have HOw := Lib.hid hOw4
          clear hu hOw4
          go_wp2_with fail
          refine (HLE.out _).mono ?_
          rintro e w5 ⟨rfl, hb5⟩
          have hB6 : Below w3.heap.size w3 w5 := hB4.trans (hb5.mono HZ4)
          have hOw5 := ownsRow_keep HOw.out hb5
          have HZ5 := hB6.size
          clear v0 v1 v2 v3 v4 hb5 HOw
          unfold Rat2.val
          go_wp2_with (at_builtin; refine wpList_append_own _ rfl _ _ 26 rfl w3.heap.size 43 i0 _ 2 16 Try.underlying26 hi0 hz0 hz1 hz2 rfl (by decide) _ _ _ rfl (hOw5.alloc _) ⟨w5.heap.size, 0, none⟩ 1 1 [.int .i64 x.most.num, .int .i64 x.most.den] rfl rfl ?c1 ?c2 ?c3 ?c4 ?c5 ?_)
          case c1 => exact World.news_of_block (cs := #[.int .i64 x.most.num, .int .i64 x.most.den]) (t := 43) (fr := (0, 0)) (heap_alloc_new w5 _)
          case c2 => simp [Value.oneCell']
          case c3 => unfold maxLen; omega
          case c4 => omega
          case c5 => simp; omega
          intro v' wn hown' hgrow _
          have hBn : Below w3.heap.size w3 wn := (hB6.alloc HZ5 _).grown hgrow (by simp; omega) (fun g hg => (hOw5.lt g hg).1)
          have HOw := Lib.hid hown'
          clear hown' hgrow hOw5
          go_wp2
          go_roundw
          case rel => exact ⟨k + 1, by omega, by go_num, hBn, by rw [HP.out, flatR_snoc, List.length_append]; exact HOw.out⟩
          case measure => simp [intOf]; omega
      · obtain rfl : k = h.ws.length := by omega
        rw [Hs.uppersTo_all] at hOw
        obtain ⟨A1, d1, rfl, hrl, hcl, hbl1⟩ := row_of_own Rat2.enc 2 rat_len (ownsRow_keep HLOW.out hB)
        obtain ⟨A2, d2, rfl, hru, hcu, _⟩ := row_of_own Rat2.enc 2 rat_len hOw
        clear hOw HLOW
        have HRL := Lib.hid hrl
        have HRU := Lib.hid hru
        have HIR := Lib.hid hIr
        have hI3 : BdInv h A c w g wr := hIr
        have hbdl := lowers_bd HOK.out m
        have hbdu := uppers_bd HOK.out m
        have HBL := Lib.hid hbdl
        have HBU := Lib.hid hbdu
        have hll := h.lowersTo_len m h.ws.length
        rw [Hs.lowersTo_all] at hll
        have huu := h.uppersTo_len m h.ws.length
        rw [Hs.uppersTo_all] at huu
        clear hrl hru hbdl hbdu hIr
        cases hL : h.lowers m with
        | nil =>
          have hbd : h.bounds m = (⟨0, 0⟩, ⟨0, 0⟩, 6) := by unfold Hs.bounds; rw [if_neg (by rw [HAG.out]; exact Bool.noConfusion), hL]
          have HBD := Lib.hid hbd
          have hn1 : (h.lowers m).length = 0 := by rw [hL]; rfl
          rw [hL] at HRL HBL
          rw [hL] at *
          clear hbd
          go_wp2
          refine wp_region_plan (fun w' => Blk w' (w.heap.size + 1) 43 #[.int .i64 0, .int .i64 0] ∧ Blk w' (w.heap.size + 1 + 1) 43 #[.int .i64 0, .int .i64 0])
            [(0, true), (1, true), (2, false), (3, false), (4, false)] (by kernel_rfl) (by kernel_rfl) (fun _ _ _ _ _ h => h) ⟨hI3.lo, hI3.hi⟩ (fun hS => ?_)
          apply wpPlan_row (ty := 43) (g := w.heap.size + 1) (t := 43) (cs := #[.int .i64 0, .int .i64 0]) (fr := (0, 0)) (hg := fun w' hw' => hw'.1) (hu := Try.underlying43) (hd := rfl)
          case hi => (simp only [List.getElem?_toArray, List.getElem?_cons_succ, List.getElem?_cons_zero]; exact rfl)
          case hw => rfl
          case ho => rfl
          case hx => rfl
          case hi' => exact info_ratio2
          (simp only [Act.put, List.setIfInBounds_toArray, List.set_cons_zero, List.set_cons_succ])
          apply wpPlan_row (ty := 43) (g := w.heap.size + 1 + 1) (t := 43) (cs := #[.int .i64 0, .int .i64 0]) (fr := (0, 0)) (hg := fun w' hw' => hw'.2) (hu := Try.underlying43) (hd := rfl)
          case hi => (simp only [List.getElem?_toArray, List.getElem?_cons_succ, List.getElem?_cons_zero]; exact rfl)
          case hw => rfl
          case ho => rfl
          case hx => rfl
          case hi' => exact info_ratio2
          (simp only [Act.put, List.setIfInBounds_toArray, List.set_cons_zero, List.set_cons_succ])
          have l0 := Blk.cell hI3.lo 0
          have l1 := Blk.cell hI3.lo 1
          have lf0 := Blk.frozen hI3.lo 0
          have lf1 := Blk.frozen hI3.lo 1
          simp only [List.getElem?_toArray, List.getElem?_cons_zero, List.getElem?_cons_succ] at l0 l1
          have u0 := Blk.cell hI3.hi 0
          have u1 := Blk.cell hI3.hi 1
          have uf0 := Blk.frozen hI3.hi 0
          have uf1 := Blk.frozen hI3.hi 1
          simp only [List.getElem?_toArray, List.getElem?_cons_zero, List.getElem?_cons_succ] at u0 u1
          apply wpPlan_step
          case ho => (simp only [List.getElem?_toArray, List.getElem?_cons_succ, List.getElem?_cons_zero]; exact rfl)
          intro K hK
          rw [if_pos (by rfl)]
          go_simp
          have k1 : Below w.heap.size w (((wr.setCell ⟨w.heap.size + 1, 0, none⟩ (.int .i64 0)).setCell ⟨w.heap.size + 1, 1, none⟩ (.int .i64 0)).drew) := (((hI3.bel.setCell (p := ⟨w.heap.size + 1, 0, none⟩) (by simp) _).setCell (p := ⟨w.heap.size + 1, 1, none⟩) (by simp) _)).drew
          have k2 : Blk (((wr.setCell ⟨w.heap.size + 1, 0, none⟩ (.int .i64 0)).setCell ⟨w.heap.size + 1, 1, none⟩ (.int .i64 0)).drew) (w.heap.size + 1) 43 #[.int .i64 0, .int .i64 0] := (hI3.lo.set_ 0 _).set_ 1 _
          have k3 : Blk (((wr.setCell ⟨w.heap.size + 1, 0, none⟩ (.int .i64 0)).setCell ⟨w.heap.size + 1, 1, none⟩ (.int .i64 0)).drew) (w.heap.size + 1 + 1) 43 #[.int .i64 0, .int .i64 0] := (hI3.hi.far (p := ⟨w.heap.size + 1, 0, none⟩) (by simp) _).far (p := ⟨w.heap.size + 1, 1, none⟩) (by simp) _
          generalize ((wr.setCell ⟨w.heap.size + 1, 0, none⟩ (.int .i64 0)).setCell ⟨w.heap.size + 1, 1, none⟩ (.int .i64 0)).drew = w4 at k1 k2 k3 ⊢
          clear l0 l1 lf0 lf1 u0 u1 uf0 uf1 hS
          have hS4 := And.intro k2 k3
          refine hK.out _ _ (hS4) (fun hS => ?_)
          clear hK
          clear K
          try (simp only [Act.put, List.setIfInBounds_toArray, List.set_cons_zero, List.set_cons_succ])
          clear hS4 hS
          have u0 := Blk.cell k3 0
          have u1 := Blk.cell k3 1
          have uf0 := Blk.frozen k3 0
          have uf1 := Blk.frozen k3 1
          simp only [List.getElem?_toArray, List.getElem?_cons_zero, List.getElem?_cons_succ] at u0 u1
          apply wpPlan_step
          case ho => (simp only [List.getElem?_toArray, List.getElem?_cons_succ, List.getElem?_cons_zero]; exact rfl)
          intro K hK
          rw [if_pos (by rfl)]
          go_simp
          have k4 : Below w.heap.size w ((w4.setCell ⟨w.heap.size + 1 + 1, 0, none⟩ (.int .i64 0)).setCell ⟨w.heap.size + 1 + 1, 1, none⟩ (.int .i64 0)) := (k1.setCell (p := ⟨w.heap.size + 1 + 1, 0, none⟩) (by simp; omega) _).setCell (p := ⟨w.heap.size + 1 + 1, 1, none⟩) (by simp; omega) _
          have k5 : Blk ((w4.setCell ⟨w.heap.size + 1 + 1, 0, none⟩ (.int .i64 0)).setCell ⟨w.heap.size + 1 + 1, 1, none⟩ (.int .i64 0)) (w.heap.size + 1) 43 #[.int .i64 0, .int .i64 0] := (k2.far (p := ⟨w.heap.size + 1 + 1, 0, none⟩) (by simp) _).far (p := ⟨w.heap.size + 1 + 1, 1, none⟩) (by simp) _
          have k6 : Blk ((w4.setCell ⟨w.heap.size + 1 + 1, 0, none⟩ (.int .i64 0)).setCell ⟨w.heap.size + 1 + 1, 1, none⟩ (.int .i64 0)) (w.heap.size + 1 + 1) 43 #[.int .i64 0, .int .i64 0] := (k3.set_ 0 _).set_ 1 _
          generalize (w4.setCell ⟨w.heap.size + 1 + 1, 0, none⟩ (.int .i64 0)).setCell ⟨w.heap.size + 1 + 1, 1, none⟩ (.int .i64 0) = w5 at k4 k5 k6 ⊢
          clear u0 u1 uf0 uf1 k1 k2 k3
          have hS5 := And.intro k5 k6
          refine hK.out _ _ (hS5) (fun hS => ?_)
          clear hK
          clear K
          try (simp only [Act.put, List.setIfInBounds_toArray, List.set_cons_zero, List.set_cons_succ])
          clear hS5 hS
          apply wpPlan_step
          case ho => (simp only [List.getElem?_toArray, List.getElem?_cons_succ, List.getElem?_cons_zero]; exact rfl)
          intro K hK
          rw [if_pos (by rfl)]
          go_simp
          have hS5 := And.intro k5 k6
          refine hK.out _ _ (hS5) (fun hS => ?_)
          clear hK
          clear K
          try (simp only [Act.put, List.setIfInBounds_toArray, List.set_cons_zero, List.set_cons_succ])
          clear hS5 hS
          refine wpPlan_end ?_
          go_wp2
          have e1 := k5.cell 0
          have e2 := k5.cell 1
          have e3 := k6.cell 0
          have e4 := k6.cell 1
          simp only [List.getElem?_toArray, List.getElem?_cons_zero, List.getElem?_cons_succ] at e1 e2 e3 e4
          refine bodyPost_ret (v := bdVal (⟨0, 0⟩, ⟨0, 0⟩, 6)) ?_ rfl ⟨by rw [HBD.out], k4⟩
          unfold bdVal Rat2.val
          simp [results, Try.results16, go_sem, e1, e2, e3, e4]
        | cons a l =>
          have hn1 : ((l.length + 1 : Nat) : Int) ≠ 0 := by omega
          have hq1 : (((l.length + 1 : Nat) : Int) == 0) = false := beq_eq_false_iff_ne.2 hn1
          have hq3 : ((l.length : Int) + 1 == 0) = false := beq_eq_false_iff_ne.2 (by omega)
          cases hU : h.uppers m with
          | nil =>
            have hbd : h.bounds m = (⟨0, 0⟩, ⟨0, 0⟩, 6) := by unfold Hs.bounds; rw [if_neg (by rw [HAG.out]; exact Bool.noConfusion), hL, hU]
            have HBD := Lib.hid hbd
            rw [hL, hU] at *
            simp only [List.length_cons, List.length_nil] at *
            clear hbd
            go_wp2
            refine wp_region_plan (fun w' => Blk w' (w.heap.size + 1) 43 #[.int .i64 0, .int .i64 0] ∧ Blk w' (w.heap.size + 1 + 1) 43 #[.int .i64 0, .int .i64 0])
              [(0, true), (1, true), (2, false), (3, false), (4, false)] (by kernel_rfl) (by kernel_rfl) (fun _ _ _ _ _ h => h) ⟨hI3.lo, hI3.hi⟩ (fun hS => ?_)
            apply wpPlan_row (ty := 43) (g := w.heap.size + 1) (t := 43) (cs := #[.int .i64 0, .int .i64 0]) (fr := (0, 0)) (hg := fun w' hw' => hw'.1) (hu := Try.underlying43) (hd := rfl)
            case hi => (simp only [List.getElem?_toArray, List.getElem?_cons_succ, List.getElem?_cons_zero]; exact rfl)
            case hw => rfl
            case ho => rfl
            case hx => rfl
            case hi' => exact info_ratio2
            (simp only [Act.put, List.setIfInBounds_toArray, List.set_cons_zero, List.set_cons_succ])
            apply wpPlan_row (ty := 43) (g := w.heap.size + 1 + 1) (t := 43) (cs := #[.int .i64 0, .int .i64 0]) (fr := (0, 0)) (hg := fun w' hw' => hw'.2) (hu := Try.underlying43) (hd := rfl)
            case hi => (simp only [List.getElem?_toArray, List.getElem?_cons_succ, List.getElem?_cons_zero]; exact rfl)
            case hw => rfl
            case ho => rfl
            case hx => rfl
            case hi' => exact info_ratio2
            (simp only [Act.put, List.setIfInBounds_toArray, List.set_cons_zero, List.set_cons_succ])
            have l0 := Blk.cell hI3.lo 0
            have l1 := Blk.cell hI3.lo 1
            have lf0 := Blk.frozen hI3.lo 0
            have lf1 := Blk.frozen hI3.lo 1
            simp only [List.getElem?_toArray, List.getElem?_cons_zero, List.getElem?_cons_succ] at l0 l1
            have u0 := Blk.cell hI3.hi 0
            have u1 := Blk.cell hI3.hi 1
            have uf0 := Blk.frozen hI3.hi 0
            have uf1 := Blk.frozen hI3.hi 1
            simp only [List.getElem?_toArray, List.getElem?_cons_zero, List.getElem?_cons_succ] at u0 u1
            apply wpPlan_step
            case ho => (simp only [List.getElem?_toArray, List.getElem?_cons_succ, List.getElem?_cons_zero]; exact rfl)
            intro K hK
            rw [if_pos (by rfl)]
            go_simp
            have k1 : Below w.heap.size w (((wr.setCell ⟨w.heap.size + 1, 0, none⟩ (.int .i64 0)).setCell ⟨w.heap.size + 1, 1, none⟩ (.int .i64 0)).drew) := (((hI3.bel.setCell (p := ⟨w.heap.size + 1, 0, none⟩) (by simp) _).setCell (p := ⟨w.heap.size + 1, 1, none⟩) (by simp) _)).drew
            have k2 : Blk (((wr.setCell ⟨w.heap.size + 1, 0, none⟩ (.int .i64 0)).setCell ⟨w.heap.size + 1, 1, none⟩ (.int .i64 0)).drew) (w.heap.size + 1) 43 #[.int .i64 0, .int .i64 0] := (hI3.lo.set_ 0 _).set_ 1 _
            have k3 : Blk (((wr.setCell ⟨w.heap.size + 1, 0, none⟩ (.int .i64 0)).setCell ⟨w.heap.size + 1, 1, none⟩ (.int .i64 0)).drew) (w.heap.size + 1 + 1) 43 #[.int .i64 0, .int .i64 0] := (hI3.hi.far (p := ⟨w.heap.size + 1, 0, none⟩) (by simp) _).far (p := ⟨w.heap.size + 1, 1, none⟩) (by simp) _
            generalize ((wr.setCell ⟨w.heap.size + 1, 0, none⟩ (.int .i64 0)).setCell ⟨w.heap.size + 1, 1, none⟩ (.int .i64 0)).drew = w4 at k1 k2 k3 ⊢
            clear l0 l1 lf0 lf1 u0 u1 uf0 uf1 hS
            have hS4 := And.intro k2 k3
            refine hK.out _ _ (hS4) (fun hS => ?_)
            clear hK
            clear K
            try (simp only [Act.put, List.setIfInBounds_toArray, List.set_cons_zero, List.set_cons_succ])
            clear hS4 hS
            have u0 := Blk.cell k3 0
            have u1 := Blk.cell k3 1
            have uf0 := Blk.frozen k3 0
            have uf1 := Blk.frozen k3 1
            simp only [List.getElem?_toArray, List.getElem?_cons_zero, List.getElem?_cons_succ] at u0 u1
            apply wpPlan_step
            case ho => (simp only [List.getElem?_toArray, List.getElem?_cons_succ, List.getElem?_cons_zero]; exact rfl)
            intro K hK
            rw [if_pos (by rfl)]
            go_simp
            have k4 : Below w.heap.size w ((w4.setCell ⟨w.heap.size + 1 + 1, 0, none⟩ (.int .i64 0)).setCell ⟨w.heap.size + 1 + 1, 1, none⟩ (.int .i64 0)) := (k1.setCell (p := ⟨w.heap.size + 1 + 1, 0, none⟩) (by simp; omega) _).setCell (p := ⟨w.heap.size + 1 + 1, 1, none⟩) (by simp; omega) _
            have k5 : Blk ((w4.setCell ⟨w.heap.size + 1 + 1, 0, none⟩ (.int .i64 0)).setCell ⟨w.heap.size + 1 + 1, 1, none⟩ (.int .i64 0)) (w.heap.size + 1) 43 #[.int .i64 0, .int .i64 0] := (k2.far (p := ⟨w.heap.size + 1 + 1, 0, none⟩) (by simp) _).far (p := ⟨w.heap.size + 1 + 1, 1, none⟩) (by simp) _
            have k6 : Blk ((w4.setCell ⟨w.heap.size + 1 + 1, 0, none⟩ (.int .i64 0)).setCell ⟨w.heap.size + 1 + 1, 1, none⟩ (.int .i64 0)) (w.heap.size + 1 + 1) 43 #[.int .i64 0, .int .i64 0] := (k3.set_ 0 _).set_ 1 _
            generalize (w4.setCell ⟨w.heap.size + 1 + 1, 0, none⟩ (.int .i64 0)).setCell ⟨w.heap.size + 1 + 1, 1, none⟩ (.int .i64 0) = w5 at k4 k5 k6 ⊢
            clear u0 u1 uf0 uf1 k1 k2 k3
            have hS5 := And.intro k5 k6
            refine hK.out _ _ (hS5) (fun hS => ?_)
            clear hK
            clear K
            try (simp only [Act.put, List.setIfInBounds_toArray, List.set_cons_zero, List.set_cons_succ])
            clear hS5 hS
            apply wpPlan_step
            case ho => (simp only [List.getElem?_toArray, List.getElem?_cons_succ, List.getElem?_cons_zero]; exact rfl)
            intro K hK
            rw [if_pos (by rfl)]
            go_simp
            have hS5 := And.intro k5 k6
            refine hK.out _ _ (hS5) (fun hS => ?_)
            clear hK
            clear K
            try (simp only [Act.put, List.setIfInBounds_toArray, List.set_cons_zero, List.set_cons_succ])
            clear hS5 hS
            refine wpPlan_end ?_
            go_wp2
            have e1 := k5.cell 0
            have e2 := k5.cell 1
            have e3 := k6.cell 0
            have e4 := k6.cell 1
            simp only [List.getElem?_toArray, List.getElem?_cons_zero, List.getElem?_cons_succ] at e1 e2 e3 e4
            refine bodyPost_ret (v := bdVal (⟨0, 0⟩, ⟨0, 0⟩, 6)) ?_ rfl ⟨by rw [HBD.out], k4⟩
            unfold bdVal Rat2.val
            simp [results, Try.results16, go_sem, e1, e2, e3, e4]
          | cons b u =>
            have hbd : h.bounds m = (gr a l, mn b u, 0) := by unfold Hs.bounds; rw [if_neg (by rw [HAG.out]; exact Bool.noConfusion), hL, hU]
            have HBD := Lib.hid hbd
            have hq2 : (((u.length + 1 : Nat) : Int) == 0) = false := beq_eq_false_iff_ne.2 (by omega)
            have hq4 : ((u.length : Int) + 1 == 0) = false := beq_eq_false_iff_ne.2 (by omega)
            have hn4 : (0 : Int) < (l.length : Int) + 1 := by omega
            have hru' := HRU.out
            rw [hU] at hru'
            have hbu' := HBU.out
            rw [hU] at hbu'
            have hrl' := HRL.out
            rw [hL] at hrl'
            have hbl' := HBL.out
            rw [hL] at hbl'
            have HRU' := Lib.hid hru'
            have HRL' := Lib.hid hrl'
            have HBU' := Lib.hid hbu'
            have HBL' := Lib.hid hbl'
            rw [hU] at huu
            rw [hL] at hcl hll
            simp only [List.length_cons] at huu hcl hll
            try rw [hL]
            try rw [hU]
            simp only [List.length_cons]
            clear hbd hru' hbu' hrl' hbl' HRU HRL HBU HBL
            go_wp2_with fail
            refine (minfunc_any A2 b u d2 wr HRU'.out HBU'.out (by simp; omega)).mono ?_
            rintro e w4 ⟨rfl, hb4⟩
            have hI4 := hI3.later hb4
            have hrl4 := (HRL'.out.below hb4).mono hb4.size
            have u0 := Blk.cell hI4.hi 0
            have u1 := Blk.cell hI4.hi 1
            have uf0 := Blk.frozen hI4.hi 0
            have uf1 := Blk.frozen hI4.hi 1
            simp only [List.getElem?_toArray, List.getElem?_cons_zero, List.getElem?_cons_succ] at u0 u1
            unfold Rat2.val
            clear HRU' HRL'
            go_wp2_with fail
            have k1 : Below w.heap.size w ((w4.setCell ⟨w.heap.size + 1 + 1, 0, none⟩ (.int .i64 (mn b u).num)).setCell ⟨w.heap.size + 1 + 1, 1, none⟩ (.int .i64 (mn b u).den)) := (hI4.bel.setCell (p := ⟨w.heap.size + 1 + 1, 0, none⟩) (by simp; omega) _).setCell (p := ⟨w.heap.size + 1 + 1, 1, none⟩) (by simp; omega) _
            have k2 : Blk ((w4.setCell ⟨w.heap.size + 1 + 1, 0, none⟩ (.int .i64 (mn b u).num)).setCell ⟨w.heap.size + 1 + 1, 1, none⟩ (.int .i64 (mn b u).den)) (w.heap.size + 1) 43 #[.int .i64 0, .int .i64 0] := (hI4.lo.far (p := ⟨w.heap.size + 1 + 1, 0, none⟩) (by simp) _).far (p := ⟨w.heap.size + 1 + 1, 1, none⟩) (by simp) _
            have k3 : Blk ((w4.setCell ⟨w.heap.size + 1 + 1, 0, none⟩ (.int .i64 (mn b u).num)).setCell ⟨w.heap.size + 1 + 1, 1, none⟩ (.int .i64 (mn b u).den)) (w.heap.size + 1 + 1) 43 #[.int .i64 (mn b u).num, .int .i64 (mn b u).den] := (hI4.hi.set_ 0 _).set_ 1 _
            obtain ⟨b1, o1, x, rfl, hB1, hx1, x0, x1⟩ := hrl4.rat 0 (by simp)
            obtain rfl : a = x := hx1
            have hb1 : b1 ≠ w.heap.size + 1 + 1 := by have := hbl1 _ rfl; simp only at this; omega
            have k4 : RowIn Rat2.enc 2 ((w4.setCell ⟨w.heap.size + 1 + 1, 0, none⟩ (.int .i64 (mn b u).num)).setCell ⟨w.heap.size + 1 + 1, 1, none⟩ (.int .i64 (mn b u).den)) w4.heap.size (some ⟨b1, o1, none⟩) (a :: l) := fun i hi => by
              obtain ⟨b', o', hA, hb', hc'⟩ := hrl4 i hi
              injection hA with hA
              injection hA with h1 h2
              subst h1
              subst h2
              exact ⟨b1, o1, rfl, hb', fun j v hv => ((World.cell?_setCell_far _ ⟨w.heap.size + 1 + 1, 1, none⟩ ⟨b1, _, none⟩ _ (Ne.symm hb1)).trans (World.cell?_setCell_far _ ⟨w.heap.size + 1 + 1, 0, none⟩ ⟨b1, _, none⟩ _ (Ne.symm hb1))).trans (hc' j v hv)⟩
            have hz5 : ((w4.setCell ⟨w.heap.size + 1 + 1, 0, none⟩ (.int .i64 (mn b u).num)).setCell ⟨w.heap.size + 1 + 1, 1, none⟩ (.int .i64 (mn b u).den)).heap.size = w4.heap.size := by simp
            rw [← hz5] at k4
            generalize (w4.setCell ⟨w.heap.size + 1 + 1, 0, none⟩ (.int .i64 (mn b u).num)).setCell ⟨w.heap.size + 1 + 1, 1, none⟩ (.int .i64 (mn b u).den) = w5 at k1 k2 k3 k4 ⊢
            obtain ⟨_, _, _, hA, hB5, hx5, y0, y1⟩ := k4.rat 0 (by simp)
            injection hA with hA
            injection hA with h1 h2
            subst h1
            subst h2
            rw [← hx5] at y0 y1
            simp only [List.getElem_cons_zero, Nat.zero_mul, Nat.add_zero] at y0 y1
            have hll1 : (1 : Int) ≤ (l.length : Int) + 1 := by omega
            have hll2 : (l.length : Int) + 1 ≤ (d1 : Int) := by omega
            have hrt : RowIn Rat2.enc 2 w5.drew w5.heap.size (some ⟨b1, o1 + 2, none⟩) l := (RowIn.tail_ k4).below (Below.refl w5.heap.size w5).drew
            have HRT := Lib.hid hrt
            clear hI4 hrl4 u0 u1 uf0 uf1 x0 x1 hb4 hI3 HIR hrt
            refine wp_region_plan (fun w' => (w'.cell? ⟨b1, o1, none⟩ = some (.int .i64 a.num) ∧ w'.cell? ⟨b1, o1 + 1, none⟩ = some (.int .i64 a.den)) ∧ Blk w' (w.heap.size + 1 + 1) 43 #[.int .i64 (mn b u).num, .int .i64 (mn b u).den])
              [(0, true), (1, true), (2, true), (3, true), (4, true), (6, true), (5, false), (7, false), (8, false), (9, false)] (by kernel_rfl) (by kernel_rfl) (fun _ _ _ _ _ h => h) ⟨⟨y0, y1⟩, k3⟩ (fun hS => ?_)
            apply wpPlan_take
            case hi => (simp only [List.getElem?_toArray, List.getElem?_cons_succ, List.getElem?_cons_zero]; exact rfl)
            case hw => rfl
            case hr => (intro w' hSw; (try dsimp only at hSw); go_split_ands; go_simp; try with_reducible rfl)
            (simp only [Act.put, List.setIfInBounds_toArray, List.set_cons_zero, List.set_cons_succ])
            apply wpPlan_take
            case hi => (simp only [List.getElem?_toArray, List.getElem?_cons_succ, List.getElem?_cons_zero]; exact rfl)
            case hw => rfl
            case hr => (intro w' hSw; (try dsimp only at hSw); go_split_ands; go_simp; try with_reducible rfl)
            (simp only [Act.put, List.setIfInBounds_toArray, List.set_cons_zero, List.set_cons_succ])
            apply wpPlan_take
            case hi => (simp only [List.getElem?_toArray, List.getElem?_cons_succ, List.getElem?_cons_zero]; exact rfl)
            case hw => rfl
            case hr => (intro w' hSw; (try dsimp only at hSw); go_split_ands; go_simp; try with_reducible rfl)
            (simp only [Act.put, List.setIfInBounds_toArray, List.set_cons_zero, List.set_cons_succ])
            apply wpPlan_take
            case hi => (simp only [List.getElem?_toArray, List.getElem?_cons_succ, List.getElem?_cons_zero]; exact rfl)
            case hw => rfl
            case hr => (intro w' hSw; (try dsimp only at hSw); go_split_ands; go_simp; try with_reducible rfl)
            (simp only [Act.put, List.setIfInBounds_toArray, List.set_cons_zero, List.set_cons_succ])
            apply wpPlan_take
            case hi => (simp only [List.getElem?_toArray, List.getElem?_cons_succ, List.getElem?_cons_zero]; exact rfl)
            case hw => rfl
            case hr => (intro w' hSw; (try dsimp only at hSw); go_split_ands; go_simp; try with_reducible rfl)
            (simp only [Act.put, List.setIfInBounds_toArray, List.set_cons_zero, List.set_cons_succ])
            apply wpPlan_row (ty := 43) (g := w.heap.size + 1 + 1) (t := 43) (cs := #[.int .i64 (mn b u).num, .int .i64 (mn b u).den]) (fr := (0, 0)) (hg := fun w' hw' => hw'.2) (hu := Try.underlying43) (hd := rfl)
            case hi => (simp only [List.getElem?_toArray, List.getElem?_cons_succ, List.getElem?_cons_zero]; exact rfl)
            case hw => rfl
            case ho => rfl
            case hx => rfl
            case hi' => exact info_ratio2
            (simp only [Act.put, List.setIfInBounds_toArray, List.set_cons_zero, List.set_cons_succ])
            apply wpPlan_step
            case ho => (simp only [List.getElem?_toArray, List.getElem?_cons_succ, List.getElem?_cons_zero]; exact rfl)
            intro K hK
            rw [if_pos (by rfl)]
            go_wp2_with fail
            all_goals
              refine (greatest_any a _ l _ _ (by
                first
                | exact HRT.out
                | (have hl0 : l = [] := List.eq_nil_of_length_eq_zero (by omega)
                   rw [hl0]
                   exact RowIn.nil)) (HBL'.out _ List.mem_cons_self) (fun q hq => HBL'.out q (List.mem_cons_of_mem _ hq)) (by omega)).mono ?_
              rintro e w6 ⟨rfl, hb6⟩
              have hb6' : Below w5.heap.size w5 w6 := ((Below.refl _ _).drew).trans hb6
              have hz6 := hb6'.size
              have j1 : Below w.heap.size w w6 := k1.trans (hb6'.mono k1.size)
              have j2 := k2.later hb6'
              have j3 := k3.later hb6'
              have hS6 : (w6.cell? ⟨b1, o1, none⟩ = some (.int .i64 a.num) ∧ w6.cell? ⟨b1, o1 + 1, none⟩ = some (.int .i64 a.den)) ∧ Blk w6 (w.heap.size + 1 + 1) 43 #[.int .i64 (mn b u).num, .int .i64 (mn b u).den] :=
                ⟨⟨(hb6'.cell (p := ⟨b1, o1, none⟩) hB5).trans y0, (hb6'.cell (p := ⟨b1, o1 + 1, none⟩) hB5).trans y1⟩, j3⟩
              clear hS k1 k2 k3 hb6
              refine hK.out _ _ (hS6) (fun hS => ?_)
              clear hK
              clear K
              try (simp only [Act.put, List.setIfInBounds_toArray, List.set_cons_zero, List.set_cons_succ])
              clear hS6
              have l0 := Blk.cell j2 0
              have l1 := Blk.cell j2 1
              have lf0 := Blk.frozen j2 0
              have lf1 := Blk.frozen j2 1
              simp only [List.getElem?_toArray, List.getElem?_cons_zero, List.getElem?_cons_succ] at l0 l1
              unfold Rat2.val
              apply wpPlan_step
              case ho => (simp only [List.getElem?_toArray, List.getElem?_cons_succ, List.getElem?_cons_zero]; exact rfl)
              intro K hK
              rw [if_pos (by rfl)]
              go_simp
              have i1 : Below w.heap.size w ((w6.setCell ⟨w.heap.size + 1, 0, none⟩ (.int .i64 (gr a l).num)).setCell ⟨w.heap.size + 1, 1, none⟩ (.int .i64 (gr a l).den)) := (j1.setCell (p := ⟨w.heap.size + 1, 0, none⟩) (by simp) _).setCell (p := ⟨w.heap.size + 1, 1, none⟩) (by simp) _
              have i2 : Blk ((w6.setCell ⟨w.heap.size + 1, 0, none⟩ (.int .i64 (gr a l).num)).setCell ⟨w.heap.size + 1, 1, none⟩ (.int .i64 (gr a l).den)) (w.heap.size + 1) 43 #[.int .i64 (gr a l).num, .int .i64 (gr a l).den] := (j2.set_ 0 _).set_ 1 _
              have i3 : Blk ((w6.setCell ⟨w.heap.size + 1, 0, none⟩ (.int .i64 (gr a l).num)).setCell ⟨w.heap.size + 1, 1, none⟩ (.int .i64 (gr a l).den)) (w.heap.size + 1 + 1) 43 #[.int .i64 (mn b u).num, .int .i64 (mn b u).den] := (j3.far (p := ⟨w.heap.size + 1, 0, none⟩) (by simp) _).far (p := ⟨w.heap.size + 1, 1, none⟩) (by simp) _
              have hb1' : b1 ≠ w.heap.size + 1 := by have := hbl1 _ rfl; simp only at this; omega
              have i4 : (((w6.setCell ⟨w.heap.size + 1, 0, none⟩ (.int .i64 (gr a l).num)).setCell ⟨w.heap.size + 1, 1, none⟩ (.int .i64 (gr a l).den)).cell? ⟨b1, o1, none⟩ = some (.int .i64 a.num) ∧ ((w6.setCell ⟨w.heap.size + 1, 0, none⟩ (.int .i64 (gr a l).num)).setCell ⟨w.heap.size + 1, 1, none⟩ (.int .i64 (gr a l).den)).cell? ⟨b1, o1 + 1, none⟩ = some (.int .i64 a.den)) :=
                ⟨((World.cell?_setCell_far _ ⟨w.heap.size + 1, 1, none⟩ ⟨b1, _, none⟩ _ (Ne.symm hb1')).trans (World.cell?_setCell_far _ ⟨w.heap.size + 1, 0, none⟩ ⟨b1, _, none⟩ _ (Ne.symm hb1'))).trans hS.1.1,
                  ((World.cell?_setCell_far _ ⟨w.heap.size + 1, 1, none⟩ ⟨b1, _, none⟩ _ (Ne.symm hb1')).trans (World.cell?_setCell_far _ ⟨w.heap.size + 1, 0, none⟩ ⟨b1, _, none⟩ _ (Ne.symm hb1'))).trans hS.1.2⟩
              generalize (w6.setCell ⟨w.heap.size + 1, 0, none⟩ (.int .i64 (gr a l).num)).setCell ⟨w.heap.size + 1, 1, none⟩ (.int .i64 (gr a l).den) = w7 at i1 i2 i3 i4 ⊢
              clear l0 l1 lf0 lf1 hS j1 j2 j3
              have hS7 := And.intro i4 i3
              refine hK.out _ _ (hS7) (fun hS => ?_)
              clear hK
              clear K
              try (simp only [Act.put, List.setIfInBounds_toArray, List.set_cons_zero, List.set_cons_succ])
              clear hS7 hS
              have u0 := Blk.cell i3 0
              have u1 := Blk.cell i3 1
              have uf0 := Blk.frozen i3 0
              have uf1 := Blk.frozen i3 1
              simp only [List.getElem?_toArray, List.getElem?_cons_zero, List.getElem?_cons_succ] at u0 u1
              apply wpPlan_step
              case ho => (simp only [List.getElem?_toArray, List.getElem?_cons_succ, List.getElem?_cons_zero]; exact rfl)
              intro K hK
              rw [if_pos (by rfl)]
              go_simp
              have m1 : Below w.heap.size w ((w7.setCell ⟨w.heap.size + 1 + 1, 0, none⟩ (.int .i64 (mn b u).num)).setCell ⟨w.heap.size + 1 + 1, 1, none⟩ (.int .i64 (mn b u).den)) := (i1.setCell (p := ⟨w.heap.size + 1 + 1, 0, none⟩) (by simp; omega) _).setCell (p := ⟨w.heap.size + 1 + 1, 1, none⟩) (by simp; omega) _
              have m2 : Blk ((w7.setCell ⟨w.heap.size + 1 + 1, 0, none⟩ (.int .i64 (mn b u).num)).setCell ⟨w.heap.size + 1 + 1, 1, none⟩ (.int .i64 (mn b u).den)) (w.heap.size + 1) 43 #[.int .i64 (gr a l).num, .int .i64 (gr a l).den] := (i2.far (p := ⟨w.heap.size + 1 + 1, 0, none⟩) (by simp) _).far (p := ⟨w.heap.size + 1 + 1, 1, none⟩) (by simp) _
              have m3 : Blk ((w7.setCell ⟨w.heap.size + 1 + 1, 0, none⟩ (.int .i64 (mn b u).num)).setCell ⟨w.heap.size + 1 + 1, 1, none⟩ (.int .i64 (mn b u).den)) (w.heap.size + 1 + 1) 43 #[.int .i64 (mn b u).num, .int .i64 (mn b u).den] := (i3.set_ 0 _).set_ 1 _
              have m4 : (((w7.setCell ⟨w.heap.size + 1 + 1, 0, none⟩ (.int .i64 (mn b u).num)).setCell ⟨w.heap.size + 1 + 1, 1, none⟩ (.int .i64 (mn b u).den)).cell? ⟨b1, o1, none⟩ = some (.int .i64 a.num) ∧ ((w7.setCell ⟨w.heap.size + 1 + 1, 0, none⟩ (.int .i64 (mn b u).num)).setCell ⟨w.heap.size + 1 + 1, 1, none⟩ (.int .i64 (mn b u).den)).cell? ⟨b1, o1 + 1, none⟩ = some (.int .i64 a.den)) :=
                ⟨((World.cell?_setCell_far _ ⟨w.heap.size + 1 + 1, 1, none⟩ ⟨b1, _, none⟩ _ (Ne.symm hb1)).trans (World.cell?_setCell_far _ ⟨w.heap.size + 1 + 1, 0, none⟩ ⟨b1, _, none⟩ _ (Ne.symm hb1))).trans i4.1,
                  ((World.cell?_setCell_far _ ⟨w.heap.size + 1 + 1, 1, none⟩ ⟨b1, _, none⟩ _ (Ne.symm hb1)).trans (World.cell?_setCell_far _ ⟨w.heap.size + 1 + 1, 0, none⟩ ⟨b1, _, none⟩ _ (Ne.symm hb1))).trans i4.2⟩
              generalize (w7.setCell ⟨w.heap.size + 1 + 1, 0, none⟩ (.int .i64 (mn b u).num)).setCell ⟨w.heap.size + 1 + 1, 1, none⟩ (.int .i64 (mn b u).den) = w8 at m1 m2 m3 m4 ⊢
              clear u0 u1 uf0 uf1 i1 i2 i3 i4
              have hS8 := And.intro m4 m3
              refine hK.out _ _ (hS8) (fun hS => ?_)
              clear hK
              clear K
              try (simp only [Act.put, List.setIfInBounds_toArray, List.set_cons_zero, List.set_cons_succ])
              clear hS8 hS
              apply wpPlan_step
              case ho => (simp only [List.getElem?_toArray, List.getElem?_cons_succ, List.getElem?_cons_zero]; exact rfl)
              intro K hK
              rw [if_pos (by rfl)]
              go_simp
              have hS8 := And.intro m4 m3
              refine hK.out _ _ (hS8) (fun hS => ?_)
              clear hK
              clear K
              try (simp only [Act.put, List.setIfInBounds_toArray, List.set_cons_zero, List.set_cons_succ])
              clear hS8 hS
              refine wpPlan_end ?_
              go_wp2
              have e1 := m2.cell 0
              have e2 := m2.cell 1
              have e3 := m3.cell 0
              have e4 := m3.cell 1
              simp only [List.getElem?_toArray, List.getElem?_cons_zero, List.getElem?_cons_succ] at e1 e2 e3 e4
              refine bodyPost_ret (v := bdVal (gr a l, mn b u, 0)) ?_ rfl ⟨by rw [HBD.out], m1⟩
              unfold bdVal Rat2.val
              simp [results, Try.results16, go_sem, e1, e2, e3, e4]
end Go.Proofs.Ytjihnnbpfdhceaa

/- boil.Under, boil.Meat, boil.Kept. Conditions: none beyond those that each theorem names. -/
set_option linter.unusedSimpArgs false
set_option linter.unusedVariables false
namespace Go.Proofs.Ytjihnnbpfdhceaa
open Go.RowKit Go.Shelf
attribute [local go_sem] Oper.semAt_some
attribute [local go_sem ↓] Go.wp_at_zero Go.wp_at_succ

set_option maxRecDepth 100000 in
set_option maxHeartbeats 1000000 in
theorem under_pub (h : Hs) (A : Option Addr) (c : Nat) (a b : Int) (w : World) (hr : RowIn Wg.enc 5 w w.heap.size A h.ws) (hk : h.check = 0) (ha : h.month a = true) (hb : h.month b = true) :
    Calls Try.prog 13 #[h.val A c, .int .i64 a, .int .i64 b] w fun e w' => e = .returned (.tuple #[.bool (h.under a b), .int .i64 0]) ∧ Below w.heap.size w w' := by
  have hlen := check_len hk
  have HR := Lib.hid hr
  have HK := Lib.hid hk
  have HM1 := Lib.hid (fun V => month_any h A c a V (by have := check_months hk; omega) (by have := check_months hk; omega))
  have HM2 := Lib.hid (fun V => month_any h A c b V (by have := check_months hk; omega) (by have := check_months hk; omega))
  have HU := Lib.hid (fun V => under_any h A c a b V)
  rw [ha] at HM1
  rw [hb] at HM2
  clear hr hk ha hb
  unfold Hs.val
  go_enter Try.func13, Try.ntmps13
  go_wp2_with fail
  refine (check_any h A c _ ((HR.out.below ((Below.refl _ _).alloc (Nat.le_refl _) _)).mono (by simp)) (by omega)).mono ?_
  rintro e w1 ⟨rfl, hb1⟩
  rw [HK.out]
  have hbw1 : Below w.heap.size w w1 := ((Below.refl _ _).alloc (Nat.le_refl _) _).trans (hb1.mono (by simp))
  have hho : Blk w1 w.heap.size 25 #[.int .i64 h.months, .int .i64 h.peak, .slice A h.ws.length c] := (Blk.new w 25 _).later hb1
  have hc0 := hho.cell 0
  have hc1 := hho.cell 1
  have hc2 := hho.cell 2
  simp only [List.getElem?_toArray, List.getElem?_cons_zero, List.getElem?_cons_succ] at hc0 hc1 hc2
  clear hb1
  go_wp2_with fail
  refine (HM1.out _).mono ?_
  rintro e w2 ⟨rfl, hb2⟩
  have hbw2 : Below w.heap.size w w2 := hbw1.trans (hb2.mono hbw1.size)
  have hho2 := hho.later hb2
  have hc0 := hho2.cell 0
  have hc1 := hho2.cell 1
  have hc2 := hho2.cell 2
  simp only [List.getElem?_toArray, List.getElem?_cons_zero, List.getElem?_cons_succ] at hc0 hc1 hc2
  clear hb2 hho hbw1
  go_wp2_with fail
  refine (HM2.out _).mono ?_
  rintro e w3 ⟨rfl, hb3⟩
  have hbw3 : Below w.heap.size w w3 := hbw2.trans (hb3.mono hbw2.size)
  have hho3 := hho2.later hb3
  have hc0 := hho3.cell 0
  have hc1 := hho3.cell 1
  have hc2 := hho3.cell 2
  simp only [List.getElem?_toArray, List.getElem?_cons_zero, List.getElem?_cons_succ] at hc0 hc1 hc2
  clear hb3 hho2 hbw2
  go_wp2_with fail
  refine (HU.out _).mono ?_
  rintro e w4 ⟨rfl, hb4⟩
  go_wp2
  go_ret2
  exact ⟨rfl, hbw3.trans (hb4.mono hbw3.size)⟩

/-- boil.Meat's answer, of a month and shells that are right. -/
def Hs.meat (h : Hs) (m s : Int) : Int × Int × Int :=
  let b := h.bounds m
  if b.2.2 ≠ 0 then (0, 0, b.2.2) else
  let lo := (b.1.num * s + b.1.den - 1) / b.1.den
  let hi := b.2.1.num * s / b.2.1.den
  if lo > hi then (0, 0, 8) else (lo, hi, 0)
def spVal (r : Int × Int × Int) : Value := .tuple #[.agg #[.int .i64 r.1, .int .i64 r.2.1], .int .i64 r.2.2]

structure Rat2.Ok1 (r : Rat2) : Prop where
  n0 : 1 ≤ r.num
  n1 : r.num ≤ 1000
  d0 : 1 ≤ r.den
  d1 : r.den ≤ 1000
theorem wrapS (x : Int) (h1 : -9223372036854775808 ≤ x) (h2 : x < 9223372036854775808) : IntKind.i64.wrap x = x := by
  rw [IntKind.wrap_i64]; omega
theorem div_gcd (n d : Int) (hn : 1 ≤ n) (hd : 1 ≤ d) : (1 ≤ n / (Int.gcd n d : Int) ∧ n / (Int.gcd n d : Int) ≤ n) ∧ (1 ≤ d / (Int.gcd n d : Int) ∧ d / (Int.gcd n d : Int) ≤ d) := by
  have h2 : (0 : Int) < (Int.gcd n d : Int) := by
    have := Int.gcd_pos_of_ne_zero_left (a := n) d (by omega)
    omega
  have hle1 : (Int.gcd n d : Int) ≤ n := Int.le_of_dvd (by omega) (Int.gcd_dvd_left ..)
  have hle2 : (Int.gcd n d : Int) ≤ d := Int.le_of_dvd (by omega) (Int.gcd_dvd_right ..)
  refine ⟨⟨?_, Int.ediv_le_self _ (by omega)⟩, ⟨?_, Int.ediv_le_self _ (by omega)⟩⟩
  · exact (Int.le_ediv_iff_mul_le h2).2 (by omega)
  · exact (Int.le_ediv_iff_mul_le h2).2 (by omega)
theorem lowest_ok1 (n d : Int) (hn : 1 ≤ n) (hn' : n ≤ 1000) (hd : 1 ≤ d) (hd' : d ≤ 1000) : (lowest n d).Ok1 := by
  obtain ⟨⟨a, b⟩, c, e⟩ := div_gcd n d hn hd
  exact ⟨a, Int.le_trans b hn', c, Int.le_trans e hd'⟩
theorem Wg.Ok.least1 {x : Wg} (h : x.Ok) : x.least.Ok1 := lowest_ok1 _ _ h.mlo1 h.mlo2 h.shi1 h.shi2
theorem Wg.Ok.most1 {x : Wg} (h : x.Ok) : x.most.Ok1 := lowest_ok1 _ _ h.mhi1 h.mhi2 h.slo1 h.slo2
theorem gr_mem (r : Rat2) (l : List Rat2) : gr r l ∈ r :: l := by
  unfold gr
  induction l generalizing r with
  | nil => exact List.mem_cons_self
  | cons q l ih =>
    rw [List.foldl_cons]
    have := ih (grStep r q)
    unfold grStep at this ⊢
    split at this <;> rename_i hq <;> simp only [hq, if_true, Bool.false_eq_true, if_false] at this ⊢
    · exact List.mem_cons_of_mem _ this
    · rcases List.mem_cons.1 this with h | h
      · rw [h]; exact List.mem_cons_self
      · exact List.mem_cons_of_mem _ (List.mem_cons_of_mem _ h)
theorem mn_mem (r : Rat2) (l : List Rat2) : mn r l ∈ r :: l := by
  unfold mn
  induction l generalizing r with
  | nil => exact List.mem_cons_self
  | cons q l ih =>
    rw [List.foldl_cons]
    have := ih (mnStep r q)
    unfold mnStep at this ⊢
    split at this <;> rename_i hq <;> simp only [hq, if_true, Bool.false_eq_true, if_false] at this ⊢
    · exact List.mem_cons_of_mem _ this
    · rcases List.mem_cons.1 this with h | h
      · rw [h]; exact List.mem_cons_self
      · exact List.mem_cons_of_mem _ (List.mem_cons_of_mem _ h)
theorem bounds_cases {h : Hs} (hk : h.check = 0) (m : Int) : ((h.bounds m).2.2 = 0 ∧ (h.bounds m).1.Ok1 ∧ (h.bounds m).2.1.Ok1) ∨ (((h.bounds m).2.2 = 6 ∨ (h.bounds m).2.2 = 7) ∧ (h.bounds m).1 = ⟨0, 0⟩ ∧ (h.bounds m).2.1 = ⟨0, 0⟩) := by
  have hl : ∀ q ∈ h.lowers m, q.Ok1 := by
    intro q hq
    obtain ⟨x, hx, rfl⟩ := List.mem_map.1 hq
    exact (check_ok hk x (List.mem_filter.1 hx).1).least1
  have hu : ∀ q ∈ h.uppers m, q.Ok1 := by
    intro q hq
    obtain ⟨x, hx, rfl⟩ := List.mem_map.1 hq
    exact (check_ok hk x (List.mem_filter.1 hx).1).most1
  unfold Hs.bounds
  split
  · exact .inr ⟨.inr rfl, rfl, rfl⟩
  · cases hL : h.lowers m with
    | nil => exact .inr ⟨.inl rfl, rfl, rfl⟩
    | cons a l =>
      cases hU : h.uppers m with
      | nil => exact .inr ⟨.inl rfl, rfl, rfl⟩
      | cons b u => exact .inl ⟨rfl, hl _ (by rw [hL]; exact gr_mem a l), hu _ (by rw [hU]; exact mn_mem b u)⟩

set_option maxRecDepth 100000 in
set_option maxHeartbeats 1000000 in
theorem meat_any (h : Hs) (A : Option Addr) (c : Nat) (m s : Int) (w : World) (hr : RowIn Wg.enc 5 w w.heap.size A h.ws) (hk : h.check = 0) (hm : h.month m = true) (hs0 : 0 ≤ s) (hs1 : s ≤ 1000) :
    Calls Try.prog 17 #[h.val A c, .int .i64 m, .int .i64 s] w fun e w' => e = .returned (spVal (h.meat m s)) ∧ Below w.heap.size w w' := by
  have hlen := check_len hk
  have HR := Lib.hid hr
  have HK := Lib.hid hk
  have HIN := Lib.hid (fun V => in_any s 0 1000 V)
  rw [show inB s 0 1000 = true by simp [inB]; omega] at HIN
  have HBD := Lib.hid (fun V hr => bounds_any h A c m V hr hk hm)
  have HCS := Lib.hid (bounds_cases hk m)
  clear hr hk hm
  unfold Hs.val
  go_enter Try.func17, Try.ntmps17
  go_wp2_with fail
  refine (check_any h A c _ ((HR.out.below (((Below.refl _ _).alloc (Nat.le_refl _) _).alloc (by simp) _)).mono (by simp; omega)) (by omega)).mono ?_
  rintro e w1 ⟨rfl, hb1⟩
  rw [HK.out]
  have hbw1 : Below w.heap.size w w1 := (((Below.refl _ _).alloc (Nat.le_refl _) _).alloc (by simp) _).trans (hb1.mono (by simp; omega))
  have hho : Blk w1 w.heap.size 25 #[.int .i64 h.months, .int .i64 h.peak, .slice A h.ws.length c] := ((Blk.new w 25 _).alloc _).later hb1
  have hre : Blk w1 (w.heap.size + 1) 47 #[.int .i64 0, .int .i64 0] := by
    have := Blk.new (w.alloc (.cells #[.int .i64 h.months, .int .i64 h.peak, .slice A h.ws.length c] 25)) 47 #[.int .i64 0, .int .i64 0]
    rw [World.size_alloc] at this
    exact this.later hb1
  clear hb1
  go_wp2_with fail
  refine (HIN.out _).mono ?_
  rintro e w2 ⟨rfl, rfl⟩
  have hc0 := hho.cell 0
  have hc1 := hho.cell 1
  have hc2 := hho.cell 2
  simp only [List.getElem?_toArray, List.getElem?_cons_zero, List.getElem?_cons_succ] at hc0 hc1 hc2
  go_wp2_with fail
  refine (HBD.out _ ((HR.out.below hbw1).mono hbw1.size)).mono ?_
  rintro e w3 ⟨rfl, hb3⟩
  have hbw3 : Below w.heap.size w w3 := hbw1.trans (hb3.mono hbw1.size)
  have hre3 := hre.later hb3
  have hmeat : ∀ B, h.bounds m = B → h.meat m s = (if B.2.2 ≠ 0 then (0, 0, B.2.2) else if (B.1.num * s + B.1.den - 1) / B.1.den > B.2.1.num * s / B.2.1.den then (0, 0, 8) else ((B.1.num * s + B.1.den - 1) / B.1.den, B.2.1.num * s / B.2.1.den, 0)) := fun B hB => by
    unfold Hs.meat; rw [hB]
  have HMT := Lib.hid hmeat
  clear hb3 hre hc0 hc1 hc2 hho hbw1 hmeat
  unfold bdVal Rat2.val
  rcases HCS.out with ⟨hz, hlo, hhi⟩ | ⟨hz, hlo, hhi⟩
  · have HM1 := HMT.out _ rfl
    clear HMT HCS HBD
    generalize h.bounds m = B at hz hlo hhi HM1 ⊢
    obtain ⟨⟨ln, ld⟩, ⟨un, ud⟩, ee⟩ := B
    obtain ⟨l1, l2, l3, l4⟩ := hlo
    obtain ⟨u1, u2, u3, u4⟩ := hhi
    simp only at hz l1 l2 l3 l4 u1 u2 u3 u4
    subst hz
    have HM := Lib.hid HM1
    clear HM1
    simp only
    have p1 := mul_bd (x := ln) (y := s) (M := 1000) (N := 1000) (by omega) (by omega) hs0 hs1
    have p2 := mul_bd (x := un) (y := s) (M := 1000) (N := 1000) (by omega) (by omega) hs0 hs1
    obtain ⟨p1, p1'⟩ := p1
    obtain ⟨p2, p2'⟩ := p2
    have q1 : ld ≠ 0 := by omega
    have q2 : ud ≠ 0 := by omega
    go_wp2_with fail
    have n1 : Blk ((w3.alloc (.cells #[.int .i64 ln, .int .i64 ld] 43)).alloc (.cells #[.int .i64 un, .int .i64 ud] 43)) w3.heap.size 43 #[.int .i64 ln, .int .i64 ld] := (Blk.new _ _ _).alloc _
    have n2 : Blk ((w3.alloc (.cells #[.int .i64 ln, .int .i64 ld] 43)).alloc (.cells #[.int .i64 un, .int .i64 ud] 43)) (w3.heap.size + 1) 43 #[.int .i64 un, .int .i64 ud] := by
      have := Blk.new (w3.alloc (.cells #[.int .i64 ln, .int .i64 ld] 43)) 43 #[.int .i64 un, .int .i64 ud]
      rwa [World.size_alloc] at this
    have n3 : Below w3.heap.size w3 ((w3.alloc (.cells #[.int .i64 ln, .int .i64 ld] 43)).alloc (.cells #[.int .i64 un, .int .i64 ud] 43)) := by repeat (first | exact Below.refl _ _ | exact Below.refl _ _ | refine Below.drew ?_ | refine below_drewN ?_ _ | refine Below.setCell ?_ (by first | assumption | omega | (simp; done) | (simp; omega) | (simp at *; omega)) _ | refine Below.alloc ?_ (by first | assumption | omega | (simp; done) | (simp; omega) | (simp at *; omega)) _ | refine Below.trans ?_ (Below.mono Below.refl _ _ (by first | assumption | omega | (simp; done) | (simp; omega) | (simp at *; omega))))
    generalize (w3.alloc (.cells #[.int .i64 ln, .int .i64 ld] 43)).alloc (.cells #[.int .i64 un, .int .i64 ud] 43) = w4 at n1 n2 n3 ⊢
    have hre4 := hre3.later n3
    have hbw4 : Below w.heap.size w w4 := hbw3.trans (n3.mono hbw3.size)
    have l0 := Blk.cell n1 0
    have l1 := Blk.cell n1 1
    have lf0 := Blk.frozen n1 0
    have lf1 := Blk.frozen n1 1
    simp only [List.getElem?_toArray, List.getElem?_cons_zero, List.getElem?_cons_succ] at l0 l1
    have u0 := Blk.cell n2 0
    have u1 := Blk.cell n2 1
    have uf0 := Blk.frozen n2 0
    have uf1 := Blk.frozen n2 1
    simp only [List.getElem?_toArray, List.getElem?_cons_zero, List.getElem?_cons_succ] at u0 u1
    refine wp_region_plan (fun w' => (w'.cell? ⟨w3.heap.size, 0, none⟩ = some (.int .i64 ln) ∧ w'.cell? ⟨w3.heap.size, 1, none⟩ = some (.int .i64 ld)) ∧ (w'.cell? ⟨w3.heap.size + 1, 0, none⟩ = some (.int .i64 un) ∧ w'.cell? ⟨w3.heap.size + 1, 1, none⟩ = some (.int .i64 ud)))
      [(0, true), (1, true), (2, true), (3, true), (4, true), (5, true), (6, true), (7, true), (8, true), (9, true), (10, true), (11, true), (12, true), (13, true), (14, true), (15, true), (16, true), (17, true), (18, true), (19, false), (20, false)] (by kernel_rfl) (by kernel_rfl) (fun _ _ _ _ _ h => h) ⟨⟨by simpa using l0, by simpa using l1⟩, ⟨by simpa using u0, by simpa using u1⟩⟩ (fun hS => ?_)
    apply wpPlan_take
    case hi => (simp only [List.getElem?_toArray, List.getElem?_cons_succ, List.getElem?_cons_zero]; exact rfl)
    case hw => rfl
    case hr => (intro w' hSw; (try dsimp only at hSw); go_split_ands; go_simp; try with_reducible rfl)
    (simp only [Act.put, List.setIfInBounds_toArray, List.set_cons_zero, List.set_cons_succ])
    apply wpPlan_take
    case hi => (simp only [List.getElem?_toArray, List.getElem?_cons_succ, List.getElem?_cons_zero]; exact rfl)
    case hw => rfl
    case hr => (intro w' hSw; (try dsimp only at hSw); go_split_ands; go_simp; try with_reducible rfl)
    (simp only [Act.put, List.setIfInBounds_toArray, List.set_cons_zero, List.set_cons_succ])
    apply wpPlan_take
    case hi => (simp only [List.getElem?_toArray, List.getElem?_cons_succ, List.getElem?_cons_zero]; exact rfl)
    case hw => rfl
    case hr => (intro w' hSw; (try dsimp only at hSw); go_split_ands; go_simp; try with_reducible rfl)
    (simp only [Act.put, List.setIfInBounds_toArray, List.set_cons_zero, List.set_cons_succ])
    apply wpPlan_take
    case hi => (simp only [List.getElem?_toArray, List.getElem?_cons_succ, List.getElem?_cons_zero]; exact rfl)
    case hw => rfl
    case hr => (intro w' hSw; (try dsimp only at hSw); go_split_ands; go_simp; try with_reducible rfl)
    (simp only [Act.put, List.setIfInBounds_toArray, List.set_cons_zero, List.set_cons_succ])
    apply wpPlan_take
    case hi => (simp only [List.getElem?_toArray, List.getElem?_cons_succ, List.getElem?_cons_zero]; exact rfl)
    case hw => rfl
    case hr => (intro w' hSw; (try dsimp only at hSw); go_split_ands; go_simp; try with_reducible rfl)
    (simp only [Act.put, List.setIfInBounds_toArray, List.set_cons_zero, List.set_cons_succ])
    apply wpPlan_take
    case hi => (simp only [List.getElem?_toArray, List.getElem?_cons_succ, List.getElem?_cons_zero]; exact rfl)
    case hw => rfl
    case hr => (intro w' hSw; (try dsimp only at hSw); go_split_ands; go_simp; try with_reducible rfl)
    (simp only [Act.put, List.setIfInBounds_toArray, List.set_cons_zero, List.set_cons_succ])
    apply wpPlan_take
    case hi => (simp only [List.getElem?_toArray, List.getElem?_cons_succ, List.getElem?_cons_zero]; exact rfl)
    case hw => rfl
    case hr => (intro w' hSw; (try dsimp only at hSw); go_split_ands; go_simp; try with_reducible rfl)
    (simp only [Act.put, List.setIfInBounds_toArray, List.set_cons_zero, List.set_cons_succ])
    apply wpPlan_take
    case hi => (simp only [List.getElem?_toArray, List.getElem?_cons_succ, List.getElem?_cons_zero]; exact rfl)
    case hw => rfl
    case hr => (intro w' hSw; (try dsimp only at hSw); go_split_ands; go_simp; try with_reducible rfl)
    (simp only [Act.put, List.setIfInBounds_toArray, List.set_cons_zero, List.set_cons_succ])
    apply wpPlan_take
    case hi => (simp only [List.getElem?_toArray, List.getElem?_cons_succ, List.getElem?_cons_zero]; exact rfl)
    case hw => rfl
    case hr => (intro w' hSw; (try dsimp only at hSw); go_split_ands; go_simp; try with_reducible rfl)
    (simp only [Act.put, List.setIfInBounds_toArray, List.set_cons_zero, List.set_cons_succ])
    apply wpPlan_take
    case hi => (simp only [List.getElem?_toArray, List.getElem?_cons_succ, List.getElem?_cons_zero]; exact rfl)
    case hw => rfl
    case hr => (intro w' hSw; (try dsimp only at hSw); go_split_ands; go_simp; try with_reducible rfl)
    (simp only [Act.put, List.setIfInBounds_toArray, List.set_cons_zero, List.set_cons_succ])
    apply wpPlan_take
    case hi => (simp only [List.getElem?_toArray, List.getElem?_cons_succ, List.getElem?_cons_zero]; exact rfl)
    case hw => rfl
    case hr => (intro w' hSw; (try dsimp only at hSw); go_split_ands; go_simp; try with_reducible rfl)
    (simp only [Act.put, List.setIfInBounds_toArray, List.set_cons_zero, List.set_cons_succ])
    apply wpPlan_take
    case hi => (simp only [List.getElem?_toArray, List.getElem?_cons_succ, List.getElem?_cons_zero]; exact rfl)
    case hw => rfl
    case hr => (intro w' hSw; (try dsimp only at hSw); go_split_ands; go_simp; try with_reducible rfl)
    (simp only [Act.put, List.setIfInBounds_toArray, List.set_cons_zero, List.set_cons_succ])
    apply wpPlan_take
    case hi => (simp only [List.getElem?_toArray, List.getElem?_cons_succ, List.getElem?_cons_zero]; exact rfl)
    case hw => rfl
    case hr => (intro w' hSw; (try dsimp only at hSw); go_split_ands; go_simp; try with_reducible rfl)
    (simp only [Act.put, List.setIfInBounds_toArray, List.set_cons_zero, List.set_cons_succ])
    apply wpPlan_take
    case hi => (simp only [List.getElem?_toArray, List.getElem?_cons_succ, List.getElem?_cons_zero]; exact rfl)
    case hw => rfl
    case hr => (intro w' hSw; (try dsimp only at hSw); go_split_ands; go_simp; try with_reducible rfl)
    (simp only [Act.put, List.setIfInBounds_toArray, List.set_cons_zero, List.set_cons_succ])
    apply wpPlan_take
    case hi => (simp only [List.getElem?_toArray, List.getElem?_cons_succ, List.getElem?_cons_zero]; exact rfl)
    case hw => rfl
    case hr => (intro w' hSw; (try dsimp only at hSw); go_split_ands; go_simp; try with_reducible rfl)
    (simp only [Act.put, List.setIfInBounds_toArray, List.set_cons_zero, List.set_cons_succ])
    apply wpPlan_take
    case hi => (simp only [List.getElem?_toArray, List.getElem?_cons_succ, List.getElem?_cons_zero]; exact rfl)
    case hw => rfl
    case hr => (intro w' hSw; (try dsimp only at hSw); go_split_ands; go_simp; try with_reducible rfl)
    (simp only [Act.put, List.setIfInBounds_toArray, List.set_cons_zero, List.set_cons_succ])
    apply wpPlan_take
    case hi => (simp only [List.getElem?_toArray, List.getElem?_cons_succ, List.getElem?_cons_zero]; exact rfl)
    case hw => rfl
    case hr => (intro w' hSw; (try dsimp only at hSw); go_split_ands; go_simp; try with_reducible rfl)
    (simp only [Act.put, List.setIfInBounds_toArray, List.set_cons_zero, List.set_cons_succ])
    apply wpPlan_take
    case hi => (simp only [List.getElem?_toArray, List.getElem?_cons_succ, List.getElem?_cons_zero]; exact rfl)
    case hw => rfl
    case hr => (intro w' hSw; (try dsimp only at hSw); go_split_ands; go_simp; try with_reducible rfl)
    (simp only [Act.put, List.setIfInBounds_toArray, List.set_cons_zero, List.set_cons_succ])
    apply wpPlan_take
    case hi => (simp only [List.getElem?_toArray, List.getElem?_cons_succ, List.getElem?_cons_zero]; exact rfl)
    case hw => rfl
    case hr => (intro w' hSw; (try dsimp only at hSw); go_split_ands; go_simp; try with_reducible rfl)
    (simp only [Act.put, List.setIfInBounds_toArray, List.set_cons_zero, List.set_cons_succ])
    have k1 := Int.ediv_nonneg (a := ln * s + ld - 1) (b := ld) (by omega) (by omega)
    have k2 := Int.ediv_le_self (a := ln * s + ld - 1) ld (by omega)
    have k3 := Int.ediv_nonneg (a := un * s) (b := ud) (by omega) (by omega)
    have k4 := Int.ediv_le_self (a := un * s) ud (by omega)
    rw [wrapS (ln * s) (by omega) (by omega), wrapS (ln * s + ld) (by omega) (by omega), wrapS (ln * s + ld - 1) (by omega) (by omega), Int.tdiv_eq_ediv_of_nonneg (by omega), wrapS ((ln * s + ld - 1) / ld) (by omega) (by omega),
      wrapS (un * s) (by omega) (by omega), Int.tdiv_eq_ediv_of_nonneg (by omega), wrapS (un * s / ud) (by omega) (by omega)]
    generalize hX : (ln * s + ld - 1) / ld = X at HM k1 k2 ⊢
    generalize hY : un * s / ud = Y at HM k3 k4 ⊢
    clear hX hY l0 l1 lf0 lf1 u0 u1 uf0 uf1
    apply wpPlan_step
    case ho => (simp only [List.getElem?_toArray, List.getElem?_cons_succ, List.getElem?_cons_zero]; exact rfl)
    intro K hK
    rw [if_pos (by rfl)]
    go_simp
    have a1 : Below w4.heap.size w4 ((w4.alloc (.cells #[.int .i64 0, .int .i64 0] 47)).drew) := by repeat (first | exact Below.refl _ _ | exact Below.refl _ _ | refine Below.drew ?_ | refine below_drewN ?_ _ | refine Below.setCell ?_ (by first | assumption | omega | (simp; done) | (simp; omega) | (simp at *; omega)) _ | refine Below.alloc ?_ (by first | assumption | omega | (simp; done) | (simp; omega) | (simp at *; omega)) _ | refine Below.trans ?_ (Below.mono Below.refl _ _ (by first | assumption | omega | (simp; done) | (simp; omega) | (simp at *; omega))))
    have a2 : Blk ((w4.alloc (.cells #[.int .i64 0, .int .i64 0] 47)).drew) w4.heap.size 47 #[.int .i64 0, .int .i64 0] := Blk.new _ _ _
    generalize (w4.alloc (.cells #[.int .i64 0, .int .i64 0] 47)).drew = w5 at a1 a2 ⊢
    have m1 := n1.later a1
    have m2 := n2.later a1
    have l0 := Blk.cell m1 0
    have l1 := Blk.cell m1 1
    have lf0 := Blk.frozen m1 0
    have lf1 := Blk.frozen m1 1
    simp only [List.getElem?_toArray, List.getElem?_cons_zero, List.getElem?_cons_succ] at l0 l1
    have u0 := Blk.cell m2 0
    have u1 := Blk.cell m2 1
    have uf0 := Blk.frozen m2 0
    have uf1 := Blk.frozen m2 1
    simp only [List.getElem?_toArray, List.getElem?_cons_zero, List.getElem?_cons_succ] at u0 u1
    have t0 := Blk.cell a2 0
    have t1 := Blk.cell a2 1
    have tf0 := Blk.frozen a2 0
    have tf1 := Blk.frozen a2 1
    simp only [List.getElem?_toArray, List.getElem?_cons_zero, List.getElem?_cons_succ] at t0 t1
    have hS5 : (w5.cell? ⟨w3.heap.size, 0, none⟩ = some (.int .i64 ln) ∧ w5.cell? ⟨w3.heap.size, 1, none⟩ = some (.int .i64 ld)) ∧ (w5.cell? ⟨w3.heap.size + 1, 0, none⟩ = some (.int .i64 un) ∧ w5.cell? ⟨w3.heap.size + 1, 1, none⟩ = some (.int .i64 ud)) := ⟨⟨l0, l1⟩, u0, u1⟩
    clear hS
    refine hK.out _ _ (hS5) (fun hS => ?_)
    clear hK
    clear K
    try (simp only [Act.put, List.setIfInBounds_toArray, List.set_cons_zero, List.set_cons_succ])
    clear hS5 hS
    apply wpPlan_step
    case ho => (simp only [List.getElem?_toArray, List.getElem?_cons_succ, List.getElem?_cons_zero]; exact rfl)
    intro K hK
    rw [if_pos (by rfl)]
    go_simp
    have hne1 : w3.heap.size ≠ w4.heap.size := by have := n1.lt; omega
    have hne2 : w3.heap.size + 1 ≠ w4.heap.size := by have := n2.lt; omega
    have b1 : Below w4.heap.size w4 ((w5.setCell ⟨w4.heap.size, 0, none⟩ (.int .i64 X)).setCell ⟨w4.heap.size, 1, none⟩ (.int .i64 Y)) := (a1.setCell (p := ⟨w4.heap.size, 0, none⟩) (Nat.le_refl _) _).setCell (p := ⟨w4.heap.size, 1, none⟩) (Nat.le_refl _) _
    have b2 : Blk ((w5.setCell ⟨w4.heap.size, 0, none⟩ (.int .i64 X)).setCell ⟨w4.heap.size, 1, none⟩ (.int .i64 Y)) w4.heap.size 47 #[.int .i64 X, .int .i64 Y] := (a2.set_ 0 _).set_ 1 _
    generalize (w5.setCell ⟨w4.heap.size, 0, none⟩ (.int .i64 X)).setCell ⟨w4.heap.size, 1, none⟩ (.int .i64 Y) = w6 at b1 b2 ⊢
    have m1 := n1.later b1
    have m2 := n2.later b1
    clear l0 l1 lf0 lf1 u0 u1 uf0 uf1 t0 t1 tf0 tf1
    have l0 := Blk.cell m1 0
    have l1 := Blk.cell m1 1
    have lf0 := Blk.frozen m1 0
    have lf1 := Blk.frozen m1 1
    simp only [List.getElem?_toArray, List.getElem?_cons_zero, List.getElem?_cons_succ] at l0 l1
    have u0 := Blk.cell m2 0
    have u1 := Blk.cell m2 1
    have uf0 := Blk.frozen m2 0
    have uf1 := Blk.frozen m2 1
    simp only [List.getElem?_toArray, List.getElem?_cons_zero, List.getElem?_cons_succ] at u0 u1
    have hS6 : (w6.cell? ⟨w3.heap.size, 0, none⟩ = some (.int .i64 ln) ∧ w6.cell? ⟨w3.heap.size, 1, none⟩ = some (.int .i64 ld)) ∧ (w6.cell? ⟨w3.heap.size + 1, 0, none⟩ = some (.int .i64 un) ∧ w6.cell? ⟨w3.heap.size + 1, 1, none⟩ = some (.int .i64 ud)) := ⟨⟨l0, l1⟩, u0, u1⟩
    refine hK.out _ _ (hS6) (fun hS => ?_)
    clear hK
    clear K
    try (simp only [Act.put, List.setIfInBounds_toArray, List.set_cons_zero, List.set_cons_succ])
    clear hS6 hS l0 l1 lf0 lf1 u0 u1 uf0 uf1 m1 m2 n1 n2
    refine wpPlan_end ?_
    have t0 := Blk.cell b2 0
    have t1 := Blk.cell b2 1
    have tf0 := Blk.frozen b2 0
    have tf1 := Blk.frozen b2 1
    simp only [List.getElem?_toArray, List.getElem?_cons_zero, List.getElem?_cons_succ] at t0 t1
    have hre6 := hre4.later b1
    have hbw6 : Below w.heap.size w w6 := hbw4.trans (b1.mono hbw4.size)
    have r0 := Blk.cell hre6 0
    have r1 := Blk.cell hre6 1
    have rf0 := Blk.frozen hre6 0
    have rf1 := Blk.frozen hre6 1
    simp only [List.getElem?_toArray, List.getElem?_cons_zero, List.getElem?_cons_succ] at r0 r1
    have hzz : w.heap.size + 1 < w4.heap.size := hre4.lt
    by_cases hgt : X > Y
    · have hmt : h.meat m s = (0, 0, 8) := by rw [HM.out]; simp only [ne_eq, not_true_eq_false, if_false]; rw [if_pos hgt]
      have HMM := Lib.hid hmt
      clear hmt HM
      go_wp2
      refine bodyPost_ret (v := spVal (0, 0, 8)) ?_ rfl ⟨by rw [HMM.out], (hbw6.setCell (p := ⟨w.heap.size + 1, 0, none⟩) (by simp) _).setCell (p := ⟨w.heap.size + 1, 1, none⟩) (by simp) _⟩
      have hY2 := (hre6.set_ 0 (.int .i64 0)).set_ 1 (.int .i64 0)
      have e0 := hY2.cell 0
      have e1 := hY2.cell 1
      simp only [List.setIfInBounds_toArray, List.set_cons_zero, List.set_cons_succ, List.getElem?_toArray, List.getElem?_cons_zero, List.getElem?_cons_succ] at e0 e1
      unfold spVal
      simp [results, Try.results17, go_sem, e0, e1]
    · have hmt : h.meat m s = (X, Y, 0) := by rw [HM.out]; simp only [ne_eq, not_true_eq_false, if_false]; rw [if_neg hgt]
      have HMM := Lib.hid hmt
      clear hmt HM
      go_wp2
      refine bodyPost_ret (v := spVal (X, Y, 0)) ?_ rfl ⟨by rw [HMM.out], (hbw6.setCell (p := ⟨w.heap.size + 1, 0, none⟩) (by simp) _).setCell (p := ⟨w.heap.size + 1, 1, none⟩) (by simp) _⟩
      have hY2 := (hre6.set_ 0 (.int .i64 X)).set_ 1 (.int .i64 Y)
      have e0 := hY2.cell 0
      have e1 := hY2.cell 1
      simp only [List.setIfInBounds_toArray, List.set_cons_zero, List.set_cons_succ, List.getElem?_toArray, List.getElem?_cons_zero, List.getElem?_cons_succ] at e0 e1
      unfold spVal
      simp [results, Try.results17, go_sem, e0, e1]
  · have HM1 := HMT.out _ rfl
    clear HMT HCS HBD
    generalize h.bounds m = B at hz hlo hhi HM1 ⊢
    obtain ⟨lo, hi, ee⟩ := B
    simp only at hz hlo hhi
    subst hlo
    subst hhi
    have hz' : ee ≠ 0 := by omega
    have hq : (ee != 0) = true := bne_iff_ne.2 hz'
    have HM : Hid (h.meat m s = (0, 0, ee)) := Lib.hid (by rw [HM1]; simp [hz'])
    clear HM1
    simp only
    have hA := (hre3.alloc (.cells #[.int .i64 0, .int .i64 0] 43)).alloc (.cells #[.int .i64 0, .int .i64 0] 43)
    have hbA : Below w.heap.size w ((w3.alloc (.cells #[.int .i64 0, .int .i64 0] 43)).alloc (.cells #[.int .i64 0, .int .i64 0] 43)) := (hbw3.alloc hbw3.size _).alloc (by simp; have := hbw3.size; omega) _
    have r0 := Blk.cell hA 0
    have r1 := Blk.cell hA 1
    have rf0 := Blk.frozen hA 0
    have rf1 := Blk.frozen hA 1
    simp only [List.getElem?_toArray, List.getElem?_cons_zero, List.getElem?_cons_succ] at r0 r1
    have hzz := hre3.lt
    go_wp2
    refine bodyPost_ret (v := spVal (0, 0, ee)) ?_ rfl ⟨by rw [HM.out], (hbA.setCell (p := ⟨w.heap.size + 1, 0, none⟩) (by simp) _).setCell (p := ⟨w.heap.size + 1, 1, none⟩) (by simp) _⟩
    have hY2 := (hA.set_ 0 (.int .i64 0)).set_ 1 (.int .i64 0)
    have e0 := hY2.cell 0
    have e1 := hY2.cell 1
    simp only [List.setIfInBounds_toArray, List.set_cons_zero, List.set_cons_succ, List.getElem?_toArray, List.getElem?_cons_zero, List.getElem?_cons_succ] at e0 e1
    unfold spVal
    simp [results, Try.results17, go_sem, e0, e1]
end Go.Proofs.Ytjihnnbpfdhceaa

/- boil.Kept. Conditions: none beyond those that each theorem names. -/
set_option linter.unusedSimpArgs false
set_option linter.unusedVariables false
namespace Go.Proofs.Ytjihnnbpfdhceaa
open Go.RowKit Go.Shelf
attribute [local go_sem] Oper.semAt_some

theorem meat_bd {h : Hs} (hk : h.check = 0) (m s : Int) (hs0 : 0 ≤ s) (hs1 : s ≤ 1000) : 0 ≤ (h.meat m s).1 ∧ (h.meat m s).1 ≤ 2000000 := by
  unfold Hs.meat
  simp only
  split
  · simp
  · rename_i hz
    rcases bounds_cases hk m with ⟨_, hlo, hhi⟩ | ⟨hz', _⟩
    · split
      · simp
      · have p1 := mul_bd (x := (h.bounds m).1.num) (y := s) (M := 1000) (N := 1000) (by have := hlo.n0; omega) hlo.n1 hs0 hs1
        have d0 := hlo.d0
        have d1 := hlo.d1
        simp only
        exact ⟨Int.ediv_nonneg (by omega) (by omega), Int.le_trans (Int.ediv_le_self _ (by omega)) (by omega)⟩
    · exfalso; omega
/-- boil.Kept's answer. -/
def Hs.kept (h : Hs) (m s t : Int) : Int × Int := if (h.meat m s).2.2 ≠ 0 then (0, (h.meat m s).2.2) else (max 0 ((h.meat m s).1 - t), 0)

set_option maxRecDepth 100000 in
set_option maxHeartbeats 1000000 in
theorem kept_any (h : Hs) (A : Option Addr) (c : Nat) (m s t : Int) (w : World) (hr : RowIn Wg.enc 5 w w.heap.size A h.ws) (hk : h.check = 0) (hm : h.month m = true) (hs0 : 0 ≤ s) (hs1 : s ≤ 1000) (ht0 : 0 ≤ t) (ht1 : t ≤ 1000) :
    Calls Try.prog 18 #[h.val A c, .int .i64 m, .int .i64 s, .int .i64 t] w fun e w' => e = .returned (.tuple #[.int .i64 (h.kept m s t).1, .int .i64 (h.kept m s t).2]) ∧ Below w.heap.size w w' := by
  have hlen := check_len hk
  have HR := Lib.hid hr
  have HK := Lib.hid hk
  have HIN := Lib.hid (fun V => in_any t 0 1000 V)
  rw [show inB t 0 1000 = true by simp [inB]; omega] at HIN
  have HMT := Lib.hid (fun V hr => meat_any h A c m s V hr hk hm hs0 hs1)
  have hbd := meat_bd hk m s hs0 hs1
  have HKP : Hid (∀ B, h.meat m s = B → h.kept m s t = (if B.2.2 ≠ 0 then (0, B.2.2) else (max 0 (B.1 - t), 0))) := Lib.hid (fun B hB => by unfold Hs.kept; rw [hB])
  clear hr hk hm
  unfold Hs.val
  go_enter Try.func18, Try.ntmps18
  go_wp2_with fail
  refine (check_any h A c _ ((HR.out.below ((Below.refl _ _).alloc (Nat.le_refl _) _)).mono (by simp)) (by omega)).mono ?_
  rintro e w1 ⟨rfl, hb1⟩
  rw [HK.out]
  have hbw1 : Below w.heap.size w w1 := ((Below.refl _ _).alloc (Nat.le_refl _) _).trans (hb1.mono (by simp))
  have hho : Blk w1 w.heap.size 25 #[.int .i64 h.months, .int .i64 h.peak, .slice A h.ws.length c] := (Blk.new w 25 _).later hb1
  clear hb1
  go_wp2_with fail
  refine (HIN.out _).mono ?_
  rintro e w2 ⟨rfl, rfl⟩
  have hc0 := hho.cell 0
  have hc1 := hho.cell 1
  have hc2 := hho.cell 2
  simp only [List.getElem?_toArray, List.getElem?_cons_zero, List.getElem?_cons_succ] at hc0 hc1 hc2
  go_wp2_with fail
  refine (HMT.out _ ((HR.out.below hbw1).mono hbw1.size)).mono ?_
  rintro e w3 ⟨rfl, hb3⟩
  have hbw3 : Below w.heap.size w w3 := hbw1.trans (hb3.mono hbw1.size)
  have HQ := Lib.hid (HKP.out _ rfl)
  unfold spVal
  generalize h.meat m s = B at hbd HQ ⊢
  obtain ⟨lo, hi, ee⟩ := B
  simp only at hbd ⊢
  obtain ⟨l0, l1⟩ := hbd
  clear hb3 hho hc0 hc1 hc2 hbw1 HMT HKP
  by_cases hz : ee = 0
  · subst hz
    have HM : Hid (h.kept m s t = (max 0 (lo - t), 0)) := Lib.hid (by rw [HQ.out]; simp)
    clear HQ
    have hbA : Below w.heap.size w (w3.alloc (.cells #[.int .i64 lo, .int .i64 hi] 47)) := hbw3.alloc hbw3.size _
    go_wp2
    go_ret2
    exact ⟨by rw [HM.out]; rfl, hbA⟩
  · have hq : (ee != 0) = true := bne_iff_ne.2 hz
    have HM : Hid (h.kept m s t = (0, ee)) := Lib.hid (by rw [HQ.out]; simp [hz])
    clear HQ
    have hbA : Below w.heap.size w (w3.alloc (.cells #[.int .i64 lo, .int .i64 hi] 47)) := hbw3.alloc hbw3.size _
    go_wp2
    go_ret2
    exact ⟨by rw [HM.out]; rfl, hbA⟩
end Go.Proofs.Ytjihnnbpfdhceaa

/- boil.Proves. Conditions: none beyond those that each theorem names. -/
set_option linter.unusedSimpArgs false
set_option linter.unusedVariables false
namespace Go.Proofs.Ytjihnnbpfdhceaa
open Go.RowKit Go.Shelf
attribute [local go_sem] Oper.semAt_some
attribute [local go_sem ↓] Go.wp_at_zero Go.wp_at_succ

theorem RowIn.pr {B : Nat} {w : World} {A : Option Addr} {l : List (Int × Int)} (h : RowIn pairEnc 2 w B A l) (i : Nat) (hi : i < l.length) :
    ∃ b o x, A = some ⟨b, o, none⟩ ∧ b < B ∧ l[i] = x ∧ w.cell? ⟨b, o + i * 2, none⟩ = some (.int .i64 x.1) ∧ w.cell? ⟨b, o + i * 2 + 1, none⟩ = some (.int .i64 x.2) := by
  obtain ⟨b, o, hA, hb, hc⟩ := h i hi
  exact ⟨b, o, l[i], hA, hb, rfl, hc 0 _ rfl, hc 1 _ rfl⟩

/-- The error of pairs, those above and those below being taken. -/
def provesL (h : Hs) : (Nat → Bool) → (Nat → Bool) → List (Int × Int) → Int
  | _, _, [] => 0
  | up, lo, p :: ps => if (h.weighing p.1 && h.weighing p.2) = false then 1 else if h.clashM p.1.toNat p.2.toNat = false then 8 else if (up p.1.toNat || lo p.2.toNat) = true then 5 else provesL h (updB up p.1.toNat true) (updB lo p.2.toNat true) ps
/-- boil.Proves's answer. -/
def Hs.proves (h : Hs) (ps : List (Int × Int)) : Int := provesL h (fun _ => false) (fun _ => false) ps
def Hs.provesN (h : Hs) (ps : List (Int × Int)) : Int := if h.proves ps = 0 then ps.length else 0

theorem weighing_nat {h : Hs} {n : Int} (hw : h.weighing n = true) : ∃ a : Nat, n = a ∧ a < h.ws.length := by
  unfold Hs.weighing inB at hw
  simp at hw
  obtain ⟨a, rfl⟩ := Int.eq_ofNat_of_zero_le hw.1
  exact ⟨a, rfl, by omega⟩
set_option maxRecDepth 100000 in
set_option maxHeartbeats 1000000 in
theorem proves_any (h : Hs) (A : Option Addr) (c : Nat) (A2 : Option Addr) (ps : List (Int × Int)) (c2 : Nat) (w : World) (hr : RowIn Wg.enc 5 w w.heap.size A h.ws) (hk : h.check = 0) (hp : RowIn pairEnc 2 w w.heap.size A2 ps) (hn : ps.length ≤ 1000000) :
    Calls Try.prog 51 #[h.val A c, .slice A2 ps.length c2] w fun e w' => e = .returned (.tuple #[.int .i64 (h.provesN ps), .int .i64 (h.proves ps)]) ∧ Below w.heap.size w w' := by
  have hlen := check_len hk
  have HR := Lib.hid hr
  have HP := Lib.hid hp
  have HK := Lib.hid hk
  have hz14 := zero_row14
  clear hr hk hp
  unfold Hs.val
  go_enter Try.func51, Try.ntmps51
  go_wp2_with fail
  refine (opened_any h A c _ ((HR.out.below ((Below.refl _ _).alloc (Nat.le_refl _) _)).mono (by simp)) HK.out).mono ?_
  rintro e w1 ⟨g, rfl, hg, hgb, hb1⟩
  have hzg : w.heap.size + 1 ≤ g := by simpa using hg
  have hbw1 : Below w.heap.size w w1 := ((Below.refl _ _).alloc (Nat.le_refl _) _).trans (hb1.mono (by simp))
  have hdk : Blk w1 g 134 (desk h A c h.clashM) := hgb
  have hho : Blk w1 w.heap.size 25 #[.int .i64 h.months, .int .i64 h.peak, .slice A h.ws.length c] := (Blk.new w 25 _).later hb1
  clear hgb hg hb1
  go_wp2
  have hbw2 : Below w1.heap.size w1 ((w1.alloc (.cells (row14 fun _ => false) 121)).alloc (.cells (row14 fun _ => false) 121)) := by repeat (first | exact Below.refl _ _ | exact Below.refl _ _ | refine Below.drew ?_ | refine below_drewN ?_ _ | refine Below.setCell ?_ (by first | assumption | omega | (simp; done) | (simp; omega) | (simp at *; omega)) _ | refine Below.alloc ?_ (by first | assumption | omega | (simp; done) | (simp; omega) | (simp at *; omega)) _ | refine Below.trans ?_ (Below.mono Below.refl _ _ (by first | assumption | omega | (simp; done) | (simp; omega) | (simp at *; omega))))
  have hup : Blk ((w1.alloc (.cells (row14 fun _ => false) 121)).alloc (.cells (row14 fun _ => false) 121)) w1.heap.size 121 (row14 fun _ => false) := (Blk.new _ _ _).alloc _
  have hlw : Blk ((w1.alloc (.cells (row14 fun _ => false) 121)).alloc (.cells (row14 fun _ => false) 121)) (w1.heap.size + 1) 121 (row14 fun _ => false) := by
    have := Blk.new (w1.alloc (.cells (row14 fun _ => false) 121)) 121 (row14 fun _ => false)
    rwa [World.size_alloc] at this
  generalize (w1.alloc (.cells (row14 fun _ => false) 121)).alloc (.cells (row14 fun _ => false) 121) = w2 at hbw2 hup hlw ⊢
  have hzz := hbw1.size
  have hdl := hdk.lt
  have hhl := hho.lt
  have HD := Lib.hid (hdk.later hbw2)
  have HH := Lib.hid (hho.later hbw2)
  have HB2 := Lib.hid (hbw1.trans (hbw2.mono hzz))
  have hlwl := hlw.lt
  clear hbw1 hbw2 hdk hho hz14
  go_loopw [22] (fun i wr => ∃ (k : Nat) (up lo : Nat → Bool), k ≤ ps.length ∧ i = .int .i64 k ∧ Chg [w1.heap.size, w1.heap.size + 1] w2 wr ∧ Blk wr w1.heap.size 121 (row14 up) ∧ Blk wr (w1.heap.size + 1) 121 (row14 lo) ∧ Aside (provesL h up lo (ps.drop k) = h.proves ps)) (fun i _ => ps.length - (intOf i).toNat)
  case atStart => exact ⟨0, fun _ => false, fun _ => false, by omega, rfl, Chg.refl _ _, hup, hlw, rfl⟩
  case round =>
    clear hup hlw
    obtain ⟨k, up, lo, hk, rfl, hC, hU, hL, HN⟩ := hrel
    have hz2 := hC.size
    have hdk : Blk wr g 134 (desk h A c h.clashM) := (hC.block g (by have := HD.out.lt; omega) (by simp; omega)).trans HD.out
    have hho : Blk wr w.heap.size 25 #[.int .i64 h.months, .int .i64 h.peak, .slice A h.ws.length c] := (hC.block w.heap.size (by have := HH.out.lt; omega) (by simp; omega)).trans HH.out
    have hBw : Below w.heap.size w wr := Chg.below hC HB2.out (by omega) (by simp; omega)
    by_cases hlt : k < ps.length
    · obtain ⟨b0, o0, x, rfl, hB0, hx, x0, x1⟩ := (HP.out.below hBw).pr k hlt
      obtain ⟨xa, xb⟩ := x
      simp only at x0 x1
      have hdrop : ps.drop k = (xa, xb) :: ps.drop (k + 1) := by rw [← hx]; exact List.drop_eq_getElem_cons hlt
      have HX := Lib.hid hdrop
      have hB1 : b0 < wr.heap.size := by have := hBw.size; omega
      have HW1 := Lib.hid (fun V => weighing_any h A c xa V (by omega))
      have HW2 := Lib.hid (fun V => weighing_any h A c xb V (by omega))
      have hc0 := hho.cell 0
      have hc1 := hho.cell 1
      have hc2 := hho.cell 2
      simp only [List.getElem?_toArray, List.getElem?_cons_zero, List.getElem?_cons_succ] at hc0 hc1 hc2
      have hwl := hho.lt
      have HHO := Lib.hid hho
      have HDK := Lib.hid hdk
      have HU := Lib.hid hU
      have HL := Lib.hid hL
      have HC := Lib.hid hC
      clear hx hdrop hho hdk hU hL hC
      go_wp2_with fail
      refine (HW1.out _).mono ?_
      rintro e w4 ⟨rfl, hb4⟩
      have hb4' : Below wr.heap.size wr w4 := ((Below.refl _ _).alloc (Nat.le_refl _) _).trans (hb4.mono (by simp))
      have hv4 : Blk w4 wr.heap.size 36 #[.int .i64 xa, .int .i64 xb] := (Blk.new wr 36 _).later hb4
      have hBw4 : Below w.heap.size w w4 := hBw.trans (hb4'.mono hBw.size)
      have HNN : Hid (provesL h up lo ((xa, xb) :: ps.drop (k + 1)) = h.proves ps) := Lib.hid (by rw [← HX.out]; exact HN)
      clear HN x0 x1 hb4 hc0 hc1 hc2
      cases hw1 : h.weighing xa
      · have hres : h.proves ps = 1 := by rw [← HNN.out]; unfold provesL; simp [hw1]
        have HRS := Lib.hid hres
        clear hres hw1
        go_wp2
        go_ret2
        exact ⟨by unfold Hs.provesN; rw [HRS.out]; rfl, hBw4⟩
      · have HWA := Lib.hid hw1
        have hho4 := HHO.out.later hb4'
        have hc0 := hho4.cell 0
        have hc1 := hho4.cell 1
        have hc2 := hho4.cell 2
        simp only [List.getElem?_toArray, List.getElem?_cons_zero, List.getElem?_cons_succ] at hc0 hc1 hc2
        have v0 := Blk.cell hv4 0
        have v1 := Blk.cell hv4 1
        have vf0 := Blk.frozen hv4 0
        have vf1 := Blk.frozen hv4 1
        simp only [List.getElem?_toArray, List.getElem?_cons_zero, List.getElem?_cons_succ] at v0 v1
        clear hw1
        go_wp2_with fail
        refine (HW2.out _).mono ?_
        rintro e w5 ⟨rfl, hb5⟩
        have hb5' : Below wr.heap.size wr w5 := hb4'.trans (hb5.mono hb4'.size)
        have hv5 := hv4.later hb5
        have hBw5 : Below w.heap.size w w5 := hBw.trans (hb5'.mono hBw.size)
        clear v0 v1 vf0 vf1 hc0 hc1 hc2 hb5 hho4 hv4 hBw4 hb4'
        cases hw2 : h.weighing xb
        · have hres : h.proves ps = 1 := by rw [← HNN.out]; unfold provesL; simp [HWA.out, hw2]
          have HRS := Lib.hid hres
          clear hres hw2
          go_wp2
          go_ret2
          exact ⟨by unfold Hs.provesN; rw [HRS.out]; rfl, hBw5⟩
        · have ha := weighing_nat HWA.out
          have hb := weighing_nat hw2
          have HWB := Lib.hid hw2
          obtain ⟨a, rfl, ha⟩ := ha
          obtain ⟨b, rfl, hb⟩ := hb
          have ha14 : a < 14 := by omega
          have hb14 : b < 14 := by omega
          have hai : (a : Int) < 14 := by omega
          have hbi : (b : Int) < 14 := by omega
          have hdk5 := HDK.out.later hb5'
          have d0 := hdk5.cell (3 + a * 14 + b)
          rw [desk, deskCells_at _ _ _ _ _ _ ha14 hb14] at d0
          have hdl5 := hdk5.lt
          have v0 := Blk.cell hv5 0
          have v1 := Blk.cell hv5 1
          have vf0 := Blk.frozen hv5 0
          have vf1 := Blk.frozen hv5 1
          simp only [List.getElem?_toArray, List.getElem?_cons_zero, List.getElem?_cons_succ] at v0 v1
          clear hw2
          go_wp2
          have Fv0 := fun u => Later.cell v0 u
          have Fv1 := fun u => Later.cell v1 u
          have Fd0 := fun u => Later.cell d0 u
          clear v0 v1 vf0 vf1 d0
          cases hcl : h.clashM a b
          · have hres : h.proves ps = 8 := by rw [← HNN.out]; unfold provesL; simp [HWA.out, HWB.out, hcl]
            have HRS := Lib.hid hres
            rw [hcl] at Fd0
            clear hres hcl
            refine wp_region_later (by kernel_rfl) (by kernel_rfl) ?_
            repeat (go_big_quiet_step ((fail)))
            refine wpQuiet_nil ?_
            intro u
            have hub := u.below
            go_wp2
            go_ret2
            exact ⟨by unfold Hs.provesN; rw [HRS.out]; rfl, hBw5.trans (hub.mono hBw5.size)⟩
          · have HCL := Lib.hid hcl
            rw [hcl] at Fd0
            clear hcl
            refine wp_region_later (by kernel_rfl) (by kernel_rfl) ?_
            repeat (go_big_quiet_step ((fail)))
            refine wpQuiet_nil ?_
            intro u
            have hub := u.below
            have hBw6 : Below w.heap.size w u.w := hBw5.trans (hub.mono hBw5.size)
            have hwr6 : Below wr.heap.size wr u.w := hb5'.trans (hub.mono hb5'.size)
            have hv6 := hv5.later hub
            have hU6 := HU.out.later hwr6
            have hL6 := HL.out.later hwr6
            clear Fd0 Fv0 Fv1
            generalize u.w = w6 at hub hBw6 hwr6 hv6 hU6 hL6 ⊢
            have v0 := Blk.cell hv6 0
            have v1 := Blk.cell hv6 1
            have vf0 := Blk.frozen hv6 0
            have vf1 := Blk.frozen hv6 1
            simp only [List.getElem?_toArray, List.getElem?_cons_zero, List.getElem?_cons_succ] at v0 v1
            have ua := (hU6.cell a).trans (row14_at _ _ ha14)
            have lb := (hL6.cell b).trans (row14_at _ _ hb14)
            have huu := hU6.lt
            have hll := hL6.lt
            have hvl := hv6.lt
            cases hup : up a
            · rw [hup] at ua
              cases hlo : lo b
              · rw [hlo] at lb
                have HUP := Lib.hid hup
                have HLO := Lib.hid hlo
                clear hup hlo
                go_wp2
                have uf := hU6.frozen a
                have lf := hL6.frozen b
                have hC6 : Chg [w1.heap.size, w1.heap.size + 1] w2 w6 := HC.out.later hwr6
                refine wp_region_plan (fun w' => w'.cell? ⟨wr.heap.size, 0, none⟩ = some (.int .i64 (a : Int)) ∧ w'.cell? ⟨wr.heap.size, 1, none⟩ = some (.int .i64 (b : Int)))
                  [(0, true), (1, true), (2, true), (3, true), (4, true), (5, false), (6, true), (7, false)] (by kernel_rfl) (by kernel_rfl) (fun _ _ _ _ _ h => h) ⟨by simpa using v0, by simpa using v1⟩ (fun hS => ?_)
                apply wpPlan_take
                case hi => (simp only [List.getElem?_toArray, List.getElem?_cons_succ, List.getElem?_cons_zero]; exact rfl)
                case hw => rfl
                case hr => (intro w' hSw; (try dsimp only at hSw); go_split_ands; go_simp; try with_reducible rfl)
                (simp only [Act.put, List.setIfInBounds_toArray, List.set_cons_zero, List.set_cons_succ])
                apply wpPlan_take
                case hi => (simp only [List.getElem?_toArray, List.getElem?_cons_succ, List.getElem?_cons_zero]; exact rfl)
                case hw => rfl
                case hr => (intro w' hSw; (try dsimp only at hSw); go_split_ands; go_simp; try with_reducible rfl)
                (simp only [Act.put, List.setIfInBounds_toArray, List.set_cons_zero, List.set_cons_succ])
                apply wpPlan_take
                case hi => (simp only [List.getElem?_toArray, List.getElem?_cons_succ, List.getElem?_cons_zero]; exact rfl)
                case hw => rfl
                case hr => (intro w' hSw; (try dsimp only at hSw); go_split_ands; go_simp; try with_reducible rfl)
                (simp only [Act.put, List.setIfInBounds_toArray, List.set_cons_zero, List.set_cons_succ])
                apply wpPlan_take
                case hi => (simp only [List.getElem?_toArray, List.getElem?_cons_succ, List.getElem?_cons_zero]; exact rfl)
                case hw => rfl
                case hr => (intro w' hSw; (try dsimp only at hSw); go_split_ands; go_simp; try with_reducible rfl)
                (simp only [Act.put, List.setIfInBounds_toArray, List.set_cons_zero, List.set_cons_succ])
                apply wpPlan_take
                case hi => (simp only [List.getElem?_toArray, List.getElem?_cons_succ, List.getElem?_cons_zero]; exact rfl)
                case hw => rfl
                case hr => (intro w' hSw; (try dsimp only at hSw); go_split_ands; go_simp; try with_reducible rfl)
                (simp only [Act.put, List.setIfInBounds_toArray, List.set_cons_zero, List.set_cons_succ])
                apply wpPlan_step
                case ho => (simp only [List.getElem?_toArray, List.getElem?_cons_succ, List.getElem?_cons_zero]; exact rfl)
                intro K hK
                rw [if_pos (by rfl)]
                go_simp
                have q1 : Chg [w1.heap.size, w1.heap.size + 1] w2 ((w6.setCell ⟨w1.heap.size, a, none⟩ (.bool true)).drew) := ((hC6.set_ (p := ⟨w1.heap.size, a, none⟩) (.inl (by simp)) _).later (Below.refl _ _).drew)
                have q2 : Blk ((w6.setCell ⟨w1.heap.size, a, none⟩ (.bool true)).drew) w1.heap.size 121 (row14 (updB up a true)) := by
                  have := hU6.set_ a (.bool true)
                  rw [row14_set] at this
                  exact this
                have q3 : Blk ((w6.setCell ⟨w1.heap.size, a, none⟩ (.bool true)).drew) (w1.heap.size + 1) 121 (row14 lo) := hL6.far (p := ⟨w1.heap.size, a, none⟩) (by simp) _
                have q4 : Blk ((w6.setCell ⟨w1.heap.size, a, none⟩ (.bool true)).drew) wr.heap.size 36 #[.int .i64 (a : Int), .int .i64 (b : Int)] := hv6.far (p := ⟨w1.heap.size, a, none⟩) (by simp; omega) _
                generalize (w6.setCell ⟨w1.heap.size, a, none⟩ (.bool true)).drew = w7 at q1 q2 q3 q4 ⊢
                clear hS v0 v1 vf0 vf1 ua lb uf lf hC6 hub hwr6 hBw6 hv6 hU6 hL6
                have v0 := Blk.cell q4 0
                have v1 := Blk.cell q4 1
                have vf0 := Blk.frozen q4 0
                have vf1 := Blk.frozen q4 1
                simp only [List.getElem?_toArray, List.getElem?_cons_zero, List.getElem?_cons_succ] at v0 v1
                have hS7 := And.intro v0 v1
                refine hK.out _ _ (hS7) (fun hS => ?_)
                clear hK
                clear K
                try (simp only [Act.put, List.setIfInBounds_toArray, List.set_cons_zero, List.set_cons_succ])
                clear hS7
                apply wpPlan_take
                case hi => (simp only [List.getElem?_toArray, List.getElem?_cons_succ, List.getElem?_cons_zero]; exact rfl)
                case hw => rfl
                case hr => (intro w' hSw; (try dsimp only at hSw); go_split_ands; go_simp; try with_reducible rfl)
                (simp only [Act.put, List.setIfInBounds_toArray, List.set_cons_zero, List.set_cons_succ])
                have lb := (q3.cell b).trans (row14_at _ _ hb14)
                have lf := q3.frozen b
                apply wpPlan_step
                case ho => (simp only [List.getElem?_toArray, List.getElem?_cons_succ, List.getElem?_cons_zero]; exact rfl)
                intro K hK
                rw [if_pos (by rfl)]
                go_simp
                have r1 : Chg [w1.heap.size, w1.heap.size + 1] w2 (w7.setCell ⟨w1.heap.size + 1, b, none⟩ (.bool true)) := q1.set_ (p := ⟨w1.heap.size + 1, b, none⟩) (.inl (by simp)) _
                have r2 : Blk (w7.setCell ⟨w1.heap.size + 1, b, none⟩ (.bool true)) w1.heap.size 121 (row14 (updB up a true)) := q2.far (p := ⟨w1.heap.size + 1, b, none⟩) (by simp) _
                have r3 : Blk (w7.setCell ⟨w1.heap.size + 1, b, none⟩ (.bool true)) (w1.heap.size + 1) 121 (row14 (updB lo b true)) := by
                  have := q3.set_ b (.bool true)
                  rw [row14_set] at this
                  exact this
                have r4 : Blk (w7.setCell ⟨w1.heap.size + 1, b, none⟩ (.bool true)) wr.heap.size 36 #[.int .i64 (a : Int), .int .i64 (b : Int)] := q4.far (p := ⟨w1.heap.size + 1, b, none⟩) (by simp; omega) _
                generalize w7.setCell ⟨w1.heap.size + 1, b, none⟩ (.bool true) = w8 at r1 r2 r3 r4 ⊢
                clear hS v0 v1 vf0 vf1 q1 q2 q3 q4 lb lf
                have v0 := Blk.cell r4 0
                have v1 := Blk.cell r4 1
                have vf0 := Blk.frozen r4 0
                have vf1 := Blk.frozen r4 1
                simp only [List.getElem?_toArray, List.getElem?_cons_zero, List.getElem?_cons_succ] at v0 v1
                have hS8 := And.intro v0 v1
                refine hK.out _ _ (hS8) (fun hS => ?_)
                clear hK
                clear K
                try (simp only [Act.put, List.setIfInBounds_toArray, List.set_cons_zero, List.set_cons_succ])
                clear hS8 hS v0 v1 vf0 vf1
                refine wpPlan_end ?_
                have hnx : provesL h (updB up a true) (updB lo b true) (ps.drop (k + 1)) = h.proves ps := by
                  rw [← HNN.out]
                  conv => rhs; unfold provesL
                  simp [HWA.out, HWB.out, HCL.out, HUP.out, HLO.out]
                have HNX := Lib.hid hnx
                clear hnx
                go_wp2
                exact ⟨⟨k + 1, updB up a true, updB lo b true, by omega, rfl, r1, r2, r3, HNX.out⟩, by simp [intOf]; omega⟩
              · rw [hlo] at lb
                have hres : h.proves ps = 5 := by rw [← HNN.out]; unfold provesL; simp [HWA.out, HWB.out, HCL.out, hup, hlo]
                have HRS := Lib.hid hres
                clear hres
                go_wp2
                go_ret2
                exact ⟨by unfold Hs.provesN; rw [HRS.out]; rfl, hBw6⟩
            · rw [hup] at ua
              have hres : h.proves ps = 5 := by rw [← HNN.out]; unfold provesL; simp [HWA.out, HWB.out, HCL.out, hup]
              have HRS := Lib.hid hres
              clear hres
              go_wp2
              go_ret2
              exact ⟨by unfold Hs.provesN; rw [HRS.out]; rfl, hBw6⟩
    · obtain rfl : k = ps.length := by omega
      have hres : h.proves ps = 0 := by
        have h1 : provesL h up lo (ps.drop ps.length) = h.proves ps := HN
        rw [List.drop_length] at h1
        rw [← h1]
        rfl
      have HRS := Lib.hid hres
      clear hres hdk hho hU hL
      go_wp2
      go_ret2
      exact ⟨by unfold Hs.provesN; rw [HRS.out]; rfl, hBw⟩
end Go.Proofs.Ytjihnnbpfdhceaa
