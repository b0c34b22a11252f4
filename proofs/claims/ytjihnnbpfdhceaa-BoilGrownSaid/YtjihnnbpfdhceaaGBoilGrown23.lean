/- laurellaw08.BoilRow. Conditions: none beyond those that each theorem names. -/
import Derived.Test.YtjihnnbpfdhceaaGBoilGrown22
import Derived.Deep.CutRange
import Derived.Deep.Cut
set_option linter.unusedSimpArgs false
set_option linter.unusedVariables false
namespace Go.Proofs.Ytjihnnbpfdhceaa
open Go.RowKit Go.Shelf
attribute [local go_sem] Oper.semAt_some
attribute [local go_sem ↓] Go.wp_at_zero Go.wp_at_succ

theorem lawclashM_any (h : Hs) (A : Option Addr) (c : Nat) (a b : Nat) (w : World) (hr : RowIn Wg.enc 5 w w.heap.size A h.ws) (hok : ∀ x ∈ h.ws, x.Ok) (ha : a < h.ws.length) (hb : b < h.ws.length) (hl : h.ws.length ≤ 1000000) :
    Calls Try.prog 12 #[h.val A c, .int .i64 a, .int .i64 b] w fun e w' => e = .returned (.bool (h.clashM a b)) ∧ Below w.heap.size w w' := by
  rw [clashM_in h ha hb]
  exact lawclash_any h A c a b w hr hok ha hb hl

/-- A house that a law has made. -/
structure LawHs (h : Hs) (A1 : Option Addr) (c1 : Nat) (g : Nat) (W : World) : Prop where
  hs : Blk W g 25 #[.int .i64 h.months, .int .i64 h.peak, .slice A1 h.ws.length c1]
  row : RowIn Wg.enc 5 W W.heap.size A1 h.ws
theorem LawHs.later {h : Hs} {A1 : Option Addr} {c1 : Nat} {g : Nat} {W W' : World} (i : LawHs h A1 c1 g W) (hb : Below W.heap.size W W') : LawHs h A1 c1 g W' := ⟨i.hs.later hb, i.row.later hb⟩

set_option maxRecDepth 100000 in
set_option maxHeartbeats 4000000 in
theorem boilRow_any (A : Option Addr) (xs : List Int) (c : Nat) (n1 n2 n3 : Nat) (w : World) (hr : RowIn byteEnc 1 w w.heap.size A xs) (hl : xs.length ≤ 140737488355328) (hn1 : n1 ≤ 255) (hn2 : n2 ≤ 255) (hn3 : n3 ≤ 255) :
    Calls Try.prog 3 #[.slice A xs.length c, .int .u8 n1, .int .u8 n2, .int .u8 n3] w fun e w' => e = .returned (.bool true) ∧ Below w.heap.size w w' := by
  have HP := Lib.hid (pile_any A xs c w hr)
  have HMD := Lib.hid (fun V h => made_any A xs w.heap.size 12 9 2 V h hl (by omega) (by omega) (by omega) (by omega) (by omega))
  clear hr hl
  go_enter Try.func3, Try.ntmps3
  go_wp2_with fail
  refine HP.out.mono ?_
  rintro e w1 ⟨rfl, hh1, hb1⟩
  go_wp2_with fail
  refine (HMD.out _ hh1).mono ?_
  rintro e w2 ⟨h, r, A1, cp, A2, nn, cq, rfl, hmn, hrw, hrr, hcg, hhp, hmk⟩
  have hB : Below w.heap.size w w2 := Chg.below hcg hb1 hb1.size (by simp)
  have hk := hmk.check (by omega) (by omega)
  have hlen := check_len hk
  have hmo := check_months hk
  have hpk := check_peak hk
  have HK := Lib.hid hk
  have HOK := Lib.hid (check_ok hk)
  obtain ⟨hmo1, hmo2⟩ := hmo
  obtain ⟨hpk1, hpk2⟩ := hpk
  clear hh1 hb1 hmn hrr hcg hhp hmk hk
  unfold Hs.val
  go_wp2
  have hb3 := alc w2 (.cells #[.int .i64 h.months, .int .i64 h.peak, .slice A1 h.ws.length cp] 25)
  have HH := Lib.hid (show LawHs h A1 cp w2.heap.size (w2.alloc (.cells #[.int .i64 h.months, .int .i64 h.peak, .slice A1 h.ws.length cp] 25)) from ⟨Blk.new _ _ _, hrw.later hb3⟩)
  have ehb3 := Below.step hB hb3
  clear hB
  have hB := ehb3
  clear ehb3
  generalize w2.alloc (.cells #[.int .i64 h.months, .int .i64 h.peak, .slice A1 h.ws.length cp] 25) = w3 at HH hB ⊢
  generalize w2.heap.size = g at HH ⊢
  clear hb3 hrw
  have HCL := Lib.hid (fun (i j : Nat) (V : World) (hr : RowIn Wg.enc 5 V V.heap.size A1 h.ws) (hi : i < h.ws.length) (hj : j < h.ws.length) => lawclashM_any h A1 cp i j V hr HOK.out hi hj (by omega))
  have HTR := Lib.hid (fun i j k => clashM_trans (i := i) (j := j) (k := k) HK.out)
  unfold Hs.val at HCL
  go_loopw [40] (fun i wr => ∃ q : Nat, q ≤ h.ws.length ∧ i = .int .i64 q ∧ Below w3.heap.size w3 wr) (fun i _ => (h.ws.length - intOf i).toNat)
  case atStart => exact ⟨0, by omega, rfl, Below.refl _ _⟩
  case round =>
    obtain ⟨q, hq, rfl, hb⟩ := hrel
    by_cases hlt : q < h.ws.length
    · obtain ⟨wa, rfl⟩ : ∃ wa : World, wa = wr := ⟨_, rfl⟩
      have p0 := Blk.cell (HH.out.later hb).hs 0
      have p1 := Blk.cell (HH.out.later hb).hs 1
      have p2 := Blk.cell (HH.out.later hb).hs 2
      have pf0 := Blk.frozen (HH.out.later hb).hs 0
      have pf1 := Blk.frozen (HH.out.later hb).hs 1
      have pf2 := Blk.frozen (HH.out.later hb).hs 2
      have pl := Blk.lt (HH.out.later hb).hs
      simp only [List.getElem?_toArray, List.getElem?_cons_zero, List.getElem?_cons_succ] at p0 p1 p2
      go_wp2
      clear p0 p1 p2 pf0 pf1 pf2 pl
      go_loopw [46] (fun i wr => ∃ q2 : Nat, q2 ≤ h.ws.length ∧ i = .int .i64 q2 ∧ Below w3.heap.size w3 wr) (fun i _ => (h.ws.length - intOf i).toNat)
      case atStart => exact ⟨0, by omega, rfl, hb⟩
      case round =>
        clear hb
        obtain ⟨q2, hq2, rfl, hb⟩ := hrel
        by_cases hlt2 : q2 < h.ws.length
        · obtain ⟨wa2, rfl⟩ : ∃ wa : World, wa = wr := ⟨_, rfl⟩
          have p0 := Blk.cell (HH.out.later hb).hs 0
          have p1 := Blk.cell (HH.out.later hb).hs 1
          have p2 := Blk.cell (HH.out.later hb).hs 2
          have pf0 := Blk.frozen (HH.out.later hb).hs 0
          have pf1 := Blk.frozen (HH.out.later hb).hs 1
          have pf2 := Blk.frozen (HH.out.later hb).hs 2
          have pl := Blk.lt (HH.out.later hb).hs
          simp only [List.getElem?_toArray, List.getElem?_cons_zero, List.getElem?_cons_succ] at p0 p1 p2
          go_wp2
          clear p0 p1 p2 pf0 pf1 pf2 pl
          go_loopw [52] (fun i wr => ∃ q3 : Nat, q3 ≤ h.ws.length ∧ i = .int .i64 q3 ∧ Below w3.heap.size w3 wr) (fun i _ => (h.ws.length - intOf i).toNat)
          case atStart => exact ⟨0, by omega, rfl, hb⟩
          case round =>
            clear hb
            obtain ⟨q3, hq3, rfl, hb⟩ := hrel
            by_cases hlt3 : q3 < h.ws.length
            · have H1 := Lib.hid (HCL.out q q2 _ (HH.out.later hb).row hlt hlt2)
              have p0 := Blk.cell (HH.out.later hb).hs 0
              have p1 := Blk.cell (HH.out.later hb).hs 1
              have p2 := Blk.cell (HH.out.later hb).hs 2
              have pf0 := Blk.frozen (HH.out.later hb).hs 0
              have pf1 := Blk.frozen (HH.out.later hb).hs 1
              have pf2 := Blk.frozen (HH.out.later hb).hs 2
              have pl := Blk.lt (HH.out.later hb).hs
              simp only [List.getElem?_toArray, List.getElem?_cons_zero, List.getElem?_cons_succ] at p0 p1 p2
              go_wp2_with fail
              refine H1.out.mono ?_
              rintro e wb ⟨rfl, hbb⟩
              have ehbb := Below.step hb hbb
              clear hb
              have hb := ehbb
              clear ehbb
              clear H1
              clear p0 p1 p2 pf0 pf1 pf2 pl
              cases hm1 : h.clashM q q2
              · have X1 := Lib.hid hm1
                clear hm1
                go_wp2
                go_roundw
                case rel => exact ⟨q3 + 1, by omega, by go_num, hb⟩
                case measure => simp [intOf]; omega
              · have H1 := Lib.hid (HCL.out q2 q3 _ (HH.out.later hb).row hlt2 hlt3)
                have p0 := Blk.cell (HH.out.later hb).hs 0
                have p1 := Blk.cell (HH.out.later hb).hs 1
                have p2 := Blk.cell (HH.out.later hb).hs 2
                have pf0 := Blk.frozen (HH.out.later hb).hs 0
                have pf1 := Blk.frozen (HH.out.later hb).hs 1
                have pf2 := Blk.frozen (HH.out.later hb).hs 2
                have pl := Blk.lt (HH.out.later hb).hs
                simp only [List.getElem?_toArray, List.getElem?_cons_zero, List.getElem?_cons_succ] at p0 p1 p2
                have X1 := Lib.hid hm1
                clear hm1 hbb
                go_wp2_with fail
                refine H1.out.mono ?_
                rintro e wc ⟨rfl, hbb⟩
                have ehbb := Below.step hb hbb
                clear hb
                have hb := ehbb
                clear ehbb
                clear H1
                clear p0 p1 p2 pf0 pf1 pf2 pl
                cases hm1 : h.clashM q2 q3
                · have X2 := Lib.hid hm1
                  clear hm1
                  go_wp2
                  go_roundw
                  case rel => exact ⟨q3 + 1, by omega, by go_num, hb⟩
                  case measure => simp [intOf]; omega
                · have H1 := Lib.hid (HCL.out q q3 _ (HH.out.later hb).row hlt hlt3)
                  rw [HTR.out _ _ _ X1.out hm1] at H1
                  have X2 := Lib.hid hm1
                  have p0 := Blk.cell (HH.out.later hb).hs 0
                  have p1 := Blk.cell (HH.out.later hb).hs 1
                  have p2 := Blk.cell (HH.out.later hb).hs 2
                  have pf0 := Blk.frozen (HH.out.later hb).hs 0
                  have pf1 := Blk.frozen (HH.out.later hb).hs 1
                  have pf2 := Blk.frozen (HH.out.later hb).hs 2
                  have pl := Blk.lt (HH.out.later hb).hs
                  simp only [List.getElem?_toArray, List.getElem?_cons_zero, List.getElem?_cons_succ] at p0 p1 p2
                  clear hm1 hbb
                  go_wp2_with fail
                  refine H1.out.mono ?_
                  rintro e wd ⟨rfl, hbb⟩
                  have ehbb := Below.step hb hbb
                  clear hb
                  have hb := ehbb
                  clear ehbb
                  clear H1
                  clear p0 p1 p2 pf0 pf1 pf2 pl
                  go_wp2
                  go_roundw
                  case rel => exact ⟨q3 + 1, by omega, by go_num, hb⟩
                  case measure => simp [intOf]; omega
            · obtain rfl : h.ws.length = q3 := by omega
              go_wp2
              go_roundw
              case rel => exact ⟨q2 + 1, by omega, by go_num, hb⟩
              case measure => simp [intOf]; omega
        · have hq2e : q2 = h.ws.length := by omega
          subst hq2e
          go_wp2
          go_roundw
          case rel => exact ⟨q + 1, by omega, by go_num, hb⟩
          case measure => simp [intOf]; omega
    · have hqe : q = h.ws.length := by omega
      subst hqe
      have p0 := Blk.cell (HH.out.later hb).hs 0
      have p1 := Blk.cell (HH.out.later hb).hs 1
      have p2 := Blk.cell (HH.out.later hb).hs 2
      have pf0 := Blk.frozen (HH.out.later hb).hs 0
      have pf1 := Blk.frozen (HH.out.later hb).hs 1
      have pf2 := Blk.frozen (HH.out.later hb).hs 2
      have pl := Blk.lt (HH.out.later hb).hs
      simp only [List.getElem?_toArray, List.getElem?_cons_zero, List.getElem?_cons_succ] at p0 p1 p2
      go_wp2
      go_quiet (fail)
      have hbb : Below wr.heap.size wr (wr.drewN nq) := below_drewN (Below.refl _ _) _
      generalize wr.drewN nq = wb at hbb ⊢
      have ehbb := Below.step hb hbb
      clear hb
      have hb := ehbb
      clear ehbb
      clear p0 p1 p2 pf0 pf1 pf2 pl
      have hx1 : 0 ≤ (n1 : Int) % h.months := Int.emod_nonneg _ (by omega)
      have hx2 : (n1 : Int) % h.months < h.months := Int.emod_lt_of_pos _ (by omega)
      have hy1 : 0 ≤ (n2 : Int) % h.months := Int.emod_nonneg _ (by omega)
      have hy2 : (n2 : Int) % h.months < h.months := Int.emod_lt_of_pos _ (by omega)
      have hz1 : 0 ≤ (n3 : Int) % h.months := Int.emod_nonneg _ (by omega)
      have hz2 : (n3 : Int) % h.months < h.months := Int.emod_lt_of_pos _ (by omega)
      generalize (n1 : Int) % h.months = x at hx1 hx2 ⊢
      generalize (n2 : Int) % h.months = y at hy1 hy2 ⊢
      generalize (n3 : Int) % h.months = z at hz1 hz2 ⊢
      have HUN := Lib.hid (fun (a b : Int) (V : World) (hr : RowIn Wg.enc 5 V V.heap.size A1 h.ws) (h1 : 0 ≤ a) (h2 : a < h.months) (h3 : 0 ≤ b) (h4 : b < h.months) => under_pub h A1 cp a b V hr HK.out (by simp [Hs.month, inB]; omega) (by simp [Hs.month, inB]; omega))
      unfold Hs.val at HUN
      have H1 := Lib.hid (HUN.out x y _ (HH.out.later hb).row hx1 hx2 hy1 hy2)
      have p0 := Blk.cell (HH.out.later hb).hs 0
      have p1 := Blk.cell (HH.out.later hb).hs 1
      have p2 := Blk.cell (HH.out.later hb).hs 2
      have pf0 := Blk.frozen (HH.out.later hb).hs 0
      have pf1 := Blk.frozen (HH.out.later hb).hs 1
      have pf2 := Blk.frozen (HH.out.later hb).hs 2
      have pl := Blk.lt (HH.out.later hb).hs
      simp only [List.getElem?_toArray, List.getElem?_cons_zero, List.getElem?_cons_succ] at p0 p1 p2
      clear hbb
      go_wp2_with fail
      refine H1.out.mono ?_
      rintro e wc ⟨rfl, hbb⟩
      have ehbb := Below.step hb hbb
      clear hb
      have hb := ehbb
      clear ehbb
      clear H1
      clear p0 p1 p2 pf0 pf1 pf2 pl
      have p0 := Blk.cell (HH.out.later hb).hs 0
      have p1 := Blk.cell (HH.out.later hb).hs 1
      have p2 := Blk.cell (HH.out.later hb).hs 2
      have pf0 := Blk.frozen (HH.out.later hb).hs 0
      have pf1 := Blk.frozen (HH.out.later hb).hs 1
      have pf2 := Blk.frozen (HH.out.later hb).hs 2
      have pl := Blk.lt (HH.out.later hb).hs
      simp only [List.getElem?_toArray, List.getElem?_cons_zero, List.getElem?_cons_succ] at p0 p1 p2
      clear hbb
      have H1 := Lib.hid (HUN.out y z _ (HH.out.later hb).row hy1 hy2 hz1 hz2)
      go_wp2_with fail
      refine H1.out.mono ?_
      rintro e wd ⟨rfl, hbb⟩
      have ehbb := Below.step hb hbb
      clear hb
      have hb := ehbb
      clear ehbb
      clear H1
      clear p0 p1 p2 pf0 pf1 pf2 pl
      have p0 := Blk.cell (HH.out.later hb).hs 0
      have p1 := Blk.cell (HH.out.later hb).hs 1
      have p2 := Blk.cell (HH.out.later hb).hs 2
      have pf0 := Blk.frozen (HH.out.later hb).hs 0
      have pf1 := Blk.frozen (HH.out.later hb).hs 1
      have pf2 := Blk.frozen (HH.out.later hb).hs 2
      have pl := Blk.lt (HH.out.later hb).hs
      simp only [List.getElem?_toArray, List.getElem?_cons_zero, List.getElem?_cons_succ] at p0 p1 p2
      clear hbb
      have H1 := Lib.hid (HUN.out x z _ (HH.out.later hb).row hx1 hx2 hz1 hz2)
      go_wp2_with fail
      refine H1.out.mono ?_
      rintro e we ⟨rfl, hbb⟩
      have ehbb := Below.step hb hbb
      clear hb
      have hb := ehbb
      clear ehbb
      clear H1
      clear p0 p1 p2 pf0 pf1 pf2 pl
      have p0 := Blk.cell (HH.out.later hb).hs 0
      have p1 := Blk.cell (HH.out.later hb).hs 1
      have p2 := Blk.cell (HH.out.later hb).hs 2
      have pf0 := Blk.frozen (HH.out.later hb).hs 0
      have pf1 := Blk.frozen (HH.out.later hb).hs 1
      have pf2 := Blk.frozen (HH.out.later hb).hs 2
      have pl := Blk.lt (HH.out.later hb).hs
      simp only [List.getElem?_toArray, List.getElem?_cons_zero, List.getElem?_cons_succ] at p0 p1 p2
      clear hbb
      have H1 := Lib.hid (HUN.out x h.peak _ (HH.out.later hb).row hx1 hx2 hpk1 hpk2)
      rw [under_peak] at H1
      go_wp2_with fail
      refine H1.out.mono ?_
      rintro e wf ⟨rfl, hbb⟩
      have ehbb := Below.step hb hbb
      clear hb
      have hb := ehbb
      clear ehbb
      clear H1
      clear p0 p1 p2 pf0 pf1 pf2 pl
      have p0 := Blk.cell (HH.out.later hb).hs 0
      have p1 := Blk.cell (HH.out.later hb).hs 1
      have p2 := Blk.cell (HH.out.later hb).hs 2
      have pf0 := Blk.frozen (HH.out.later hb).hs 0
      have pf1 := Blk.frozen (HH.out.later hb).hs 1
      have pf2 := Blk.frozen (HH.out.later hb).hs 2
      have pl := Blk.lt (HH.out.later hb).hs
      simp only [List.getElem?_toArray, List.getElem?_cons_zero, List.getElem?_cons_succ] at p0 p1 p2
      clear hbb
      have H1 := Lib.hid (HUN.out y x _ (HH.out.later hb).row hy1 hy2 hx1 hx2)
      go_wp2_with fail
      refine H1.out.mono ?_
      rintro e wg ⟨rfl, hbb⟩
      have ehbb := Below.step hb hbb
      clear hb
      have hb := ehbb
      clear ehbb
      clear H1
      clear p0 p1 p2 pf0 pf1 pf2 pl
      have p0 := Blk.cell (HH.out.later hb).hs 0
      have p1 := Blk.cell (HH.out.later hb).hs 1
      have p2 := Blk.cell (HH.out.later hb).hs 2
      have pf0 := Blk.frozen (HH.out.later hb).hs 0
      have pf1 := Blk.frozen (HH.out.later hb).hs 1
      have pf2 := Blk.frozen (HH.out.later hb).hs 2
      have pl := Blk.lt (HH.out.later hb).hs
      simp only [List.getElem?_toArray, List.getElem?_cons_zero, List.getElem?_cons_succ] at p0 p1 p2
      clear hbb
      have F1 := fun a b => Lib.hid (under_trans h (a := x) (b := y) (c := z) a b)
      have F2 := fun a b => Lib.hid (under_antisymm h (a := x) (b := y) a b)
      generalize h.under x y = bxy at F1 F2 ⊢
      generalize h.under y z = byz at F1 F2 ⊢
      generalize h.under x z = bxz at F1 F2 ⊢
      generalize h.under y x = byx at F1 F2 ⊢
      go_upto_region 22 with fail
      go_cut [168] from 126 to 168 (fun c wx => c = .bool false ∧ wx = wg)
      case first =>
        cases bxy
        · clear F1 F2
          go_wp2
          go_meet
          exact ⟨rfl, rfl⟩
        · cases byx
          · clear F2
            cases byz
            · clear F1
              go_wp2
              go_meet
              exact ⟨rfl, rfl⟩
            · obtain rfl := (F1 rfl rfl).out
              clear F1
              go_wp2
              go_meet
              exact ⟨rfl, rfl⟩
          · obtain rfl : x = y := (F2 rfl rfl).out
            clear F2
            cases byz
            · clear F1
              go_wp2
              go_meet
              exact ⟨rfl, rfl⟩
            · obtain rfl := (F1 rfl rfl).out
              clear F1
              go_wp2
              go_meet
              exact ⟨rfl, rfl⟩
      case rest =>
        obtain ⟨rfl, rfl⟩ := hcut
        have HCH := Lib.hid (fun V hr => clash_any h A1 cp V hr HK.out)
        unfold Hs.val at HCH
        go_wp2_with fail
        clear p0 p1 p2 pf0 pf1 pf2 pl
        refine (HCH.out _ (HH.out.later hb).row).mono ?_
        rintro e w4 ⟨hcr, hbb⟩
        have ehbb := Below.step hb hbb
        clear hb
        have hb := ehbb
        clear ehbb
        clear HCH hbb
        obtain ⟨pa, pb, ee, rfl, hee⟩ := hcr.open_
        have HE := Lib.hid hee
        clear hcr hee
        have HI := Lib.hid (HH.out.later hb)
        have p0 := Blk.cell HI.out.hs 0
        have p1 := Blk.cell HI.out.hs 1
        have p2 := Blk.cell HI.out.hs 2
        have pf0 := Blk.frozen HI.out.hs 0
        have pf1 := Blk.frozen HI.out.hs 1
        have pf2 := Blk.frozen HI.out.hs 2
        have pl := Blk.lt HI.out.hs
        simp only [List.getElem?_toArray, List.getElem?_cons_zero, List.getElem?_cons_succ] at p0 p1 p2
        go_wp2
        clear p0 p1 p2 pf0 pf1 pf2 pl
        have hP := ((Blk.new w4 36 #[.int .i64 pa, .int .i64 pb]).alloc (.cells #[.int .i64 (-1), .int .i64 0] 36))
        have hF := Blk.new (w4.alloc (.cells #[.int .i64 pa, .int .i64 pb] 36)) 36 #[.int .i64 (-1), .int .i64 0]
        have hb5 : Below w4.heap.size w4 ((w4.alloc (.cells #[.int .i64 pa, .int .i64 pb] 36)).alloc (.cells #[.int .i64 (-1), .int .i64 0] 36)) := Below.step (alc _ _) (alc _ _)
        rw [World.size_alloc] at hF
        generalize (w4.alloc (.cells #[.int .i64 pa, .int .i64 pb] 36)).alloc (.cells #[.int .i64 (-1), .int .i64 0] 36) = w5 at hP hF hb5 ⊢
        go_loopw [29] (fun i wr => ∃ (q : Nat) (fa fb : Int), q ≤ h.ws.length ∧ i = .int .i64 ((q : Int) - 1) ∧ Below w4.heap.size w4 wr ∧ Blk wr w4.heap.size 36 #[.int .i64 pa, .int .i64 pb] ∧ Blk wr (w4.heap.size + 1) 36 #[.int .i64 fa, .int .i64 fb] ∧ Aside (FirstIn h.clashM (fun i j => q ≤ i) fa fb)) (fun i _ => (intOf i + 1).toNat)
        case atStart => exact ⟨h.ws.length, -1, 0, by omega, rfl, hb5, hP, hF, .inl ⟨rfl, fun i j hi => by
          cases hm : h.clashM i j
          · rfl
          · have := (clashM_lt hm).1; omega⟩⟩
        case round =>
          clear hP hF hb5
          obtain ⟨q, fa, fb, hq, hi, hb5, hP, hF, HFI⟩ := hrel
          have HP2 := Lib.hid hP
          have HF2 := Lib.hid hF
          clear hP hF
          cases q with
          | zero =>
            rw [show ((0 : Nat) : Int) - 1 = -1 by omega] at hi
            subst hi
            have hBA : Below w.heap.size w wr := Below.step hB (Below.step hb hb5)
            rcases HE.out with ⟨rfl, hpa, hfi⟩ | ⟨rfl, hno⟩
            · obtain ⟨e1, e2⟩ := FirstIn.uniq HFI.out (hfi.congr fun i j hm => ⟨fun _ => Nat.zero_le _, fun _ => clashM_lt hm⟩)
              have e3 := e2 (by omega)
              subst e1
              subst e3
              have hqp := fun W => eq_pair W fa fb fa fb
              simp only [beq_self_eq_true, Bool.and_self] at hqp
              clear e2 hfi HE
              have f0 := Blk.cell HF2.out 0
              have f1 := Blk.cell HF2.out 1
              have ff0 := Blk.frozen HF2.out 0
              have ff1 := Blk.frozen HF2.out 1
              have fl := Blk.lt HF2.out
              simp only [List.getElem?_toArray, List.getElem?_cons_zero, List.getElem?_cons_succ] at f0 f1
              have p0 := Blk.cell HP2.out 0
              have p1 := Blk.cell HP2.out 1
              have pf0 := Blk.frozen HP2.out 0
              have pf1 := Blk.frozen HP2.out 1
              have pl := Blk.lt HP2.out
              simp only [List.getElem?_toArray, List.getElem?_cons_zero, List.getElem?_cons_succ] at p0 p1
              go_wp2_with fail
              refine (awake_any _).mono ?_
              rintro e wz ⟨rfl, hbb⟩
              have ehbb := Below.step hBA hbb
              clear hBA
              have hBA := ehbb
              clear ehbb
              clear hbb
              clear f0 f1 ff0 ff1 fl
              clear p0 p1 pf0 pf1 pl
              go_wp2
              go_ret
              exact ⟨rfl, hBA⟩
            · have e1 : fa = -1 := by
                rcases HFI.out with ⟨h1, _⟩ | ⟨a, b, _, _, _, h4, _⟩
                · exact h1
                · have := hno a b (clashM_lt h4).1 (clashM_lt h4).2; rw [h4] at this; cases this
              subst e1
              clear hno HE
              have f0 := Blk.cell HF2.out 0
              have f1 := Blk.cell HF2.out 1
              have ff0 := Blk.frozen HF2.out 0
              have ff1 := Blk.frozen HF2.out 1
              have fl := Blk.lt HF2.out
              simp only [List.getElem?_toArray, List.getElem?_cons_zero, List.getElem?_cons_succ] at f0 f1
              go_wp2_with fail
              refine (awake_any _).mono ?_
              rintro e wz ⟨rfl, hbb⟩
              have ehbb := Below.step hBA hbb
              clear hBA
              have hBA := ehbb
              clear ehbb
              clear hbb
              clear f0 f1 ff0 ff1 fl
              go_wp2
              go_ret
              exact ⟨rfl, hBA⟩
          | succ q =>
            rw [show ((q + 1 : Nat) : Int) - 1 = q by omega] at hi
            subst hi
            obtain ⟨wa3, rfl⟩ : ∃ wa : World, wa = wr := ⟨_, rfl⟩
            have p0 := Blk.cell (HI.out.later hb5).hs 0
            have p1 := Blk.cell (HI.out.later hb5).hs 1
            have p2 := Blk.cell (HI.out.later hb5).hs 2
            have pf0 := Blk.frozen (HI.out.later hb5).hs 0
            have pf1 := Blk.frozen (HI.out.later hb5).hs 1
            have pf2 := Blk.frozen (HI.out.later hb5).hs 2
            have pl := Blk.lt (HI.out.later hb5).hs
            simp only [List.getElem?_toArray, List.getElem?_cons_zero, List.getElem?_cons_succ] at p0 p1 p2
            go_wp2
            clear p0 p1 p2 pf0 pf1 pf2 pl
            go_loopw [30] (fun i wr => ∃ (p : Nat) (fa fb : Int), p ≤ h.ws.length ∧ i = .int .i64 ((p : Int) - 1) ∧ Below w4.heap.size w4 wr ∧ Blk wr w4.heap.size 36 #[.int .i64 pa, .int .i64 pb] ∧ Blk wr (w4.heap.size + 1) 36 #[.int .i64 fa, .int .i64 fb] ∧ Aside (FirstIn h.clashM (fun i j => (i = q ∧ p ≤ j) ∨ q + 1 ≤ i) fa fb)) (fun i _ => (intOf i + 1).toNat)
            case atStart => exact ⟨h.ws.length, fa, fb, by omega, rfl, hb5, HP2.out, HF2.out, HFI.out.congr fun i j hm => ⟨fun hs => .inr hs, fun hs => hs.resolve_left (fun ⟨_, hj⟩ => by have := (clashM_lt hm).2; omega)⟩⟩
            case round =>
              clear hb5 HP2 HF2 HFI
              obtain ⟨p, fa, fb, hp, hi, hb5, hP, hF, HFI⟩ := hrel
              have HP2 := Lib.hid hP
              have HF2 := Lib.hid hF
              clear hP hF
              cases p with
              | zero =>
                rw [show ((0 : Nat) : Int) - 1 = -1 by omega] at hi
                subst hi
                go_wp2
                go_roundw
                case rel => exact ⟨q, fa, fb, by omega, rfl, hb5, HP2.out, HF2.out, HFI.out.congr fun i j _ => ⟨fun hs => by omega, fun hs => by omega⟩⟩
                case measure => simp [intOf]
              | succ p =>
                rw [show ((p + 1 : Nat) : Int) - 1 = p by omega] at hi
                subst hi
                have H1 := Lib.hid (HCL.out q p _ (HI.out.later hb5).row (by omega) (by omega))
                have p0 := Blk.cell (HI.out.later hb5).hs 0
                have p1 := Blk.cell (HI.out.later hb5).hs 1
                have p2 := Blk.cell (HI.out.later hb5).hs 2
                have pf0 := Blk.frozen (HI.out.later hb5).hs 0
                have pf1 := Blk.frozen (HI.out.later hb5).hs 1
                have pf2 := Blk.frozen (HI.out.later hb5).hs 2
                have pl := Blk.lt (HI.out.later hb5).hs
                simp only [List.getElem?_toArray, List.getElem?_cons_zero, List.getElem?_cons_succ] at p0 p1 p2
                go_wp2_with fail
                refine H1.out.mono ?_
                rintro e wb ⟨rfl, hbb⟩
                have ehbb := Below.step hb5 hbb
                clear hb5
                have hb5 := ehbb
                clear ehbb
                have ehbb := Lib.hid (Blk.later HP2.out hbb)
                clear HP2
                have HP2 := ehbb
                clear ehbb
                have ehbb := Lib.hid (Blk.later HF2.out hbb)
                clear HF2
                have HF2 := ehbb
                clear ehbb
                clear H1 hbb
                clear p0 p1 p2 pf0 pf1 pf2 pl
                cases hm1 : h.clashM q p
                · have X1 := Lib.hid hm1
                  clear hm1
                  go_wp2
                  go_roundw
                  case rel => exact ⟨p, fa, fb, by omega, rfl, hb5, HP2.out, HF2.out, (HFI.out.miss q p X1.out).congr fun i j _ => ⟨fun hs => by omega, fun hs => by omega⟩⟩
                  case measure => simp [intOf]
                · have X1 := Lib.hid hm1
                  clear hm1
                  have f0 := Blk.cell HF2.out 0
                  have f1 := Blk.cell HF2.out 1
                  have ff0 := Blk.frozen HF2.out 0
                  have ff1 := Blk.frozen HF2.out 1
                  have fl := Blk.lt HF2.out
                  simp only [List.getElem?_toArray, List.getElem?_cons_zero, List.getElem?_cons_succ] at f0 f1
                  go_wp2
                  go_roundw
                  case rel => exact ⟨p, q, p, by omega, rfl, (hb5.setCell (p := ⟨w4.heap.size + 1, 0, none⟩) (by simp) _).setCell (p := ⟨w4.heap.size + 1, 1, none⟩) (by simp) _, (HP2.out.far (p := ⟨w4.heap.size + 1, 0, none⟩) (by simp) _).far (p := ⟨w4.heap.size + 1, 1, none⟩) (by simp) _, (HF2.out.set_ 0 _).set_ 1 _, (FirstIn.hit (S := fun i j => (i = q ∧ p + 1 ≤ j) ∨ q + 1 ≤ i) q p X1.out (fun i j hs hlt => by omega)).congr fun i j _ => ⟨fun hs => by omega, fun hs => by omega⟩⟩
                  case measure => simp [intOf]
end Go.Proofs.Ytjihnnbpfdhceaa

/- laurelkit.Dup, laurellaw08.Own: copies. Conditions: none beyond those that each theorem names. -/
set_option linter.unusedSimpArgs false
set_option linter.unusedVariables false
namespace Go.Proofs.Ytjihnnbpfdhceaa
open Go.RowKit Go.Shelf
attribute [local go_sem] Oper.semAt_some
attribute [local go_sem ↓] Go.wp_at_zero Go.wp_at_succ

/-- append of a slice without elements that has no address leaves a row of one's own as it is. -/
theorem wpList_append_empty {P : Program} {w : World} {ops : Array Oper} {rest : List Oper} {o : Oper} {a : Act} {Q : Exit → Act → World → Prop} (hgd : o.guard = none) (s x : Operand) (t : TypeId)
    (ho : o.op = .call { callee := .builtin .append, args := #[s, x], argTypes := #[t, t] }) (base : Nat) (e : TypeId) (i : TypeInfo) (size c : Nat) (ht : P.underlying t = some (.slice e)) (hi : P.info? e = some i)
    (v : Value) (n : Nat) (xs : List Value) (hs : a.eval s = v) (hown : w.ownsRow base e size v n xs) (hx : a.eval x = .slice none 0 c) (h : wpList P ops Q rest (a.put o.dst v) w) : wpList P ops Q (o :: rest) a w := by
  refine wpList_plain hgd fun K hK => ?_
  have hrun : (Builtin.append_ #[t, t] o.type #[v, .slice none 0 c]).run P w = .ok v w := by
    rcases hown.2 with ⟨rfl, rfl⟩ | ⟨g, cap, cur, rfl, _, _, hnc, _⟩ <;>
      simp [Builtin.append_, run_underlying ht, sizeOf, typeInfo, hi, Builtin.lenOf, Builtin.firstCells, storeCells, *]
  unfold Oper.wp
  simp [execOp, ho, resolve, invoke, builtin, hs, hx, hrun, Result.andThen]
  exact hK _ _ h
theorem own_made {w : World} {e : TypeId} {size n cap : Nat} (cur : Array Value) (hs : cur.size = cap * size) (hc : cap ≤ maxLen) : (w.alloc (.cells cur e)).ownsRow w.heap.size e size (.slice (some ⟨w.heap.size, 0, none⟩) 0 cap) 0 [] :=
  ⟨by simp, .inr ⟨w.heap.size, cap, cur, rfl, Nat.le_refl _, heap_alloc_new w _, Nat.zero_le _, hc, hs, by simp⟩⟩
theorem flat_one {α : Type} (enc : α → List Value) (h : ∀ x, ∀ v ∈ enc x, v.oneCell' = true) (l : List α) : ∀ v ∈ l.flatMap enc, v.oneCell' = true := by
  intro v hv
  obtain ⟨x, _, hx⟩ := List.mem_flatMap.1 hv
  exact h x v hx
theorem wg_one (x : Wg) : ∀ v ∈ x.enc, v.oneCell' = true := by
  intro v hv
  simp only [Wg.enc, List.mem_cons, List.not_mem_nil, or_false] at hv
  rcases hv with rfl | rfl | rfl | rfl | rfl <;> rfl
theorem rat_one (x : Rat2) : ∀ v ∈ x.enc, v.oneCell' = true := by
  intro v hv
  simp only [Rat2.enc, List.mem_cons, List.not_mem_nil, or_false] at hv
  rcases hv with rfl | rfl <;> rfl
/-- The cells of a row, from its address on. -/
theorem RowIn.flat {α : Type} {enc : α → List Value} {k B : Nat} {w : World} {a : Addr} {xs : List α} (hk : ∀ x, (enc x).length = k) (hk0 : 0 < k) (h : RowIn enc k w B (some a) xs) (j : Nat) (v : Value) (hv : (xs.flatMap enc)[j]? = some v) : w.cell? (a.add j) = some v := by
  have hj : j < xs.length * k := by
    have := (List.getElem?_eq_some_iff.1 hv).1
    rwa [flat_len enc k hk] at this
  have hi : j / k < xs.length := Nat.div_lt_of_lt_mul (by rwa [Nat.mul_comm])
  have hm : j % k < k := Nat.mod_lt _ hk0
  have hjj : j = j / k * k + j % k := by rw [Nat.mul_comm]; exact (Nat.div_add_mod j k).symm
  obtain ⟨b, o, hA, hb, hc⟩ := h (j / k) hi
  injection hA with hA
  subst hA
  rw [hjj, flat_get enc k hk xs (j / k) hi (j % k) hm] at hv
  have := hc (j % k) v hv
  rw [addr_addO]
  conv => lhs; rw [hjj]
  rw [← Nat.add_assoc]
  exact this
theorem make_0n (n : Nat) (hn : n ≤ 1000000) (t e : TypeId) (i : TypeInfo) (z : Value) (k : Nat) (ht : Try.prog.underlying t = some (.slice e)) (hi : Try.prog.info? e = some i) (hz : i.zero = some z) (hk : i.size = k) (hb : i.bytes ≤ 1000) :
    ∃ mc : Array Value, mc.size = n * k ∧ ∀ W : World, (Instr.makeSlice t (.int .i64 0) (.int .i64 (n : Int))).run Try.prog W = .ok (.slice (some ⟨W.heap.size, 0, none⟩) 0 n) (W.alloc (.cells mc e)) := by
  refine ⟨madeCells z.cells (n * k), size_madeCells _ _, fun W => ?_⟩
  have := run_make (P := Try.prog) W t e i z ht hi hz .i64 .i64 0 n (by omega) (by omega) (by
    have h1 : (i.bytes : Int) * n ≤ 1000 * 1000000 := Int.mul_le_mul (by omega) (by omega) (by omega) (by omega)
    omega) (by omega)
  simpa [hk] using this

set_option maxRecDepth 100000 in
set_option maxHeartbeats 1000000 in
theorem dupW_any (A : Option Addr) (xs : List Wg) (c : Nat) (w : World) (hr : RowIn Wg.enc 5 w w.heap.size A xs) (hl : xs.length ≤ 1000000) :
    Calls Try.prog 59 #[.slice A xs.length c] w fun e w' => ∃ g cap, e = .returned (.slice (some ⟨g, 0, none⟩) xs.length cap) ∧ w'.ownsRow w.heap.size 55 5 (.slice (some ⟨g, 0, none⟩) xs.length cap) xs.length (xs.flatMap Wg.enc) ∧ Below w.heap.size w w' := by
  obtain ⟨i0, hi0, hz0, hz1, hz2⟩ := info_parts info_wg
  obtain ⟨mc, hms, hmk⟩ := make_0n xs.length hl 23 55 i0 _ 5 Try.underlying23 hi0 hz0 hz1 (by omega)
  have HMS := Lib.hid hms
  clear hms
  have HR := Lib.hid hr
  clear hr
  have hfl := flat_len Wg.enc 5 wg_len xs
  have HFL := Lib.hid hfl
  clear hfl
  cases A with
  | none =>
    have hx0 : xs.length = 0 := by
      rcases Nat.eq_zero_or_pos xs.length with h | h
      · exact h
      · obtain ⟨b, o, hA, _⟩ := HR.out 0 h
        cases hA
    have hxn : xs = [] := List.eq_nil_of_length_eq_zero hx0
    subst hxn
    go_enter Try.func59, Try.ntmps59
    have hown := own_made (w := w) (e := 55) (size := 5) (n := 0) (cap := 0) mc HMS.out (Nat.zero_le _)
    rw [show (((([] : List Wg).length : Nat)) : Int) = 0 from rfl] at hmk
    simp only [List.length_nil] at hmk
    go_wp2_with (at_builtin; refine wpList_append_empty rfl _ _ 23 rfl w.heap.size 55 i0 5 c Try.underlying23 hi0 _ 0 [] rfl hown rfl ?_)
    go_wp2
    go_ret
    exact ⟨w.heap.size, 0, rfl, hown, alc _ _⟩
  | some a =>
    go_enter Try.func59, Try.ntmps59
    have hown := own_made (w := w) (e := 55) (size := 5) (n := 0) (cap := xs.length) mc HMS.out (by unfold maxLen; omega)
    have hb0 := alc w (.cells mc 55)
    have hcl := RowIn.flat wg_len (by decide) (HR.out.below hb0)
    have HC := Lib.hid hcl
    clear hcl
    go_wp2_with (at_builtin; refine wpList_append_own _ rfl _ _ 23 rfl w.heap.size 55 i0 _ 5 40 Try.underlying23 hi0 hz0 hz1 hz2 rfl (by decide) _ 0 [] rfl hown a xs.length c (xs.flatMap Wg.enc) rfl HFL.out HC.out (flat_one Wg.enc wg_one xs) ?c3 ?c4 ?c5 ?_)
    case c3 => unfold maxLen; omega
    case c4 => omega
    case c5 => simp
    intro v' wn hown' hgrow hnil
    try rw [Nat.zero_add] at hown'
    try rw [List.nil_append] at hown'
    have hz := hgrow.size
    rcases hown'.2 with ⟨rfl, _⟩ | ⟨g, cap, cur, rfl, r1, r2⟩
    · exact (hnil rfl).elim
    · have HO := Lib.hid hown'
      have hB : Below w.heap.size w wn := hb0.grown hgrow (by simp) (fun g hg => by simp [Value.ownBlock] at hg; omega)
      clear hown' hgrow hnil r2
      go_wp2
      go_ret
      exact ⟨g, cap, rfl, HO.out, hB⟩
set_option maxRecDepth 100000 in
set_option maxHeartbeats 1000000 in
theorem dupR_any (A : Option Addr) (xs : List Rat2) (c : Nat) (w : World) (hr : RowIn Rat2.enc 2 w w.heap.size A xs) (hl : xs.length ≤ 1000000) :
    Calls Try.prog 35 #[.slice A xs.length c] w fun e w' => ∃ g cap, e = .returned (.slice (some ⟨g, 0, none⟩) xs.length cap) ∧ w'.ownsRow w.heap.size 43 2 (.slice (some ⟨g, 0, none⟩) xs.length cap) xs.length (xs.flatMap Rat2.enc) ∧ Below w.heap.size w w' := by
  obtain ⟨i0, hi0, hz0, hz1, hz2⟩ := info_parts info_ratio
  obtain ⟨mc, hms, hmk⟩ := make_0n xs.length hl 26 43 i0 _ 2 Try.underlying26 hi0 hz0 hz1 (by omega)
  have HMS := Lib.hid hms
  clear hms
  have HR := Lib.hid hr
  clear hr
  have hfl := flat_len Rat2.enc 2 rat_len xs
  have HFL := Lib.hid hfl
  clear hfl
  cases A with
  | none =>
    have hx0 : xs.length = 0 := by
      rcases Nat.eq_zero_or_pos xs.length with h | h
      · exact h
      · obtain ⟨b, o, hA, _⟩ := HR.out 0 h
        cases hA
    have hxn : xs = [] := List.eq_nil_of_length_eq_zero hx0
    subst hxn
    go_enter Try.func35, Try.ntmps35
    have hown := own_made (w := w) (e := 43) (size := 2) (n := 0) (cap := 0) mc HMS.out (Nat.zero_le _)
    rw [show (((([] : List Rat2).length : Nat)) : Int) = 0 from rfl] at hmk
    simp only [List.length_nil] at hmk
    go_wp2_with (at_builtin; refine wpList_append_empty rfl _ _ 26 rfl w.heap.size 43 i0 2 c Try.underlying26 hi0 _ 0 [] rfl hown rfl ?_)
    go_wp2
    go_ret
    exact ⟨w.heap.size, 0, rfl, hown, alc _ _⟩
  | some a =>
    go_enter Try.func35, Try.ntmps35
    have hown := own_made (w := w) (e := 43) (size := 2) (n := 0) (cap := xs.length) mc HMS.out (by unfold maxLen; omega)
    have hb0 := alc w (.cells mc 43)
    have hcl := RowIn.flat rat_len (by decide) (HR.out.below hb0)
    have HC := Lib.hid hcl
    clear hcl
    go_wp2_with (at_builtin; refine wpList_append_own _ rfl _ _ 26 rfl w.heap.size 43 i0 _ 2 16 Try.underlying26 hi0 hz0 hz1 hz2 rfl (by decide) _ 0 [] rfl hown a xs.length c (xs.flatMap Rat2.enc) rfl HFL.out HC.out (flat_one Rat2.enc rat_one xs) ?c3 ?c4 ?c5 ?_)
    case c3 => unfold maxLen; omega
    case c4 => omega
    case c5 => simp
    intro v' wn hown' hgrow hnil
    try rw [Nat.zero_add] at hown'
    try rw [List.nil_append] at hown'
    have hz := hgrow.size
    rcases hown'.2 with ⟨rfl, _⟩ | ⟨g, cap, cur, rfl, r1, r2⟩
    · exact (hnil rfl).elim
    · have HO := Lib.hid hown'
      have hB : Below w.heap.size w wn := hb0.grown hgrow (by simp) (fun g hg => by simp [Value.ownBlock] at hg; omega)
      clear hown' hgrow hnil r2
      go_wp2
      go_ret
      exact ⟨g, cap, rfl, HO.out, hB⟩

set_option maxHeartbeats 1000000 in
theorem own_any (h : Hs) (A : Option Addr) (c : Nat) (w : World) (hr : RowIn Wg.enc 5 w w.heap.size A h.ws) (hl : h.ws.length ≤ 1000000) :
    Calls Try.prog 21 #[h.val A c] w fun e w' => ∃ g cap, e = .returned (h.val (some ⟨g, 0, none⟩) cap) ∧ w'.ownsRow w.heap.size 55 5 (.slice (some ⟨g, 0, none⟩) h.ws.length cap) h.ws.length (h.ws.flatMap Wg.enc) ∧ Below w.heap.size w w' := by
  have HD := Lib.hid (fun V hr => dupW_any A h.ws c V hr hl)
  have HR := Lib.hid hr
  clear hr
  unfold Hs.val
  go_enter Try.func21, Try.ntmps21
  go_wp2_with fail
  have hr0 := ((Blk.new w 25 #[.int .i64 h.months, .int .i64 h.peak, .slice A h.ws.length c]).alloc (.cells #[.int .i64 0, .int .i64 0, .slice none 0 0] 25))
  have hr1 := Blk.new (w.alloc (.cells #[.int .i64 h.months, .int .i64 h.peak, .slice A h.ws.length c] 25)) 25 #[.int .i64 0, .int .i64 0, .slice none 0 0]
  rw [World.size_alloc] at hr1
  have hB : Below w.heap.size w ((w.alloc (.cells #[.int .i64 h.months, .int .i64 h.peak, .slice A h.ws.length c] 25)).alloc (.cells #[.int .i64 0, .int .i64 0, .slice none 0 0] 25)) := Below.step (alc _ _) (alc _ _)
  have hsz : ((w.alloc (.cells #[.int .i64 h.months, .int .i64 h.peak, .slice A h.ws.length c] 25)).alloc (.cells #[.int .i64 0, .int .i64 0, .slice none 0 0] 25)).heap.size = w.heap.size + 1 + 1 := by simp
  generalize (w.alloc (.cells #[.int .i64 h.months, .int .i64 h.peak, .slice A h.ws.length c] 25)).alloc (.cells #[.int .i64 0, .int .i64 0, .slice none 0 0] 25) = w1 at hr0 hr1 hB hsz ⊢
  have H1 := Lib.hid (HD.out w1 (HR.out.later hB))
  have HA := Lib.hid hr0
  have HB := Lib.hid hr1
  have HSZ := Lib.hid hsz
  clear hr0 hr1 hsz
  refine H1.out.mono ?_
  rintro e w2 ⟨g, cap, rfl, hown, hb2⟩
  have ehb2 := Below.step hB hb2
  clear hB
  have hB := ehb2
  clear ehb2
  have ehb2 := Lib.hid (Blk.later HA.out hb2)
  clear HA
  have HA := ehb2
  clear ehb2
  have ehb2 := Lib.hid (Blk.later HB.out hb2)
  clear HB
  have HB := ehb2
  clear ehb2
  have HO := Lib.hid hown
  have hg : w.heap.size + 1 + 1 ≤ g := by have := (hown.lt g rfl).1; have := HSZ.out; omega
  clear hown hb2 H1
  have p0 := Blk.cell HA.out 0
  have p1 := Blk.cell HA.out 1
  have p2 := Blk.cell HA.out 2
  have pf0 := Blk.frozen HA.out 0
  have pf1 := Blk.frozen HA.out 1
  have pf2 := Blk.frozen HA.out 2
  have pl := Blk.lt HA.out
  simp only [List.getElem?_toArray, List.getElem?_cons_zero, List.getElem?_cons_succ] at p0 p1 p2
  have q0 := Blk.cell HB.out 0
  have q1 := Blk.cell HB.out 1
  have q2 := Blk.cell HB.out 2
  have qf0 := Blk.frozen HB.out 0
  have qf1 := Blk.frozen HB.out 1
  have qf2 := Blk.frozen HB.out 2
  have ql := Blk.lt HB.out
  simp only [List.getElem?_toArray, List.getElem?_cons_zero, List.getElem?_cons_succ] at q0 q1 q2
  go_wp2
  refine bodyPost_ret (v := .agg #[.int .i64 h.months, .int .i64 h.peak, .slice (some ⟨g, 0, none⟩) h.ws.length cap]) ?_ rfl ⟨g, cap, rfl, ?_, ?_⟩
  · have hY2 := (((HB.out.far (p := ⟨w.heap.size, 2, none⟩) (by simp) (.slice (some ⟨g, 0, none⟩) h.ws.length cap)).set_ 0 (.int .i64 h.months)).set_ 1 (.int .i64 h.peak)).set_ 2 (.slice (some ⟨g, 0, none⟩) h.ws.length cap)
    simp only [List.setIfInBounds_toArray, List.set_cons_zero, List.set_cons_succ] at hY2
    have e0 := Blk.cell hY2 0
    have e1 := Blk.cell hY2 1
    have e2 := Blk.cell hY2 2
    have ef0 := Blk.frozen hY2 0
    have ef1 := Blk.frozen hY2 1
    have ef2 := Blk.frozen hY2 2
    have el := Blk.lt hY2
    simp only [List.getElem?_toArray, List.getElem?_cons_zero, List.getElem?_cons_succ] at e0 e1 e2
    simp [results, Try.results21, go_sem, e0, e1, e2]
  · refine ownsRow_base' (ownsRow_at HO.out (fun k hk h1 h2 => ?_)) (base := w1.heap.size) (by have := HSZ.out; omega)
    have hkg : g = k := by simpa [Value.ownBlock] using hk
    subst hkg
    exact (((Below.heap_setCell _ ⟨w.heap.size + 1, 2, none⟩ _ g (by simp; omega)).trans (Below.heap_setCell _ ⟨w.heap.size + 1, 1, none⟩ _ g (by simp; omega))).trans (Below.heap_setCell _ ⟨w.heap.size + 1, 0, none⟩ _ g (by simp; omega))).trans (Below.heap_setCell _ ⟨w.heap.size, 2, none⟩ _ g (by simp; omega))
  · exact (((hB.setCell (p := ⟨w.heap.size, 2, none⟩) (Nat.le_refl _) _).setCell (p := ⟨w.heap.size + 1, 0, none⟩) (by simp) _).setCell (p := ⟨w.heap.size + 1, 1, none⟩) (by simp) _).setCell (p := ⟨w.heap.size + 1, 2, none⟩) (by simp) _
end Go.Proofs.Ytjihnnbpfdhceaa
