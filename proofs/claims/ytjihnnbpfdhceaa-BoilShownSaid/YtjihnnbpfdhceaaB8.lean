/- laurellaw08.BoilRow. Conditions: none beyond those that each theorem names. -/
import Derived.Test.YtjihnnbpfdhceaaM2
import Derived.Deep.CutRange
import Derived.Deep.Cut
set_option linter.unusedSimpArgs false
set_option linter.unusedVariables false
namespace Go.Proofs.Ytjihnnbpfdhceaa
open Go.RowKit Go.Shelf
attribute [local go_sem] Oper.semAt_some
attribute [local go_sem ↓] Go.wp_at_zero Go.wp_at_succ

theorem lawclashM_any (h : Hs) (A : Option Addr) (c : Nat) (a b : Nat) (w : World) (hr : RowIn Wg.enc 5 w w.heap.size A h.ws) (hok : ∀ x ∈ h.ws, x.Ok) (ha : a < h.ws.length) (hb : b < h.ws.length) (hl : h.ws.length ≤ 1000000) :
    Calls Try.prog 12 #[h.val A c, .int .i64 a, .int .i64 b] w fun e w' => e = .returned (.bool (h.clashM a b)) ∧ Below w.heap.size w w' := by
  rw [clashM_in h ha hb]
  exact lawclash_any h A c a b w hr hok ha hb hl

/-- A house that a law has made. -/
structure LawHs (h : Hs) (A1 : Option Addr) (c1 : Nat) (g : Nat) (W : World) : Prop where
  hs : Blk W g 25 #[.int .i64 h.months, .int .i64 h.peak, .slice A1 h.ws.length c1]
  row : RowIn Wg.enc 5 W W.heap.size A1 h.ws
theorem LawHs.later {h : Hs} {A1 : Option Addr} {c1 : Nat} {g : Nat} {W W' : World} (i : LawHs h A1 c1 g W) (hb : Below W.heap.size W W') : LawHs h A1 c1 g W' := ⟨i.hs.later hb, i.row.later hb⟩

set_option maxRecDepth 100000 in
set_option maxHeartbeats 4000000 in
theorem boilRow_any (A : Option Addr) (xs : List Int) (c : Nat) (n1 n2 n3 : Nat) (w : World) (hr : RowIn byteEnc 1 w w.heap.size A xs) (hl : xs.length ≤ 140737488355328) (hn1 : n1 ≤ 255) (hn2 : n2 ≤ 255) (hn3 : n3 ≤ 255) :
    Calls Try.prog 3 #[.slice A xs.length c, .int .u8 n1, .int .u8 n2, .int .u8 n3] w fun e w' => e = .returned (.bool true) ∧ Below w.heap.size w w' := by
  have HP := Lib.hid (pile_any A xs c w hr)
  have HMD := Lib.hid (fun V h => made_any A xs w.heap.size 12 9 2 V h hl (by omega) (by omega) (by omega) (by omega) (by omega))
  clear hr hl
  go_enter Try.func3, Try.ntmps3
  go_wp2_with fail
  refine HP.out.mono ?_
  rintro e w1 ⟨rfl, hh1, hb1⟩
  go_wp2_with fail
  refine (HMD.out _ hh1).mono ?_
  rintro e w2 ⟨h, r, A1, cp, A2, nn, cq, rfl, hmn, hrw, hrr, hcg, hhp, hmk⟩
  have hB : Below w.heap.size w w2 := Chg.below hcg hb1 hb1.size (by simp)
  have hk := hmk.check (by omega) (by omega)
  have hlen := check_len hk
  have hmo := check_months hk
  have hpk := check_peak hk
  have HK := Lib.hid hk
  have HOK := Lib.hid (check_ok hk)
  obtain ⟨hmo1, hmo2⟩ := hmo
  obtain ⟨hpk1, hpk2⟩ := hpk
  clear hh1 hb1 hmn hrr hcg hhp hmk hk
  unfold Hs.val
  go_wp2
  have hb3 := alc w2 (.cells #[.int .i64 h.months, .int .i64 h.peak, .slice A1 h.ws.length cp] 25)
  have HH := Lib.hid (show LawHs h A1 cp w2.heap.size (w2.alloc (.cells #[.int .i64 h.months, .int .i64 h.peak, .slice A1 h.ws.length cp] 25)) from ⟨Blk.new _ _ _, hrw.later hb3⟩)
  have ehb3 := Below.step hB hb3
  clear hB
  have hB := ehb3
  clear ehb3
  generalize w2.alloc (.cells #[.int .i64 h.months, .int .i64 h.peak, .slice A1 h.ws.length cp] 25) = w3 at HH hB ⊢
  generalize w2.heap.size = g at HH ⊢
  clear hb3 hrw
  have HCL := Lib.hid (fun (i j : Nat) (V : World) (hr : RowIn Wg.enc 5 V V.heap.size A1 h.ws) (hi : i < h.ws.length) (hj : j < h.ws.length) => lawclashM_any h A1 cp i j V hr HOK.out hi hj (by omega))
  have HTR := Lib.hid (fun i j k => clashM_trans (i := i) (j := j) (k := k) HK.out)
  unfold Hs.val at HCL
  go_loopw [40] (fun i wr => ∃ q : Nat, q ≤ h.ws.length ∧ i = .int .i64 q ∧ Below w3.heap.size w3 wr) (fun i _ => (h.ws.length - intOf i).toNat)
  case atStart => exact ⟨0, by omega, rfl, Below.refl _ _⟩
  case round =>
    obtain ⟨q, hq, rfl, hb⟩ := hrel
    by_cases hlt : q < h.ws.length
    · obtain ⟨wa, rfl⟩ : ∃ wa : World, wa = wr := ⟨_, rfl⟩
      have p0 := Blk.cell (HH.out.later hb).hs 0
      have p1 := Blk.cell (HH.out.later hb).hs 1
      have p2 := Blk.cell (HH.out.later hb).hs 2
      have pf0 := Blk.frozen (HH.out.later hb).hs 0
      have pf1 := Blk.frozen (HH.out.later hb).hs 1
      have pf2 := Blk.frozen (HH.out.later hb).hs 2
      have pl := Blk.lt (HH.out.later hb).hs
      simp only [List.getElem?_toArray, List.getElem?_cons_zero, List.getElem?_cons_succ] at p0 p1 p2
      go_wp2
      clear p0 p1 p2 pf0 pf1 pf2 pl
      go_loopw [46] (fun i wr => ∃ q2 : Nat, q2 ≤ h.ws.length ∧ i = .int .i64 q2 ∧ Below w3.heap.size w3 wr) (fun i _ => (h.ws.length - intOf i).toNat)
      case atStart => exact ⟨0, by omega, rfl, hb⟩
      case round =>
        clear hb
        obtain ⟨q2, hq2, rfl, hb⟩ := hrel
        by_cases hlt2 : q2 < h.ws.length
        · obtain ⟨wa2, rfl⟩ : ∃ wa : World, wa = wr := ⟨_, rfl⟩
          have p0 := Blk.cell (HH.out.later hb).hs 0
          have p1 := Blk.cell (HH.out.later hb).hs 1
          have p2 := Blk.cell (HH.out.later hb).hs 2
          have pf0 := Blk.frozen (HH.out.later hb).hs 0
          have pf1 := Blk.frozen (HH.out.later hb).hs 1
          have pf2 := Blk.frozen (HH.out.later hb).hs 2
          have pl := Blk.lt (HH.out.later hb).hs
          simp only [List.getElem?_toArray, List.getElem?_cons_zero, List.getElem?_cons_succ] at p0 p1 p2
          go_wp2
          clear p0 p1 p2 pf0 pf1 pf2 pl
          go_loopw [52] (fun i wr => ∃ q3 : Nat, q3 ≤ h.ws.length ∧ i = .int .i64 q3 ∧ Below w3.heap.size w3 wr) (fun i _ => (h.ws.length - intOf i).toNat)
          case atStart => exact ⟨0, by omega, rfl, hb⟩
          case round =>
            clear hb
            obtain ⟨q3, hq3, rfl, hb⟩ := hrel
            by_cases hlt3 : q3 < h.ws.length
            · have H1 := Lib.hid (HCL.out q q2 _ (HH.out.later hb).row hlt hlt2)
              have p0 := Blk.cell (HH.out.later hb).hs 0
              have p1 := Blk.cell (HH.out.later hb).hs 1
              have p2 := Blk.cell (HH.out.later hb).hs 2
              have pf0 := Blk.frozen (HH.out.later hb).hs 0
              have pf1 := Blk.frozen (HH.out.later hb).hs 1
              have pf2 := Blk.frozen (HH.out.later hb).hs 2
              have pl := Blk.lt (HH.out.later hb).hs
              simp only [List.getElem?_toArray, List.getElem?_cons_zero, List.getElem?_cons_succ] at p0 p1 p2
              go_wp2_with fail
              refine H1.out.mono ?_
              rintro e wb ⟨rfl, hbb⟩
              have ehbb := Below.step hb hbb
              clear hb
              have hb := ehbb
              clear ehbb
              clear H1
              clear p0 p1 p2 pf0 pf1 pf2 pl
              cases hm1 : h.clashM q q2
              · have X1 := Lib.hid hm1
                clear hm1
                go_wp2
                go_roundw
                case rel => exact ⟨q3 + 1, by omega, by go_num, hb⟩
                case measure => simp [intOf]; omega
              · have H1 := Lib.hid (HCL.out q2 q3 _ (HH.out.later hb).row hlt2 hlt3)
                have p0 := Blk.cell (HH.out.later hb).hs 0
                have p1 := Blk.cell (HH.out.later hb).hs 1
                have p2 := Blk.cell (HH.out.later hb).hs 2
                have pf0 := Blk.frozen (HH.out.later hb).hs 0
                have pf1 := Blk.frozen (HH.out.later hb).hs 1
                have pf2 := Blk.frozen (HH.out.later hb).hs 2
                have pl := Blk.lt (HH.out.later hb).hs
                simp only [List.getElem?_toArray, List.getElem?_cons_zero, List.getElem?_cons_succ] at p0 p1 p2
                have X1 := Lib.hid hm1
                clear hm1 hbb
                go_wp2_with fail
                refine H1.out.mono ?_
                rintro e wc ⟨rfl, hbb⟩
                have ehbb := Below.step hb hbb
                clear hb
                have hb := ehbb
                clear ehbb
                clear H1
                clear p0 p1 p2 pf0 pf1 pf2 pl
                cases hm1 : h.clashM q2 q3
                · have X2 := Lib.hid hm1
                  clear hm1
                  go_wp2
                  go_roundw
                  case rel => exact ⟨q3 + 1, by omega, by go_num, hb⟩
                  case measure => simp [intOf]; omega
                · have H1 := Lib.hid (HCL.out q q3 _ (HH.out.later hb).row hlt hlt3)
                  rw [HTR.out _ _ _ X1.out hm1] at H1
                  have X2 := Lib.hid hm1
                  have p0 := Blk.cell (HH.out.later hb).hs 0
                  have p1 := Blk.cell (HH.out.later hb).hs 1
                  have p2 := Blk.cell (HH.out.later hb).hs 2
                  have pf0 := Blk.frozen (HH.out.later hb).hs 0
                  have pf1 := Blk.frozen (HH.out.later hb).hs 1
                  have pf2 := Blk.frozen (HH.out.later hb).hs 2
                  have pl := Blk.lt (HH.out.later hb).hs
                  simp only [List.getElem?_toArray, List.getElem?_cons_zero, List.getElem?_cons_succ] at p0 p1 p2
                  clear hm1 hbb
                  go_wp2_with fail
                  refine H1.out.mono ?_
                  rintro e wd ⟨rfl, hbb⟩
                  have ehbb := Below.step hb hbb
                  clear hb
                  have hb := ehbb
                  clear ehbb
                  clear H1
                  clear p0 p1 p2 pf0 pf1 pf2 pl
                  go_wp2
                  go_roundw
                  case rel => exact ⟨q3 + 1, by omega, by go_num, hb⟩
                  case measure => simp [intOf]; omega
            · obtain rfl : h.ws.length = q3 := by omega
              go_wp2
              go_roundw
              case rel => exact ⟨q2 + 1, by omega, by go_num, hb⟩
              case measure => simp [intOf]; omega
        · have hq2e : q2 = h.ws.length := by omega
          subst hq2e
          go_wp2
          go_roundw
          case rel => exact ⟨q + 1, by omega, by go_num, hb⟩
          case measure => simp [intOf]; omega
    · have hqe : q = h.ws.length := by omega
      subst hqe
      have p0 := Blk.cell (HH.out.later hb).hs 0
      have p1 := Blk.cell (HH.out.later hb).hs 1
      have p2 := Blk.cell (HH.out.later hb).hs 2
      have pf0 := Blk.frozen (HH.out.later hb).hs 0
      have pf1 := Blk.frozen (HH.out.later hb).hs 1
      have pf2 := Blk.frozen (HH.out.later hb).hs 2
      have pl := Blk.lt (HH.out.later hb).hs
      simp only [List.getElem?_toArray, List.getElem?_cons_zero, List.getElem?_cons_succ] at p0 p1 p2
      go_wp2
      go_quiet (fail)
      have hbb : Below wr.heap.size wr (wr.drewN nq) := below_drewN (Below.refl _ _) _
      generalize wr.drewN nq = wb at hbb ⊢
      have ehbb := Below.step hb hbb
      clear hb
      have hb := ehbb
      clear ehbb
      clear p0 p1 p2 pf0 pf1 pf2 pl
      have hx1 : 0 ≤ (n1 : Int) % h.months := Int.emod_nonneg _ (by omega)
      have hx2 : (n1 : Int) % h.months < h.months := Int.emod_lt_of_pos _ (by omega)
      have hy1 : 0 ≤ (n2 : Int) % h.months := Int.emod_nonneg _ (by omega)
      have hy2 : (n2 : Int) % h.months < h.months := Int.emod_lt_of_pos _ (by omega)
      have hz1 : 0 ≤ (n3 : Int) % h.months := Int.emod_nonneg _ (by omega)
      have hz2 : (n3 : Int) % h.months < h.months := Int.emod_lt_of_pos _ (by omega)
      generalize (n1 : Int) % h.months = x at hx1 hx2 ⊢
      generalize (n2 : Int) % h.months = y at hy1 hy2 ⊢
      generalize (n3 : Int) % h.months = z at hz1 hz2 ⊢
      have HUN := Lib.hid (fun (a b : Int) (V : World) (hr : RowIn Wg.enc 5 V V.heap.size A1 h.ws) (h1 : 0 ≤ a) (h2 : a < h.months) (h3 : 0 ≤ b) (h4 : b < h.months) => under_pub h A1 cp a b V hr HK.out (by simp [Hs.month, inB]; omega) (by simp [Hs.month, inB]; omega))
      unfold Hs.val at HUN
      have H1 := Lib.hid (HUN.out x y _ (HH.out.later hb).row hx1 hx2 hy1 hy2)
      have p0 := Blk.cell (HH.out.later hb).hs 0
      have p1 := Blk.cell (HH.out.later hb).hs 1
      have p2 := Blk.cell (HH.out.later hb).hs 2
      have pf0 := Blk.frozen (HH.out.later hb).hs 0
      have pf1 := Blk.frozen (HH.out.later hb).hs 1
      have pf2 := Blk.frozen (HH.out.later hb).hs 2
      have pl := Blk.lt (HH.out.later hb).hs
      simp only [List.getElem?_toArray, List.getElem?_cons_zero, List.getElem?_cons_succ] at p0 p1 p2
      clear hbb
      go_wp2_with fail
      refine H1.out.mono ?_
      rintro e wc ⟨rfl, hbb⟩
      have ehbb := Below.step hb hbb
      clear hb
      have hb := ehbb
      clear ehbb
      clear H1
      clear p0 p1 p2 pf0 pf1 pf2 pl
      have p0 := Blk.cell (HH.out.later hb).hs 0
      have p1 := Blk.cell (HH.out.later hb).hs 1
      have p2 := Blk.cell (HH.out.later hb).hs 2
      have pf0 := Blk.frozen (HH.out.later hb).hs 0
      have pf1 := Blk.frozen (HH.out.later hb).hs 1
      have pf2 := Blk.frozen (HH.out.later hb).hs 2
      have pl := Blk.lt (HH.out.later hb).hs
      simp only [List.getElem?_toArray, List.getElem?_cons_zero, List.getElem?_cons_succ] at p0 p1 p2
      clear hbb
      have H1 := Lib.hid (HUN.out y z _ (HH.out.later hb).row hy1 hy2 hz1 hz2)
      go_wp2_with fail
      refine H1.out.mono ?_
      rintro e wd ⟨rfl, hbb⟩
      have ehbb := Below.step hb hbb
      clear hb
      have hb := ehbb
      clear ehbb
      clear H1
      clear p0 p1 p2 pf0 pf1 pf2 pl
      have p0 := Blk.cell (HH.out.later hb).hs 0
      have p1 := Blk.cell (HH.out.later hb).hs 1
      have p2 := Blk.cell (HH.out.later hb).hs 2
      have pf0 := Blk.frozen (HH.out.later hb).hs 0
      have pf1 := Blk.frozen (HH.out.later hb).hs 1
      have pf2 := Blk.frozen (HH.out.later hb).hs 2
      have pl := Blk.lt (HH.out.later hb).hs
      simp only [List.getElem?_toArray, List.getElem?_cons_zero, List.getElem?_cons_succ] at p0 p1 p2
      clear hbb
      have H1 := Lib.hid (HUN.out x z _ (HH.out.later hb).row hx1 hx2 hz1 hz2)
      go_wp2_with fail
      refine H1.out.mono ?_
      rintro e we ⟨rfl, hbb⟩
      have ehbb := Below.step hb hbb
      clear hb
      have hb := ehbb
      clear ehbb
      clear H1
      clear p0 p1 p2 pf0 pf1 pf2 pl
      have p0 := Blk.cell (HH.out.later hb).hs 0
      have p1 := Blk.cell (HH.out.later hb).hs 1
      have p2 := Blk.cell (HH.out.later hb).hs 2
      have pf0 := Blk.frozen (HH.out.later hb).hs 0
      have pf1 := Blk.frozen (HH.out.later hb).hs 1
      have pf2 := Blk.frozen (HH.out.later hb).hs 2
      have pl := Blk.lt (HH.out.later hb).hs
      simp only [List.getElem?_toArray, List.getElem?_cons_zero, List.getElem?_cons_succ] at p0 p1 p2
      clear hbb
      have H1 := Lib.hid (HUN.out x h.peak _ (HH.out.later hb).row hx1 hx2 hpk1 hpk2)
      rw [under_peak] at H1
      go_wp2_with fail
      refine H1.out.mono ?_
      rintro e wf ⟨rfl, hbb⟩
      have ehbb := Below.step hb hbb
      clear hb
      have hb := ehbb
      clear ehbb
      clear H1
      clear p0 p1 p2 pf0 pf1 pf2 pl
      have p0 := Blk.cell (HH.out.later hb).hs 0
      have p1 := Blk.cell (HH.out.later hb).hs 1
      have p2 := Blk.cell (HH.out.later hb).hs 2
      have pf0 := Blk.frozen (HH.out.later hb).hs 0
      have pf1 := Blk.frozen (HH.out.later hb).hs 1
      have pf2 := Blk.frozen (HH.out.later hb).hs 2
      have pl := Blk.lt (HH.out.later hb).hs
      simp only [List.getElem?_toArray, List.getElem?_cons_zero, List.getElem?_cons_succ] at p0 p1 p2
      clear hbb
      have H1 := Lib.hid (HUN.out y x _ (HH.out.later hb).row hy1 hy2 hx1 hx2)
      go_wp2_with fail
      refine H1.out.mono ?_
      rintro e wg ⟨rfl, hbb⟩
      have ehbb := Below.step hb hbb
      clear hb
      have hb := ehbb
      clear ehbb
      clear H1
      clear p0 p1 p2 pf0 pf1 pf2 pl
      have p0 := Blk.cell (HH.out.later hb).hs 0
      have p1 := Blk.cell (HH.out.later hb).hs 1
      have p2 := Blk.cell (HH.out.later hb).hs 2
      have pf0 := Blk.frozen (HH.out.later hb).hs 0
      have pf1 := Blk.frozen (HH.out.later hb).hs 1
      have pf2 := Blk.frozen (HH.out.later hb).hs 2
      have pl := Blk.lt (HH.out.later hb).hs
      simp only [List.getElem?_toArray, List.getElem?_cons_zero, List.getElem?_cons_succ] at p0 p1 p2
      clear hbb
      have F1 := fun a b => Lib.hid (under_trans h (a := x) (b := y) (c := z) a b)
      have F2 := fun a b => Lib.hid (under_antisymm h (a := x) (b := y) a b)
      generalize h.under x y = bxy at F1 F2 ⊢
      generalize h.under y z = byz at F1 F2 ⊢
      generalize h.under x z = bxz at F1 F2 ⊢
      generalize h.under y x = byx at F1 F2 ⊢
      go_upto_region 22 with fail
      go_cut [168] from 126 to 168 (fun c wx => c = .bool false ∧ wx = wg)
      case first =>
        cases bxy
        · clear F1 F2
          go_wp2
          go_meet
          exact ⟨rfl, rfl⟩
        · cases byx
          · clear F2
            cases byz
            · clear F1
              go_wp2
              go_meet
              exact ⟨rfl, rfl⟩
            · obtain rfl := (F1 rfl rfl).out
              clear F1
              go_wp2
              go_meet
              exact ⟨rfl, rfl⟩
          · obtain rfl : x = y := (F2 rfl rfl).out
            clear F2
            cases byz
            · clear F1
              go_wp2
              go_meet
              exact ⟨rfl, rfl⟩
            · obtain rfl := (F1 rfl rfl).out
              clear F1
              go_wp2
              go_meet
              exact ⟨rfl, rfl⟩
      case rest =>
        obtain ⟨rfl, rfl⟩ := hcut
        have HCH := Lib.hid (fun V hr => clash_any h A1 cp V hr HK.out)
        unfold Hs.val at HCH
        go_wp2_with fail
        clear p0 p1 p2 pf0 pf1 pf2 pl
        refine (HCH.out _ (HH.out.later hb).row).mono ?_
        rintro e w4 ⟨hcr, hbb⟩
        have ehbb := Below.step hb hbb
        clear hb
        have hb := ehbb
        clear ehbb
        clear HCH hbb
        obtain ⟨pa, pb, ee, rfl, hee⟩ := hcr.open_
        have HE := Lib.hid hee
        clear hcr hee
        have HI := Lib.hid (HH.out.later hb)
        have p0 := Blk.cell HI.out.hs 0
        have p1 := Blk.cell HI.out.hs 1
        have p2 := Blk.cell HI.out.hs 2
        have pf0 := Blk.frozen HI.out.hs 0
        have pf1 := Blk.frozen HI.out.hs 1
        have pf2 := Blk.frozen HI.out.hs 2
        have pl := Blk.lt HI.out.hs
        simp only [List.getElem?_toArray, List.getElem?_cons_zero, List.getElem?_cons_succ] at p0 p1 p2
        go_wp2
        clear p0 p1 p2 pf0 pf1 pf2 pl
        have hP := ((Blk.new w4 36 #[.int .i64 pa, .int .i64 pb]).alloc (.cells #[.int .i64 (-1), .int .i64 0] 36))
        have hF := Blk.new (w4.alloc (.cells #[.int .i64 pa, .int .i64 pb] 36)) 36 #[.int .i64 (-1), .int .i64 0]
        have hb5 : Below w4.heap.size w4 ((w4.alloc (.cells #[.int .i64 pa, .int .i64 pb] 36)).alloc (.cells #[.int .i64 (-1), .int .i64 0] 36)) := Below.step (alc _ _) (alc _ _)
        rw [World.size_alloc] at hF
        generalize (w4.alloc (.cells #[.int .i64 pa, .int .i64 pb] 36)).alloc (.cells #[.int .i64 (-1), .int .i64 0] 36) = w5 at hP hF hb5 ⊢
        go_loopw [29] (fun i wr => ∃ (q : Nat) (fa fb : Int), q ≤ h.ws.length ∧ i = .int .i64 ((q : Int) - 1) ∧ Below w4.heap.size w4 wr ∧ Blk wr w4.heap.size 36 #[.int .i64 pa, .int .i64 pb] ∧ Blk wr (w4.heap.size + 1) 36 #[.int .i64 fa, .int .i64 fb] ∧ Aside (FirstIn h.clashM (fun i j => q ≤ i) fa fb)) (fun i _ => (intOf i + 1).toNat)
        case atStart => exact ⟨h.ws.length, -1, 0, by omega, rfl, hb5, hP, hF, .inl ⟨rfl, fun i j hi => by
          cases hm : h.clashM i j
          · rfl
          · have := (clashM_lt hm).1; omega⟩⟩
        case round =>
          clear hP hF hb5
          obtain ⟨q, fa, fb, hq, hi, hb5, hP, hF, HFI⟩ := hrel
          have HP2 := Lib.hid hP
          have HF2 := Lib.hid hF
          clear hP hF
          cases q with
          | zero =>
            rw [show ((0 : Nat) : Int) - 1 = -1 by omega] at hi
            subst hi
            have hBA : Below w.heap.size w wr := Below.step hB (Below.step hb hb5)
            rcases HE.out with ⟨rfl, hpa, hfi⟩ | ⟨rfl, hno⟩
            · obtain ⟨e1, e2⟩ := FirstIn.uniq HFI.out (hfi.congr fun i j hm => ⟨fun _ => Nat.zero_le _, fun _ => clashM_lt hm⟩)
              have e3 := e2 (by omega)
              subst e1
              subst e3
              have hqp := fun W => eq_pair W fa fb fa fb
              simp only [beq_self_eq_true, Bool.and_self] at hqp
              clear e2 hfi HE
              have f0 := Blk.cell HF2.out 0
              have f1 := Blk.cell HF2.out 1
              have ff0 := Blk.frozen HF2.out 0
              have ff1 := Blk.frozen HF2.out 1
              have fl := Blk.lt HF2.out
              simp only [List.getElem?_toArray, List.getElem?_cons_zero, List.getElem?_cons_succ] at f0 f1
              have p0 := Blk.cell HP2.out 0
              have p1 := Blk.cell HP2.out 1
              have pf0 := Blk.frozen HP2.out 0
              have pf1 := Blk.frozen HP2.out 1
              have pl := Blk.lt HP2.out
              simp only [List.getElem?_toArray, List.getElem?_cons_zero, List.getElem?_cons_succ] at p0 p1
              go_wp2_with fail
              refine (awake_any _).mono ?_
              rintro e wz ⟨rfl, hbb⟩
              have ehbb := Below.step hBA hbb
              clear hBA
              have hBA := ehbb
              clear ehbb
              clear hbb
              clear f0 f1 ff0 ff1 fl
              clear p0 p1 pf0 pf1 pl
              go_wp2
              go_ret
              exact ⟨rfl, hBA⟩
            · have e1 : fa = -1 := by
                rcases HFI.out with ⟨h1, _⟩ | ⟨a, b, _, _, _, h4, _⟩
                · exact h1
                · have := hno a b (clashM_lt h4).1 (clashM_lt h4).2; rw [h4] at this; cases this
              subst e1
              clear hno HE
              have f0 := Blk.cell HF2.out 0
              have f1 := Blk.cell HF2.out 1
              have ff0 := Blk.frozen HF2.out 0
              have ff1 := Blk.frozen HF2.out 1
              have fl := Blk.lt HF2.out
              simp only [List.getElem?_toArray, List.getElem?_cons_zero, List.getElem?_cons_succ] at f0 f1
              go_wp2_with fail
              refine (awake_any _).mono ?_
              rintro e wz ⟨rfl, hbb⟩
              have ehbb := Below.step hBA hbb
              clear hBA
              have hBA := ehbb
              clear ehbb
              clear hbb
              clear f0 f1 ff0 ff1 fl
              go_wp2
              go_ret
              exact ⟨rfl, hBA⟩
          | succ q =>
            rw [show ((q + 1 : Nat) : Int) - 1 = q by omega] at hi
            subst hi
            obtain ⟨wa3, rfl⟩ : ∃ wa : World, wa = wr := ⟨_, rfl⟩
            have p0 := Blk.cell (HI.out.later hb5).hs 0
            have p1 := Blk.cell (HI.out.later hb5).hs 1
            have p2 := Blk.cell (HI.out.later hb5).hs 2
            have pf0 := Blk.frozen (HI.out.later hb5).hs 0
            have pf1 := Blk.frozen (HI.out.later hb5).hs 1
            have pf2 := Blk.frozen (HI.out.later hb5).hs 2
            have pl := Blk.lt (HI.out.later hb5).hs
            simp only [List.getElem?_toArray, List.getElem?_cons_zero, List.getElem?_cons_succ] at p0 p1 p2
            go_wp2
            clear p0 p1 p2 pf0 pf1 pf2 pl
            go_loopw [30] (fun i wr => ∃ (p : Nat) (fa fb : Int), p ≤ h.ws.length ∧ i = .int .i64 ((p : Int) - 1) ∧ Below w4.heap.size w4 wr ∧ Blk wr w4.heap.size 36 #[.int .i64 pa, .int .i64 pb] ∧ Blk wr (w4.heap.size + 1) 36 #[.int .i64 fa, .int .i64 fb] ∧ Aside (FirstIn h.clashM (fun i j => (i = q ∧ p ≤ j) ∨ q + 1 ≤ i) fa fb)) (fun i _ => (intOf i + 1).toNat)
            case atStart => exact ⟨h.ws.length, fa, fb, by omega, rfl, hb5, HP2.out, HF2.out, HFI.out.congr fun i j hm => ⟨fun hs => .inr hs, fun hs => hs.resolve_left (fun ⟨_, hj⟩ => by have := (clashM_lt hm).2; omega)⟩⟩
            case round =>
              clear hb5 HP2 HF2 HFI
              obtain ⟨p, fa, fb, hp, hi, hb5, hP, hF, HFI⟩ := hrel
              have HP2 := Lib.hid hP
              have HF2 := Lib.hid hF
              clear hP hF
              cases p with
              | zero =>
                rw [show ((0 : Nat) : Int) - 1 = -1 by omega] at hi
                subst hi
                go_wp2
                go_roundw
                case rel => exact ⟨q, fa, fb, by omega, rfl, hb5, HP2.out, HF2.out, HFI.out.congr fun i j _ => ⟨fun hs => by omega, fun hs => by omega⟩⟩
                case measure => simp [intOf]
              | succ p =>
                rw [show ((p + 1 : Nat) : Int) - 1 = p by omega] at hi
                subst hi
                have H1 := Lib.hid (HCL.out q p _ (HI.out.later hb5).row (by omega) (by omega))
                have p0 := Blk.cell (HI.out.later hb5).hs 0
                have p1 := Blk.cell (HI.out.later hb5).hs 1
                have p2 := Blk.cell (HI.out.later hb5).hs 2
                have pf0 := Blk.frozen (HI.out.later hb5).hs 0
                have pf1 := Blk.frozen (HI.out.later hb5).hs 1
                have pf2 := Blk.frozen (HI.out.later hb5).hs 2
                have pl := Blk.lt (HI.out.later hb5).hs
                simp only [List.getElem?_toArray, List.getElem?_cons_zero, List.getElem?_cons_succ] at p0 p1 p2
                go_wp2_with fail
                refine H1.out.mono ?_
                rintro e wb ⟨rfl, hbb⟩
                have ehbb := Below.step hb5 hbb
                clear hb5
                have hb5 := ehbb
                clear ehbb
                have ehbb := Lib.hid (Blk.later HP2.out hbb)
                clear HP2
                have HP2 := ehbb
                clear ehbb
                have ehbb := Lib.hid (Blk.later HF2.out hbb)
                clear HF2
                have HF2 := ehbb
                clear ehbb
                clear H1 hbb
                clear p0 p1 p2 pf0 pf1 pf2 pl
                cases hm1 : h.clashM q p
                · have X1 := Lib.hid hm1
                  clear hm1
                  go_wp2
                  go_roundw
                  case rel => exact ⟨p, fa, fb, by omega, rfl, hb5, HP2.out, HF2.out, (HFI.out.miss q p X1.out).congr fun i j _ => ⟨fun hs => by omega, fun hs => by omega⟩⟩
                  case measure => simp [intOf]
                · have X1 := Lib.hid hm1
                  clear hm1
                  have f0 := Blk.cell HF2.out 0
                  have f1 := Blk.cell HF2.out 1
                  have ff0 := Blk.frozen HF2.out 0
                  have ff1 := Blk.frozen HF2.out 1
                  have fl := Blk.lt HF2.out
                  simp only [List.getElem?_toArray, List.getElem?_cons_zero, List.getElem?_cons_succ] at f0 f1
                  go_wp2
                  go_roundw
                  case rel => exact ⟨p, q, p, by omega, rfl, (hb5.setCell (p := ⟨w4.heap.size + 1, 0, none⟩) (by simp) _).setCell (p := ⟨w4.heap.size + 1, 1, none⟩) (by simp) _, (HP2.out.far (p := ⟨w4.heap.size + 1, 0, none⟩) (by simp) _).far (p := ⟨w4.heap.size + 1, 1, none⟩) (by simp) _, (HF2.out.set_ 0 _).set_ 1 _, (FirstIn.hit (S := fun i j => (i = q ∧ p + 1 ≤ j) ∨ q + 1 ≤ i) q p X1.out (fun i j hs hlt => by omega)).congr fun i j _ => ⟨fun hs => by omega, fun hs => by omega⟩⟩
                  case measure => simp [intOf]
end Go.Proofs.Ytjihnnbpfdhceaa
