/- laurellaw08.BoilShown. Conditions: none beyond those that each theorem names. -/
import Derived.Test.YtjihnnbpfdhceaaB10
import Derived.Test.YtjihnnbpfdhceaaM6
set_option linter.unusedSimpArgs false
set_option linter.unusedVariables false
namespace Go.Proofs.Ytjihnnbpfdhceaa
open Go.RowKit Go.Shelf
attribute [local go_sem] Oper.semAt_some
attribute [local go_sem ↓] Go.wp_at_zero Go.wp_at_succ

set_option maxHeartbeats 400000 in
theorem is_any (x : Wg) (r : Rat2) (w : World) (hx : x.Ok) (hr : r.okB = true) :
    Calls Try.prog 44 #[x.val, r.val] w fun e w' => e = .returned (.bool (isB x r)) ∧ Below w.heap.size w w' := by
  obtain ⟨h1, h2, h3, h4, h5, h6, h7, h8⟩ := hx
  obtain ⟨r1, r2, r3, r4⟩ := Rat2.okB_bd hr
  have p1 := mul_bd (x := x.mlo) (y := r.den) (M := 1000) (N := 1000000) (by omega) h6 (by omega) r4
  have p2 := mul_bd (x := r.num) (y := x.shi) (M := 1000000) (N := 1000) (by omega) r2 (by omega) h4
  have p3 := mul_bd (x := x.mhi) (y := r.den) (M := 1000) (N := 1000000) (by omega) h8 (by omega) r4
  have p4 := mul_bd (x := r.num) (y := x.slo) (M := 1000000) (N := 1000) (by omega) r2 (by omega) h2
  obtain ⟨p1, p1'⟩ := p1
  obtain ⟨p2, p2'⟩ := p2
  obtain ⟨p3, p3'⟩ := p3
  obtain ⟨p4, p4'⟩ := p4
  unfold Wg.val Rat2.val
  go_enter Try.func44, Try.ntmps44
  go_wp2
  all_goals go_ret
  all_goals exact ⟨ret_bool (by unfold isB; first | (simp; done) | (simp; omega) | (simp [*]; omega)), Below.step (alc _ _) (alc _ _)⟩

/-- What BoilShown asks of true houses. -/
theorem shown_facts {h : Hs} {r : Nat → Rat2} {mo we nn : Nat} (H : MadeOk h r mo we 0) (h1 : mo ≤ 12) (h2 : we ≤ 14) (hn : h.months = nn) :
    h.truthR (ratL nn r) = (true, 0) ∧ h.falseR (ratL nn r) = ([], 0) ∧ h.truthR (h.shownL nn) = (true, 0) ∧ (∀ j, j < nn → (r j).okB = true) ∧
    (∀ x ∈ h.ws, isB x (h.shownAt x.month) = true) ∧
    (∀ m : Nat, m < nn → (h.bounds m).2.2 = 6 ∨ ((h.bounds m).2.2 = 0 ∧ (h.bounds m).1.Ok1 ∧ (h.bounds m).2.1.Ok1 ∧ rle (h.bounds m).1 (r m) ∧ rle (r m) (h.bounds m).2.1 ∧ rle (h.bounds m).1 (h.shownAt m) ∧ rle (h.shownAt m) (h.bounds m).2.1)) := by
  have hk := H.check h1 h2
  have hag := H.agree h2
  have hok : ∀ j, j < nn → (r j).okB = true := fun j hj => by
    obtain ⟨a, b, c⟩ := H.rat j (by omega)
    simp [Rat2.okB, inB]; omega
  have hra := ratiosE_fn hk hn hok
  have htb : h.truthB (ratL nn r) = true := truthB_fn fun a b ha hb hu _ => H.le_ (by omega) (by omega) hu
  have hsl : h.shownL nn = ratL nn (fun m => h.shownAt m) := rfl
  have hra2 : h.ratiosE (h.shownL nn) = 0 := by rw [hsl]; exact ratiosE_fn hk hn fun j _ => (shownAt_ok hk j).okB
  have htb2 : h.truthB (h.shownL nn) = true := by rw [hsl]; exact truthB_fn fun a b _ _ hu _ => shownAt_mono hk hu
  refine ⟨?_, ?_, ?_, hok, ?_, ?_⟩
  · unfold Hs.truthR; rw [hra, htb]; rfl
  · unfold Hs.falseR
    rw [hra, htb, falseTo_none]
    · rfl
    · intro x hx
      obtain ⟨a, ea, ha⟩ := H.wmonth hx
      obtain ⟨t1, t2⟩ := H.true_ hx ea
      exact wrongB_fn ea (by omega) t1 t2
  · unfold Hs.truthR; rw [hra2, htb2]; rfl
  · intro x hx
    rw [isB_iff (check_ok hk x hx)]
    exact ⟨shownAt_least hk hx (under_refl h _), shownAt_le hk hag hx (under_refl h _)⟩
  · intro m hm
    rcases bounds_err hag m with he | he
    · right
      rcases bounds_cases hk m with ⟨_, hlo, hhi⟩ | ⟨he', _⟩
      · have hlp : ∀ q ∈ h.lowers m, rle q (r m) ∧ rle q (h.shownAt m) := by
          intro q hq
          obtain ⟨x, hx, hu, rfl⟩ := lowers_mem.1 hq
          obtain ⟨a, ea, ha⟩ := H.wmonth hx
          refine ⟨?_, shownAt_least hk hx hu⟩
          rw [ea] at hu
          exact rle_trans (H.good x hx).ok.least_pos (H.pos ha) (H.pos (by omega)) (H.true_ hx ea).1 (H.le_ ha (by omega) hu)
        have hup : ∀ q ∈ h.uppers m, rle (r m) q ∧ rle (h.shownAt m) q := by
          intro q hq
          obtain ⟨x, hx, hu, rfl⟩ := uppers_mem.1 hq
          obtain ⟨a, ea, ha⟩ := H.wmonth hx
          refine ⟨?_, shownAt_le hk hag hx hu⟩
          rw [ea] at hu
          exact rle_trans (H.pos (by omega)) (H.pos ha) (H.good x hx).ok.most_pos (H.le_ (by omega) ha hu) (H.true_ hx ea).2
        have hlm : (h.bounds m).1 ∈ h.lowers m ∧ (h.bounds m).2.1 ∈ h.uppers m := by
          unfold Hs.bounds at he ⊢
          rw [if_neg (by simp [hag])] at he ⊢
          cases hL : h.lowers m with
          | nil => rw [hL] at he; simp at he
          | cons a l =>
            cases hU : h.uppers m with
            | nil => rw [hL, hU] at he; simp at he
            | cons b u => exact ⟨gr_mem a l, mn_mem b u⟩
        exact ⟨he, hlo, hhi, (hlp _ hlm.1).1, (hup _ hlm.2).1, (hlp _ hlm.1).2, (hup _ hlm.2).2⟩
      · omega
    · exact .inl he

set_option maxRecDepth 100000 in
set_option maxHeartbeats 4000000 in
theorem boilShown_any (A : Option Addr) (xs : List Int) (c : Nat) (w : World) (hr : RowIn byteEnc 1 w w.heap.size A xs) (hl : xs.length ≤ 140737488355328) :
    Calls Try.prog 9 #[.slice A xs.length c] w fun e w' => e = .returned (.bool true) ∧ Below w.heap.size w w' := by
  have HP := Lib.hid (pile_any A xs c w hr)
  have HMD := Lib.hid (fun V h => made_any A xs w.heap.size 12 14 0 V h hl (by omega) (by omega) (by omega) (by omega) (by omega))
  clear hr hl
  go_enter Try.func9, Try.ntmps9
  go_wp2_with fail
  refine HP.out.mono ?_
  rintro e w1 ⟨rfl, hh1, hb1⟩
  go_wp2_with fail
  refine (HMD.out _ hh1).mono ?_
  rintro e w2 ⟨h, r, A1, cp, A2, nn, cq, rfl, hmn, hrw, hrr, hcg, hhp, hmk⟩
  have hB : Below w.heap.size w w2 := Chg.below hcg hb1 hb1.size (by simp)
  have hk := hmk.check (by omega) (by omega)
  have hlen := check_len hk
  have hmo := check_months hk
  have hpk := check_peak hk
  have HK := Lib.hid hk
  have HOK := Lib.hid (check_ok hk)
  have HMK := Lib.hid hmk
  obtain ⟨hmo1, hmo2⟩ := hmo
  obtain ⟨hpk1, hpk2⟩ := hpk
  have HMN := Lib.hid hmn
  have HRR := Lib.hid hrr
  clear hh1 hb1 hcg hhp hmk hk hmn hrr
  unfold Hs.val
  have hag := HMK.out.agree (by omega)
  have hcn := clashM_none hlen hag
  have hnn12 : nn ≤ 12 := by have := HMN.out; omega
  obtain ⟨f1, f2, f3, f4, f5, f6⟩ := shown_facts HMK.out (by omega) (by omega) HMN.out
  have F4 := Lib.hid f4
  have F5 := Lib.hid f5
  have F6 := Lib.hid f6
  have HSH := Lib.hid (fun V hr => shown_ok h A1 cp V hr HK.out hag)
  have HFW := Lib.hid (fun V hr => fewest_any h A1 cp V hr HK.out)
  have HTR := Lib.hid (fun V hr => trusted_any h A1 cp V hr HK.out)
  have HCL := Lib.hid (fun V hr => clash_any h A1 cp V hr HK.out)
  rw [hcn, fewL_none] at HFW
  rw [hcn, trustL_none] at HTR
  rw [hcn] at HCL
  have HT1 := Lib.hid (fun V hr hr2 => truth_pub h A1 cp A2 (ratL nn r) cq V hr (by omega) hr2 (by rw [ratL_len]; omega))
  have HF1 := Lib.hid (fun V hr hr2 => false_pub h A1 cp A2 (ratL nn r) cq V hr (by omega) hr2 (by rw [ratL_len]; omega))
  rw [f1, ratL_len] at HT1
  rw [f2, ratL_len] at HF1
  have HT2 := Lib.hid (fun A3 c3 V hr hr2 => truth_pub h A1 cp A3 (h.shownL nn) c3 V hr (by omega) hr2 (by rw [shownL_len]; omega))
  rw [f3, shownL_len] at HT2
  have HBN := Lib.hid (fun (m : Nat) V hr (hm : m < nn) => bounds_any h A1 cp m V hr HK.out (by have := HMN.out; simp [Hs.month, inB]; omega))
  clear hag hcn f1 f2 f3 f4 f5 f6
  unfold Hs.val at HSH HFW HTR HCL HT1 HF1 HT2 HBN
  simp only at HT1 HT2 HF1
  go_wp2_with fail
  have HRR3 := Lib.hid (HRR.out.later (alc w2 (.cells #[.int .i64 h.months, .int .i64 h.peak, .slice A1 h.ws.length cp] 25)))
  clear HRR
  have HRR := HRR3
  clear HRR3
  have hb3 := alc w2 (.cells #[.int .i64 h.months, .int .i64 h.peak, .slice A1 h.ws.length cp] 25)
  have HH := Lib.hid (show LawHs h A1 cp w2.heap.size (w2.alloc (.cells #[.int .i64 h.months, .int .i64 h.peak, .slice A1 h.ws.length cp] 25)) from ⟨Blk.new _ _ _, hrw.later hb3⟩)
  have ehb3 := Below.step hB hb3
  clear hB
  have hB := ehb3
  clear ehb3
  generalize w2.alloc (.cells #[.int .i64 h.months, .int .i64 h.peak, .slice A1 h.ws.length cp] 25) = w3 at HH hB HRR ⊢
  generalize w2.heap.size = g at HH ⊢
  clear hb3 hrw
  refine (HSH.out _ HH.out.row).mono ?_
  rintro e w4 ⟨A3, n3, c3, rfl, hn3, hr3, hb4⟩
  obtain rfl : n3 = nn := by have := HMN.out; omega
  have HRL := Lib.hid hr3
  have ehb4 := Below.step hB hb4
  clear hB
  have hB := ehb4
  clear ehb4
  have ehb4 := Lib.hid (LawHs.later HH.out hb4)
  clear HH
  have HH := ehb4
  clear ehb4
  have ehb4 := Lib.hid (RowIn.later HRR.out hb4)
  clear HRR
  have HRR := ehb4
  clear ehb4
  clear hb4 hn3 hr3 HSH
  have p0 := Blk.cell HH.out.hs 0
  have p1 := Blk.cell HH.out.hs 1
  have p2 := Blk.cell HH.out.hs 2
  have pf0 := Blk.frozen HH.out.hs 0
  have pf1 := Blk.frozen HH.out.hs 1
  have pf2 := Blk.frozen HH.out.hs 2
  have pl := Blk.lt HH.out.hs
  simp only [List.getElem?_toArray, List.getElem?_cons_zero, List.getElem?_cons_succ] at p0 p1 p2
  go_wp2_with fail
  clear p0 p1 p2 pf0 pf1 pf2 pl
  refine (HFW.out _ HH.out.row).mono ?_
  rintro e w5 ⟨v5, rfl, hown, hb4⟩
  obtain ⟨a5, c5, rfl, _⟩ := row_of_ints hown
  have ehb4 := Below.step hB hb4
  clear hB
  have hB := ehb4
  clear ehb4
  have ehb4 := Lib.hid (LawHs.later HH.out hb4)
  clear HH
  have HH := ehb4
  clear ehb4
  have ehb4 := Lib.hid (RowIn.later HRR.out hb4)
  clear HRR
  have HRR := ehb4
  clear ehb4
  have ehb4 := Lib.hid (RowIn.later HRL.out hb4)
  clear HRL
  have HRL := ehb4
  clear ehb4
  clear hb4 hown HFW
  have p0 := Blk.cell HH.out.hs 0
  have p1 := Blk.cell HH.out.hs 1
  have p2 := Blk.cell HH.out.hs 2
  have pf0 := Blk.frozen HH.out.hs 0
  have pf1 := Blk.frozen HH.out.hs 1
  have pf2 := Blk.frozen HH.out.hs 2
  have pl := Blk.lt HH.out.hs
  simp only [List.getElem?_toArray, List.getElem?_cons_zero, List.getElem?_cons_succ] at p0 p1 p2
  go_wp2_with fail
  clear p0 p1 p2 pf0 pf1 pf2 pl
  refine (HTR.out _ HH.out.row).mono ?_
  rintro e w6 ⟨v6, rfl, hown, hb4⟩
  obtain ⟨a6, c6, rfl, _⟩ := row_of_ints hown
  rw [List.length_range]
  have ehb4 := Below.step hB hb4
  clear hB
  have hB := ehb4
  clear ehb4
  have ehb4 := Lib.hid (LawHs.later HH.out hb4)
  clear HH
  have HH := ehb4
  clear ehb4
  have ehb4 := Lib.hid (RowIn.later HRR.out hb4)
  clear HRR
  have HRR := ehb4
  clear ehb4
  have ehb4 := Lib.hid (RowIn.later HRL.out hb4)
  clear HRL
  have HRL := ehb4
  clear ehb4
  clear hb4 hown HTR
  have p0 := Blk.cell HH.out.hs 0
  have p1 := Blk.cell HH.out.hs 1
  have p2 := Blk.cell HH.out.hs 2
  have pf0 := Blk.frozen HH.out.hs 0
  have pf1 := Blk.frozen HH.out.hs 1
  have pf2 := Blk.frozen HH.out.hs 2
  have pl := Blk.lt HH.out.hs
  simp only [List.getElem?_toArray, List.getElem?_cons_zero, List.getElem?_cons_succ] at p0 p1 p2
  go_wp2_with fail
  clear p0 p1 p2 pf0 pf1 pf2 pl
  refine (HCL.out _ HH.out.row).mono ?_
  rintro e w7 ⟨hcr, hb4⟩
  have hcr := clash_none hcr
  subst hcr
  have ehb4 := Below.step hB hb4
  clear hB
  have hB := ehb4
  clear ehb4
  have ehb4 := Lib.hid (LawHs.later HH.out hb4)
  clear HH
  have HH := ehb4
  clear ehb4
  have ehb4 := Lib.hid (RowIn.later HRR.out hb4)
  clear HRR
  have HRR := ehb4
  clear ehb4
  have ehb4 := Lib.hid (RowIn.later HRL.out hb4)
  clear HRL
  have HRL := ehb4
  clear ehb4
  clear hb4 HCL
  have p0 := Blk.cell HH.out.hs 0
  have p1 := Blk.cell HH.out.hs 1
  have p2 := Blk.cell HH.out.hs 2
  have pf0 := Blk.frozen HH.out.hs 0
  have pf1 := Blk.frozen HH.out.hs 1
  have pf2 := Blk.frozen HH.out.hs 2
  have pl := Blk.lt HH.out.hs
  simp only [List.getElem?_toArray, List.getElem?_cons_zero, List.getElem?_cons_succ] at p0 p1 p2
  go_wp2_with fail
  clear p0 p1 p2 pf0 pf1 pf2 pl
  have hb4 := alc w7 (.cells #[.int .i64 0, .int .i64 0] 36)
  have ehb4 := Below.step hB hb4
  clear hB
  have hB := ehb4
  clear ehb4
  have ehb4 := Lib.hid (LawHs.later HH.out hb4)
  clear HH
  have HH := ehb4
  clear ehb4
  have ehb4 := Lib.hid (RowIn.later HRR.out hb4)
  clear HRR
  have HRR := ehb4
  clear ehb4
  have ehb4 := Lib.hid (RowIn.later HRL.out hb4)
  clear HRL
  have HRL := ehb4
  clear ehb4
  generalize w7.alloc (.cells #[.int .i64 0, .int .i64 0] 36) = w8 at HH HRR HRL hB ⊢
  clear hb4
  refine (HT1.out _ HH.out.row HRR.out).mono ?_
  rintro e w9 ⟨rfl, hb4⟩
  have ehb4 := Below.step hB hb4
  clear hB
  have hB := ehb4
  clear ehb4
  have ehb4 := Lib.hid (LawHs.later HH.out hb4)
  clear HH
  have HH := ehb4
  clear ehb4
  have ehb4 := Lib.hid (RowIn.later HRR.out hb4)
  clear HRR
  have HRR := ehb4
  clear ehb4
  have ehb4 := Lib.hid (RowIn.later HRL.out hb4)
  clear HRL
  have HRL := ehb4
  clear ehb4
  clear hb4 HT1
  have p0 := Blk.cell HH.out.hs 0
  have p1 := Blk.cell HH.out.hs 1
  have p2 := Blk.cell HH.out.hs 2
  have pf0 := Blk.frozen HH.out.hs 0
  have pf1 := Blk.frozen HH.out.hs 1
  have pf2 := Blk.frozen HH.out.hs 2
  have pl := Blk.lt HH.out.hs
  simp only [List.getElem?_toArray, List.getElem?_cons_zero, List.getElem?_cons_succ] at p0 p1 p2
  go_wp2_with fail
  clear p0 p1 p2 pf0 pf1 pf2 pl
  refine (HF1.out _ HH.out.row HRR.out).mono ?_
  rintro e w10 ⟨v10, rfl, hown, hb4⟩
  obtain ⟨a10, c10, rfl, _⟩ := row_of_ints (l := []) hown
  have ehb4 := Below.step hB hb4
  clear hB
  have hB := ehb4
  clear ehb4
  have ehb4 := Lib.hid (LawHs.later HH.out hb4)
  clear HH
  have HH := ehb4
  clear ehb4
  have ehb4 := Lib.hid (RowIn.later HRR.out hb4)
  clear HRR
  have HRR := ehb4
  clear ehb4
  have ehb4 := Lib.hid (RowIn.later HRL.out hb4)
  clear HRL
  have HRL := ehb4
  clear ehb4
  clear hb4 hown HF1
  have p0 := Blk.cell HH.out.hs 0
  have p1 := Blk.cell HH.out.hs 1
  have p2 := Blk.cell HH.out.hs 2
  have pf0 := Blk.frozen HH.out.hs 0
  have pf1 := Blk.frozen HH.out.hs 1
  have pf2 := Blk.frozen HH.out.hs 2
  have pl := Blk.lt HH.out.hs
  simp only [List.getElem?_toArray, List.getElem?_cons_zero, List.getElem?_cons_succ] at p0 p1 p2
  have hq : ((n3 : Int) != h.months) = false := by rw [HMN.out]; simp
  go_wp2_with fail
  clear p0 p1 p2 pf0 pf1 pf2 pl
  refine (HT2.out A3 c3 _ HH.out.row HRL.out).mono ?_
  rintro e w11 ⟨rfl, hb4⟩
  have ehb4 := Below.step hB hb4
  clear hB
  have hB := ehb4
  clear ehb4
  have ehb4 := Lib.hid (LawHs.later HH.out hb4)
  clear HH
  have HH := ehb4
  clear ehb4
  have ehb4 := Lib.hid (RowIn.later HRR.out hb4)
  clear HRR
  have HRR := ehb4
  clear ehb4
  have ehb4 := Lib.hid (RowIn.later HRL.out hb4)
  clear HRL
  have HRL := ehb4
  clear ehb4
  clear hb4 HT2
  have p0 := Blk.cell HH.out.hs 0
  have p1 := Blk.cell HH.out.hs 1
  have p2 := Blk.cell HH.out.hs 2
  have pf0 := Blk.frozen HH.out.hs 0
  have pf1 := Blk.frozen HH.out.hs 1
  have pf2 := Blk.frozen HH.out.hs 2
  have pl := Blk.lt HH.out.hs
  simp only [List.getElem?_toArray, List.getElem?_cons_zero, List.getElem?_cons_succ] at p0 p1 p2
  go_wp2
  clear p0 p1 p2 pf0 pf1 pf2 pl
  go_loopw [130] (fun i wr => ∃ q : Nat, q ≤ h.ws.length ∧ i = .int .i64 q ∧ Below w11.heap.size w11 wr) (fun i _ => (h.ws.length - intOf i).toNat)
  case atStart => exact ⟨0, by omega, rfl, Below.refl _ _⟩
  case round =>
    obtain ⟨q, hq2, rfl, hb⟩ := hrel
    by_cases hlt : q < h.ws.length
    · obtain ⟨b0, o0, x, rfl, hB0, hx, x0, x1, x2, x3, x4⟩ := (HH.out.later hb).row.wg q hlt
      have hxm := List.getElem_mem hlt
      rw [hx] at hxm
      obtain ⟨a, ea, ha⟩ := HMK.out.wmonth hxm
      have han : a < n3 := by have := HMN.out; omega
      obtain ⟨b1, o1, y, rfl, hB1, hy, y0, y1⟩ := (HRL.out.later hb).rat a (by rw [shownL_len]; exact han)
      have hya : h.shownAt a = y := by rw [← hy]; simp [Hs.shownL]
      have hyk := shownAt_ok HK.out (a : Int)
      have HIS := Lib.hid (fun V => is_any x (h.shownAt x.month) V (HOK.out x hxm) (by rw [ea]; exact hyk.okB))
      rw [F5.out x hxm, ea, hya] at HIS
      unfold Wg.val Rat2.val at HIS
      rw [ea] at HIS x0
      clear hx hxm ea hya hyk hy ha
      have hbl0 : b0 < wr.heap.size := hB0
      have hbl1 : b1 < wr.heap.size := hB1
      have ha0 : (0 : Int) ≤ (a : Int) := by omega
      have hbx := alc wr (.cells #[.int .i64 a, .int .i64 x.slo, .int .i64 x.shi, .int .i64 x.mlo, .int .i64 x.mhi] 55)
      have HX := Lib.hid (Blk.new wr 55 #[.int .i64 a, .int .i64 x.slo, .int .i64 x.shi, .int .i64 x.mlo, .int .i64 x.mhi])
      have y0' := (hbx.cell (p := ⟨b1, _, none⟩) hB1).trans y0
      have y1' := (hbx.cell (p := ⟨b1, _, none⟩) hB1).trans y1
      go_wp2
      generalize wr.alloc (.cells #[.int .i64 a, .int .i64 x.slo, .int .i64 x.shi, .int .i64 x.mlo, .int .i64 x.mhi] 55) = w12 at hbx HX y0' y1' ⊢
      clear x0 x1 x2 x3 x4 y0 y1
      have y0 := y0'
      have y1 := y1'
      clear y0' y1'
      have x0 := Blk.cell HX.out 0
      have x1 := Blk.cell HX.out 1
      have x2 := Blk.cell HX.out 2
      have x3 := Blk.cell HX.out 3
      have x4 := Blk.cell HX.out 4
      have xf0 := Blk.frozen HX.out 0
      have xf1 := Blk.frozen HX.out 1
      have xf2 := Blk.frozen HX.out 2
      have xf3 := Blk.frozen HX.out 3
      have xf4 := Blk.frozen HX.out 4
      have xl := Blk.lt HX.out
      simp only [List.getElem?_toArray, List.getElem?_cons_zero, List.getElem?_cons_succ] at x0 x1 x2 x3 x4
      have Fx0 := fun u => Later.cell x0 u
      have Fx1 := fun u => Later.cell x1 u
      have Fx2 := fun u => Later.cell x2 u
      have Fx3 := fun u => Later.cell x3 u
      have Fx4 := fun u => Later.cell x4 u
      have Fy0 := fun u => Later.cell y0 u
      have Fy1 := fun u => Later.cell y1 u
      clear x0 x1 x2 x3 x4 xf0 xf1 xf2 xf3 xf4 xl
      clear y0 y1
      refine wp_region_later (by kernel_rfl) (by kernel_rfl) ?_
      repeat (go_big_quiet_step ((go_at_call 44; exact Later.call (HIS.out _))))
      refine wpQuiet_nil ?_
      intro u
      have hbu := Below.step hb (Below.step hbx u.below)
      go_wp2
      go_roundw
      case rel => exact ⟨q + 1, by omega, by go_num, hbu⟩
      case measure => simp [intOf]; omega
    · obtain rfl : h.ws.length = q := by omega
      obtain ⟨wq, rfl⟩ : ∃ wq : World, wq = wr := ⟨_, rfl⟩
      have ehb := Below.step hB hb
      clear hB
      have hB := ehb
      clear ehb
      have ehb := Lib.hid (LawHs.later HH.out hb)
      clear HH
      have HH := ehb
      clear ehb
      have ehb := Lib.hid (RowIn.later HRR.out hb)
      clear HRR
      have HRR := ehb
      clear ehb
      have ehb := Lib.hid (RowIn.later HRL.out hb)
      clear HRL
      have HRL := ehb
      clear ehb
      clear hb F5
      go_wp2
      go_loopw [145] (fun i wr => ∃ q : Nat, q ≤ n3 ∧ i = .int .i64 q ∧ Below wq.heap.size wq wr) (fun i _ => (n3 - intOf i).toNat)
      case atStart => exact ⟨0, by omega, rfl, Below.refl _ _⟩
      case round =>
        obtain ⟨q, hq2, rfl, hb⟩ := hrel
        by_cases hlt : q < n3
        · have H6 := F6.out q hlt
          have hyok := F4.out q hlt
          have hzok := (shownAt_ok HK.out (q : Int)).okB
          obtain ⟨b0, o0, y, rfl, hB0, hy, y0, y1⟩ := (HRR.out.later hb).rat q (by rw [ratL_len]; exact hlt)
          have hry : r q = y := by rw [← hy]; simp [ratL]
          obtain ⟨b1, o1, z, rfl, hB1, hz, z0, z1⟩ := (HRL.out.later hb).rat q (by rw [shownL_len]; exact hlt)
          have hrz : h.shownAt q = z := by rw [← hz]; simp [Hs.shownL]
          rw [hry] at H6 hyok
          rw [hrz] at H6 hzok
          have HB1 := Lib.hid (HBN.out q)
          generalize h.bounds q = B at H6 HB1
          obtain ⟨⟨lon, lod⟩, ⟨hin, hdd⟩, eb⟩ := B
          unfold bdVal Rat2.val at HB1
          simp only at HB1 H6
          have HS6 := Lib.hid H6
          have HYK := Lib.hid hyok
          have HZK := Lib.hid hzok
          clear hy hz hry hrz H6 hyok hzok
          have hbl0 : b0 < wr.heap.size := hB0
          have hbl1 : b1 < wr.heap.size := hB1
          have p0 := Blk.cell (HH.out.later hb).hs 0
          have p1 := Blk.cell (HH.out.later hb).hs 1
          have p2 := Blk.cell (HH.out.later hb).hs 2
          have pf0 := Blk.frozen (HH.out.later hb).hs 0
          have pf1 := Blk.frozen (HH.out.later hb).hs 1
          have pf2 := Blk.frozen (HH.out.later hb).hs 2
          have pl := Blk.lt (HH.out.later hb).hs
          simp only [List.getElem?_toArray, List.getElem?_cons_zero, List.getElem?_cons_succ] at p0 p1 p2
          have hbx := alc wr (.cells #[.int .i64 y.num, .int .i64 y.den] 43)
          have HY := Lib.hid (Blk.new wr 43 #[.int .i64 y.num, .int .i64 y.den])
          have HZ := Lib.hid (show ∀ V, Below wr.heap.size wr V → V.cell? ⟨b1, o1 + q * 2, none⟩ = some (.int .i64 z.num) ∧ V.cell? ⟨b1, o1 + q * 2 + 1, none⟩ = some (.int .i64 z.den) from fun V hV => ⟨(hV.cell (p := ⟨b1, _, none⟩) hB1).trans z0, (hV.cell (p := ⟨b1, _, none⟩) hB1).trans z1⟩)
          clear z0 z1
          go_wp2_with fail
          generalize wr.alloc (.cells #[.int .i64 y.num, .int .i64 y.den] 43) = w12 at hbx HY ⊢
          generalize hgy : wr.heap.size = gy at HY hbl0 hbl1 ⊢
          have HGY := Lib.hid hgy
          clear hgy y0 y1
          clear p0 p1 p2 pf0 pf1 pf2 pl
          refine (HB1.out w12 (HH.out.later (Below.step hb hbx)).row hlt).mono ?_
          rintro e w13 ⟨rfl, hb4⟩
          have ehb4 := Below.step hbx hb4
          clear hbx
          have hbx := ehb4
          clear ehb4
          have ehb4 := Lib.hid (Blk.later HY.out hb4)
          clear HY
          have HY := ehb4
          clear ehb4
          clear hb4 HB1
          rcases HS6.out with h6 | ⟨h6, hlo, hhi, t1, t2, t3, t4⟩
          · subst h6
            go_wp2
            go_roundw
            case rel => exact ⟨q + 1, by omega, by go_num, Below.step hb (Below.step hbx (Below.step (alc _ _) (alc _ _)))⟩
            case measure => simp [intOf]; omega
          · subst h6
            have HT := Lib.hid (And.intro (And.intro t1 t2) (And.intro t3 t4))
            have HLO := Lib.hid hlo
            have HHI := Lib.hid hhi
            clear t1 t2 t3 t4 hlo hhi
            go_wp2
            have hbz : Below w13.heap.size w13 ((w13.alloc (.cells #[.int .i64 lon, .int .i64 lod] 43)).alloc (.cells #[.int .i64 hin, .int .i64 hdd] 43)) := Below.step (alc _ _) (alc _ _)
            have HL := Lib.hid ((Blk.new w13 43 #[.int .i64 lon, .int .i64 lod]).alloc (.cells #[.int .i64 hin, .int .i64 hdd] 43))
            have HU := Lib.hid (Blk.new (w13.alloc (.cells #[.int .i64 lon, .int .i64 lod] 43)) 43 #[.int .i64 hin, .int .i64 hdd])
            rw [World.size_alloc] at HU
            have ehbz := Below.step hbx hbz
            clear hbx
            have hbx := ehbz
            clear ehbz
            have ehbz := Lib.hid (Blk.later HY.out hbz)
            clear HY
            have HY := ehbz
            clear ehbz
            generalize (w13.alloc (.cells #[.int .i64 lon, .int .i64 lod] 43)).alloc (.cells #[.int .i64 hin, .int .i64 hdd] 43) = w14 at HL HU HY hbx ⊢
            clear hbz
            generalize w13.heap.size = g1 at HL HU ⊢
            obtain ⟨z0, z1⟩ := HZ.out w14 hbx
            have hbl2 : b1 < w14.heap.size := by have := hbx.size; have := HGY.out; omega
            have y0 := Blk.cell HY.out 0
            have y1 := Blk.cell HY.out 1
            have yf0 := Blk.frozen HY.out 0
            have yf1 := Blk.frozen HY.out 1
            have yl := Blk.lt HY.out
            simp only [List.getElem?_toArray, List.getElem?_cons_zero, List.getElem?_cons_succ] at y0 y1
            go_region
            have hbz : Below w14.heap.size w14 ((w14.alloc (.cells #[.int .i64 y.num, .int .i64 y.den, .int .i64 z.num, .int .i64 z.den] 43)).drew) := Below.drew (alc _ _)
            have HA := Lib.hid ((Blk.new w14 43 #[.int .i64 y.num, .int .i64 y.den, .int .i64 z.num, .int .i64 z.den]).drew)
            have HL2 := Lib.hid (HL.out.later hbz)
            have HU2 := Lib.hid (HU.out.later hbz)
            have ehbz := Below.step hbx hbz
            clear hbx
            have hbx := ehbz
            clear ehbz
            generalize (w14.alloc (.cells #[.int .i64 y.num, .int .i64 y.den, .int .i64 z.num, .int .i64 z.den] 43)).drew = w15 at HA HL2 HU2 hbx ⊢
            generalize w14.heap.size = ga at HA ⊢
            have hgal : ga < w15.heap.size := HA.out.lt
            clear hbz HL HU z0 z1 hbl2
            clear y0 y1 yf0 yf1 yl
            have HX := Lib.hid hbx
            clear hbx
            obtain ⟨wo, rfl⟩ : ∃ wo : World, wo = wr := ⟨_, rfl⟩
            go_wp2
            go_loopw [168] (fun i wr => ∃ k : Nat, k ≤ 2 ∧ i = .int .i64 k ∧ Below w15.heap.size w15 wr) (fun i _ => (2 - intOf i).toNat)
            case atStart => exact ⟨0, by omega, rfl, Below.refl _ _⟩
            case round =>
              obtain ⟨k, hk2, rfl, hb3⟩ := hrel
              rcases (show k = 0 ∨ k = 1 ∨ k = 2 by omega) with rfl | rfl | rfl
              · rw [show ((0 : Nat) : Int) = 0 from rfl]
                have hbe := alc wr (.cells #[.int .i64 y.num, .int .i64 y.den] 43)
                have HE := Lib.hid (Blk.new wr 43 #[.int .i64 y.num, .int .i64 y.den])
                have HL3 := Lib.hid ((HL2.out.later hb3).later hbe)
                have HU3 := Lib.hid ((HU2.out.later hb3).later hbe)
                obtain ⟨k1, k2, k3, k4⟩ := Rat2.okB_bd HYK.out
                obtain ⟨l1, l2, l3, l4⟩ := HLO.out
                obtain ⟨u1, u2', u3', u4'⟩ := HHI.out
                simp only at l1 l2 l3 l4 u1 u2' u3' u4'
                have t1 : lon * y.den ≤ y.num * lod := HT.out.1.1
                have t2 : y.num * hdd ≤ hin * y.den := HT.out.1.2
                have m1 := mul_bd (x := lon) (y := y.den) (M := 1000) (N := 1000000) (by omega) l2 (by omega) k4
                have m2 := mul_bd (x := y.num) (y := lod) (M := 1000000) (N := 1000) (by omega) k2 (by omega) l4
                have m3 := mul_bd (x := y.num) (y := hdd) (M := 1000000) (N := 1000) (by omega) k2 (by omega) u4'
                have m4 := mul_bd (x := hin) (y := y.den) (M := 1000) (N := 1000000) (by omega) u2' (by omega) k4
                obtain ⟨m1, m1'⟩ := m1
                obtain ⟨m2, m2'⟩ := m2
                obtain ⟨m3, m3'⟩ := m3
                obtain ⟨m4, m4'⟩ := m4
                have s1 := HA.out.cell 0
                have s2 := HA.out.cell 1
                have s3 := HA.out.cell 2
                have s4 := HA.out.cell 3
                simp only [List.getElem?_toArray, List.getElem?_cons_zero, List.getElem?_cons_succ] at s1 s2 s3 s4
                have s1 := (hb3.cell (p := ⟨ga, 0, none⟩) hgal).trans s1
                have s2 := (hb3.cell (p := ⟨ga, 1, none⟩) hgal).trans s2
                have s3 := (hb3.cell (p := ⟨ga, 2, none⟩) hgal).trans s3
                have s4 := (hb3.cell (p := ⟨ga, 3, none⟩) hgal).trans s4
                have hgw : ga < wr.heap.size := Nat.lt_of_lt_of_le hgal hb3.size
                have a0 := Blk.cell (HL2.out.later hb3) 0
                have a1 := Blk.cell (HL2.out.later hb3) 1
                have af0 := Blk.frozen (HL2.out.later hb3) 0
                have af1 := Blk.frozen (HL2.out.later hb3) 1
                have al := Blk.lt (HL2.out.later hb3)
                simp only [List.getElem?_toArray, List.getElem?_cons_zero, List.getElem?_cons_succ] at a0 a1
                have b0 := Blk.cell (HU2.out.later hb3) 0
                have b1 := Blk.cell (HU2.out.later hb3) 1
                have bf0 := Blk.frozen (HU2.out.later hb3) 0
                have bf1 := Blk.frozen (HU2.out.later hb3) 1
                have bl := Blk.lt (HU2.out.later hb3)
                simp only [List.getElem?_toArray, List.getElem?_cons_zero, List.getElem?_cons_succ] at b0 b1
                have hag1 : g1 < wr.heap.size := al
                have hag2 : g1 + 1 < wr.heap.size := bl
                clear HL3 HU3
                go_wp2
                go_roundw
                case rel => exact ⟨0 + 1, by omega, by go_num, Below.step hb3 hbe⟩
                case measure => simp [intOf]
              · rw [show ((1 : Nat) : Int) = 1 from rfl]
                have hbe := alc wr (.cells #[.int .i64 z.num, .int .i64 z.den] 43)
                have HE := Lib.hid (Blk.new wr 43 #[.int .i64 z.num, .int .i64 z.den])
                have HL3 := Lib.hid ((HL2.out.later hb3).later hbe)
                have HU3 := Lib.hid ((HU2.out.later hb3).later hbe)
                obtain ⟨k1, k2, k3, k4⟩ := Rat2.okB_bd HZK.out
                obtain ⟨l1, l2, l3, l4⟩ := HLO.out
                obtain ⟨u1, u2', u3', u4'⟩ := HHI.out
                simp only at l1 l2 l3 l4 u1 u2' u3' u4'
                have t1 : lon * z.den ≤ z.num * lod := HT.out.2.1
                have t2 : z.num * hdd ≤ hin * z.den := HT.out.2.2
                have m1 := mul_bd (x := lon) (y := z.den) (M := 1000) (N := 1000000) (by omega) l2 (by omega) k4
                have m2 := mul_bd (x := z.num) (y := lod) (M := 1000000) (N := 1000) (by omega) k2 (by omega) l4
                have m3 := mul_bd (x := z.num) (y := hdd) (M := 1000000) (N := 1000) (by omega) k2 (by omega) u4'
                have m4 := mul_bd (x := hin) (y := z.den) (M := 1000) (N := 1000000) (by omega) u2' (by omega) k4
                obtain ⟨m1, m1'⟩ := m1
                obtain ⟨m2, m2'⟩ := m2
                obtain ⟨m3, m3'⟩ := m3
                obtain ⟨m4, m4'⟩ := m4
                have s1 := HA.out.cell 0
                have s2 := HA.out.cell 1
                have s3 := HA.out.cell 2
                have s4 := HA.out.cell 3
                simp only [List.getElem?_toArray, List.getElem?_cons_zero, List.getElem?_cons_succ] at s1 s2 s3 s4
                have s1 := (hb3.cell (p := ⟨ga, 0, none⟩) hgal).trans s1
                have s2 := (hb3.cell (p := ⟨ga, 1, none⟩) hgal).trans s2
                have s3 := (hb3.cell (p := ⟨ga, 2, none⟩) hgal).trans s3
                have s4 := (hb3.cell (p := ⟨ga, 3, none⟩) hgal).trans s4
                have hgw : ga < wr.heap.size := Nat.lt_of_lt_of_le hgal hb3.size
                have a0 := Blk.cell (HL2.out.later hb3) 0
                have a1 := Blk.cell (HL2.out.later hb3) 1
                have af0 := Blk.frozen (HL2.out.later hb3) 0
                have af1 := Blk.frozen (HL2.out.later hb3) 1
                have al := Blk.lt (HL2.out.later hb3)
                simp only [List.getElem?_toArray, List.getElem?_cons_zero, List.getElem?_cons_succ] at a0 a1
                have b0 := Blk.cell (HU2.out.later hb3) 0
                have b1 := Blk.cell (HU2.out.later hb3) 1
                have bf0 := Blk.frozen (HU2.out.later hb3) 0
                have bf1 := Blk.frozen (HU2.out.later hb3) 1
                have bl := Blk.lt (HU2.out.later hb3)
                simp only [List.getElem?_toArray, List.getElem?_cons_zero, List.getElem?_cons_succ] at b0 b1
                have hag1 : g1 < wr.heap.size := al
                have hag2 : g1 + 1 < wr.heap.size := bl
                clear HL3 HU3
                go_wp2
                go_roundw
                case rel => exact ⟨1 + 1, by omega, by go_num, Below.step hb3 hbe⟩
                case measure => simp [intOf]
              · rw [show ((2 : Nat) : Int) = 2 from rfl]
                go_wp2
                go_roundw
                case rel => exact ⟨q + 1, by omega, by go_num, Below.step hb (Below.step HX.out hb3)⟩
                case measure => simp [intOf]; omega
        · obtain rfl : n3 = q := by omega
          have hBq := Below.step hB hb
          go_wp2_with fail
          refine (awake_any _).mono ?_
          rintro e w12 ⟨rfl, hb4⟩
          have ehb4 := Below.step hBq hb4
          clear hBq
          have hBq := ehb4
          clear ehb4
          clear hb4
          go_wp2
          go_ret
          exact ⟨rfl, hBq⟩
end Go.Proofs.Ytjihnnbpfdhceaa
