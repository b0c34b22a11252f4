/- laurellaw08.BoilTurned. Conditions: none beyond those that each theorem names. -/
import Derived.Test.YtjihnnbpfdhceaaGBoilGrown23
import Derived.Test.YtjihnnbpfdhceaaGBoilGrown22
import Derived.Test.YtjihnnbpfdhceaaGBoilGrown24
set_option linter.unusedSimpArgs false
set_option linter.unusedVariables false
namespace Go.Proofs.Ytjihnnbpfdhceaa
open Go.RowKit Go.Shelf
attribute [local go_sem] Oper.semAt_some
attribute [local go_sem ↓] Go.wp_at_zero Go.wp_at_succ

/-- A cell of a row of one's own is set. -/
theorem ownsRow_set {W : World} {base : Nat} {e : TypeId} {size g cap n : Nat} {xs : List Value} (h : W.ownsRow base e size (.slice (some ⟨g, 0, none⟩) n cap) n xs) (j : Nat) (hj : j < n * size) (u : Value) :
    (W.setCell ⟨g, j, none⟩ u).ownsRow base e size (.slice (some ⟨g, 0, none⟩) n cap) n (xs.set j u) := by
  obtain ⟨h1, h2⟩ := h
  refine ⟨by rw [List.length_set]; exact h1, ?_⟩
  rcases h2 with ⟨hv, _⟩ | ⟨g', cap', cur, hv, hg, hh, hn, hc, hs, ht⟩
  · cases hv
  · injection hv with e1 e2 e3
    injection e1 with e1
    injection e1 with e1 _
    subst e1
    subst e3
    refine .inr ⟨g, cap, cur.setIfInBounds j u, rfl, hg, ?_, hn, hc, by simpa using hs, ?_⟩
    · have : Blk W g e cur := hh
      exact this.set_ j u
    · rw [Array.toList_setIfInBounds, List.take_set, ht]
theorem ownsRow_cell {W : World} {base : Nat} {e : TypeId} {size g cap n : Nat} {xs : List Value} (h : W.ownsRow base e size (.slice (some ⟨g, 0, none⟩) n cap) n xs) (j : Nat) (v : Value) (hv : xs[j]? = some v) : W.cell? ⟨g, j, none⟩ = some v ∧ W.frozen? ⟨g, j, none⟩ = false := by
  have h' := h
  refine ⟨by have := h.cells (g := g) rfl j v hv; rwa [addr_add0] at this, ?_⟩
  obtain ⟨h1, h2⟩ := h'
  rcases h2 with ⟨hv, _⟩ | ⟨g', cap', cur, hv', hg, hh, _⟩
  · cases hv
  · injection hv' with e1 e2 e3
    injection e1 with e1
    injection e1 with e1 _
    subst e1
    exact Blk.frozen hh j
theorem flat_set_month (ws : List Wg) (k : Nat) (hk : k < ws.length) (m : Int) : (ws.flatMap Wg.enc).set (k * 5) (.int .i64 m) = (ws.set k ⟨m, ws[k].slo, ws[k].shi, ws[k].mlo, ws[k].mhi⟩).flatMap Wg.enc := by
  induction ws generalizing k with
  | nil => simp at hk
  | cons x ws ih =>
    cases k with
    | zero => simp [Wg.enc]
    | succ k =>
      rw [List.flatMap_cons, List.set_cons_succ, List.flatMap_cons, List.set_append_right _ _ (by simp [Wg.enc]; omega)]
      congr 1
      have := ih k (by simpa using hk)
      simp only [List.getElem_cons_succ]
      rw [← this]
      congr 1
      simp [Wg.enc]; omega

set_option maxRecDepth 100000 in
set_option maxHeartbeats 4000000 in
theorem boilTurned_any (A : Option Addr) (xs : List Int) (c : Nat) (n1 : Nat) (w : World) (hr : RowIn byteEnc 1 w w.heap.size A xs) (hl : xs.length ≤ 140737488355328) (hn1 : n1 ≤ 255) :
    Calls Try.prog 6 #[.slice A xs.length c, .int .u8 n1] w fun e w' => e = .returned (.bool true) ∧ Below w.heap.size w w' := by
  have HP := Lib.hid (pile_any A xs c w hr)
  have HMD := Lib.hid (fun V h => made_any A xs w.heap.size 9 10 4 V h hl (by omega) (by omega) (by omega) (by omega) (by omega))
  clear hr hl
  go_enter Try.func6, Try.ntmps6
  go_wp2_with fail
  refine HP.out.mono ?_
  rintro e w1 ⟨rfl, hh1, hb1⟩
  go_wp2_with fail
  refine (HMD.out _ hh1).mono ?_
  rintro e w2 ⟨h, r, A1, cp, A2, nn, cq, rfl, hmn, hrw, hrr, hcg, hhp, hmk⟩
  have hB : Below w.heap.size w w2 := Chg.below hcg hb1 hb1.size (by simp)
  have hk := hmk.check (by omega) (by omega)
  have hlen := check_len hk
  have hmo := check_months hk
  have hpk := check_peak hk
  have HK := Lib.hid hk
  have HOK := Lib.hid (check_ok hk)
  have HMK := Lib.hid hmk
  obtain ⟨hmo1, hmo2⟩ := hmo
  obtain ⟨hpk1, hpk2⟩ := hpk
  have HMN := Lib.hid hmn
  have HRR := Lib.hid hrr
  clear hh1 hb1 hcg hhp hmk hk hmn hrr
  unfold Hs.val
  have HOWN := Lib.hid (fun V hr => own_any h A1 cp V hr (by omega))
  unfold Hs.val at HOWN
  go_wp2_with fail
  have hb3 := alc w2 (.cells #[.int .i64 h.months, .int .i64 h.peak, .slice A1 h.ws.length cp] 25)
  have HH := Lib.hid (show LawHs h A1 cp w2.heap.size (w2.alloc (.cells #[.int .i64 h.months, .int .i64 h.peak, .slice A1 h.ws.length cp] 25)) from ⟨Blk.new _ _ _, hrw.later hb3⟩)
  have ehb3 := Below.step hB hb3
  clear hB
  have hB := ehb3
  clear ehb3
  generalize w2.alloc (.cells #[.int .i64 h.months, .int .i64 h.peak, .slice A1 h.ws.length cp] 25) = w3 at HH hB ⊢
  generalize w2.heap.size = g at HH ⊢
  clear hb3 hrw
  refine (HOWN.out _ HH.out.row).mono ?_
  rintro e w4 ⟨gv, cv, rfl, hown, hb4⟩
  have HO := Lib.hid hown
  have hgv := (hown.lt gv rfl)
  obtain ⟨hgv1, hgv2⟩ := hgv
  have hb := hb4
  clear hown hb4 HOWN
  have p0 := Blk.cell (HH.out.later hb).hs 0
  have p1 := Blk.cell (HH.out.later hb).hs 1
  have p2 := Blk.cell (HH.out.later hb).hs 2
  have pf0 := Blk.frozen (HH.out.later hb).hs 0
  have pf1 := Blk.frozen (HH.out.later hb).hs 1
  have pf2 := Blk.frozen (HH.out.later hb).hs 2
  have pl := Blk.lt (HH.out.later hb).hs
  simp only [List.getElem?_toArray, List.getElem?_cons_zero, List.getElem?_cons_succ] at p0 p1 p2
  go_wp2
  clear p0 p1 p2 pf0 pf1 pf2 pl
  have hb5 := alc w4 (.cells #[.int .i64 h.months, .int .i64 (h.months - 1 - h.peak), .slice (some ⟨gv, 0, none⟩) h.ws.length cv] 25)
  have hU := Blk.new w4 25 #[.int .i64 h.months, .int .i64 (h.months - 1 - h.peak), .slice (some ⟨gv, 0, none⟩) h.ws.length cv]
  have hO := ownsRow_keep HO.out hb5
  have hb6 := Below.step hb hb5
  have HMM : Hid (∀ k : Nat, k < h.ws.length → True) := Lib.hid (fun _ _ => trivial)
  generalize w4.alloc (.cells #[.int .i64 h.months, .int .i64 (h.months - 1 - h.peak), .slice (some ⟨gv, 0, none⟩) h.ws.length cv] 25) = w5 at hb5 hU hO hb6 ⊢
  generalize hgu : w4.heap.size = gu at hU hgv2 hb5 ⊢
  clear hb hb5 hgu HO
  rw [← turnTo_0 h.months h.ws, turnTo_0] at hO
  go_loopw [43] (fun i wr => ∃ k : Nat, k ≤ h.ws.length ∧ i = .int .i64 k ∧ Below w3.heap.size w3 wr ∧ Blk wr gu 25 #[.int .i64 h.months, .int .i64 (h.months - 1 - h.peak), .slice (some ⟨gv, 0, none⟩) h.ws.length cv] ∧ wr.ownsRow w3.heap.size 55 5 (.slice (some ⟨gv, 0, none⟩) h.ws.length cv) h.ws.length ((turnTo h.months h.ws k).flatMap Wg.enc)) (fun i _ => (h.ws.length - intOf i).toNat)
  case atStart => exact ⟨0, by omega, rfl, hb6, hU, by rw [turnTo_0]; exact hO⟩
  case round =>
    clear hb6 hU hO
    obtain ⟨k, hk, rfl, hb, hU, hO⟩ := hrel
    have HO := Lib.hid hO
    have HU := Lib.hid hU
    clear hO hU
    by_cases hlt : k < h.ws.length
    · obtain ⟨b0, o0, x, rfl, hB0, hx, x0, x1, x2, x3, x4⟩ := (HH.out.later hb).row.wg k hlt
      have hcell : ((turnTo h.months h.ws k).flatMap Wg.enc)[k * 5]? = some (.int .i64 x.month) := by
        have := flat_get Wg.enc 5 wg_len (turnTo h.months h.ws k) k (by rw [turnTo_len]; exact hlt) 0 (by omega)
        rw [Nat.add_zero, turnTo_get _ _ _ hlt, hx] at this
        exact this
      have HX := Lib.hid hx
      have hwm := check_wmonth HK.out x (by rw [← hx]; exact List.getElem_mem _)
      obtain ⟨hwm1, hwm2⟩ := hwm
      clear hx
      obtain ⟨v0, vf0⟩ := ownsRow_cell HO.out (k * 5) _ hcell
      have hgl : gv < wr.heap.size := (HO.out.lt gv rfl).2
      have u0 := Blk.cell HU.out 0
      have u1 := Blk.cell HU.out 1
      have u2 := Blk.cell HU.out 2
      have uf0 := Blk.frozen HU.out 0
      have uf1 := Blk.frozen HU.out 1
      have uf2 := Blk.frozen HU.out 2
      have ul := Blk.lt HU.out
      simp only [List.getElem?_toArray, List.getElem?_cons_zero, List.getElem?_cons_succ] at u0 u1 u2
      have p0 := Blk.cell (HH.out.later hb).hs 0
      have p1 := Blk.cell (HH.out.later hb).hs 1
      have p2 := Blk.cell (HH.out.later hb).hs 2
      have pf0 := Blk.frozen (HH.out.later hb).hs 0
      have pf1 := Blk.frozen (HH.out.later hb).hs 1
      have pf2 := Blk.frozen (HH.out.later hb).hs 2
      have pl := Blk.lt (HH.out.later hb).hs
      simp only [List.getElem?_toArray, List.getElem?_cons_zero, List.getElem?_cons_succ] at p0 p1 p2
      have hO2 := ownsRow_set HO.out (k * 5) (by omega) (.int .i64 (h.months - 1 - x.month))
      rw [flat_set_month _ _ (by rw [turnTo_len]; exact hlt), turnTo_get _ _ _ hlt, HX.out] at hO2
      have hst := turnTo_step h.months h.ws k hlt
      rw [HX.out] at hst
      unfold turnW at hst
      rw [hst] at hO2
      have HO2 := Lib.hid hO2
      clear hO2 hst hcell
      go_wp2
      go_roundw
      case rel =>
        refine ⟨k + 1, by omega, by go_num, ?_, ?_, ?_⟩
        · exact (hb.setCell (p := ⟨gv, k * 5, none⟩) hgv1 _).alloc (by simp; exact hb.size) _
        · exact (HU.out.far (p := ⟨gv, k * 5, none⟩) (by simp; omega) _).alloc _
        · exact ownsRow_keep HO2.out (alc _ _)
      case measure => simp [intOf]; omega
    · obtain rfl : h.ws.length = k := by omega
      rw [turnTo_all] at HO
      obtain ⟨ao, cu, hvv, hrowu, _, _⟩ := row_of_own (l := h.turned.ws) Wg.enc 5 wg_len (by rw [turned_len]; exact HO.out)
      injection hvv with e1 e2 e3
      clear e2
      subst e1
      subst e3
      have HRU := Lib.hid hrowu
      have HTL := Lib.hid (turned_len h)
      have HF1 := Lib.hid (fun V hr => fewest_any h A1 cp V hr HK.out)
      have HF2 := Lib.hid (fun V hr => fewest_any h.turned (some ⟨gv, 0, none⟩) cv V hr (turned_check HK.out))
      have HT1 := Lib.hid (fun V hr => trusted_any h A1 cp V hr HK.out)
      have HT2 := Lib.hid (fun V hr => trusted_any h.turned (some ⟨gv, 0, none⟩) cv V hr (turned_check HK.out))
      rw [turned_clashM, turned_len] at HF2 HT2
      have hx1 : 0 ≤ (n1 : Int) % h.months := Int.emod_nonneg _ (by omega)
      have hx2 : (n1 : Int) % h.months < h.months := Int.emod_lt_of_pos _ (by omega)
      have HBN1 := Lib.hid (fun V hr => bounds_any h A1 cp ((n1 : Int) % h.months) V hr HK.out (by simp [Hs.month, inB]; omega))
      have HBN2 := Lib.hid (fun V hr => bounds_any h.turned (some ⟨gv, 0, none⟩) cv (h.months - 1 - (n1 : Int) % h.months) V hr (turned_check HK.out) (by unfold Hs.month inB; rw [Bool.and_eq_true, decide_eq_true_eq, decide_eq_true_eq]; show 0 ≤ _ ∧ _ ≤ h.months - 1; omega))
      rw [turned_bounds] at HBN2
      unfold Hs.val at HF1 HF2 HT1 HT2 HBN1 HBN2
      rw [show h.turned.months = h.months from rfl, show h.turned.peak = h.months - 1 - h.peak from rfl, turned_len] at HF2 HT2 HBN2
      obtain ⟨wq, rfl⟩ : ∃ wq : World, wq = wr := ⟨_, rfl⟩
      have hB2 := Below.step hB hb
      have HH2 := Lib.hid (HH.out.later hb)
      clear hrowu HO hB hb HH
      have hB := hB2
      have HH := HH2
      clear hB2 HH2
      have p0 := Blk.cell HH.out.hs 0
      have p1 := Blk.cell HH.out.hs 1
      have p2 := Blk.cell HH.out.hs 2
      have pf0 := Blk.frozen HH.out.hs 0
      have pf1 := Blk.frozen HH.out.hs 1
      have pf2 := Blk.frozen HH.out.hs 2
      have pl := Blk.lt HH.out.hs
      simp only [List.getElem?_toArray, List.getElem?_cons_zero, List.getElem?_cons_succ] at p0 p1 p2
      go_wp2_with fail
      clear p0 p1 p2 pf0 pf1 pf2 pl
      refine (HF1.out _ HH.out.row).mono ?_
      rintro e w6 ⟨va, rfl, hown, hb4⟩
      obtain ⟨aa, ca, rfl, hra⟩ := row_of_ints hown
      have ehb4 := Below.step hB hb4
      clear hB
      have hB := ehb4
      clear ehb4
      have ehb4 := Lib.hid (LawHs.later HH.out hb4)
      clear HH
      have HH := ehb4
      clear ehb4
      have ehb4 := Lib.hid (Blk.later HU.out hb4)
      clear HU
      have HU := ehb4
      clear ehb4
      have ehb4 := Lib.hid (RowIn.later HRU.out hb4)
      clear HRU
      have HRU := ehb4
      clear ehb4
      have HRA := Lib.hid hra
      clear hb4 hown hra HF1
      have p0 := Blk.cell HU.out 0
      have p1 := Blk.cell HU.out 1
      have p2 := Blk.cell HU.out 2
      have pf0 := Blk.frozen HU.out 0
      have pf1 := Blk.frozen HU.out 1
      have pf2 := Blk.frozen HU.out 2
      have pl := Blk.lt HU.out
      simp only [List.getElem?_toArray, List.getElem?_cons_zero, List.getElem?_cons_succ] at p0 p1 p2
      go_wp2_with fail
      clear p0 p1 p2 pf0 pf1 pf2 pl
      refine (HF2.out _ HRU.out).mono ?_
      rintro e w7 ⟨vb, rfl, hown, hb4⟩
      obtain ⟨ab, cb, rfl, hrb⟩ := row_of_ints hown
      have ehb4 := Below.step hB hb4
      clear hB
      have hB := ehb4
      clear ehb4
      have ehb4 := Lib.hid (LawHs.later HH.out hb4)
      clear HH
      have HH := ehb4
      clear ehb4
      have ehb4 := Lib.hid (Blk.later HU.out hb4)
      clear HU
      have HU := ehb4
      clear ehb4
      have ehb4 := Lib.hid (RowIn.later HRU.out hb4)
      clear HRU
      have HRU := ehb4
      clear ehb4
      have ehb4 := Lib.hid (RowIn.later HRA.out hb4)
      clear HRA
      have HRA := ehb4
      clear ehb4
      have HRB := Lib.hid hrb
      clear hb4 hown hrb HF2
      have p0 := Blk.cell HH.out.hs 0
      have p1 := Blk.cell HH.out.hs 1
      have p2 := Blk.cell HH.out.hs 2
      have pf0 := Blk.frozen HH.out.hs 0
      have pf1 := Blk.frozen HH.out.hs 1
      have pf2 := Blk.frozen HH.out.hs 2
      have pl := Blk.lt HH.out.hs
      simp only [List.getElem?_toArray, List.getElem?_cons_zero, List.getElem?_cons_succ] at p0 p1 p2
      go_wp2_with fail
      clear p0 p1 p2 pf0 pf1 pf2 pl
      refine (HT1.out _ HH.out.row).mono ?_
      rintro e w8 ⟨vc, rfl, hown, hb4⟩
      obtain ⟨ac, cc, rfl, hrc⟩ := row_of_ints hown
      have ehb4 := Below.step hB hb4
      clear hB
      have hB := ehb4
      clear ehb4
      have ehb4 := Lib.hid (LawHs.later HH.out hb4)
      clear HH
      have HH := ehb4
      clear ehb4
      have ehb4 := Lib.hid (Blk.later HU.out hb4)
      clear HU
      have HU := ehb4
      clear ehb4
      have ehb4 := Lib.hid (RowIn.later HRU.out hb4)
      clear HRU
      have HRU := ehb4
      clear ehb4
      have ehb4 := Lib.hid (RowIn.later HRA.out hb4)
      clear HRA
      have HRA := ehb4
      clear ehb4
      have ehb4 := Lib.hid (RowIn.later HRB.out hb4)
      clear HRB
      have HRB := ehb4
      clear ehb4
      have HRC := Lib.hid hrc
      clear hb4 hown hrc HT1
      have p0 := Blk.cell HU.out 0
      have p1 := Blk.cell HU.out 1
      have p2 := Blk.cell HU.out 2
      have pf0 := Blk.frozen HU.out 0
      have pf1 := Blk.frozen HU.out 1
      have pf2 := Blk.frozen HU.out 2
      have pl := Blk.lt HU.out
      simp only [List.getElem?_toArray, List.getElem?_cons_zero, List.getElem?_cons_succ] at p0 p1 p2
      go_wp2_with fail
      clear p0 p1 p2 pf0 pf1 pf2 pl
      refine (HT2.out _ HRU.out).mono ?_
      rintro e w9 ⟨vd, rfl, hown, hb4⟩
      obtain ⟨ad, cd, rfl, hrd⟩ := row_of_ints hown
      have ehb4 := Below.step hB hb4
      clear hB
      have hB := ehb4
      clear ehb4
      have ehb4 := Lib.hid (LawHs.later HH.out hb4)
      clear HH
      have HH := ehb4
      clear ehb4
      have ehb4 := Lib.hid (Blk.later HU.out hb4)
      clear HU
      have HU := ehb4
      clear ehb4
      have ehb4 := Lib.hid (RowIn.later HRU.out hb4)
      clear HRU
      have HRU := ehb4
      clear ehb4
      have ehb4 := Lib.hid (RowIn.later HRA.out hb4)
      clear HRA
      have HRA := ehb4
      clear ehb4
      have ehb4 := Lib.hid (RowIn.later HRB.out hb4)
      clear HRB
      have HRB := ehb4
      clear ehb4
      have ehb4 := Lib.hid (RowIn.later HRC.out hb4)
      clear HRC
      have HRC := ehb4
      clear ehb4
      have HRD := Lib.hid hrd
      clear hb4 hown hrd HT2
      have p0 := Blk.cell HH.out.hs 0
      have p1 := Blk.cell HH.out.hs 1
      have p2 := Blk.cell HH.out.hs 2
      have pf0 := Blk.frozen HH.out.hs 0
      have pf1 := Blk.frozen HH.out.hs 1
      have pf2 := Blk.frozen HH.out.hs 2
      have pl := Blk.lt HH.out.hs
      simp only [List.getElem?_toArray, List.getElem?_cons_zero, List.getElem?_cons_succ] at p0 p1 p2
      go_wp2_with fail
      clear p0 p1 p2 pf0 pf1 pf2 pl
      generalize (n1 : Int) % h.months = x at hx1 hx2 HBN1 HBN2 ⊢
      generalize h.bounds x = B at HBN1 HBN2
      obtain ⟨⟨lon, lod⟩, ⟨hin, hdd⟩, eb⟩ := B
      unfold bdVal Rat2.val at HBN1 HBN2
      simp only at HBN1 HBN2
      refine (HBN1.out _ HH.out.row).mono ?_
      rintro e w10 ⟨rfl, hb4⟩
      have ehb4 := Below.step hB hb4
      clear hB
      have hB := ehb4
      clear ehb4
      have ehb4 := Lib.hid (LawHs.later HH.out hb4)
      clear HH
      have HH := ehb4
      clear ehb4
      have ehb4 := Lib.hid (Blk.later HU.out hb4)
      clear HU
      have HU := ehb4
      clear ehb4
      have ehb4 := Lib.hid (RowIn.later HRU.out hb4)
      clear HRU
      have HRU := ehb4
      clear ehb4
      have ehb4 := Lib.hid (RowIn.later HRA.out hb4)
      clear HRA
      have HRA := ehb4
      clear ehb4
      have ehb4 := Lib.hid (RowIn.later HRB.out hb4)
      clear HRB
      have HRB := ehb4
      clear ehb4
      have ehb4 := Lib.hid (RowIn.later HRC.out hb4)
      clear HRC
      have HRC := ehb4
      clear ehb4
      have ehb4 := Lib.hid (RowIn.later HRD.out hb4)
      clear HRD
      have HRD := ehb4
      clear ehb4
      clear hb4 HBN1
      have p0 := Blk.cell HH.out.hs 0
      have p1 := Blk.cell HH.out.hs 1
      have p2 := Blk.cell HH.out.hs 2
      have pf0 := Blk.frozen HH.out.hs 0
      have pf1 := Blk.frozen HH.out.hs 1
      have pf2 := Blk.frozen HH.out.hs 2
      have pl := Blk.lt HH.out.hs
      simp only [List.getElem?_toArray, List.getElem?_cons_zero, List.getElem?_cons_succ] at p0 p1 p2
      have u0 := Blk.cell HU.out 0
      have u1 := Blk.cell HU.out 1
      have u2 := Blk.cell HU.out 2
      have uf0 := Blk.frozen HU.out 0
      have uf1 := Blk.frozen HU.out 1
      have uf2 := Blk.frozen HU.out 2
      have ul := Blk.lt HU.out
      simp only [List.getElem?_toArray, List.getElem?_cons_zero, List.getElem?_cons_succ] at u0 u1 u2
      go_wp2_with fail
      clear p0 p1 p2 pf0 pf1 pf2 pl
      clear u0 u1 u2 uf0 uf1 uf2 ul
      have hb5 : Below w10.heap.size w10 ((w10.alloc (.cells #[.int .i64 lon, .int .i64 lod] 43)).alloc (.cells #[.int .i64 hin, .int .i64 hdd] 43)) := Below.step (alc _ _) (alc _ _)
      have HL := Lib.hid ((Blk.new w10 43 #[.int .i64 lon, .int .i64 lod]).alloc (.cells #[.int .i64 hin, .int .i64 hdd] 43))
      have HV := Lib.hid (Blk.new (w10.alloc (.cells #[.int .i64 lon, .int .i64 lod] 43)) 43 #[.int .i64 hin, .int .i64 hdd])
      rw [World.size_alloc] at HV
      have ehb5 := Below.step hB hb5
      clear hB
      have hB := ehb5
      clear ehb5
      have ehb5 := Lib.hid (LawHs.later HH.out hb5)
      clear HH
      have HH := ehb5
      clear ehb5
      have ehb5 := Lib.hid (Blk.later HU.out hb5)
      clear HU
      have HU := ehb5
      clear ehb5
      have ehb5 := Lib.hid (RowIn.later HRU.out hb5)
      clear HRU
      have HRU := ehb5
      clear ehb5
      have ehb5 := Lib.hid (RowIn.later HRA.out hb5)
      clear HRA
      have HRA := ehb5
      clear ehb5
      have ehb5 := Lib.hid (RowIn.later HRB.out hb5)
      clear HRB
      have HRB := ehb5
      clear ehb5
      have ehb5 := Lib.hid (RowIn.later HRC.out hb5)
      clear HRC
      have HRC := ehb5
      clear ehb5
      have ehb5 := Lib.hid (RowIn.later HRD.out hb5)
      clear HRD
      have HRD := ehb5
      clear ehb5
      generalize (w10.alloc (.cells #[.int .i64 lon, .int .i64 lod] 43)).alloc (.cells #[.int .i64 hin, .int .i64 hdd] 43) = w11 at HL HV HH HU HRU HRA HRB HRC HRD hB ⊢
      clear hb5
      generalize w10.heap.size = g1 at HL HV ⊢
      refine (HBN2.out _ HRU.out).mono ?_
      rintro e w12 ⟨rfl, hb4⟩
      have ehb4 := Below.step hB hb4
      clear hB
      have hB := ehb4
      clear ehb4
      have ehb4 := Lib.hid (LawHs.later HH.out hb4)
      clear HH
      have HH := ehb4
      clear ehb4
      have ehb4 := Lib.hid (Blk.later HU.out hb4)
      clear HU
      have HU := ehb4
      clear ehb4
      have ehb4 := Lib.hid (RowIn.later HRU.out hb4)
      clear HRU
      have HRU := ehb4
      clear ehb4
      have ehb4 := Lib.hid (RowIn.later HRA.out hb4)
      clear HRA
      have HRA := ehb4
      clear ehb4
      have ehb4 := Lib.hid (RowIn.later HRB.out hb4)
      clear HRB
      have HRB := ehb4
      clear ehb4
      have ehb4 := Lib.hid (RowIn.later HRC.out hb4)
      clear HRC
      have HRC := ehb4
      clear ehb4
      have ehb4 := Lib.hid (RowIn.later HRD.out hb4)
      clear HRD
      have HRD := ehb4
      clear ehb4
      have ehb4 := Lib.hid (Blk.later HL.out hb4)
      clear HL
      have HL := ehb4
      clear ehb4
      have ehb4 := Lib.hid (Blk.later HV.out hb4)
      clear HV
      have HV := ehb4
      clear ehb4
      clear hb4 HBN2
      go_wp2_with fail
      have hb5 : Below w12.heap.size w12 ((w12.alloc (.cells #[.int .i64 lon, .int .i64 lod] 43)).alloc (.cells #[.int .i64 hin, .int .i64 hdd] 43)) := Below.step (alc _ _) (alc _ _)
      have HL2 := Lib.hid ((Blk.new w12 43 #[.int .i64 lon, .int .i64 lod]).alloc (.cells #[.int .i64 hin, .int .i64 hdd] 43))
      have HV2 := Lib.hid (Blk.new (w12.alloc (.cells #[.int .i64 lon, .int .i64 lod] 43)) 43 #[.int .i64 hin, .int .i64 hdd])
      rw [World.size_alloc] at HV2
      have ehb5 := Below.step hB hb5
      clear hB
      have hB := ehb5
      clear ehb5
      have ehb5 := Lib.hid (RowIn.later HRA.out hb5)
      clear HRA
      have HRA := ehb5
      clear ehb5
      have ehb5 := Lib.hid (RowIn.later HRB.out hb5)
      clear HRB
      have HRB := ehb5
      clear ehb5
      have ehb5 := Lib.hid (RowIn.later HRC.out hb5)
      clear HRC
      have HRC := ehb5
      clear ehb5
      have ehb5 := Lib.hid (RowIn.later HRD.out hb5)
      clear HRD
      have HRD := ehb5
      clear ehb5
      have ehb5 := Lib.hid (Blk.later HL.out hb5)
      clear HL
      have HL := ehb5
      clear ehb5
      have ehb5 := Lib.hid (Blk.later HV.out hb5)
      clear HV
      have HV := ehb5
      clear ehb5
      generalize (w12.alloc (.cells #[.int .i64 lon, .int .i64 lod] 43)).alloc (.cells #[.int .i64 hin, .int .i64 hdd] 43) = w13 at HL HV HL2 HV2 HRA HRB HRC HRD hB ⊢
      clear hb5
      generalize w12.heap.size = g2 at HL2 HV2 ⊢
      have hfl := fewL_len h.clashM h.ws.length
      have htl := trustL_len h.clashM h.ws.length
      have HE1 := Lib.hid (fun V h1 h2 => eqI_any aa ab ((fewL h.clashM h.ws.length).map fun (n : Nat) => (n : Int)) ((fewL h.clashM h.ws.length).map fun (n : Nat) => (n : Int)) ca cb V h1 h2 (by rw [List.length_map]; omega) (by rw [List.length_map]; omega))
      have HE2 := Lib.hid (fun V h1 h2 => eqI_any ac ad ((trustL h.clashM h.ws.length).map fun (n : Nat) => (n : Int)) ((trustL h.clashM h.ws.length).map fun (n : Nat) => (n : Int)) cc cd V h1 h2 (by rw [List.length_map]; omega) (by rw [List.length_map]; omega))
      rw [List.length_map, decide_eq_true rfl] at HE1 HE2
      clear hfl htl
      refine (HE1.out _ HRA.out HRB.out).mono ?_
      rintro e w14 ⟨rfl, hb4⟩
      have ehb4 := Below.step hB hb4
      clear hB
      have hB := ehb4
      clear ehb4
      have ehb4 := Lib.hid (RowIn.later HRC.out hb4)
      clear HRC
      have HRC := ehb4
      clear ehb4
      have ehb4 := Lib.hid (RowIn.later HRD.out hb4)
      clear HRD
      have HRD := ehb4
      clear ehb4
      have ehb4 := Lib.hid (Blk.later HL.out hb4)
      clear HL
      have HL := ehb4
      clear ehb4
      have ehb4 := Lib.hid (Blk.later HV.out hb4)
      clear HV
      have HV := ehb4
      clear ehb4
      have ehb4 := Lib.hid (Blk.later HL2.out hb4)
      clear HL2
      have HL2 := ehb4
      clear ehb4
      have ehb4 := Lib.hid (Blk.later HV2.out hb4)
      clear HV2
      have HV2 := ehb4
      clear ehb4
      clear hb4 HE1
      go_wp2_with fail
      refine (HE2.out _ HRC.out HRD.out).mono ?_
      rintro e w15 ⟨rfl, hb4⟩
      have ehb4 := Below.step hB hb4
      clear hB
      have hB := ehb4
      clear ehb4
      have ehb4 := Lib.hid (Blk.later HL.out hb4)
      clear HL
      have HL := ehb4
      clear ehb4
      have ehb4 := Lib.hid (Blk.later HV.out hb4)
      clear HV
      have HV := ehb4
      clear ehb4
      have ehb4 := Lib.hid (Blk.later HL2.out hb4)
      clear HL2
      have HL2 := ehb4
      clear ehb4
      have ehb4 := Lib.hid (Blk.later HV2.out hb4)
      clear HV2
      have HV2 := ehb4
      clear ehb4
      clear hb4 HE2
      have hq1 := fun W => eq_rat W lon lod lon lod
      have hq2 := fun W => eq_rat W hin hdd hin hdd
      simp only [beq_self_eq_true, Bool.and_self] at hq1 hq2
      have a0 := Blk.cell HL.out 0
      have a1 := Blk.cell HL.out 1
      have af0 := Blk.frozen HL.out 0
      have af1 := Blk.frozen HL.out 1
      have al := Blk.lt HL.out
      simp only [List.getElem?_toArray, List.getElem?_cons_zero, List.getElem?_cons_succ] at a0 a1
      have b0 := Blk.cell HV.out 0
      have b1 := Blk.cell HV.out 1
      have bf0 := Blk.frozen HV.out 0
      have bf1 := Blk.frozen HV.out 1
      have bl := Blk.lt HV.out
      simp only [List.getElem?_toArray, List.getElem?_cons_zero, List.getElem?_cons_succ] at b0 b1
      have q0 := Blk.cell HL2.out 0
      have q1 := Blk.cell HL2.out 1
      have qf0 := Blk.frozen HL2.out 0
      have qf1 := Blk.frozen HL2.out 1
      have ql := Blk.lt HL2.out
      simp only [List.getElem?_toArray, List.getElem?_cons_zero, List.getElem?_cons_succ] at q0 q1
      have r0 := Blk.cell HV2.out 0
      have r1 := Blk.cell HV2.out 1
      have rf0 := Blk.frozen HV2.out 0
      have rf1 := Blk.frozen HV2.out 1
      have rl := Blk.lt HV2.out
      simp only [List.getElem?_toArray, List.getElem?_cons_zero, List.getElem?_cons_succ] at r0 r1
      go_wp2_with fail
      refine (awake_any _).mono ?_
      rintro e w16 ⟨rfl, hb4⟩
      have ehb4 := Below.step hB hb4
      clear hB
      have hB := ehb4
      clear ehb4
      clear hb4
      clear a0 a1 af0 af1 al
      clear b0 b1 bf0 bf1 bl
      clear q0 q1 qf0 qf1 ql
      clear r0 r1 rf0 rf1 rl
      go_wp2
      go_ret
      exact ⟨rfl, hB⟩
end Go.Proofs.Ytjihnnbpfdhceaa
