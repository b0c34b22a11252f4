/- laurellaw08.BoilMeat. Conditions: none beyond those that each theorem names. -/
import Derived.Test.YtjihnnbpfdhceaaB8
import Derived.Test.YtjihnnbpfdhceaaM3
set_option linter.unusedSimpArgs false
set_option linter.unusedVariables false
namespace Go.Proofs.Ytjihnnbpfdhceaa
open Go.RowKit Go.Shelf
attribute [local go_sem] Oper.semAt_some
attribute [local go_sem ↓] Go.wp_at_zero Go.wp_at_succ

theorem fits_any (lo hi : Rat2) (g1 g2 : Nat) (k n : Int) (w : World) (h1 : Blk w g1 43 #[.int .i64 lo.num, .int .i64 lo.den]) (h2 : Blk w g2 43 #[.int .i64 hi.num, .int .i64 hi.den]) (hlo : lo.Ok1) (hhi : hi.Ok1) (hk : -1000001 ≤ k) (hk' : k ≤ 1000001) (hn : 0 ≤ n) (hn' : n ≤ 1000) :
    Calls Try.prog 19 #[.int .i64 k, .int .i64 n, .pointer (some ⟨g1, 0, none⟩), .pointer (some ⟨g2, 0, none⟩)] w fun e w' => e = .returned (.bool (fitsB lo hi k n)) ∧ w = w' := by
  have a0 := Blk.cell h1 0
  have a1 := Blk.cell h1 1
  have af0 := Blk.frozen h1 0
  have af1 := Blk.frozen h1 1
  have al := Blk.lt h1
  simp only [List.getElem?_toArray, List.getElem?_cons_zero, List.getElem?_cons_succ] at a0 a1
  have b0 := Blk.cell h2 0
  have b1 := Blk.cell h2 1
  have bf0 := Blk.frozen h2 0
  have bf1 := Blk.frozen h2 1
  have bl := Blk.lt h2
  simp only [List.getElem?_toArray, List.getElem?_cons_zero, List.getElem?_cons_succ] at b0 b1
  obtain ⟨l1, l2, l3, l4⟩ := hlo
  obtain ⟨u1, u2, u3, u4⟩ := hhi
  have p1 := mul_bd (x := lo.num) (y := n) (M := 1000) (N := 1000) (by omega) l2 hn hn'
  have p2 := mul_bd (x := hi.num) (y := n) (M := 1000) (N := 1000) (by omega) u2 hn hn'
  have q1 : -1000001000 ≤ k * lo.den ∧ k * lo.den ≤ 1000001000 := by
    rcases Int.le_total 0 k with h | h
    · have := mul_bd h hk' (y := lo.den) (N := 1000) (by omega) l4; omega
    · have := mul_bd (x := -k) (M := 1000001) (by omega) (by omega) (y := lo.den) (N := 1000) (by omega) l4
      rw [Int.neg_mul] at this; omega
  have q2 : -1000001000 ≤ k * hi.den ∧ k * hi.den ≤ 1000001000 := by
    rcases Int.le_total 0 k with h | h
    · have := mul_bd h hk' (y := hi.den) (N := 1000) (by omega) u4; omega
    · have := mul_bd (x := -k) (M := 1000001) (by omega) (by omega) (y := hi.den) (N := 1000) (by omega) u4
      rw [Int.neg_mul] at this; omega
  obtain ⟨p1, p1'⟩ := p1
  obtain ⟨p2, p2'⟩ := p2
  obtain ⟨q1, q1'⟩ := q1
  obtain ⟨q2, q2'⟩ := q2
  clear h1 h2
  go_enter Try.func19, Try.ntmps19
  go_wp2
  all_goals go_ret
  all_goals exact ⟨ret_bool (by unfold fitsB; first | (simp; done) | (simp; omega) | (simp [*]; omega)), rfl⟩

theorem meat_all {h : Hs} (hk : h.check = 0) (hag : agreeB h.clashM = true) (m n t : Int) (h0 : 0 ≤ n) (h1 : n ≤ 999) :
    (h.bounds m = (⟨0, 0⟩, ⟨0, 0⟩, 6) ∧ h.meat m n = (0, 0, 6) ∧ h.meat m (n + 1) = (0, 0, 6) ∧ h.kept m n t = (0, 6) ∧ h.kept m n (t + 1) = (0, 6)) ∨
    (∃ lo hi : Rat2, lo.Ok1 ∧ hi.Ok1 ∧ h.bounds m = (lo, hi, 0) ∧ ∃ a b a' b', MeatBd lo hi n a b ∧ a ≤ a' ∧ b ≤ b' ∧ (h.meat m (n + 1) = (a', b', 0) ∨ h.meat m (n + 1) = (0, 0, 8)) ∧
      ((a ≤ b ∧ h.meat m n = (a, b, 0) ∧ h.kept m n t = (max 0 (a - t), 0) ∧ h.kept m n (t + 1) = (max 0 (a - (t + 1)), 0)) ∨ (b < a ∧ h.meat m n = (0, 0, 8) ∧ h.kept m n t = (0, 8) ∧ h.kept m n (t + 1) = (0, 8)))) := by
  rcases bounds_err hag m with he | he
  · right
    obtain ⟨a, b, H, hc⟩ := meat_cases hk m n h0 (by omega) he
    obtain ⟨a', b', H', hc'⟩ := meat_cases hk m (n + 1) (by omega) (by omega) he
    rcases bounds_cases hk m with ⟨_, hlo, hhi⟩ | ⟨he', _⟩
    · obtain ⟨m1, m2⟩ := H.mono H' hlo hhi
      refine ⟨(h.bounds m).1, (h.bounds m).2.1, hlo, hhi, by rw [← he], a, b, a', b', H, m1, m2, ?_, ?_⟩
      · rcases hc' with ⟨_, hc'⟩ | ⟨_, hc'⟩
        · exact .inl hc'
        · exact .inr hc'
      · rcases hc with ⟨hab, hc⟩ | ⟨hab, hc⟩
        · refine .inl ⟨hab, hc, ?_, ?_⟩
          · rw [kept_ok (by rw [hc]), hc]
          · rw [kept_ok (by rw [hc]), hc]
        · refine .inr ⟨hab, hc, ?_, ?_⟩
          · rw [kept_err (by rw [hc]; decide), hc]
          · rw [kept_err (by rw [hc]; decide), hc]
    · omega
  · left
    have hne : (h.bounds m).2.2 ≠ 0 := by omega
    have m1 : h.meat m n = (0, 0, 6) := by rw [meat_err hne, he]
    have m2 : h.meat m (n + 1) = (0, 0, 6) := by rw [meat_err hne, he]
    refine ⟨?_, m1, m2, ?_, ?_⟩
    · rcases bounds_cases hk m with ⟨he', _⟩ | ⟨_, e1, e2⟩
      · omega
      · exact Prod.ext e1 (Prod.ext e2 he)
    · rw [kept_err (by rw [m1]; decide), m1]
    · rw [kept_err (by rw [m1]; decide), m1]

set_option maxRecDepth 100000 in
set_option maxHeartbeats 4000000 in
theorem boilMeat_any (A : Option Addr) (xs : List Int) (c : Nat) (n1 n2 n3 : Nat) (w : World) (hr : RowIn byteEnc 1 w w.heap.size A xs) (hl : xs.length ≤ 140737488355328) (hn1 : n1 ≤ 255) (hn2 : n2 ≤ 65535) (hn3 : n3 ≤ 65535) :
    Calls Try.prog 4 #[.slice A xs.length c, .int .u8 n1, .int .u16 n2, .int .u16 n3] w fun e w' => e = .returned (.bool true) ∧ Below w.heap.size w w' := by
  have eg := enters_of Try.func19 (by kernel_rfl) rfl
  have HP := Lib.hid (pile_any A xs c w hr)
  have HMD := Lib.hid (fun V h => made_any A xs w.heap.size 8 9 0 V h hl (by omega) (by omega) (by omega) (by omega) (by omega))
  clear hr hl
  go_enter Try.func4, Try.ntmps4
  go_wp2_with fail
  refine HP.out.mono ?_
  rintro e w1 ⟨rfl, hh1, hb1⟩
  go_wp2_with fail
  refine (HMD.out _ hh1).mono ?_
  rintro e w2 ⟨h, r, A1, cp, A2, nn, cq, rfl, hmn, hrw, hrr, hcg, hhp, hmk⟩
  have hB : Below w.heap.size w w2 := Chg.below hcg hb1 hb1.size (by simp)
  have hk := hmk.check (by omega) (by omega)
  have hlen := check_len hk
  have hmo := check_months hk
  have hpk := check_peak hk
  have HK := Lib.hid hk
  have HOK := Lib.hid (check_ok hk)
  have HMK := Lib.hid hmk
  obtain ⟨hmo1, hmo2⟩ := hmo
  obtain ⟨hpk1, hpk2⟩ := hpk
  have HMN := Lib.hid hmn
  have HRR := Lib.hid hrr
  clear hh1 hb1 hcg hhp hmk hk hmn hrr
  unfold Hs.val
  have hag := HMK.out.agree (by omega)
  have hx1 : 0 ≤ (n1 : Int) % h.months := Int.emod_nonneg _ (by omega)
  have hx2 : (n1 : Int) % h.months < h.months := Int.emod_lt_of_pos _ (by omega)
  have hy1 : 0 ≤ (n2 : Int) % 1000 := Int.emod_nonneg _ (by omega)
  have hy2 : (n2 : Int) % 1000 ≤ 999 := by omega
  have hz1 : 0 ≤ (n3 : Int) % 1000 := Int.emod_nonneg _ (by omega)
  have hz2 : (n3 : Int) % 1000 ≤ 999 := by omega
  have HMA := Lib.hid (meat_all HK.out hag ((n1 : Int) % h.months) ((n2 : Int) % 1000) ((n3 : Int) % 1000) hy1 hy2)
  have HBN := Lib.hid (fun V hr => bounds_any h A1 cp ((n1 : Int) % h.months) V hr HK.out (by simp [Hs.month, inB]; omega))
  have HM1 := Lib.hid (fun V hr => meat_any h A1 cp ((n1 : Int) % h.months) ((n2 : Int) % 1000) V hr HK.out (by simp [Hs.month, inB]; omega) hy1 (by omega))
  have HM2 := Lib.hid (fun V hr => meat_any h A1 cp ((n1 : Int) % h.months) ((n2 : Int) % 1000 + 1) V hr HK.out (by simp [Hs.month, inB]; omega) (by omega) (by omega))
  have HK1 := Lib.hid (fun V hr => kept_any h A1 cp ((n1 : Int) % h.months) ((n2 : Int) % 1000) ((n3 : Int) % 1000) V hr HK.out (by simp [Hs.month, inB]; omega) hy1 (by omega) hz1 (by omega))
  have HK2 := Lib.hid (fun V hr => kept_any h A1 cp ((n1 : Int) % h.months) ((n2 : Int) % 1000) ((n3 : Int) % 1000 + 1) V hr HK.out (by simp [Hs.month, inB]; omega) hy1 (by omega) (by omega) (by omega))
  clear hag
  unfold Hs.val at HBN HM1 HM2 HK1 HK2
  go_wp2_with fail
  have hb3 := alc w2 (.cells #[.int .i64 h.months, .int .i64 h.peak, .slice A1 h.ws.length cp] 25)
  have HH := Lib.hid (show LawHs h A1 cp w2.heap.size (w2.alloc (.cells #[.int .i64 h.months, .int .i64 h.peak, .slice A1 h.ws.length cp] 25)) from ⟨Blk.new _ _ _, hrw.later hb3⟩)
  have ehb3 := Below.step hB hb3
  clear hB
  have hB := ehb3
  clear ehb3
  generalize w2.alloc (.cells #[.int .i64 h.months, .int .i64 h.peak, .slice A1 h.ws.length cp] 25) = w3 at HH hB ⊢
  generalize w2.heap.size = g at HH ⊢
  clear hb3 hrw
  generalize (n1 : Int) % h.months = x at hx1 hx2 HMA HBN HM1 HM2 HK1 HK2 ⊢
  generalize (n2 : Int) % 1000 = y at hy1 hy2 HMA HM1 HM2 HK1 HK2 ⊢
  generalize (n3 : Int) % 1000 = z at hz1 hz2 HMA HK1 HK2 ⊢
  generalize h.bounds x = B at HMA HBN
  generalize h.meat x y = S1 at HMA HM1
  generalize h.meat x (y + 1) = S2 at HMA HM2
  generalize h.kept x y z = T1 at HMA HK1
  generalize h.kept x y (z + 1) = T2 at HMA HK2
  obtain ⟨⟨lon, lod⟩, ⟨hin, hdd⟩, eb⟩ := B
  obtain ⟨s1, s2, es⟩ := S1
  obtain ⟨m1, m2, em⟩ := S2
  obtain ⟨k1, ek⟩ := T1
  obtain ⟨l1, el⟩ := T2
  unfold bdVal Rat2.val at HBN
  unfold spVal at HM1 HM2
  simp only at HBN HM1 HM2 HK1 HK2
  refine (HBN.out _ HH.out.row).mono ?_
  rintro e w4 ⟨rfl, hb4⟩
  have ehb4 := Below.step hB hb4
  clear hB
  have hB := ehb4
  clear ehb4
  have ehb4 := Lib.hid (LawHs.later HH.out hb4)
  clear HH
  have HH := ehb4
  clear ehb4
  clear hb4 HBN
  have p0 := Blk.cell HH.out.hs 0
  have p1 := Blk.cell HH.out.hs 1
  have p2 := Blk.cell HH.out.hs 2
  have pf0 := Blk.frozen HH.out.hs 0
  have pf1 := Blk.frozen HH.out.hs 1
  have pf2 := Blk.frozen HH.out.hs 2
  have pl := Blk.lt HH.out.hs
  simp only [List.getElem?_toArray, List.getElem?_cons_zero, List.getElem?_cons_succ] at p0 p1 p2
  go_wp2_with fail
  clear p0 p1 p2 pf0 pf1 pf2 pl
  have hb5 : Below w4.heap.size w4 ((w4.alloc (.cells #[.int .i64 lon, .int .i64 lod] 43)).alloc (.cells #[.int .i64 hin, .int .i64 hdd] 43)) := Below.step (alc _ _) (alc _ _)
  have HL := Lib.hid ((Blk.new w4 43 #[.int .i64 lon, .int .i64 lod]).alloc (.cells #[.int .i64 hin, .int .i64 hdd] 43))
  have HU := Lib.hid (Blk.new (w4.alloc (.cells #[.int .i64 lon, .int .i64 lod] 43)) 43 #[.int .i64 hin, .int .i64 hdd])
  rw [World.size_alloc] at HU
  have ehb5 := Below.step hB hb5
  clear hB
  have hB := ehb5
  clear ehb5
  have ehb5 := Lib.hid (LawHs.later HH.out hb5)
  clear HH
  have HH := ehb5
  clear ehb5
  generalize (w4.alloc (.cells #[.int .i64 lon, .int .i64 lod] 43)).alloc (.cells #[.int .i64 hin, .int .i64 hdd] 43) = w5 at HL HU HH hB ⊢
  clear hb5
  generalize w4.heap.size = g1 at HL HU ⊢
  refine (HM1.out _ HH.out.row).mono ?_
  rintro e w6 ⟨rfl, hb4⟩
  have ehb4 := Below.step hB hb4
  clear hB
  have hB := ehb4
  clear ehb4
  have ehb4 := Lib.hid (LawHs.later HH.out hb4)
  clear HH
  have HH := ehb4
  clear ehb4
  have ehb4 := Lib.hid (Blk.later HL.out hb4)
  clear HL
  have HL := ehb4
  clear ehb4
  have ehb4 := Lib.hid (Blk.later HU.out hb4)
  clear HU
  have HU := ehb4
  clear ehb4
  clear hb4 HM1
  have p0 := Blk.cell HH.out.hs 0
  have p1 := Blk.cell HH.out.hs 1
  have p2 := Blk.cell HH.out.hs 2
  have pf0 := Blk.frozen HH.out.hs 0
  have pf1 := Blk.frozen HH.out.hs 1
  have pf2 := Blk.frozen HH.out.hs 2
  have pl := Blk.lt HH.out.hs
  simp only [List.getElem?_toArray, List.getElem?_cons_zero, List.getElem?_cons_succ] at p0 p1 p2
  go_wp2_with fail
  clear p0 p1 p2 pf0 pf1 pf2 pl
  have hb5 := alc w6 (.cells #[.int .i64 s1, .int .i64 s2] 47)
  have HS := Lib.hid (Blk.new w6 47 #[.int .i64 s1, .int .i64 s2])
  have ehb5 := Below.step hB hb5
  clear hB
  have hB := ehb5
  clear ehb5
  have ehb5 := Lib.hid (LawHs.later HH.out hb5)
  clear HH
  have HH := ehb5
  clear ehb5
  have ehb5 := Lib.hid (Blk.later HL.out hb5)
  clear HL
  have HL := ehb5
  clear ehb5
  have ehb5 := Lib.hid (Blk.later HU.out hb5)
  clear HU
  have HU := ehb5
  clear ehb5
  generalize w6.alloc (.cells #[.int .i64 s1, .int .i64 s2] 47) = w7 at HL HU HS HH hB ⊢
  clear hb5
  generalize w6.heap.size = g2 at HS ⊢
  refine (HM2.out _ HH.out.row).mono ?_
  rintro e w8 ⟨rfl, hb4⟩
  have ehb4 := Below.step hB hb4
  clear hB
  have hB := ehb4
  clear ehb4
  have ehb4 := Lib.hid (LawHs.later HH.out hb4)
  clear HH
  have HH := ehb4
  clear ehb4
  have ehb4 := Lib.hid (Blk.later HL.out hb4)
  clear HL
  have HL := ehb4
  clear ehb4
  have ehb4 := Lib.hid (Blk.later HU.out hb4)
  clear HU
  have HU := ehb4
  clear ehb4
  have ehb4 := Lib.hid (Blk.later HS.out hb4)
  clear HS
  have HS := ehb4
  clear ehb4
  clear hb4 HM2
  have p0 := Blk.cell HH.out.hs 0
  have p1 := Blk.cell HH.out.hs 1
  have p2 := Blk.cell HH.out.hs 2
  have pf0 := Blk.frozen HH.out.hs 0
  have pf1 := Blk.frozen HH.out.hs 1
  have pf2 := Blk.frozen HH.out.hs 2
  have pl := Blk.lt HH.out.hs
  simp only [List.getElem?_toArray, List.getElem?_cons_zero, List.getElem?_cons_succ] at p0 p1 p2
  go_wp2_with fail
  clear p0 p1 p2 pf0 pf1 pf2 pl
  have hb5 := alc w8 (.cells #[.int .i64 m1, .int .i64 m2] 47)
  have HT := Lib.hid (Blk.new w8 47 #[.int .i64 m1, .int .i64 m2])
  have ehb5 := Below.step hB hb5
  clear hB
  have hB := ehb5
  clear ehb5
  have ehb5 := Lib.hid (LawHs.later HH.out hb5)
  clear HH
  have HH := ehb5
  clear ehb5
  have ehb5 := Lib.hid (Blk.later HL.out hb5)
  clear HL
  have HL := ehb5
  clear ehb5
  have ehb5 := Lib.hid (Blk.later HU.out hb5)
  clear HU
  have HU := ehb5
  clear ehb5
  have ehb5 := Lib.hid (Blk.later HS.out hb5)
  clear HS
  have HS := ehb5
  clear ehb5
  generalize w8.alloc (.cells #[.int .i64 m1, .int .i64 m2] 47) = w9 at HL HU HS HT HH hB ⊢
  clear hb5
  generalize w8.heap.size = g3 at HT ⊢
  refine (HK1.out _ HH.out.row).mono ?_
  rintro e w10 ⟨rfl, hb4⟩
  have ehb4 := Below.step hB hb4
  clear hB
  have hB := ehb4
  clear ehb4
  have ehb4 := Lib.hid (LawHs.later HH.out hb4)
  clear HH
  have HH := ehb4
  clear ehb4
  have ehb4 := Lib.hid (Blk.later HL.out hb4)
  clear HL
  have HL := ehb4
  clear ehb4
  have ehb4 := Lib.hid (Blk.later HU.out hb4)
  clear HU
  have HU := ehb4
  clear ehb4
  have ehb4 := Lib.hid (Blk.later HS.out hb4)
  clear HS
  have HS := ehb4
  clear ehb4
  have ehb4 := Lib.hid (Blk.later HT.out hb4)
  clear HT
  have HT := ehb4
  clear ehb4
  clear hb4 HK1
  have p0 := Blk.cell HH.out.hs 0
  have p1 := Blk.cell HH.out.hs 1
  have p2 := Blk.cell HH.out.hs 2
  have pf0 := Blk.frozen HH.out.hs 0
  have pf1 := Blk.frozen HH.out.hs 1
  have pf2 := Blk.frozen HH.out.hs 2
  have pl := Blk.lt HH.out.hs
  simp only [List.getElem?_toArray, List.getElem?_cons_zero, List.getElem?_cons_succ] at p0 p1 p2
  go_wp2_with fail
  clear p0 p1 p2 pf0 pf1 pf2 pl
  refine (HK2.out _ HH.out.row).mono ?_
  rintro e w11 ⟨rfl, hb4⟩
  have ehb4 := Below.step hB hb4
  clear hB
  have hB := ehb4
  clear ehb4
  have ehb4 := Lib.hid (Blk.later HL.out hb4)
  clear HL
  have HL := ehb4
  clear ehb4
  have ehb4 := Lib.hid (Blk.later HU.out hb4)
  clear HU
  have HU := ehb4
  clear ehb4
  have ehb4 := Lib.hid (Blk.later HS.out hb4)
  clear HS
  have HS := ehb4
  clear ehb4
  have ehb4 := Lib.hid (Blk.later HT.out hb4)
  clear HT
  have HT := ehb4
  clear ehb4
  clear hb4 HK2 HH
  rcases HMA.out with ⟨e1, e2, e3, e4, e5⟩ | ⟨lo, hi, hlo, hhi, e1, a, b, a', b', HBD, ha, hb, e2, e3⟩
  · simp only [Prod.mk.injEq, Rat2.mk.injEq] at e1 e2 e3 e4 e5
    obtain ⟨⟨rfl, rfl⟩, ⟨rfl, rfl⟩, rfl⟩ := e1
    obtain ⟨rfl, rfl, rfl⟩ := e2
    obtain ⟨rfl, rfl, rfl⟩ := e3
    obtain ⟨rfl, rfl⟩ := e4
    obtain ⟨rfl, rfl⟩ := e5
    clear HMA
    go_wp2_with fail
    refine (awake_any _).mono ?_
    rintro e w12 ⟨rfl, hb4⟩
    have ehb4 := Below.step hB hb4
    clear hB
    have hB := ehb4
    clear ehb4
    clear hb4
    go_wp2
    go_ret
    exact ⟨rfl, hB⟩
  · obtain ⟨lon', lod'⟩ := lo
    obtain ⟨hin', hdd'⟩ := hi
    simp only [Prod.mk.injEq, Rat2.mk.injEq] at e1
    obtain ⟨⟨rfl, rfl⟩, ⟨rfl, rfl⟩, rfl⟩ := e1
    have HFT := Lib.hid (fun k V h1 h2 hk hk' => fits_any ⟨lon, lod⟩ ⟨hin, hdd⟩ g1 (g1 + 1) k y V h1 h2 hlo hhi hk hk' hy1 (by omega))
    have hld := hlo.d0
    have hud := hhi.d0
    simp only at hld hud
    have HBD1 := Lib.hid HBD
    obtain ⟨ba0, ba1, bb0, bb1, _, _, _, _⟩ := HBD
    clear HMA
    rcases e3 with ⟨hab, e4, e5, e6⟩ | ⟨hab, e4, e5, e6⟩
    · have HFI := Lib.hid (HBD1.out.fits hld hud hab)
      have HZE := Lib.hid (fun hn => HBD1.out.zero hld hud hn)
      have e7 : (max 0 (a - (z + 1)) : Int) = max 0 (max 0 (a - z) - 1) := by omega
      rw [e7] at e6
      simp only [Prod.mk.injEq] at e4 e5 e6
      obtain ⟨rfl, rfl, rfl⟩ := e4
      obtain ⟨rfl, rfl⟩ := e5
      obtain ⟨rfl, rfl⟩ := e6
      clear e7
      have hem : em = 0 ∨ em = 8 := by rcases e2 with h | h <;> (simp only [Prod.mk.injEq] at h; omega)
      have hmm : em = 0 → s1 ≤ m1 ∧ s2 ≤ m2 := by
        intro h0
        rcases e2 with h | h
        · simp only [Prod.mk.injEq] at h; omega
        · simp only [Prod.mk.injEq] at h; omega
      clear e2 ha hb
      have HEM := Lib.hid hem
      have HMM := Lib.hid hmm
      clear hem hmm
      have H1 := Lib.hid (HFT.out s1 w11 HL.out HU.out (by omega) (by omega))
      have H2 := Lib.hid (HFT.out s2 w11 HL.out HU.out (by omega) (by omega))
      have H3 := Lib.hid (HFT.out (s1 - 1) w11 HL.out HU.out (by omega) (by omega))
      have H4 := Lib.hid (HFT.out (s2 + 1) w11 HL.out HU.out (by omega) (by omega))
      rw [HFI.out.1] at H1
      rw [HFI.out.2.1] at H2
      rw [HFI.out.2.2.1] at H3
      rw [HFI.out.2.2.2] at H4
      have p0 := Blk.cell HS.out 0
      have p1 := Blk.cell HS.out 1
      have pf0 := Blk.frozen HS.out 0
      have pf1 := Blk.frozen HS.out 1
      have pl := Blk.lt HS.out
      simp only [List.getElem?_toArray, List.getElem?_cons_zero, List.getElem?_cons_succ] at p0 p1
      have q0 := Blk.cell HT.out 0
      have q1 := Blk.cell HT.out 1
      have qf0 := Blk.frozen HT.out 0
      have qf1 := Blk.frozen HT.out 1
      have ql := Blk.lt HT.out
      simp only [List.getElem?_toArray, List.getElem?_cons_zero, List.getElem?_cons_succ] at q0 q1
      have hqs := fun W => eq_span W 9998 0 0 0 0
      simp only [beq_self_eq_true, Bool.and_self, Nat.reduceAdd] at hqs
      have HQS := Lib.hid hqs
      clear hqs
      rcases HEM.out with rfl | rfl
      · obtain ⟨hm1, hm2⟩ := HMM.out rfl
        go_wp2_with fail
        refine H1.out.mono ?_
        rintro e wz ⟨rfl, rfl⟩
        go_wp2_with fail
        refine H2.out.mono ?_
        rintro e wz ⟨rfl, rfl⟩
        go_wp2_with fail
        refine H3.out.mono ?_
        rintro e wz ⟨rfl, rfl⟩
        go_wp2_with fail
        refine H4.out.mono ?_
        rintro e wz ⟨rfl, rfl⟩
        by_cases hy0 : y = 0
        · obtain ⟨rfl, rfl⟩ := HZE.out hy0
          subst hy0
          have hkk : (max 0 (0 - z) : Int) = 0 := by omega
          rw [hkk]
          clear hkk
          have hkk : (max 0 (-z) : Int) = 0 := by omega
          have hqs := HQS.out
          go_wp2_with fail
          refine (awake_any _).mono ?_
          rintro e w12 ⟨rfl, hb4⟩
          have ehb4 := Below.step hB hb4
          clear hB
          have hB := ehb4
          clear ehb4
          clear hb4
          go_wp2
          go_ret
          exact ⟨rfl, hB⟩
        · have hq : (y == 0) = false := by simpa using hy0
          have HY := Lib.hid hy0
          clear hy0
          go_wp2_with fail
          refine (awake_any _).mono ?_
          rintro e w12 ⟨rfl, hb4⟩
          have ehb4 := Below.step hB hb4
          clear hB
          have hB := ehb4
          clear ehb4
          clear hb4
          go_wp2
          go_ret
          exact ⟨rfl, hB⟩
      · go_wp2_with fail
        refine H1.out.mono ?_
        rintro e wz ⟨rfl, rfl⟩
        go_wp2_with fail
        refine H2.out.mono ?_
        rintro e wz ⟨rfl, rfl⟩
        go_wp2_with fail
        refine H3.out.mono ?_
        rintro e wz ⟨rfl, rfl⟩
        go_wp2_with fail
        refine H4.out.mono ?_
        rintro e wz ⟨rfl, rfl⟩
        by_cases hy0 : y = 0
        · obtain ⟨rfl, rfl⟩ := HZE.out hy0
          subst hy0
          have hkk : (max 0 (0 - z) : Int) = 0 := by omega
          rw [hkk]
          clear hkk
          have hkk : (max 0 (-z) : Int) = 0 := by omega
          have hqs := HQS.out
          go_wp2_with fail
          refine (awake_any _).mono ?_
          rintro e w12 ⟨rfl, hb4⟩
          have ehb4 := Below.step hB hb4
          clear hB
          have hB := ehb4
          clear ehb4
          clear hb4
          go_wp2
          go_ret
          exact ⟨rfl, hB⟩
        · have hq : (y == 0) = false := by simpa using hy0
          have HY := Lib.hid hy0
          clear hy0
          go_wp2_with fail
          refine (awake_any _).mono ?_
          rintro e w12 ⟨rfl, hb4⟩
          have ehb4 := Below.step hB hb4
          clear hB
          have hB := ehb4
          clear ehb4
          clear hb4
          go_wp2
          go_ret
          exact ⟨rfl, hB⟩
    · have HNO := Lib.hid (HBD1.out.none_ hld hud hab)
      simp only [Prod.mk.injEq] at e4 e5 e6
      obtain ⟨rfl, rfl, rfl⟩ := e4
      obtain ⟨rfl, rfl⟩ := e5
      obtain ⟨rfl, rfl⟩ := e6
      have hem : em = 0 ∨ em = 8 := by rcases e2 with h | h <;> (simp only [Prod.mk.injEq] at h; omega)
      clear e2 ha hb
      rcases hem with rfl | rfl
      all_goals
        go_wp2
        go_loopw [137] (fun i wr => ∃ q : Nat, q ≤ 2000 ∧ i = .int .i64 q ∧ Below w11.heap.size w11 wr) (fun i _ => (2000 - intOf i).toNat)
        case atStart => exact ⟨0, by omega, rfl, Below.refl _ _⟩
        case round =>
          obtain ⟨q, hq, rfl, hb⟩ := hrel
          have hBq := Below.step hB hb
          by_cases hlt : q < 2000
          · have hlt' : (q : Int) < 2000 := by omega
            have H1 := Lib.hid (HFT.out q wr (HL.out.later hb) (HU.out.later hb) (by omega) (by omega))
            rw [HNO.out] at H1
            go_wp2_with fail
            refine H1.out.mono ?_
            rintro e wz ⟨rfl, rfl⟩
            go_wp2
            go_roundw
            case rel => exact ⟨q + 1, by omega, by go_num, hb⟩
            case measure => simp [intOf]; omega
          · obtain rfl : q = 2000 := by omega
            go_wp2_with fail
            refine (awake_any _).mono ?_
            rintro e w12 ⟨rfl, hb4⟩
            have ehb4 := Below.step hBq hb4
            clear hBq
            have hBq := ehb4
            clear ehb4
            clear hb4
            go_wp2
            go_ret
            exact ⟨rfl, hBq⟩
end Go.Proofs.Ytjihnnbpfdhceaa
