/- laurellaw08.BoilGrown. Conditions: none beyond those that each theorem names. -/
import Derived.Test.YtjihnnbpfdhceaaGBoilGrown25
import Derived.Test.YtjihnnbpfdhceaaGBoilGrown28
set_option linter.unusedSimpArgs false
set_option linter.unusedVariables false
namespace Go.Proofs.Ytjihnnbpfdhceaa
open Go.RowKit Go.Shelf
attribute [local go_sem] Oper.semAt_some
attribute [local go_sem ↓] Go.wp_at_zero Go.wp_at_succ

set_option maxHeartbeats 1000000 in
theorem indexI_any (A : Option Addr) (xs : List Int) (c : Nat) (v : Int) (w : World) (hr : RowIn intEnc 1 w w.heap.size A xs) (hl : xs.length ≤ 1000000) :
    Calls Try.prog 71 #[.slice A xs.length c, .int .i64 v] w fun e w' => e = .returned (.int .i64 (idxI xs (fun x => decide (v = x)))) ∧ w = w' := by
  have HR := Lib.hid hr
  clear hr
  go_enter Try.func71, Try.ntmps71
  go_wp2
  go_loop [5, 8] (fun _ i => ∃ k : Nat, k ≤ xs.length ∧ i = .int .i64 k ∧ Aside (∀ j (h : j < xs.length), j < k → decide (v = xs[j]) = false)) (fun _ i => (xs.length - intOf i).toNat)
  case atStart => exact ⟨0, Nat.zero_le _, rfl, fun j _ h => absurd h (Nat.not_lt_zero _)⟩
  case round =>
    obtain ⟨k, hk, rfl, HA⟩ := hrel
    by_cases hlt : k < xs.length
    · obtain ⟨b, o, x, rfl, hB, hx, x0⟩ := HR.out.nat k hlt
      have HX := Lib.hid hx
      clear hx
      by_cases hv : v = x
      · subst hv
        go_wp2
        go_ret
        exact ⟨ret_int (by rw [idxI_hit xs _ k hlt (by rw [HX.out]; simp) (fun j hj => HA.out j (by omega) hj)]), rfl⟩
      · have hq : (v == x) = false := by simpa using hv
        have HV := Lib.hid hv
        clear hv
        go_wp2
        go_round
        case rel =>
          refine ⟨k + 1, by omega, by go_num, (show Aside _ from fun j hj hjk => ?_)⟩
          by_cases e : j = k
          · subst e
            rw [HX.out]; exact decide_eq_false HV.out
          · exact HA.out j hj (by omega)
        case measure => simp [intOf]; omega
    · obtain rfl : k = xs.length := by omega
      go_wp2
      go_ret
      exact ⟨ret_int (idxI_miss xs _ (fun j hj => HA.out j hj hj)).symm, rfl⟩
theorem containsI_any (A : Option Addr) (xs : List Int) (c : Nat) (v : Int) (w : World) (hr : RowIn intEnc 1 w w.heap.size A xs) (hl : xs.length ≤ 1000000) :
    Calls Try.prog 31 #[.slice A xs.length c, .int .i64 v] w fun e w' => e = .returned (.bool (decide (v ∈ xs))) ∧ w = w' := by
  have hany : xs.any (fun x => decide (v = x)) = decide (v ∈ xs) := by
    rw [Bool.eq_iff_iff, List.any_eq_true, decide_eq_true_eq]
    constructor
    · rintro ⟨x, hx, h⟩
      rw [decide_eq_true_eq] at h
      exact h ▸ hx
    · intro h
      exact ⟨v, h, by simp⟩
  rw [← hany, ← idxI_any]
  have HI := Lib.hid (indexI_any A xs c v w hr hl)
  clear hr hany
  go_enter Try.func31, Try.ntmps31
  go_wp2_with fail
  refine HI.out.mono ?_
  rintro e w1 ⟨rfl, rfl⟩
  go_wp2
  go_ret
  exact ⟨rfl, rfl⟩
abbrev IntV := Int
def IntV.enc (x : IntV) : List Value := [.int .i64 x]
def IntV.val (x : IntV) : Value := .int .i64 x
theorem RowIn.natV {B : Nat} {w : World} {A : Option Addr} {l : List IntV} (h : RowIn IntV.enc 1 w B A l) (i : Nat) (hi : i < l.length) :
    ∃ b o x, A = some ⟨b, o, none⟩ ∧ b < B ∧ l[i] = x ∧ w.cell? ⟨b, o + i, none⟩ = some (.int .i64 x) := RowIn.nat h i hi
set_option maxHeartbeats 400000 in
theorem indexV_any (g : FuncId) (cap : Array Value) (eg : ∀ args w, (callFunc g args).run Try.prog w = .ok (.enter g args) w) (p : IntV → Bool) (A : Option Addr) (xs : List IntV) (c : Nat) (w : World)
    (hr : RowIn IntV.enc 1 w w.heap.size A xs) (hp : PredOk IntV.val g cap w xs p) (hl : xs.length ≤ 1000000) :
    Calls Try.prog 72 #[.slice A xs.length c, .func (.func g) #[] cap] w fun e w' => e = .returned (.int .i64 (idxI xs p)) ∧ Below w.heap.size w w' := by
  go_enter Try.func72, Try.ntmps72
  go_wp2
  go_loopw [8] (fun i wr => ∃ j : Nat, j ≤ xs.length ∧ i = .int .i64 j ∧ Aside (∀ q (h : q < xs.length), q < j → p xs[q] = false) ∧ Aside (Below w.heap.size w wr)) (fun i _ => xs.length - (intOf i).toNat)
  case atStart => exact ⟨0, Nat.zero_le _, rfl, fun q _ h => absurd h (Nat.not_lt_zero _), Below.refl _ _⟩
  case round =>
    obtain ⟨k, hk, rfl, HA, hbw⟩ := hrel
    have hbw' : Below w.heap.size w wr := hbw
    clear hbw
    have hbw := hbw'
    clear hbw'
    by_cases hlt : k < xs.length
    · obtain ⟨b, o, x, rfl, hB, hx, c0⟩ := (hr.below hbw).natV k hlt
      have hcall := hp wr x (by rw [← hx]; exact List.getElem_mem hlt) hbw
      have HX := Lib.hid hx
      clear hx hr hp
      cases hq : p x with
      | true =>
        rw [hq] at hcall
        have HC := Lib.hid hcall
        clear hcall
        go_wp2_with fail
        refine HC.out.mono ?_
        rintro e w' ⟨rfl, hb'⟩
        go_wp2
        go_ret
        refine ⟨ret_int ?_, hbw.trans (hb'.mono hbw.size)⟩
        rw [idxI_hit xs p k hlt (by rw [HX.out]; exact hq) (fun j hj => HA.out j (by omega) hj)]
      | false =>
        rw [hq] at hcall
        have HC := Lib.hid hcall
        clear hcall
        go_wp2_with fail
        refine HC.out.mono ?_
        rintro e w' ⟨rfl, hb'⟩
        go_wp2
        go_roundw
        case rel =>
          refine ⟨k + 1, by omega, by go_num, (show Aside _ from fun j hj hjk => ?_), hbw.trans (hb'.mono hbw.size)⟩
          by_cases e : j = k
          · subst e
            rw [HX.out]; exact hq
          · exact HA.out j hj (by omega)
        case measure => simp [intOf]; omega
    · obtain rfl : k = xs.length := by omega
      clear hr hp
      go_wp2
      go_ret
      exact ⟨ret_int (idxI_miss xs p (fun j hj => HA.out j hj hj)).symm, hbw⟩
set_option maxHeartbeats 400000 in
theorem containsV_any (g : FuncId) (cap : Array Value) (eg : ∀ args w, (callFunc g args).run Try.prog w = .ok (.enter g args) w) (p : IntV → Bool) (A : Option Addr) (xs : List IntV) (c : Nat) (w : World)
    (hr : RowIn IntV.enc 1 w w.heap.size A xs) (hp : PredOk IntV.val g cap w xs p) (hl : xs.length ≤ 1000000) :
    Calls Try.prog 32 #[.slice A xs.length c, .func (.func g) #[] cap] w fun e w' => e = .returned (.bool (xs.any p)) ∧ Below w.heap.size w w' := by
  rw [← idxI_any]
  have HR := Lib.hid hr
  have HP := Lib.hid hp
  clear hr hp
  go_enter Try.func32, Try.ntmps32
  go_wp2_with (go_at_call 72; refine (indexV_any g cap eg p A xs c _ HR.out HP.out hl).mono ?_; rintro e w' ⟨rfl, hb⟩)
  go_ret
  exact ⟨rfl, hb⟩
theorem grown1_pred (A : Option Addr) (ts : List Int) (c : Nat) (l : List Int) (w : World) (n : Nat) (hn : n < w.heap.size) (hr : RowIn intEnc 1 w w.heap.size A ts) (hl : ts.length ≤ 1000000)
    (hc : w.cell? ⟨n, 0, none⟩ = some (.slice A ts.length c)) : PredOk IntV.val 33 #[.pointer (some ⟨n, 0, none⟩)] w l (fun x => decide (x ∈ ts)) := by
  intro w1 x hx hb
  have hc1 := (hb.cell (p := ⟨n, 0, none⟩) hn).trans hc
  have hlt : n < w1.heap.size := Nat.lt_of_lt_of_le hn hb.size
  have HC := Lib.hid (containsI_any A ts c x w1 (hr.later hb) hl)
  clear hc hr
  unfold IntV.val
  rw [show ∀ a b : Value, (#[a] ++ #[b] : Array Value) = #[a, b] from fun _ _ => rfl]
  go_enter Try.func33, Try.ntmps33
  go_wp2_with fail
  refine HC.out.mono ?_
  rintro e w2 ⟨rfl, rfl⟩
  go_wp2
  go_ret
  exact ⟨rfl, Below.refl _ _⟩
end Go.Proofs.Ytjihnnbpfdhceaa

/- laurellaw08.BoilGrown: the walk. Conditions: none beyond those that each theorem names. -/
set_option linter.unusedSimpArgs false
set_option linter.unusedVariables false
namespace Go.Proofs.Ytjihnnbpfdhceaa
open Go.RowKit Go.Shelf
attribute [local go_sem] Oper.semAt_some
attribute [local go_sem ↓] Go.wp_at_zero Go.wp_at_succ

theorem few_zero {h : Hs} (h0 : h.ws.length = 0) : fewL h.clashM h.ws.length = [] := by
  have hc : h.clashM = fun _ _ => false := by
    funext i j
    unfold Hs.clashM
    rw [dif_neg (by omega)]
  rw [hc, fewL_none]
theorem cast_mem {n : Nat} {l : List Nat} : decide ((n : Int) ∈ l.map fun (m : Nat) => (m : Int)) = decide (n ∈ l) := by
  rw [Bool.eq_iff_iff, decide_eq_true_eq, decide_eq_true_eq, List.mem_map]
  constructor
  · rintro ⟨m, hm, he⟩
    have : m = n := by omega
    exact this ▸ hm
  · intro h
    exact ⟨n, h, rfl⟩
theorem flat_set_two (ws : List Wg) (k : Nat) (hk : k < ws.length) (a b : Int) : ((ws.flatMap Wg.enc).set (k * 5 + 3) (.int .i64 a)).set (k * 5 + 2) (.int .i64 b) = (ws.modify k fun x => ⟨x.month, x.slo, b, a, x.mhi⟩).flatMap Wg.enc := by
  induction ws generalizing k with
  | nil => simp at hk
  | cons x ws ih =>
    cases k with
    | zero => simp [Wg.enc]
    | succ k =>
      rw [List.flatMap_cons, List.modify_succ_cons, List.flatMap_cons, List.set_append_right _ _ (by simp [Wg.enc]; omega), List.set_append_right _ _ (by simp [Wg.enc]; omega)]
      congr 1
      rw [← ih k (by simpa using hk)]
      have e1 : (k + 1) * 5 + 3 - x.enc.length = k * 5 + 3 := by simp [Wg.enc]; omega
      have e2 : (k + 1) * 5 + 2 - x.enc.length = k * 5 + 2 := by simp [Wg.enc]; omega
      rw [e1, e2]

theorem flat_widen {h : Hs} {n : Nat} (hn : n < h.ws.length) {x : Wg} (hx : h.ws[n] = x) {d e : Int} :
    ((h.ws.modify n fun y => ⟨y.month, y.slo, min 1000 (x.shi + e), max 1 (x.mlo - d), y.mhi⟩).flatMap Wg.enc) = (h.widen n d e).ws.flatMap Wg.enc := by
  unfold Hs.widen widenW
  congr 1
  apply List.ext_getElem
  · simp
  · intro i h1 h2
    simp only [List.getElem_modify]
    split
    · rename_i he
      subst he
      rw [hx]
    · rfl
theorem none_both {F T : List Nat} (h : ∀ x ∈ F, x ∉ T) : ((F.map fun (m : Nat) => (m : Int)).any fun x => decide (x ∈ T.map fun (m : Nat) => (m : Int))) = false := by
  rw [List.any_eq_false]
  intro x hx
  obtain ⟨m, hm, rfl⟩ := List.mem_map.1 hx
  rw [cast_mem]
  simpa using h m hm
theorem drop1_len {h : Hs} {n : Nat} (hn : n < h.ws.length) : (h.drop1 n).ws.length = h.ws.length - 1 := erase_len hn

set_option maxRecDepth 100000 in
set_option maxHeartbeats 4000000 in
theorem boilGrown_any (A : Option Addr) (xs : List Int) (c : Nat) (n1 n2 : Nat) (w : World) (hr : RowIn byteEnc 1 w w.heap.size A xs) (hl : xs.length ≤ 140737488355328) (hn1 : n1 ≤ 255) (hn2 : n2 ≤ 255) :
    Calls Try.prog 7 #[.slice A xs.length c, .int .u8 n1, .int .u8 n2] w fun e w' => e = .returned (.bool true) ∧ Below w.heap.size w w' := by
  have HP := Lib.hid (pile_any A xs c w hr)
  have HMD := Lib.hid (fun V h => made_any A xs w.heap.size 10 11 3 V h hl (by omega) (by omega) (by omega) (by omega) (by omega))
  clear hr hl
  go_enter Try.func7, Try.ntmps7
  go_wp2_with fail
  refine HP.out.mono ?_
  rintro e w1 ⟨rfl, hh1, hb1⟩
  go_wp2_with fail
  refine (HMD.out _ hh1).mono ?_
  rintro e w2 ⟨h, r, A1, cp, A2, nn, cq, rfl, hmn, hrw, hrr, hcg, hhp, hmk⟩
  have hB : Below w.heap.size w w2 := Chg.below hcg hb1 hb1.size (by simp)
  have hk := hmk.check (by omega) (by omega)
  have hlen := check_len hk
  have hmo := check_months hk
  have hpk := check_peak hk
  have HK := Lib.hid hk
  have HOK := Lib.hid (check_ok hk)
  have HMK := Lib.hid hmk
  obtain ⟨hmo1, hmo2⟩ := hmo
  obtain ⟨hpk1, hpk2⟩ := hpk
  have HMN := Lib.hid hmn
  have HRR := Lib.hid hrr
  clear hh1 hb1 hcg hhp hmk hk hmn hrr
  unfold Hs.val
  have HF1 := Lib.hid (fun V hr => fewest_any h A1 cp V hr HK.out)
  unfold Hs.val at HF1
  go_wp2_with fail
  have hb3 := alc w2 (.cells #[.int .i64 h.months, .int .i64 h.peak, .slice A1 h.ws.length cp] 25)
  have HH := Lib.hid (show LawHs h A1 cp w2.heap.size (w2.alloc (.cells #[.int .i64 h.months, .int .i64 h.peak, .slice A1 h.ws.length cp] 25)) from ⟨Blk.new _ _ _, hrw.later hb3⟩)
  have ehb3 := Below.step hB hb3
  clear hB
  have hB := ehb3
  clear ehb3
  generalize w2.alloc (.cells #[.int .i64 h.months, .int .i64 h.peak, .slice A1 h.ws.length cp] 25) = w3 at HH hB ⊢
  generalize w2.heap.size = g at HH ⊢
  clear hb3 hrw
  by_cases h0 : h.ws.length = 0
  · have hq : ((h.ws.length : Int) == 0) = true := by simp [h0]
    rw [few_zero h0] at HF1
    clear h0
    refine (HF1.out _ HH.out.row).mono ?_
    rintro e w4 ⟨v4, rfl, hown, hb4⟩
    obtain ⟨a4, c4, rfl, _⟩ := row_of_ints (l := []) hown
    have ehb4 := Below.step hB hb4
    clear hB
    have hB := ehb4
    clear ehb4
    have ehb4 := Lib.hid (LawHs.later HH.out hb4)
    clear HH
    have HH := ehb4
    clear ehb4
    clear hown hb4 HF1
    have p0 := Blk.cell HH.out.hs 0
    have p1 := Blk.cell HH.out.hs 1
    have p2 := Blk.cell HH.out.hs 2
    have pf0 := Blk.frozen HH.out.hs 0
    have pf1 := Blk.frozen HH.out.hs 1
    have pf2 := Blk.frozen HH.out.hs 2
    have pl := Blk.lt HH.out.hs
    simp only [List.getElem?_toArray, List.getElem?_cons_zero, List.getElem?_cons_succ] at p0 p1 p2
    go_wp2_with fail
    refine (awake_any _).mono ?_
    rintro e w5 ⟨rfl, hb4⟩
    have ehb4 := Below.step hB hb4
    clear hB
    have hB := ehb4
    clear ehb4
    clear hb4
    go_wp2
    go_ret
    exact ⟨rfl, hB⟩
  · have hq : ((h.ws.length : Int) == 0) = false := by simpa using h0
    have hlen0 : 1 ≤ h.ws.length := by omega
    have hx1 : 0 ≤ (n1 : Int) % h.ws.length := Int.emod_nonneg _ (by omega)
    have hx2 : (n1 : Int) % h.ws.length < h.ws.length := Int.emod_lt_of_pos _ (by omega)
    clear h0
    refine (HF1.out _ HH.out.row).mono ?_
    rintro e w4 ⟨v4, rfl, hown, hb4⟩
    have HFL := Lib.hid (fewL_len h.clashM h.ws.length)
    obtain ⟨aF, cF, rfl, hrF⟩ := row_of_ints hown
    have HRF := Lib.hid hrF
    have ehb4 := Below.step hB hb4
    clear hB
    have hB := ehb4
    clear ehb4
    have ehb4 := Lib.hid (LawHs.later HH.out hb4)
    clear HH
    have HH := ehb4
    clear ehb4
    clear hown hb4 HF1 hrF
    have p0 := Blk.cell HH.out.hs 0
    have p1 := Blk.cell HH.out.hs 1
    have p2 := Blk.cell HH.out.hs 2
    have pf0 := Blk.frozen HH.out.hs 0
    have pf1 := Blk.frozen HH.out.hs 1
    have pf2 := Blk.frozen HH.out.hs 2
    have pl := Blk.lt HH.out.hs
    simp only [List.getElem?_toArray, List.getElem?_cons_zero, List.getElem?_cons_succ] at p0 p1 p2
    go_wp2_with fail
    clear p0 p1 p2 pf0 pf1 pf2 pl
    generalize hxn : (n1 : Int) % h.ws.length = x at hx1 hx2 ⊢
    clear hxn
    obtain ⟨n, rfl⟩ := Int.eq_ofNat_of_zero_le hx1
    have hn : n < h.ws.length := by omega
    have hd1 : 0 ≤ (n2 : Int) % 5 := by omega
    have hd2 : (n2 : Int) % 5 ≤ 4 := by omega
    have he1 : 0 ≤ (n2 : Int) % 3 := by omega
    have he2 : (n2 : Int) % 3 ≤ 2 := by omega
    have HG := Lib.hid (grown_facts HK.out hn hd1 he1)
    rw [← drop1_len hn] at HG
    have HWO := Lib.hid (fun V A5 c5 hr hp => without_any h A1 cp A5 [(n : Int)] c5 V hr HK.out hp (by simp) (by intro m hm; rw [List.mem_singleton.1 hm]; omega))
    rw [show h.without [(n : Int)] = h.drop1 n from without_one hn, gone_one hn] at HWO
    have HF2 := Lib.hid (fun V A5 c5 hr => fewest_any (h.drop1 n) A5 c5 V hr (drop1_check HK.out n))
    have hb5 := alc w4 (.cells #[.int .i64 n] 3)
    have hp7 := row_of_new intEnc 1 int_len w4 3 #[.int .i64 n] [(n : Int)] rfl
    have ehb5 := Below.step hB hb5
    clear hB
    have hB := ehb5
    clear ehb5
    have ehb5 := Lib.hid (LawHs.later HH.out hb5)
    clear HH
    have HH := ehb5
    clear ehb5
    have ehb5 := Lib.hid (RowIn.later HRF.out hb5)
    clear HRF
    have HRF := ehb5
    clear ehb5
    generalize w4.alloc (.cells #[.int .i64 n] 3) = w5 at HH HRF hB hp7 ⊢
    clear hb5
    have H1 := Lib.hid (HWO.out w5 _ 1 HH.out.row hp7)
    unfold Hs.val at H1 HF2
    clear hp7 HWO
    refine H1.out.mono ?_
    rintro e w6 ⟨A5, c5, rfl, hr5, hb4⟩
    have HR5 := Lib.hid hr5
    have ehb4 := Below.step hB hb4
    clear hB
    have hB := ehb4
    clear ehb4
    have ehb4 := Lib.hid (LawHs.later HH.out hb4)
    clear HH
    have HH := ehb4
    clear ehb4
    have ehb4 := Lib.hid (RowIn.later HRF.out hb4)
    clear HRF
    have HRF := ehb4
    clear ehb4
    clear hb4 hr5 H1
    go_wp2_with fail
    have hb5 := alc w6 (.cells #[.int .i64 (h.drop1 n).months, .int .i64 (h.drop1 n).peak, .slice A5 (h.drop1 n).ws.length c5] 25)
    have ehb5 := Below.step hB hb5
    clear hB
    have hB := ehb5
    clear ehb5
    have ehb5 := Lib.hid (LawHs.later HH.out hb5)
    clear HH
    have HH := ehb5
    clear ehb5
    have ehb5 := Lib.hid (RowIn.later HRF.out hb5)
    clear HRF
    have HRF := ehb5
    clear ehb5
    have ehb5 := Lib.hid (RowIn.later HR5.out hb5)
    clear HR5
    have HR5 := ehb5
    clear ehb5
    generalize w6.alloc (.cells #[.int .i64 (h.drop1 n).months, .int .i64 (h.drop1 n).peak, .slice A5 (h.drop1 n).ws.length c5] 25) = w7 at HH HRF HR5 hB ⊢
    clear hb5
    refine (HF2.out _ A5 c5 HR5.out).mono ?_
    rintro e w8 ⟨v8, rfl, hown, hb4⟩
    obtain ⟨aO, cO, rfl, _⟩ := row_of_ints hown
    have ehb4 := Below.step hB hb4
    clear hB
    have hB := ehb4
    clear ehb4
    have ehb4 := Lib.hid (LawHs.later HH.out hb4)
    clear HH
    have HH := ehb4
    clear ehb4
    have ehb4 := Lib.hid (RowIn.later HRF.out hb4)
    clear HRF
    have HRF := ehb4
    clear ehb4
    clear hb4 hown HF2 HR5
    generalize hF : fewL h.clashM h.ws.length = F at HG HRF HFL ⊢
    generalize fewL (h.drop1 n).clashM (h.drop1 n).ws.length = O at HG ⊢
    obtain ⟨g1, g2, g3, _⟩ := HG.out
    have g1' : ¬ F.length < O.length := by omega
    have hFl := HFL.out
    have g0 : wrap64 ((F.length : Int) - 1) = (F.length : Int) - 1 := IntWalk.wrap64_in _ ⟨by omega, by omega⟩
    have g2' : decide ((O.length : Int) < wrap64 ((F.length : Int) - 1)) = false := by rw [g0]; exact decide_eq_false (by omega)
    have g3' : n ∈ F → ((O.length : Int) != wrap64 ((F.length : Int) - 1)) = false := by
      intro hm
      have := g3 hm
      rw [g0, bne_eq_false_iff_eq]; omega
    clear hFl g0
    have HC1 := Lib.hid (fun V hr => containsI_any aF (F.map fun (m : Nat) => (m : Int)) cF n V hr (by rw [List.length_map]; have := HFL.out; omega))
    rw [List.length_map, cast_mem] at HC1
    have G3 := Lib.hid g3'
    have HFE := Lib.hid hF
    clear g1 g2 g3 g3' hF
    go_wp2_with fail
    refine (HC1.out _ HRF.out).mono ?_
    rintro e w9 ⟨rfl, rfl⟩
    have HOWN := Lib.hid (fun V hr => own_any h A1 cp V hr (by omega))
    unfold Hs.val at HOWN
    have HM : decide (n ∈ F) = false ∨ n ∈ F := by
      by_cases hm : n ∈ F
      · exact .inr hm
      · exact .inl (by simpa using hm)
    clear HC1
    obtain ⟨b, hb, hbq⟩ : ∃ b, decide (n ∈ F) = b ∧ (b = true → ((O.length : Int) != wrap64 ((F.length : Int) - 1)) = false) := ⟨_, rfl, fun h => G3.out (of_decide_eq_true h)⟩
    rw [hb]
    clear HM hb
    have HBQ := Lib.hid hbq
    clear hbq
    cases b
    case' true =>
      have hbq := HBQ.out rfl
    all_goals
      clear HBQ
      go_upto_if 93 with fail
      have p0 := Blk.cell HH.out.hs 0
      have p1 := Blk.cell HH.out.hs 1
      have p2 := Blk.cell HH.out.hs 2
      have pf0 := Blk.frozen HH.out.hs 0
      have pf1 := Blk.frozen HH.out.hs 1
      have pf2 := Blk.frozen HH.out.hs 2
      have pl := Blk.lt HH.out.hs
      simp only [List.getElem?_toArray, List.getElem?_cons_zero, List.getElem?_cons_succ] at p0 p1 p2
      go_wp2_with fail
      refine (HOWN.out _ HH.out.row).mono ?_
      rintro e w9 ⟨gv, cv, rfl, hO, hb4⟩
      have hgv := hO.lt gv rfl
      obtain ⟨hgv1, hgv2⟩ := hgv
      obtain ⟨x, hx⟩ : ∃ x, h.ws[n] = x := ⟨_, rfl⟩
      have hc3 : (h.ws.flatMap Wg.enc)[n * 5 + 3]? = some (.int .i64 x.mlo) := by
        have := flat_get Wg.enc 5 wg_len h.ws n hn 3 (by omega)
        rw [hx] at this
        exact this
      have hc2 : (h.ws.flatMap Wg.enc)[n * 5 + 2]? = some (.int .i64 x.shi) := by
        have := flat_get Wg.enc 5 wg_len h.ws n hn 2 (by omega)
        rw [hx] at this
        exact this
      obtain ⟨hw1, hw2⟩ : wrap64 (x.mlo - (n2 : Int) % 5) = x.mlo - (n2 : Int) % 5 ∧ wrap64 (x.shi + (n2 : Int) % 3) = x.shi + (n2 : Int) % 3 := by
        have hgx := check_good HK.out x (by rw [← hx]; exact List.getElem_mem _)
        obtain ⟨⟨q1, q2, q3, q4⟩, q5, q6⟩ := hgx
        exact ⟨IntWalk.wrap64_in _ ⟨by omega, by omega⟩, IntWalk.wrap64_in _ ⟨by omega, by omega⟩⟩
      go_wp2_with fail
      have hb5 := alc w9 (.cells #[.int .i64 h.months, .int .i64 h.peak, .slice (some ⟨gv, 0, none⟩) h.ws.length cv] 25)
      have HU := Lib.hid (Blk.new w9 25 #[.int .i64 h.months, .int .i64 h.peak, .slice (some ⟨gv, 0, none⟩) h.ws.length cv])
      have hO1 := ownsRow_keep hO hb5
      have hgu : gv < w9.heap.size := hgv2
      have hb6 := Below.step hb4 hb5
      generalize w9.alloc (.cells #[.int .i64 h.months, .int .i64 h.peak, .slice (some ⟨gv, 0, none⟩) h.ws.length cv] 25) = w10 at HU hO1 hb6 ⊢
      generalize w9.heap.size = gu at HU hgu ⊢
      clear hb5 hb4 hO hgv2
      obtain ⟨c3, f3⟩ := ownsRow_cell hO1 (n * 5 + 3) _ hc3
      obtain ⟨c2, f2⟩ := ownsRow_cell hO1 (n * 5 + 2) _ hc2
      have hO2 := ownsRow_set (ownsRow_set hO1 (n * 5 + 3) (by omega) (.int .i64 (max 1 (x.mlo - (n2 : Int) % 5)))) (n * 5 + 2) (by omega) (.int .i64 (min 1000 (x.shi + (n2 : Int) % 3)))
      rw [flat_set_two _ _ hn, flat_widen hn hx] at hO2
      have HO2 := Lib.hid hO2
      obtain ⟨hgl1, hgl2⟩ := hO1.lt gv rfl
      clear hO1 hO2 hc3 hc2
      go_region
      rw [hw1, hw2, show n * 5 + 1 + 1 = n * 5 + 2 from rfl]
      clear c3 f3 c2 f2 hw1 hw2
      have hbs : Below w8.heap.size w8 ((w10.setCell ⟨gv, n * 5 + 3, none⟩ (.int .i64 (max 1 (x.mlo - (n2 : Int) % 5)))).setCell ⟨gv, n * 5 + 2, none⟩ (.int .i64 (min 1000 (x.shi + (n2 : Int) % 3)))).drew :=
        Below.drew ((hb6.setCell (p := ⟨gv, n * 5 + 3, none⟩) hgl1 _).setCell (p := ⟨gv, n * 5 + 2, none⟩) hgl1 _)
      have HU2 := Lib.hid (((HU.out.far (p := ⟨gv, n * 5 + 3, none⟩) (by simp; omega) (.int .i64 (max 1 (x.mlo - (n2 : Int) % 5)))).far (p := ⟨gv, n * 5 + 2, none⟩) (by simp; omega) (.int .i64 (min 1000 (x.shi + (n2 : Int) % 3)))).drew)
      obtain ⟨aw, cw, hvw, hrw, _, _⟩ := row_of_own (l := (h.widen n ((n2 : Int) % 5) ((n2 : Int) % 3)).ws) Wg.enc 5 wg_len (by rw [widen_len]; exact HO2.out)
      injection hvw with e1 e2 e3
      clear e2
      subst e1
      subst e3
      have HRW := Lib.hid (hrw.later (Below.drew (Below.refl _ _)))
      clear hrw HO2 HU
      have ehbs := Below.step hB hbs
      clear hB
      have hB := ehbs
      clear ehbs
      have ehbs := Lib.hid (LawHs.later HH.out hbs)
      clear HH
      have HH := ehbs
      clear ehbs
      have ehbs := Lib.hid (RowIn.later HRF.out hbs)
      clear HRF
      have HRF := ehbs
      clear ehbs
      clear hb6
      generalize ((w10.setCell ⟨gv, n * 5 + 3, none⟩ (.int .i64 (max 1 (x.mlo - (n2 : Int) % 5)))).setCell ⟨gv, n * 5 + 2, none⟩ (.int .i64 (min 1000 (x.shi + (n2 : Int) % 3)))).drew = w11 at hbs HU2 HRW hB HH HRF ⊢
      clear hbs
      have HF3 := Lib.hid (fun V hr => fewest_any (h.widen n ((n2 : Int) % 5) ((n2 : Int) % 3)) (some ⟨gv, 0, none⟩) cv V hr (widen_check HK.out n hd1 he1))
      have HT := Lib.hid (fun V hr => trusted_any h A1 cp V hr HK.out)
      unfold Hs.val at HF3 HT
      simp only [widen_len] at HF3
      rw [show (h.widen n ((n2 : Int) % 5) ((n2 : Int) % 3)).months = h.months from rfl, show (h.widen n ((n2 : Int) % 5) ((n2 : Int) % 3)).peak = h.peak from rfl] at HF3
      have u0 := Blk.cell HU2.out 0
      have u1 := Blk.cell HU2.out 1
      have u2 := Blk.cell HU2.out 2
      have uf0 := Blk.frozen HU2.out 0
      have uf1 := Blk.frozen HU2.out 1
      have uf2 := Blk.frozen HU2.out 2
      have ul := Blk.lt HU2.out
      simp only [List.getElem?_toArray, List.getElem?_cons_zero, List.getElem?_cons_succ] at u0 u1 u2
      go_wp2_with fail
      refine (HF3.out _ HRW.out).mono ?_
      rintro e w12 ⟨v12, rfl, hown, hb4⟩
      obtain ⟨aw, cw, rfl, _⟩ := row_of_ints hown
      obtain ⟨_, _, _, g4, g5, g6⟩ := HG.out
      have HTL := Lib.hid (trustL_len h.clashM h.ws.length)
      have ehb4 := Below.step hB hb4
      clear hB
      have hB := ehb4
      clear ehb4
      have ehb4 := Lib.hid (LawHs.later HH.out hb4)
      clear HH
      have HH := ehb4
      clear ehb4
      have ehb4 := Lib.hid (RowIn.later HRF.out hb4)
      clear HRF
      have HRF := ehb4
      clear ehb4
      clear hb4 hown HF3 HRW HU2
      generalize fewL (h.widen n ((n2 : Int) % 5) ((n2 : Int) % 3)).clashM h.ws.length = Wd at g4 ⊢
      generalize trustL h.clashM h.ws.length = T at HT g5 g6 HTL
      have g4' : ¬ F.length < Wd.length := by omega
      have G5 := Lib.hid g5
      have G6 := Lib.hid g6
      clear g4 g5 g6 HG
      have r0 := Blk.cell HH.out.hs 0
      have r1 := Blk.cell HH.out.hs 1
      have r2 := Blk.cell HH.out.hs 2
      have rf0 := Blk.frozen HH.out.hs 0
      have rf1 := Blk.frozen HH.out.hs 1
      have rf2 := Blk.frozen HH.out.hs 2
      have rl := Blk.lt HH.out.hs
      simp only [List.getElem?_toArray, List.getElem?_cons_zero, List.getElem?_cons_succ] at r0 r1 r2
      go_wp2_with fail
      refine (HT.out _ HH.out.row).mono ?_
      rintro e w13 ⟨v13, rfl, hown, hb4⟩
      obtain ⟨aT, cT, rfl, hrT⟩ := row_of_ints hown
      have HRT := Lib.hid hrT
      have ehb4 := Below.step hB hb4
      clear hB
      have hB := ehb4
      clear ehb4
      have ehb4 := Lib.hid (LawHs.later HH.out hb4)
      clear HH
      have HH := ehb4
      clear ehb4
      have ehb4 := Lib.hid (RowIn.later HRF.out hb4)
      clear HRF
      have HRF := ehb4
      clear ehb4
      clear hb4 hown HT hrT
      go_wp2_with fail
      have hb5 := alc w13 (.cells #[.slice aT T.length cT] 64)
      have HV := Lib.hid (Blk.new w13 64 #[.slice aT T.length cT])
      have ehb5 := Below.step hB hb5
      clear hB
      have hB := ehb5
      clear ehb5
      have ehb5 := Lib.hid (RowIn.later HRF.out hb5)
      clear HRF
      have HRF := ehb5
      clear ehb5
      have ehb5 := Lib.hid (RowIn.later HRT.out hb5)
      clear HRT
      have HRT := ehb5
      clear ehb5
      clear HH
      generalize w13.alloc (.cells #[.slice aT T.length cT] 64) = w14 at HV HRF HRT hB ⊢
      clear hb5
      generalize w13.heap.size = gt at HV ⊢
      have hTl : (T.map fun (m : Nat) => (m : Int)).length ≤ 1000000 := by rw [List.length_map]; have := HTL.out; omega
      have hFl : (F.map fun (m : Nat) => (m : Int)).length ≤ 1000000 := by rw [List.length_map]; have := HFL.out; omega
      have HGP := fun hc => grown1_pred aT (T.map fun (m : Nat) => (m : Int)) cT (F.map fun (m : Nat) => (m : Int)) w14 gt HV.out.lt HRT.out hTl hc
      rw [List.length_map] at HGP
      have HCF := Lib.hid (containsV_any 33 #[.pointer (some ⟨gt, 0, none⟩)] (enters_of Try.func33 (by kernel_rfl) rfl) (fun x => decide (x ∈ T.map fun (m : Nat) => (m : Int))) aF (F.map fun (m : Nat) => (m : Int)) cF w14 HRF.out (HGP (HV.out.cell 0)) hFl)
      rw [List.length_map, none_both G5.out] at HCF
      have HC2 := Lib.hid (fun V hr => containsI_any aT (T.map fun (m : Nat) => (m : Int)) cT n V hr hTl)
      rw [List.length_map, cast_mem] at HC2
      clear HGP hTl hFl
      refine HCF.out.mono ?_
      rintro e w15 ⟨rfl, hb4⟩
      have ehb4 := Below.step hB hb4
      clear hB
      have hB := ehb4
      clear ehb4
      have ehb4 := Lib.hid (RowIn.later HRT.out hb4)
      clear HRT
      have HRT := ehb4
      clear ehb4
      have ehb4 := Lib.hid (Blk.later HV.out hb4)
      clear HV
      have HV := ehb4
      clear ehb4
      clear hb4 HCF HRF
      have v0 := HV.out.cell 0
      rw [show ((#[Value.slice aT T.length cT] : Array Value))[0]? = some (.slice aT T.length cT) from rfl] at v0
      go_wp2_with fail
      refine (HC2.out _ HRT.out).mono ?_
      rintro e w16 ⟨rfl, rfl⟩
      have hq : (decide (n ∈ T) == ((O.length : Int) == (F.length : Int))) = true := by
        rw [beq_iff_eq, Bool.eq_iff_iff, decide_eq_true_eq, beq_iff_eq, G6.out]
        omega
      generalize decide (n ∈ T) = bt at hq ⊢
      clear v0 HC2
      go_wp2_with fail
      refine (awake_any _).mono ?_
      rintro e w17 ⟨rfl, hb4⟩
      have ehb4 := Below.step hB hb4
      clear hB
      have hB := ehb4
      clear ehb4
      clear hb4
      go_wp2
      go_ret
      exact ⟨rfl, hB⟩
end Go.Proofs.Ytjihnnbpfdhceaa
