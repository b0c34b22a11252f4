/- laurellaw08.Made: houses made of numbers. Conditions: none beyond those that each theorem names. -/
import Derived.Test.YtjihnnbpfdhceaaB5
set_option linter.unusedSimpArgs false
set_option linter.unusedVariables false
namespace Go.Proofs.Ytjihnnbpfdhceaa
open Go.RowKit Go.Shelf
attribute [local go_sem] Oper.semAt_some
attribute [local go_sem ↓] Go.wp_at_zero Go.wp_at_succ

def WgMade (mo : Int) (r : Nat → Rat2) (wrong : Int) (x : Wg) : Prop :=
  (0 ≤ x.month ∧ x.month < mo) ∧ (1 ≤ x.slo ∧ x.slo ≤ x.shi ∧ x.shi ≤ 500) ∧ (1 ≤ x.mlo ∧ x.mlo ≤ x.mhi ∧ x.mhi ≤ 500) ∧
  (wrong = 0 → x.mlo * 200 ≤ (r x.month.toNat).num * x.shi ∧ (r x.month.toNat).num * x.slo ≤ x.mhi * 200)
structure MadeOk (h : Hs) (r : Nat → Rat2) (months weighings : Nat) (wrong : Int) : Prop where
  mo : 1 ≤ h.months ∧ h.months ≤ months
  pk : 0 ≤ h.peak ∧ h.peak < h.months
  len : h.ws.length ≤ weighings
  rat : ∀ j : Nat, (j : Int) < h.months → 8 ≤ (r j).num ∧ (r j).num ≤ 90 ∧ (r j).den = 200
  up : ∀ j : Nat, (j : Int) < h.peak → (r j).num ≤ (r (j + 1)).num
  down : ∀ j : Nat, h.peak ≤ j → (j : Int) + 1 < h.months → (r (j + 1)).num ≤ (r j).num
  ws : ∀ x ∈ h.ws, WgMade h.months r wrong x

def UpTo (P q : Nat) (r : Nat → Rat2) (kk : Int) : Prop :=
  (∀ j, q ≤ j → j ≤ P → 8 ≤ (r j).num ∧ (r j).num ≤ 90 ∧ (r j).den = 200) ∧ (∀ j, q ≤ j → j < P → (r j).num ≤ (r (j + 1)).num) ∧ (r q).num = kk
def DownTo (P q : Nat) (r : Nat → Rat2) (kk : Int) : Prop :=
  (∀ j, j < q → 8 ≤ (r j).num ∧ (r j).num ≤ 90 ∧ (r j).den = 200) ∧ (∀ j, j < P → (r j).num ≤ (r (j + 1)).num) ∧ (∀ j, P ≤ j → j + 1 < q → (r (j + 1)).num ≤ (r j).num) ∧ (r (q - 1)).num = kk
theorem UpTo.start (P : Nat) (r : Nat → Rat2) (n : Int) (h : 8 ≤ n) (h' : n ≤ 90) : UpTo P P (updR r P ⟨n, 200⟩) n :=
  ⟨fun j h1 h2 => by obtain rfl : j = P := by omega
                     rw [updR_same]; exact ⟨h, h', rfl⟩, fun j h1 h2 => by omega, by rw [updR_same]⟩
theorem UpTo.step {P p : Nat} {r : Nat → Rat2} {kk : Int} (h : UpTo P (p + 1) r kk) (hp : p < P) (n : Int) (h1 : 8 ≤ n) (h2 : n ≤ 90) (h3 : n ≤ kk) : UpTo P p (updR r p ⟨n, 200⟩) n := by
  refine ⟨fun j a b => ?_, fun j a b => ?_, by rw [updR_same]⟩
  · by_cases e : j = p
    · subst e; rw [updR_same]; exact ⟨h1, h2, rfl⟩
    · rw [updR_other _ _ _ e]; exact h.1 j (by omega) b
  · rw [updR_other _ _ _ (show j + 1 ≠ p by omega)]
    by_cases e : j = p
    · subst e; rw [updR_same]
      show n ≤ _
      rw [h.2.2]; exact h3
    · rw [updR_other _ _ _ e]; exact h.2.1 j (by omega) b
theorem UpTo.turn {P : Nat} {r : Nat → Rat2} {kk n : Int} (h : UpTo P 0 r kk) : DownTo P (P + 1) r (r P).num :=
  ⟨fun j a => h.1 j (by omega) (by omega), fun j a => h.2.1 j (by omega) a, fun j a b => by omega, rfl⟩
theorem DownTo.step {P q : Nat} {r : Nat → Rat2} {kk : Int} (h : DownTo P q r kk) (hp : P < q) (n : Int) (h1 : 8 ≤ n) (h2 : n ≤ 90) (h3 : n ≤ kk) : DownTo P (q + 1) (updR r q ⟨n, 200⟩) n := by
  obtain ⟨a, b, c, d⟩ := h
  refine ⟨fun j hj => ?_, fun j hj => ?_, fun j hj hj2 => ?_, by rw [Nat.add_sub_cancel, updR_same]⟩
  · by_cases e : j = q
    · subst e; rw [updR_same]; exact ⟨h1, h2, rfl⟩
    · rw [updR_other _ _ _ e]; exact a j (by omega)
  · rw [updR_other _ _ _ (show j ≠ q by omega), updR_other _ _ _ (show j + 1 ≠ q by omega)]; exact b j hj
  · rw [updR_other _ _ _ (show j ≠ q by omega)]
    by_cases e : j + 1 = q
    · rw [e, updR_same]
      show n ≤ _
      have : j = q - 1 := by omega
      rw [this, d]; exact h3
    · rw [updR_other _ _ _ e]; exact c j hj (by omega)

theorem wgMade_mk {N mo : Nat} {r : Nat → Rat2} {wrong sh ua ub uc ud me : Int} (h : mo < N) (h1 : 30 ≤ sh) (h2 : sh ≤ 400) (a1 : 0 ≤ ua) (b1 : 0 ≤ ub) (b2 : ub ≤ 4) (c1 : 0 ≤ uc) (d1 : 0 ≤ ud) (d2 : ud ≤ 3) (e1 : 1 ≤ me) (e2 : me ≤ 180)
    (n1 : 8 ≤ (r mo).num) (m1 : me * 200 ≤ sh * (r mo).num) (m2 : sh * (r mo).num < (me + 1) * 200) : WgMade N r wrong ⟨mo, max 1 (sh - ua), sh + ub, max 1 (me - uc), me + 1 + ud⟩ := by
  refine ⟨⟨by simp only; omega, by simp only; omega⟩, ⟨by simp only; omega, by simp only; omega, by simp only; omega⟩, ⟨by simp only; omega, by simp only; omega, by simp only; omega⟩, fun _ => ?_⟩
  simp only [Int.toNat_natCast]
  have e3 : sh * (r mo).num ≤ (r mo).num * (sh + ub) := by
    rw [Int.mul_comm sh]
    exact Int.mul_le_mul_of_nonneg_left (by omega) (by omega)
  have e4 : (r mo).num * max 1 (sh - ua) ≤ sh * (r mo).num := by
    rw [Int.mul_comm sh]
    exact Int.mul_le_mul_of_nonneg_left (by omega) (by omega)
  generalize (r mo).num * (sh + ub) = X at e3 ⊢
  generalize (r mo).num * max 1 (sh - ua) = Y at e4 ⊢
  generalize sh * (r mo).num = Z at m1 m2 e3 e4
  omega
theorem wgMade_mk2 {N mo : Nat} {r : Nat → Rat2} {wrong sh ua ub uc ud me b : Int} (hw : wrong ≠ 0) (h : mo < N) (h1 : 30 ≤ sh) (h2 : sh ≤ 400) (a1 : 0 ≤ ua) (b1 : 0 ≤ ub) (b2 : ub ≤ 4) (c1 : 0 ≤ uc) (d1 : 0 ≤ ud) (d2 : ud ≤ 3) (e1 : 1 ≤ me) (e2 : me ≤ 180)
    (f2 : b ≤ 12) : WgMade N r wrong ⟨mo, max 1 (sh - ua), sh + ub, max 1 (max 1 (me - uc) + b), max 1 (me + 1 + ud + b)⟩ := by
  refine ⟨⟨by simp only; omega, by simp only; omega⟩, ⟨by simp only; omega, by simp only; omega, by simp only; omega⟩, ⟨by simp only; omega, by simp only; omega, by simp only; omega⟩, fun h0 => absurd h0 hw⟩

set_option maxRecDepth 100000 in
set_option maxHeartbeats 4000000 in
theorem made_any (A : Option Addr) (xs : List Int) (hb : Nat) (months weighings : Nat) (wrong : Int) (w : World) (h : HeapB A xs hb w) (hl : xs.length ≤ 140737488355328) (hm1 : 1 ≤ months) (hm2 : months ≤ 12) (hw2 : weighings ≤ 14) (hg0 : 0 ≤ wrong) (hg1 : wrong ≤ 100) :
    Calls Try.prog 10 #[.pointer (some ⟨hb, 0, none⟩), .int .i64 months, .int .i64 weighings, .int .i64 wrong] w fun e w' =>
      ∃ (h : Hs) (r : Nat → Rat2) (A1 : Option Addr) (c1 : Nat) (A2 : Option Addr) (n : Nat) (c2 : Nat), e = .returned (.tuple #[h.val A1 c1, .slice A2 n c2]) ∧ h.months = n ∧ RowIn Wg.enc 5 w' w'.heap.size A1 h.ws ∧ RowIn Rat2.enc 2 w' w'.heap.size A2 (ratL n r) ∧
        Chg [hb] w w' ∧ HeapB A xs hb w' ∧ MadeOk h r months weighings wrong := by
  obtain ⟨i0, hi0, hz0, hz1, hz2⟩ := info_parts info_ratio
  obtain ⟨j0, hj0, hy0, hy1, hy2⟩ := info_parts info_wg
  have HF := Lib.hid (fun lo hi V h h1 h2 h3 h4 => from_any A xs hb lo hi V h hl h1 h2 h3 h4)
  have HU := Lib.hid (fun m V h h1 h2 => upto_any A xs hb m V h hl h1 h2)
  have HO := Lib.hid (fun m V h h1 h2 => once_any A xs hb m V h hl h1 h2)
  have HH := Lib.hid h
  have hlt := h.lt
  clear h hl
  go_enter Try.func10, Try.ntmps10
  go_wp2_with fail
  have hr0 := Lib.hid (Blk.new w 25 #[.int .i64 0, .int .i64 0, .slice none 0 0])
  have hb0 := alc w (.cells #[.int .i64 0, .int .i64 0, .slice none 0 0] 25)
  have hh0 := Lib.hid (HH.out.later hb0)
  generalize w.alloc (.cells #[.int .i64 0, .int .i64 0, .slice none 0 0] 25) = w1 at hr0 hb0 hh0 ⊢
  refine (HF.out _ _ _ hh0.out (by omega) (by omega) (by omega) (by omega)).mono ?_
  rintro e w2 ⟨n0, hn1, hn2, rfl, hc2, hh2⟩
  obtain ⟨N, rfl⟩ := Int.eq_ofNat_of_zero_le (show 0 ≤ n0 by omega)
  have hbw2 : Chg [hb] w w2 := (Chg.of_below hb0).trans hc2
  have hr2 := Lib.hid (hr0.out.chg hc2 (by simp; omega))
  have HH2 := Lib.hid hh2
  have hsz2 : w.heap.size < w2.heap.size := by have := hr2.out.lt; omega
  clear hb0 hc2 hh2 hr0 hh0
  go_wp2_with fail
  have hb3 := alc w2 (.cells #[.int .i64 N, .int .i64 0, .slice none 0 0] 25)
  have HI := Lib.hid (show MdInv A xs hb w2.heap.size #[.int .i64 N, .int .i64 0, .slice none 0 0] w (w2.alloc (.cells #[.int .i64 N, .int .i64 0, .slice none 0 0] 25)) from ⟨hbw2.later hb3, HH2.out.later hb3, hlt, hsz2, hr2.out.later hb3, Blk.new _ _ _⟩)
  generalize w2.alloc (.cells #[.int .i64 N, .int .i64 0, .slice none 0 0] 25) = w3 at HI ⊢
  generalize w2.heap.size = gx at HI hsz2 ⊢
  clear hb3 hbw2 hr2 HH2
  refine (HU.out _ _ HI.out.hp (by omega) (by omega)).mono ?_
  rintro e w4 ⟨p0, hp1, hp2, rfl, hc4, hh4⟩
  obtain ⟨P, rfl⟩ := Int.eq_ofNat_of_zero_le (show 0 ≤ p0 by omega)
  have hPN : P < N := by omega
  have hN12 : N ≤ 12 := by omega
  have hN1 : 1 ≤ N := by omega
  have HJ := Lib.hid (HI.out.call hc4 hh4)
  clear hc4 hh4 HI hn1 hp1 hp2
  have c0 := Blk.cell HJ.out.hs 0
  have c1 := Blk.cell HJ.out.hs 1
  have c2 := Blk.cell HJ.out.hs 2
  have cf0 := Blk.frozen HJ.out.hs 0
  have cf1 := Blk.frozen HJ.out.hs 1
  have cf2 := Blk.frozen HJ.out.hs 2
  have cl := Blk.lt HJ.out.hs
  simp only [List.getElem?_toArray, List.getElem?_cons_zero, List.getElem?_cons_succ] at c0 c1 c2
  have HJ2 := Lib.hid (HJ.out.seth 1 (.int .i64 P))
  simp only [List.setIfInBounds_toArray, List.set_cons_zero, List.set_cons_succ] at HJ2
  have hmk := run_make_n (P := Try.prog) 26 43 i0 _ 2 Try.underlying26 hi0 hz0 hz1 N (by omega) (by omega)
  have hze : (Value.agg #[.int .i64 0, .int .i64 0]).cells = #[.int .i64 0, .int .i64 0] := rfl
  rw [hze, ratCells_made] at hmk
  clear hze
  go_wp2_with fail
  clear c0 c1 c2 cf0 cf1 cf2 cl
  have hsz4 : gx < w4.heap.size := HJ.out.hs.lt
  have HJ3 := Lib.hid (HJ2.out.later (alc _ (.cells (ratCells N fun _ => ⟨0, 0⟩) 43)))
  have hR3 := Blk.new (w4.setCell ⟨gx, 1, none⟩ (.int .i64 P)) 43 (ratCells N fun _ => ⟨0, 0⟩)
  rw [World.size_setCell] at hR3
  generalize (w4.setCell ⟨gx, 1, none⟩ (.int .i64 P)).alloc (.cells (ratCells N fun _ => ⟨0, 0⟩) 43) = w5 at HJ3 hR3 ⊢
  generalize w4.heap.size = gr at hR3 hsz4 ⊢
  have HR3 := Lib.hid hR3
  clear HJ HJ2 hmk hR3
  refine (HF.out _ _ _ HJ3.out.hp (by omega) (by omega) (by omega) (by omega)).mono ?_
  rintro e w6 ⟨n, hn1, hn2', rfl, hc6, hh6⟩
  have hn90 : n ≤ 90 := by omega
  have HJ4 := Lib.hid (HJ3.out.call hc6 hh6)
  have HR4 := Lib.hid (HR3.out.chg hc6 (by simp; omega))
  clear HJ3 HR3 hc6 hh6 hn2'
  have c0 := Blk.cell HJ4.out.hs 0
  have c1 := Blk.cell HJ4.out.hs 1
  have c2 := Blk.cell HJ4.out.hs 2
  have cf0 := Blk.frozen HJ4.out.hs 0
  have cf1 := Blk.frozen HJ4.out.hs 1
  have cf2 := Blk.frozen HJ4.out.hs 2
  have cl := Blk.lt HJ4.out.hs
  simp only [List.getElem?_toArray, List.getElem?_cons_zero, List.getElem?_cons_succ] at c0 c1 c2
  have r0 := Blk.cell HR4.out (P * 2)
  have r1 := Blk.cell HR4.out (P * 2 + 1)
  have rf0 := Blk.frozen HR4.out (P * 2)
  have rf1 := Blk.frozen HR4.out (P * 2 + 1)
  have rl := Blk.lt HR4.out
  rw [ratCells_num _ _ _ hPN] at r0
  rw [ratCells_den _ _ _ hPN] at r1
  go_wp2
  have HJ5 := Lib.hid ((HJ4.out.far (p := ⟨gr, P * 2, none⟩) hsz4 (.int .i64 n)).far (p := ⟨gr, P * 2 + 1, none⟩) hsz4 (.int .i64 200))
  have HR5 := Lib.hid ((HR4.out.set_ (P * 2) (.int .i64 n)).set_ (P * 2 + 1) (.int .i64 200))
  rw [ratCells_set2 _ _ _ _ _ hPN] at HR5
  generalize (w6.setCell ⟨gr, P * 2, none⟩ (.int .i64 n)).setCell ⟨gr, P * 2 + 1, none⟩ (.int .i64 200) = w7 at HJ5 HR5 ⊢
  clear c0 c1 c2 cf0 cf1 cf2 cl
  clear r0 r1 rf0 rf1 rl
  clear HJ4 HR4
  have HUP := Lib.hid (UpTo.start P (fun _ => ⟨0, 0⟩) n (by omega) hn90)
  go_loopw [13, 14] (fun m k wr => ∃ (q : Nat) (kk : Int) (r : Nat → Rat2), q ≤ P ∧ m = .int .i64 ((q : Int) - 1) ∧ k = .int .i64 kk ∧ (8 ≤ kk ∧ kk ≤ 90) ∧ MdInv A xs hb gx #[.int .i64 N, .int .i64 P, .slice none 0 0] w wr ∧ Blk wr gr 43 (ratCells N r) ∧ UpTo P q r kk ∧ (r P).num = n) (fun m _ _ => (intOf m + 1).toNat)
  case atStart => exact ⟨P, n, _, Nat.le_refl _, rfl, rfl, ⟨by omega, hn90⟩, HJ5.out, HR5.out, HUP.out, by rw [updR_same]⟩
  case round =>
    clear HJ5 HR5 HUP
    obtain ⟨q, kk, r, hq, hm, rfl, ⟨hk1, hk2⟩, hI, hR, hup, hrn⟩ := hrel
    have HI := Lib.hid hI
    have HR := Lib.hid hR
    have HUP := Lib.hid hup
    have HRN := Lib.hid hrn
    clear hI hR hup hrn
    cases q with
    | succ p =>
      rw [show (((p + 1 : Nat) : Int) - 1) = p by omega] at hm
      subst hm
      go_wp2_with fail
      refine (HU.out _ _ HI.out.hp (by omega) (by omega)).mono ?_
      rintro e w8 ⟨u, hu1, hu2, rfl, hc8, hh8⟩
      have HI8 := Lib.hid (HI.out.call hc8 hh8)
      have HR8 := Lib.hid (HR.out.chg hc8 (by simp; omega))
      have hu9 : u ≤ 9 := by omega
      have hpN : p < N := by omega
      clear hc8 hh8 HI HR hu2
      have r0 := Blk.cell HR8.out (p * 2)
      have r1 := Blk.cell HR8.out (p * 2 + 1)
      have rf0 := Blk.frozen HR8.out (p * 2)
      have rf1 := Blk.frozen HR8.out (p * 2 + 1)
      have rl := Blk.lt HR8.out
      rw [ratCells_num _ _ _ hpN] at r0
      rw [ratCells_den _ _ _ hpN] at r1
      go_wp2
      refine ⟨⟨p, max 8 (kk - u), updR r p ⟨max 8 (kk - u), 200⟩, by omega, rfl, rfl, by omega, (HI8.out.far (p := ⟨gr, p * 2, none⟩) hsz4 _).far (p := ⟨gr, p * 2 + 1, none⟩) hsz4 _, ?_, HUP.out.step (by omega) _ (by omega) (by omega) (by omega), ?_⟩, by simp [intOf]⟩
      · rw [← ratCells_set2 _ _ _ _ _ hpN]
        exact (HR8.out.set_ _ _).set_ _ _
      · rw [updR_other _ _ _ (by omega)]; exact HRN.out
    | zero =>
      have : ((0 : Nat) : Int) - 1 = -1 := by omega
      rw [this] at hm
      clear this
      subst hm
      have HDN := Lib.hid (HUP.out.turn (n := 0))
      rw [HRN.out] at HDN
      clear HUP HRN
      obtain ⟨wo, rfl⟩ : ∃ wo : World, wo = wr := ⟨_, rfl⟩
      have c0 := Blk.cell HI.out.hs 0
      have c1 := Blk.cell HI.out.hs 1
      have c2 := Blk.cell HI.out.hs 2
      have cf0 := Blk.frozen HI.out.hs 0
      have cf1 := Blk.frozen HI.out.hs 1
      have cf2 := Blk.frozen HI.out.hs 2
      have cl := Blk.lt HI.out.hs
      simp only [List.getElem?_toArray, List.getElem?_cons_zero, List.getElem?_cons_succ] at c0 c1 c2
      go_wp2
      clear c0 c1 c2 cf0 cf1 cf2 cl
      go_loopw [15, 16] (fun m k wr => ∃ (q : Nat) (kk : Int) (r : Nat → Rat2), (P + 1 ≤ q ∧ q ≤ N) ∧ m = .int .i64 (q : Int) ∧ k = .int .i64 kk ∧ (8 ≤ kk ∧ kk ≤ 90) ∧ MdInv A xs hb gx #[.int .i64 N, .int .i64 P, .slice none 0 0] w wr ∧ Blk wr gr 43 (ratCells N r) ∧ DownTo P q r kk) (fun m _ _ => (N - intOf m).toNat)
      case atStart => exact ⟨P + 1, n, _, ⟨Nat.le_refl _, hPN⟩, by go_num, rfl, ⟨by omega, hn90⟩, HI.out, HR.out, HDN.out⟩
      case round =>
        clear HI HR HDN
        obtain ⟨q, kk, r, ⟨hq1, hq2⟩, rfl, rfl, ⟨hk1, hk2⟩, hI, hR, hup⟩ := hrel
        have HI := Lib.hid hI
        have HR := Lib.hid hR
        have HUP := Lib.hid hup
        clear hI hR hup
        have c0 := Blk.cell HI.out.hs 0
        have c1 := Blk.cell HI.out.hs 1
        have c2 := Blk.cell HI.out.hs 2
        have cf0 := Blk.frozen HI.out.hs 0
        have cf1 := Blk.frozen HI.out.hs 1
        have cf2 := Blk.frozen HI.out.hs 2
        have cl := Blk.lt HI.out.hs
        simp only [List.getElem?_toArray, List.getElem?_cons_zero, List.getElem?_cons_succ] at c0 c1 c2
        by_cases hlt2 : q < N
        · go_wp2_with fail
          clear c0 c1 c2 cf0 cf1 cf2 cl
          refine (HU.out _ _ HI.out.hp (by omega) (by omega)).mono ?_
          rintro e w8 ⟨u, hu1, hu2, rfl, hc8, hh8⟩
          have HI8 := Lib.hid (HI.out.call hc8 hh8)
          have HR8 := Lib.hid (HR.out.chg hc8 (by simp; omega))
          have hu9 : u ≤ 9 := by omega
          clear hc8 hh8 HI HR hu2
          have r0 := Blk.cell HR8.out (q * 2)
          have r1 := Blk.cell HR8.out (q * 2 + 1)
          have rf0 := Blk.frozen HR8.out (q * 2)
          have rf1 := Blk.frozen HR8.out (q * 2 + 1)
          have rl := Blk.lt HR8.out
          rw [ratCells_num _ _ _ hlt2] at r0
          rw [ratCells_den _ _ _ hlt2] at r1
          go_wp2
          refine ⟨⟨q + 1, max 8 (kk - u), updR r q ⟨max 8 (kk - u), 200⟩, ⟨by omega, by omega⟩, by go_num, rfl, by omega, (HI8.out.far (p := ⟨gr, q * 2, none⟩) hsz4 _).far (p := ⟨gr, q * 2 + 1, none⟩) hsz4 _, ?_, HUP.out.step (by omega) _ (by omega) (by omega) (by omega)⟩, by simp [intOf]; omega⟩
          rw [← ratCells_set2 _ _ _ _ _ hlt2]
          exact (HR8.out.set_ _ _).set_ _ _
        · obtain rfl : N = q := by omega
          obtain ⟨wn, rfl⟩ : ∃ wn : World, wn = wr := ⟨_, rfl⟩
          go_wp2_with fail
          clear c0 c1 c2 cf0 cf1 cf2 cl
          refine (HU.out _ _ HI.out.hp (by omega) (by omega)).mono ?_
          rintro e w9 ⟨cn, hu1, hu2, rfl, hc8, hh8⟩
          obtain ⟨C, rfl⟩ := Int.eq_ofNat_of_zero_le (show 0 ≤ cn by omega)
          have hCw : C ≤ weighings := by omega
          have HI9 := Lib.hid (HI.out.call hc8 hh8)
          have HR9 := Lib.hid (HR.out.chg hc8 (by simp; omega))
          have hgx9 : gx < w9.heap.size := HI9.out.hs.lt
          have hgr9 : gr < w9.heap.size := HR9.out.lt
          clear hc8 hh8 HI HR hu1 hu2
          go_wp2
          go_loopw [84] (fun i wr => ∃ (j : Nat) (v : Value) (ws : List Wg), j ≤ C ∧ i = .int .i64 j ∧ ws.length = j ∧ Aside (∀ x ∈ ws, WgMade N r wrong x) ∧ MdInv A xs hb gx #[.int .i64 N, .int .i64 P, v] w wr ∧ Blk wr gr 43 (ratCells N r) ∧ wr.ownsRow w9.heap.size 55 5 v ws.length (ws.flatMap Wg.enc) ∧ w9.heap.size ≤ wr.heap.size) (fun i _ => (C - intOf i).toNat)
          case atStart => exact ⟨0, .slice none 0 0, [], by omega, rfl, rfl, fun x hx => by simp at hx, HI9.out, HR9.out, World.ownsRow_nil _ _ _ 5, Nat.le_refl _⟩
          case round =>
            clear HI9 HR9
            obtain ⟨j, v, ws, hj, rfl, hwl, HWM, hI, hR, hOw, HZ⟩ := hrel
            have HI := Lib.hid hI
            have HR := Lib.hid hR
            have HOw := Lib.hid hOw
            have HWL := Lib.hid hwl
            clear hI hR hOw hwl
            have c0 := Blk.cell HI.out.hs 0
            have c1 := Blk.cell HI.out.hs 1
            have c2 := Blk.cell HI.out.hs 2
            have cf0 := Blk.frozen HI.out.hs 0
            have cf1 := Blk.frozen HI.out.hs 1
            have cf2 := Blk.frozen HI.out.hs 2
            have cl := Blk.lt HI.out.hs
            simp only [List.getElem?_toArray, List.getElem?_cons_zero, List.getElem?_cons_succ] at c0 c1 c2
            by_cases hlt3 : j < C
            · go_wp2_with fail
              clear c0 c1 c2 cf0 cf1 cf2 cl
              refine (HU.out _ _ HI.out.hp (by omega) (by omega)).mono ?_
              rintro e w10 ⟨mo0, hu1, hu2, rfl, hc8, hh8⟩
              obtain ⟨mo, rfl⟩ := Int.eq_ofNat_of_zero_le (show 0 ≤ mo0 by omega)
              have hmo : mo < N := by omega
              have HI10 := Lib.hid (HI.out.call hc8 hh8)
              have HR10 := Lib.hid (HR.out.chg hc8 (by simp; omega))
              have HOw10 := Lib.hid (ownsRow_chg HOw.out hc8 (by simp; omega))
              have HZ10 := Nat.le_trans HZ hc8.size
              clear hc8 hh8 HI HR HOw hu1 hu2
              go_wp2_with fail
              refine (HF.out _ _ _ HI10.out.hp (by omega) (by omega) (by omega) (by omega)).mono ?_
              rintro e w11 ⟨sh, hs1, hs2', rfl, hc8, hh8⟩
              have hs2 : sh ≤ 400 := by omega
              have HI := Lib.hid (HI10.out.call hc8 hh8)
              have HR := Lib.hid (HR10.out.chg hc8 (by simp; omega))
              have HOw := Lib.hid (ownsRow_chg HOw10.out hc8 (by simp; omega))
              clear HZ
              have HZ := Nat.le_trans HZ10 hc8.size
              clear hc8 hh8 HI10 HR10 HOw10 hs2'
              have hrb := HUP.out.1 mo hmo
              obtain ⟨hrb1, hrb2, _⟩ := hrb
              have hpr := mul_bd (x := sh) (y := (r mo).num) (M := 400) (N := 90) (by omega) hs2 (by omega) hrb2
              obtain ⟨hpr1, hpr2⟩ := hpr
              have r0 := Blk.cell HR.out (mo * 2)
              have r1 := Blk.cell HR.out (mo * 2 + 1)
              have rf0 := Blk.frozen HR.out (mo * 2)
              have rf1 := Blk.frozen HR.out (mo * 2 + 1)
              have rl := Blk.lt HR.out
              rw [ratCells_num _ _ _ hmo] at r0
              rw [ratCells_den _ _ _ hmo] at r1
              go_wp2_with fail
              clear r0 r1 rf0 rf1 rl
              refine (HU.out _ _ HI.out.hp (by omega) (by omega)).mono ?_
              rintro e w12 ⟨ua, huaa, hx2, rfl, hc8, hh8⟩
              have huab : ua ≤ 4 := by omega
              have xI := Lib.hid (HI.out.call hc8 hh8)
              have xR := Lib.hid (HR.out.chg hc8 (by simp; omega))
              have xO := Lib.hid (ownsRow_chg HOw.out hc8 (by simp; omega))
              have HZ' := Nat.le_trans HZ hc8.size
              clear hc8 hh8 hx2 HI HR HOw
              have HI := xI
              have HR := xR
              have HOw := xO
              clear xI xR xO HZ
              have HZ := HZ'
              clear HZ'
              go_wp2_with fail
              refine (HU.out _ _ HI.out.hp (by omega) (by omega)).mono ?_
              rintro e w13 ⟨ub, huba, hx2, rfl, hc8, hh8⟩
              have hubb : ub ≤ 4 := by omega
              have xI := Lib.hid (HI.out.call hc8 hh8)
              have xR := Lib.hid (HR.out.chg hc8 (by simp; omega))
              have xO := Lib.hid (ownsRow_chg HOw.out hc8 (by simp; omega))
              have HZ' := Nat.le_trans HZ hc8.size
              clear hc8 hh8 hx2 HI HR HOw
              have HI := xI
              have HR := xR
              have HOw := xO
              clear xI xR xO HZ
              have HZ := HZ'
              clear HZ'
              go_wp2_with fail
              have hme1 : 0 ≤ sh * (r mo).num / 200 := Int.ediv_nonneg hpr1 (by omega)
              have hme2 : sh * (r mo).num / 200 ≤ 180 := by omega
              have hme3 : sh * (r mo).num / 200 * 200 ≤ sh * (r mo).num := by omega
              have hme4 : sh * (r mo).num < (sh * (r mo).num / 200 + 1) * 200 := by omega
              have hpr3 : 30 * 8 ≤ sh * (r mo).num := Int.mul_le_mul hs1 hrb1 (by omega) (by omega)
              have hme5 : 1 ≤ sh * (r mo).num / 200 := by omega
              generalize sh * (r mo).num / 200 = me at hme1 hme2 hme3 hme4 hme5 ⊢
              refine (HU.out _ _ HI.out.hp (by omega) (by omega)).mono ?_
              rintro e w14 ⟨uc, huca, hx2, rfl, hc8, hh8⟩
              have hucb : uc ≤ 3 := by omega
              have xI := Lib.hid (HI.out.call hc8 hh8)
              have xR := Lib.hid (HR.out.chg hc8 (by simp; omega))
              have xO := Lib.hid (ownsRow_chg HOw.out hc8 (by simp; omega))
              have HZ' := Nat.le_trans HZ hc8.size
              clear hc8 hh8 hx2 HI HR HOw
              have HI := xI
              have HR := xR
              have HOw := xO
              clear xI xR xO HZ
              have HZ := HZ'
              clear HZ'
              go_wp2_with fail
              refine (HU.out _ _ HI.out.hp (by omega) (by omega)).mono ?_
              rintro e w15 ⟨ud, huda, hx2, rfl, hc8, hh8⟩
              have hudb : ud ≤ 3 := by omega
              have xI := Lib.hid (HI.out.call hc8 hh8)
              have xR := Lib.hid (HR.out.chg hc8 (by simp; omega))
              have xO := Lib.hid (ownsRow_chg HOw.out hc8 (by simp; omega))
              have HZ' := Nat.le_trans HZ hc8.size
              clear hc8 hh8 hx2 HI HR HOw
              have HI := xI
              have HR := xR
              have HOw := xO
              clear xI xR xO HZ
              have HZ := HZ'
              clear HZ'
              go_wp2_with fail
              refine (weighed_any _ _ _ _ _ _).mono ?_
              rintro e w16 ⟨rfl, hb8⟩
              unfold Wg.val
              have xI := Lib.hid (HI.out.later hb8)
              have xR := Lib.hid (HR.out.later hb8)
              have xO := Lib.hid (ownsRow_keep HOw.out hb8)
              have HZ9 := Nat.le_trans HZ hb8.size
              clear hb8 HI HR HOw
              have hb8 := alc w16 (.cells #[.int .i64 mo, .int .i64 (max 1 (sh - ua)), .int .i64 (sh + ub), .int .i64 (max 1 (me - uc)), .int .i64 (me + 1 + ud)] 55)
              have HX := Lib.hid (Blk.new w16 55 #[.int .i64 mo, .int .i64 (max 1 (sh - ua)), .int .i64 (sh + ub), .int .i64 (max 1 (me - uc)), .int .i64 (me + 1 + ud)])
              have HI := Lib.hid (xI.out.later hb8)
              have HR := Lib.hid (xR.out.later hb8)
              have HOw := Lib.hid (ownsRow_keep xO.out hb8)
              have hgw : gx < w16.heap.size := xI.out.hs.lt
              have hvl : ∀ k, v.ownBlock = some k → k < w16.heap.size := fun k hk => (xO.out.lt k hk).2
              have hgw2 : gr < w16.heap.size := xR.out.lt
              clear hb8
              by_cases hwr : wrong = 0
              · subst hwr
                have c0 := Blk.cell xI.out.hs 0
                have c1 := Blk.cell xI.out.hs 1
                have c2 := Blk.cell xI.out.hs 2
                have cf0 := Blk.frozen xI.out.hs 0
                have cf1 := Blk.frozen xI.out.hs 1
                have cf2 := Blk.frozen xI.out.hs 2
                have cl := Blk.lt xI.out.hs
                simp only [List.getElem?_toArray, List.getElem?_cons_zero, List.getElem?_cons_succ] at c0 c1 c2
                have HWX : Hid (WgMade N r 0 ⟨mo, max 1 (sh - ua), sh + ub, max 1 (me - uc), me + 1 + ud⟩) := Lib.hid (wgMade_mk hmo hs1 hs2 huaa huba hubb huca huda hudb hme5 hme2 hrb1 hme3 hme4)
                clear xI xR xO
                have hwl2 : ws.length ≤ 14 := by have := HWL.out; omega
                have hgx2 : gx < (w16.alloc (.cells #[.int .i64 mo, .int .i64 (max 1 (sh - ua)), .int .i64 (sh + ub), .int .i64 (max 1 (me - uc)), .int .i64 (me + 1 + ud)] 55)).heap.size := HI.out.hs.lt
                have hvb : ∀ k, v.ownBlock = some k → w9.heap.size ≤ k := fun k hk => (HOw.out.lt k hk).1
                have hOw2 := (HOw.out).alloc (.cells #[.int .i64 (⟨mo, max 1 (sh - ua), sh + ub, max 1 (me - uc), me + 1 + ud⟩ : Wg).month, .int .i64 (⟨mo, max 1 (sh - ua), sh + ub, max 1 (me - uc), me + 1 + ud⟩ : Wg).slo, .int .i64 (⟨mo, max 1 (sh - ua), sh + ub, max 1 (me - uc), me + 1 + ud⟩ : Wg).shi, .int .i64 (⟨mo, max 1 (sh - ua), sh + ub, max 1 (me - uc), me + 1 + ud⟩ : Wg).mlo, .int .i64 (⟨mo, max 1 (sh - ua), sh + ub, max 1 (me - uc), me + 1 + ud⟩ : Wg).mhi] 55)
                simp only at hOw2
                go_wp2_with (at_builtin; go_loud (refine wpList_append_own _ rfl _ _ 23 rfl w9.heap.size 55 j0 _ 5 40 Try.underlying23 hj0 hy0 hy1 hy2 rfl (by decide) v _ _ rfl hOw2 ⟨w16.heap.size + 1, 0, none⟩ 1 1 (Wg.enc (⟨mo, max 1 (sh - ua), sh + ub, max 1 (me - uc), me + 1 + ud⟩ : Wg)) rfl rfl ?c1 ?c2 ?c3 ?c4 ?c5 ?_))
                case c1 =>
                  have := Blk.new (w16.alloc (.cells #[.int .i64 mo, .int .i64 (max 1 (sh - ua)), .int .i64 (sh + ub), .int .i64 (max 1 (me - uc)), .int .i64 (me + 1 + ud)] 55)) 55 #[.int .i64 (⟨mo, max 1 (sh - ua), sh + ub, max 1 (me - uc), me + 1 + ud⟩ : Wg).month, .int .i64 (⟨mo, max 1 (sh - ua), sh + ub, max 1 (me - uc), me + 1 + ud⟩ : Wg).slo, .int .i64 (⟨mo, max 1 (sh - ua), sh + ub, max 1 (me - uc), me + 1 + ud⟩ : Wg).shi, .int .i64 (⟨mo, max 1 (sh - ua), sh + ub, max 1 (me - uc), me + 1 + ud⟩ : Wg).mlo, .int .i64 (⟨mo, max 1 (sh - ua), sh + ub, max 1 (me - uc), me + 1 + ud⟩ : Wg).mhi]
                  try simp only [World.size_alloc, World.size_setCell] at this
                  exact World.news_of_block (cs := #[.int .i64 (⟨mo, max 1 (sh - ua), sh + ub, max 1 (me - uc), me + 1 + ud⟩ : Wg).month, .int .i64 (⟨mo, max 1 (sh - ua), sh + ub, max 1 (me - uc), me + 1 + ud⟩ : Wg).slo, .int .i64 (⟨mo, max 1 (sh - ua), sh + ub, max 1 (me - uc), me + 1 + ud⟩ : Wg).shi, .int .i64 (⟨mo, max 1 (sh - ua), sh + ub, max 1 (me - uc), me + 1 + ud⟩ : Wg).mlo, .int .i64 (⟨mo, max 1 (sh - ua), sh + ub, max 1 (me - uc), me + 1 + ud⟩ : Wg).mhi]) (t := 55) (fr := (0, 0)) this
                case c2 => simp [Wg.enc, Value.oneCell']
                case c3 => unfold maxLen; omega
                case c4 => omega
                case c5 => simp; omega
                intro v' wn' hown' hgrow _
                have HI2 := Lib.hid ((HI.out.later (alc _ _)).grown hgrow (fun g hg => by have := hvb g hg; omega))
                have HR2 := Lib.hid ((HR.out.later (alc _ _)).grown hgrow (fun g hg => by have := hvb g hg; omega))
                have HO2 := Lib.hid hown'
                have hz2 := hgrow.size
                simp only [World.size_alloc, World.size_setCell] at hz2
                obtain ⟨g', cap', rfl⟩ := ownsRow_succ hown'
                have hg' : w9.heap.size ≤ g' := (hown'.lt g' rfl).1
                clear hown' hgrow hOw2 HI HR HOw
                have z0 := Blk.cell HI2.out.hs 0
                have z1 := Blk.cell HI2.out.hs 1
                have z2 := Blk.cell HI2.out.hs 2
                have zf0 := Blk.frozen HI2.out.hs 0
                have zf1 := Blk.frozen HI2.out.hs 1
                have zf2 := Blk.frozen HI2.out.hs 2
                have zl := Blk.lt HI2.out.hs
                simp only [List.getElem?_toArray, List.getElem?_cons_zero, List.getElem?_cons_succ] at z0 z1 z2
                go_wp2
                refine ⟨⟨j + 1, _, ws ++ [(⟨mo, max 1 (sh - ua), sh + ub, max 1 (me - uc), me + 1 + ud⟩ : Wg)], by omega, by go_num, by simp [HWL.out], ?_, HI2.out.seth 2 _, HR2.out.far (p := ⟨gx, 2, none⟩) (by simp; omega) _, ?_, ?_⟩, by simp [intOf]; omega⟩
                · intro y hy
                  rcases List.mem_append.1 hy with hy | hy
                  · exact HWM y hy
                  · rw [List.mem_singleton.1 hy]; exact HWX.out
                · rw [List.length_append, List.flatMap_append]
                  have := ownsRow_at HO2.out (w' := wn'.setCell ⟨gx, 2, none⟩ (.slice (some ⟨g', 0, none⟩) (ws.length + 1) cap')) (fun k hk hk1 hk2 => Below.heap_setCell wn' ⟨gx, 2, none⟩ _ k (by simp; omega))
                  simpa using this
                · simp; omega
              · have hwr2 : 0 < wrong := by omega
                have HWR := Lib.hid hwr
                clear hwr
                clear xI xR xO
                go_wp2_with fail
                generalize w16.alloc (.cells #[.int .i64 mo, .int .i64 (max 1 (sh - ua)), .int .i64 (sh + ub), .int .i64 (max 1 (me - uc)), .int .i64 (me + 1 + ud)] 55) = w17 at HX HI HR HOw ⊢
                refine (HO.out _ _ HI.out.hp (by omega) (by omega)).mono ?_
                rintro e w18 ⟨bb, rfl, hc8, hh8⟩
                have xI := Lib.hid (HI.out.call hc8 hh8)
                have xR := Lib.hid (HR.out.chg hc8 (by simp; omega))
                have xO := Lib.hid (ownsRow_chg HOw.out hc8 (by simp; omega))
                have xX := Lib.hid (HX.out.chg hc8 (by simp; omega))
                have HZ17 : w16.heap.size ≤ w18.heap.size := by have := HX.out.lt; have := hc8.size; omega
                clear hc8 hh8 HI HR HOw HX HZ
                have HZ := Nat.le_trans HZ9 HZ17
                have HI := xI
                have HR := xR
                have HOw := xO
                have HX := xX
                clear xI xR xO xX
                cases bb
                · have HWX : Hid (WgMade N r wrong ⟨mo, max 1 (sh - ua), sh + ub, max 1 (me - uc), me + 1 + ud⟩) := Lib.hid (wgMade_mk hmo hs1 hs2 huaa huba hubb huca huda hudb hme5 hme2 hrb1 hme3 hme4)
                  have y0 := Blk.cell HX.out 0
                  have y1 := Blk.cell HX.out 1
                  have y2 := Blk.cell HX.out 2
                  have y3 := Blk.cell HX.out 3
                  have y4 := Blk.cell HX.out 4
                  have yf0 := Blk.frozen HX.out 0
                  have yf1 := Blk.frozen HX.out 1
                  have yf2 := Blk.frozen HX.out 2
                  have yf3 := Blk.frozen HX.out 3
                  have yf4 := Blk.frozen HX.out 4
                  have yl := Blk.lt HX.out
                  simp only [List.getElem?_toArray, List.getElem?_cons_zero, List.getElem?_cons_succ] at y0 y1 y2 y3 y4
                  have c0 := Blk.cell HI.out.hs 0
                  have c1 := Blk.cell HI.out.hs 1
                  have c2 := Blk.cell HI.out.hs 2
                  have cf0 := Blk.frozen HI.out.hs 0
                  have cf1 := Blk.frozen HI.out.hs 1
                  have cf2 := Blk.frozen HI.out.hs 2
                  have cl := Blk.lt HI.out.hs
                  simp only [List.getElem?_toArray, List.getElem?_cons_zero, List.getElem?_cons_succ] at c0 c1 c2
                  clear HX
                  have hwl2 : ws.length ≤ 14 := by have := HWL.out; omega
                  have hgx2 : gx < (w18).heap.size := HI.out.hs.lt
                  have hvb : ∀ k, v.ownBlock = some k → w9.heap.size ≤ k := fun k hk => (HOw.out.lt k hk).1
                  have hOw2 := (HOw.out).alloc (.cells #[.int .i64 (⟨mo, max 1 (sh - ua), sh + ub, max 1 (me - uc), me + 1 + ud⟩ : Wg).month, .int .i64 (⟨mo, max 1 (sh - ua), sh + ub, max 1 (me - uc), me + 1 + ud⟩ : Wg).slo, .int .i64 (⟨mo, max 1 (sh - ua), sh + ub, max 1 (me - uc), me + 1 + ud⟩ : Wg).shi, .int .i64 (⟨mo, max 1 (sh - ua), sh + ub, max 1 (me - uc), me + 1 + ud⟩ : Wg).mlo, .int .i64 (⟨mo, max 1 (sh - ua), sh + ub, max 1 (me - uc), me + 1 + ud⟩ : Wg).mhi] 55)
                  simp only at hOw2
                  go_wp2_with (at_builtin; go_loud (refine wpList_append_own _ rfl _ _ 23 rfl w9.heap.size 55 j0 _ 5 40 Try.underlying23 hj0 hy0 hy1 hy2 rfl (by decide) v _ _ rfl hOw2 ⟨w18.heap.size, 0, none⟩ 1 1 (Wg.enc (⟨mo, max 1 (sh - ua), sh + ub, max 1 (me - uc), me + 1 + ud⟩ : Wg)) rfl rfl ?c1 ?c2 ?c3 ?c4 ?c5 ?_))
                  case c1 =>
                    have := Blk.new (w18) 55 #[.int .i64 (⟨mo, max 1 (sh - ua), sh + ub, max 1 (me - uc), me + 1 + ud⟩ : Wg).month, .int .i64 (⟨mo, max 1 (sh - ua), sh + ub, max 1 (me - uc), me + 1 + ud⟩ : Wg).slo, .int .i64 (⟨mo, max 1 (sh - ua), sh + ub, max 1 (me - uc), me + 1 + ud⟩ : Wg).shi, .int .i64 (⟨mo, max 1 (sh - ua), sh + ub, max 1 (me - uc), me + 1 + ud⟩ : Wg).mlo, .int .i64 (⟨mo, max 1 (sh - ua), sh + ub, max 1 (me - uc), me + 1 + ud⟩ : Wg).mhi]
                    try simp only [World.size_alloc, World.size_setCell] at this
                    exact World.news_of_block (cs := #[.int .i64 (⟨mo, max 1 (sh - ua), sh + ub, max 1 (me - uc), me + 1 + ud⟩ : Wg).month, .int .i64 (⟨mo, max 1 (sh - ua), sh + ub, max 1 (me - uc), me + 1 + ud⟩ : Wg).slo, .int .i64 (⟨mo, max 1 (sh - ua), sh + ub, max 1 (me - uc), me + 1 + ud⟩ : Wg).shi, .int .i64 (⟨mo, max 1 (sh - ua), sh + ub, max 1 (me - uc), me + 1 + ud⟩ : Wg).mlo, .int .i64 (⟨mo, max 1 (sh - ua), sh + ub, max 1 (me - uc), me + 1 + ud⟩ : Wg).mhi]) (t := 55) (fr := (0, 0)) this
                  case c2 => simp [Wg.enc, Value.oneCell']
                  case c3 => unfold maxLen; omega
                  case c4 => omega
                  case c5 => simp; omega
                  intro v' wn' hown' hgrow _
                  have HI2 := Lib.hid ((HI.out.later (alc _ _)).grown hgrow (fun g hg => by have := hvb g hg; omega))
                  have HR2 := Lib.hid ((HR.out.later (alc _ _)).grown hgrow (fun g hg => by have := hvb g hg; omega))
                  have HO2 := Lib.hid hown'
                  have hz2 := hgrow.size
                  simp only [World.size_alloc, World.size_setCell] at hz2
                  obtain ⟨g', cap', rfl⟩ := ownsRow_succ hown'
                  have hg' : w9.heap.size ≤ g' := (hown'.lt g' rfl).1
                  clear hown' hgrow hOw2 HI HR HOw
                  have z0 := Blk.cell HI2.out.hs 0
                  have z1 := Blk.cell HI2.out.hs 1
                  have z2 := Blk.cell HI2.out.hs 2
                  have zf0 := Blk.frozen HI2.out.hs 0
                  have zf1 := Blk.frozen HI2.out.hs 1
                  have zf2 := Blk.frozen HI2.out.hs 2
                  have zl := Blk.lt HI2.out.hs
                  simp only [List.getElem?_toArray, List.getElem?_cons_zero, List.getElem?_cons_succ] at z0 z1 z2
                  go_wp2
                  refine ⟨⟨j + 1, _, ws ++ [(⟨mo, max 1 (sh - ua), sh + ub, max 1 (me - uc), me + 1 + ud⟩ : Wg)], by omega, by go_num, by simp [HWL.out], ?_, HI2.out.seth 2 _, HR2.out.far (p := ⟨gx, 2, none⟩) (by simp; omega) _, ?_, ?_⟩, by simp [intOf]; omega⟩
                  · intro y hy
                    rcases List.mem_append.1 hy with hy | hy
                    · exact HWM y hy
                    · rw [List.mem_singleton.1 hy]; exact HWX.out
                  · rw [List.length_append, List.flatMap_append]
                    have := ownsRow_at HO2.out (w' := wn'.setCell ⟨gx, 2, none⟩ (.slice (some ⟨g', 0, none⟩) (ws.length + 1) cap')) (fun k hk hk1 hk2 => Below.heap_setCell wn' ⟨gx, 2, none⟩ _ k (by simp; omega))
                    simpa using this
                  · simp; omega
                · go_wp2_with fail
                  refine (HF.out _ _ _ HI.out.hp (by omega) (by omega) (by omega) (by omega)).mono ?_
                  rintro e w19 ⟨by0, hby1, hby2', rfl, hc8, hh8⟩
                  have hby2 : by0 ≤ 12 := by omega
                  have xI := Lib.hid (HI.out.call hc8 hh8)
                  have xR := Lib.hid (HR.out.chg hc8 (by simp; omega))
                  have xO := Lib.hid (ownsRow_chg HOw.out hc8 (by simp; omega))
                  have xX := Lib.hid (HX.out.chg hc8 (by simp; omega))
                  have HZ18 := Nat.le_trans HZ hc8.size
                  have hwz : w16.heap.size < w19.heap.size := xX.out.lt
                  clear hc8 hh8 HI HR HOw HX HZ hby2'
                  have HZ := HZ18
                  have HWX : Hid (WgMade N r wrong ⟨mo, max 1 (sh - ua), sh + ub, max 1 (max 1 (me - uc) + by0), max 1 (me + 1 + ud + by0)⟩) := Lib.hid (wgMade_mk2 HWR.out hmo hs1 hs2 huaa huba hubb huca huda hudb hme5 hme2 hby2)
                  have HI := Lib.hid ((xI.out.far (p := ⟨w16.heap.size, 3, none⟩) hgw (.int .i64 (max 1 (max 1 (me - uc) + by0)))).far (p := ⟨w16.heap.size, 4, none⟩) hgw (.int .i64 (max 1 (me + 1 + ud + by0))))
                  have HR := Lib.hid ((xR.out.far (p := ⟨w16.heap.size, 3, none⟩) (by simp; omega) (.int .i64 (max 1 (max 1 (me - uc) + by0)))).far (p := ⟨w16.heap.size, 4, none⟩) (by simp; omega) (.int .i64 (max 1 (me + 1 + ud + by0))))
                  have HOw := Lib.hid (ownsRow_at (w' := (w19.setCell ⟨w16.heap.size, 3, none⟩ (.int .i64 (max 1 (max 1 (me - uc) + by0)))).setCell ⟨w16.heap.size, 4, none⟩ (.int .i64 (max 1 (me + 1 + ud + by0)))) xO.out (fun k hk h1 h2 => (Below.heap_setCell _ ⟨w16.heap.size, 4, none⟩ _ k (by have := hvl k hk; simp; omega)).trans (Below.heap_setCell _ ⟨w16.heap.size, 3, none⟩ _ k (by have := hvl k hk; simp; omega))))
                  have y0 := Blk.cell xX.out 0
                  have y1 := Blk.cell xX.out 1
                  have y2 := Blk.cell xX.out 2
                  have y3 := Blk.cell xX.out 3
                  have y4 := Blk.cell xX.out 4
                  have yf0 := Blk.frozen xX.out 0
                  have yf1 := Blk.frozen xX.out 1
                  have yf2 := Blk.frozen xX.out 2
                  have yf3 := Blk.frozen xX.out 3
                  have yf4 := Blk.frozen xX.out 4
                  have yl := Blk.lt xX.out
                  simp only [List.getElem?_toArray, List.getElem?_cons_zero, List.getElem?_cons_succ] at y0 y1 y2 y3 y4
                  have c0 := Blk.cell xI.out.hs 0
                  have c1 := Blk.cell xI.out.hs 1
                  have c2 := Blk.cell xI.out.hs 2
                  have cf0 := Blk.frozen xI.out.hs 0
                  have cf1 := Blk.frozen xI.out.hs 1
                  have cf2 := Blk.frozen xI.out.hs 2
                  have cl := Blk.lt xI.out.hs
                  simp only [List.getElem?_toArray, List.getElem?_cons_zero, List.getElem?_cons_succ] at c0 c1 c2
                  clear xI xR xO xX
                  have hwl2 : ws.length ≤ 14 := by have := HWL.out; omega
                  have hgx2 : gx < ((w19.setCell ⟨w16.heap.size, 3, none⟩ (.int .i64 (max 1 (max 1 (me - uc) + by0)))).setCell ⟨w16.heap.size, 4, none⟩ (.int .i64 (max 1 (me + 1 + ud + by0)))).heap.size := HI.out.hs.lt
                  have hvb : ∀ k, v.ownBlock = some k → w9.heap.size ≤ k := fun k hk => (HOw.out.lt k hk).1
                  have hOw2 := (HOw.out).alloc (.cells #[.int .i64 (⟨mo, max 1 (sh - ua), sh + ub, max 1 (max 1 (me - uc) + by0), max 1 (me + 1 + ud + by0)⟩ : Wg).month, .int .i64 (⟨mo, max 1 (sh - ua), sh + ub, max 1 (max 1 (me - uc) + by0), max 1 (me + 1 + ud + by0)⟩ : Wg).slo, .int .i64 (⟨mo, max 1 (sh - ua), sh + ub, max 1 (max 1 (me - uc) + by0), max 1 (me + 1 + ud + by0)⟩ : Wg).shi, .int .i64 (⟨mo, max 1 (sh - ua), sh + ub, max 1 (max 1 (me - uc) + by0), max 1 (me + 1 + ud + by0)⟩ : Wg).mlo, .int .i64 (⟨mo, max 1 (sh - ua), sh + ub, max 1 (max 1 (me - uc) + by0), max 1 (me + 1 + ud + by0)⟩ : Wg).mhi] 55)
                  simp only at hOw2
                  go_wp2_with (at_builtin; go_loud (refine wpList_append_own _ rfl _ _ 23 rfl w9.heap.size 55 j0 _ 5 40 Try.underlying23 hj0 hy0 hy1 hy2 rfl (by decide) v _ _ rfl hOw2 ⟨w19.heap.size, 0, none⟩ 1 1 (Wg.enc (⟨mo, max 1 (sh - ua), sh + ub, max 1 (max 1 (me - uc) + by0), max 1 (me + 1 + ud + by0)⟩ : Wg)) rfl rfl ?c1 ?c2 ?c3 ?c4 ?c5 ?_))
                  case c1 =>
                    have := Blk.new ((w19.setCell ⟨w16.heap.size, 3, none⟩ (.int .i64 (max 1 (max 1 (me - uc) + by0)))).setCell ⟨w16.heap.size, 4, none⟩ (.int .i64 (max 1 (me + 1 + ud + by0)))) 55 #[.int .i64 (⟨mo, max 1 (sh - ua), sh + ub, max 1 (max 1 (me - uc) + by0), max 1 (me + 1 + ud + by0)⟩ : Wg).month, .int .i64 (⟨mo, max 1 (sh - ua), sh + ub, max 1 (max 1 (me - uc) + by0), max 1 (me + 1 + ud + by0)⟩ : Wg).slo, .int .i64 (⟨mo, max 1 (sh - ua), sh + ub, max 1 (max 1 (me - uc) + by0), max 1 (me + 1 + ud + by0)⟩ : Wg).shi, .int .i64 (⟨mo, max 1 (sh - ua), sh + ub, max 1 (max 1 (me - uc) + by0), max 1 (me + 1 + ud + by0)⟩ : Wg).mlo, .int .i64 (⟨mo, max 1 (sh - ua), sh + ub, max 1 (max 1 (me - uc) + by0), max 1 (me + 1 + ud + by0)⟩ : Wg).mhi]
                    try simp only [World.size_alloc, World.size_setCell] at this
                    exact World.news_of_block (cs := #[.int .i64 (⟨mo, max 1 (sh - ua), sh + ub, max 1 (max 1 (me - uc) + by0), max 1 (me + 1 + ud + by0)⟩ : Wg).month, .int .i64 (⟨mo, max 1 (sh - ua), sh + ub, max 1 (max 1 (me - uc) + by0), max 1 (me + 1 + ud + by0)⟩ : Wg).slo, .int .i64 (⟨mo, max 1 (sh - ua), sh + ub, max 1 (max 1 (me - uc) + by0), max 1 (me + 1 + ud + by0)⟩ : Wg).shi, .int .i64 (⟨mo, max 1 (sh - ua), sh + ub, max 1 (max 1 (me - uc) + by0), max 1 (me + 1 + ud + by0)⟩ : Wg).mlo, .int .i64 (⟨mo, max 1 (sh - ua), sh + ub, max 1 (max 1 (me - uc) + by0), max 1 (me + 1 + ud + by0)⟩ : Wg).mhi]) (t := 55) (fr := (0, 0)) this
                  case c2 => simp [Wg.enc, Value.oneCell']
                  case c3 => unfold maxLen; omega
                  case c4 => omega
                  case c5 => simp; omega
                  intro v' wn' hown' hgrow _
                  have HI2 := Lib.hid ((HI.out.later (alc _ _)).grown hgrow (fun g hg => by have := hvb g hg; omega))
                  have HR2 := Lib.hid ((HR.out.later (alc _ _)).grown hgrow (fun g hg => by have := hvb g hg; omega))
                  have HO2 := Lib.hid hown'
                  have hz2 := hgrow.size
                  simp only [World.size_alloc, World.size_setCell] at hz2
                  obtain ⟨g', cap', rfl⟩ := ownsRow_succ hown'
                  have hg' : w9.heap.size ≤ g' := (hown'.lt g' rfl).1
                  clear hown' hgrow hOw2 HI HR HOw
                  have z0 := Blk.cell HI2.out.hs 0
                  have z1 := Blk.cell HI2.out.hs 1
                  have z2 := Blk.cell HI2.out.hs 2
                  have zf0 := Blk.frozen HI2.out.hs 0
                  have zf1 := Blk.frozen HI2.out.hs 1
                  have zf2 := Blk.frozen HI2.out.hs 2
                  have zl := Blk.lt HI2.out.hs
                  simp only [List.getElem?_toArray, List.getElem?_cons_zero, List.getElem?_cons_succ] at z0 z1 z2
                  go_wp2
                  refine ⟨⟨j + 1, _, ws ++ [(⟨mo, max 1 (sh - ua), sh + ub, max 1 (max 1 (me - uc) + by0), max 1 (me + 1 + ud + by0)⟩ : Wg)], by omega, by go_num, by simp [HWL.out], ?_, HI2.out.seth 2 _, HR2.out.far (p := ⟨gx, 2, none⟩) (by simp; omega) _, ?_, ?_⟩, by simp [intOf]; omega⟩
                  · intro y hy
                    rcases List.mem_append.1 hy with hy | hy
                    · exact HWM y hy
                    · rw [List.mem_singleton.1 hy]; exact HWX.out
                  · rw [List.length_append, List.flatMap_append]
                    have := ownsRow_at HO2.out (w' := wn'.setCell ⟨gx, 2, none⟩ (.slice (some ⟨g', 0, none⟩) (ws.length + 1) cap')) (fun k hk hk1 hk2 => Below.heap_setCell wn' ⟨gx, 2, none⟩ _ k (by simp; omega))
                    simpa using this
                  · simp; omega
            · obtain rfl : C = j := by omega
              obtain ⟨ao, cap, rfl, hrow, _, hrb⟩ := row_of_own Wg.enc 5 wg_len HOw.out
              have d0 := Blk.cell HI.out.res 0
              have d1 := Blk.cell HI.out.res 1
              have d2 := Blk.cell HI.out.res 2
              have df0 := Blk.frozen HI.out.res 0
              have df1 := Blk.frozen HI.out.res 1
              have df2 := Blk.frozen HI.out.res 2
              have dl := Blk.lt HI.out.res
              simp only [List.getElem?_toArray, List.getElem?_cons_zero, List.getElem?_cons_succ] at d0 d1 d2
              go_wp2
              refine bodyPost_ret (v := .tuple #[.agg #[.int .i64 N, .int .i64 P, .slice ao ws.length cap], .slice (some ⟨gr, 0, none⟩) N N]) ?_ rfl ⟨⟨N, P, ws⟩, r, ao, cap, some ⟨gr, 0, none⟩, N, N, rfl, rfl, ?_, ?_, ?_, ?_, ?_⟩
              · have hY2 := ((HI.out.res.set_ 0 (.int .i64 N)).set_ 1 (.int .i64 P)).set_ 2 (.slice ao ws.length cap)
                simp only [List.setIfInBounds_toArray, List.set_cons_zero, List.set_cons_succ] at hY2
                have e0 := Blk.cell hY2 0
                have e1 := Blk.cell hY2 1
                have e2 := Blk.cell hY2 2
                have ef0 := Blk.frozen hY2 0
                have ef1 := Blk.frozen hY2 1
                have ef2 := Blk.frozen hY2 2
                have el := Blk.lt hY2
                simp only [List.getElem?_toArray, List.getElem?_cons_zero, List.getElem?_cons_succ] at e0 e1 e2
                simp [results, Try.results10, go_sem, e0, e1, e2]
              · have hB3 : Below (w.heap.size + 1) wr wr := Below.refl _ _
                intro i hi
                obtain ⟨b, o, hA, hb1, hcc⟩ := hrow i hi
                subst hA
                have hbb := hrb _ rfl
                refine ⟨b, o, rfl, by simpa using hb1, fun q u hu => ?_⟩
                have hne : w.heap.size ≠ b := by simp only at hbb; omega
                exact (((World.cell?_setCell_far _ ⟨w.heap.size, 2, none⟩ ⟨b, _, none⟩ _ hne).trans (World.cell?_setCell_far _ ⟨w.heap.size, 1, none⟩ ⟨b, _, none⟩ _ hne)).trans (World.cell?_setCell_far _ ⟨w.heap.size, 0, none⟩ ⟨b, _, none⟩ _ hne)).trans (hcc q u hu)
              · refine row_of_rat ((((HR.out.far (p := ⟨w.heap.size, 0, none⟩) ?_ _).far (p := ⟨w.heap.size, 1, none⟩) ?_ _).far (p := ⟨w.heap.size, 2, none⟩) ?_ _)) ?_
                all_goals (have := HR.out.lt; simp; omega)
              · exact ((HI.out.chg.set_ (p := ⟨w.heap.size, 0, none⟩) (.inr (Nat.le_refl _)) _).set_ (p := ⟨w.heap.size, 1, none⟩) (.inr (Nat.le_refl _)) _).set_ (p := ⟨w.heap.size, 2, none⟩) (.inr (Nat.le_refl _)) _
              · exact ((HI.out.hp.set_ (p := ⟨w.heap.size, 0, none⟩) hlt _).set_ (p := ⟨w.heap.size, 1, none⟩) hlt _).set_ (p := ⟨w.heap.size, 2, none⟩) hlt _
              · have hu := HUP.out
                refine ⟨⟨by simp only; omega, by simp only; omega⟩, ⟨by simp only; omega, by simp only; omega⟩, by have := HWL.out; simp only; omega, fun q hq => hu.1 q (by simp only at hq; omega), fun q hq => hu.2.1 q (by simp only at hq; omega), fun q hq hq2 => hu.2.2.1 q (by simp only at hq; omega) (by simp only at hq2; omega), fun x hx => HWM x hx⟩
end Go.Proofs.Ytjihnnbpfdhceaa
