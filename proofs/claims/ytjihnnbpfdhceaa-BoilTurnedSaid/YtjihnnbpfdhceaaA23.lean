/- boil.Under, boil.Meat, boil.Kept. Conditions: none beyond those that each theorem names. -/
import Derived.Test.YtjihnnbpfdhceaaA22
set_option linter.unusedSimpArgs false
set_option linter.unusedVariables false
namespace Go.Proofs.Ytjihnnbpfdhceaa
open Go.RowKit Go.Shelf
attribute [local go_sem] Oper.semAt_some
attribute [local go_sem ↓] Go.wp_at_zero Go.wp_at_succ

set_option maxRecDepth 100000 in
set_option maxHeartbeats 1000000 in
theorem under_pub (h : Hs) (A : Option Addr) (c : Nat) (a b : Int) (w : World) (hr : RowIn Wg.enc 5 w w.heap.size A h.ws) (hk : h.check = 0) (ha : h.month a = true) (hb : h.month b = true) :
    Calls Try.prog 13 #[h.val A c, .int .i64 a, .int .i64 b] w fun e w' => e = .returned (.tuple #[.bool (h.under a b), .int .i64 0]) ∧ Below w.heap.size w w' := by
  have hlen := check_len hk
  have HR := Lib.hid hr
  have HK := Lib.hid hk
  have HM1 := Lib.hid (fun V => month_any h A c a V (by have := check_months hk; omega) (by have := check_months hk; omega))
  have HM2 := Lib.hid (fun V => month_any h A c b V (by have := check_months hk; omega) (by have := check_months hk; omega))
  have HU := Lib.hid (fun V => under_any h A c a b V)
  rw [ha] at HM1
  rw [hb] at HM2
  clear hr hk ha hb
  unfold Hs.val
  go_enter Try.func13, Try.ntmps13
  go_wp2_with fail
  refine (check_any h A c _ ((HR.out.below ((Below.refl _ _).alloc (Nat.le_refl _) _)).mono (by simp)) (by omega)).mono ?_
  rintro e w1 ⟨rfl, hb1⟩
  rw [HK.out]
  have hbw1 : Below w.heap.size w w1 := ((Below.refl _ _).alloc (Nat.le_refl _) _).trans (hb1.mono (by simp))
  have hho : Blk w1 w.heap.size 25 #[.int .i64 h.months, .int .i64 h.peak, .slice A h.ws.length c] := (Blk.new w 25 _).later hb1
  have hc0 := hho.cell 0
  have hc1 := hho.cell 1
  have hc2 := hho.cell 2
  simp only [List.getElem?_toArray, List.getElem?_cons_zero, List.getElem?_cons_succ] at hc0 hc1 hc2
  clear hb1
  go_wp2_with fail
  refine (HM1.out _).mono ?_
  rintro e w2 ⟨rfl, hb2⟩
  have hbw2 : Below w.heap.size w w2 := hbw1.trans (hb2.mono hbw1.size)
  have hho2 := hho.later hb2
  have hc0 := hho2.cell 0
  have hc1 := hho2.cell 1
  have hc2 := hho2.cell 2
  simp only [List.getElem?_toArray, List.getElem?_cons_zero, List.getElem?_cons_succ] at hc0 hc1 hc2
  clear hb2 hho hbw1
  go_wp2_with fail
  refine (HM2.out _).mono ?_
  rintro e w3 ⟨rfl, hb3⟩
  have hbw3 : Below w.heap.size w w3 := hbw2.trans (hb3.mono hbw2.size)
  have hho3 := hho2.later hb3
  have hc0 := hho3.cell 0
  have hc1 := hho3.cell 1
  have hc2 := hho3.cell 2
  simp only [List.getElem?_toArray, List.getElem?_cons_zero, List.getElem?_cons_succ] at hc0 hc1 hc2
  clear hb3 hho2 hbw2
  go_wp2_with fail
  refine (HU.out _).mono ?_
  rintro e w4 ⟨rfl, hb4⟩
  go_wp2
  go_ret2
  exact ⟨rfl, hbw3.trans (hb4.mono hbw3.size)⟩

/-- boil.Meat's answer, of a month and shells that are right. -/
def Hs.meat (h : Hs) (m s : Int) : Int × Int × Int :=
  let b := h.bounds m
  if b.2.2 ≠ 0 then (0, 0, b.2.2) else
  let lo := (b.1.num * s + b.1.den - 1) / b.1.den
  let hi := b.2.1.num * s / b.2.1.den
  if lo > hi then (0, 0, 8) else (lo, hi, 0)
def spVal (r : Int × Int × Int) : Value := .tuple #[.agg #[.int .i64 r.1, .int .i64 r.2.1], .int .i64 r.2.2]

structure Rat2.Ok1 (r : Rat2) : Prop where
  n0 : 1 ≤ r.num
  n1 : r.num ≤ 1000
  d0 : 1 ≤ r.den
  d1 : r.den ≤ 1000
theorem wrapS (x : Int) (h1 : -9223372036854775808 ≤ x) (h2 : x < 9223372036854775808) : IntKind.i64.wrap x = x := by
  rw [IntKind.wrap_i64]; omega
theorem div_gcd (n d : Int) (hn : 1 ≤ n) (hd : 1 ≤ d) : (1 ≤ n / (Int.gcd n d : Int) ∧ n / (Int.gcd n d : Int) ≤ n) ∧ (1 ≤ d / (Int.gcd n d : Int) ∧ d / (Int.gcd n d : Int) ≤ d) := by
  have h2 : (0 : Int) < (Int.gcd n d : Int) := by
    have := Int.gcd_pos_of_ne_zero_left (a := n) d (by omega)
    omega
  have hle1 : (Int.gcd n d : Int) ≤ n := Int.le_of_dvd (by omega) (Int.gcd_dvd_left ..)
  have hle2 : (Int.gcd n d : Int) ≤ d := Int.le_of_dvd (by omega) (Int.gcd_dvd_right ..)
  refine ⟨⟨?_, Int.ediv_le_self _ (by omega)⟩, ⟨?_, Int.ediv_le_self _ (by omega)⟩⟩
  · exact (Int.le_ediv_iff_mul_le h2).2 (by omega)
  · exact (Int.le_ediv_iff_mul_le h2).2 (by omega)
theorem lowest_ok1 (n d : Int) (hn : 1 ≤ n) (hn' : n ≤ 1000) (hd : 1 ≤ d) (hd' : d ≤ 1000) : (lowest n d).Ok1 := by
  obtain ⟨⟨a, b⟩, c, e⟩ := div_gcd n d hn hd
  exact ⟨a, Int.le_trans b hn', c, Int.le_trans e hd'⟩
theorem Wg.Ok.least1 {x : Wg} (h : x.Ok) : x.least.Ok1 := lowest_ok1 _ _ h.mlo1 h.mlo2 h.shi1 h.shi2
theorem Wg.Ok.most1 {x : Wg} (h : x.Ok) : x.most.Ok1 := lowest_ok1 _ _ h.mhi1 h.mhi2 h.slo1 h.slo2
theorem gr_mem (r : Rat2) (l : List Rat2) : gr r l ∈ r :: l := by
  unfold gr
  induction l generalizing r with
  | nil => exact List.mem_cons_self
  | cons q l ih =>
    rw [List.foldl_cons]
    have := ih (grStep r q)
    unfold grStep at this ⊢
    split at this <;> rename_i hq <;> simp only [hq, if_true, Bool.false_eq_true, if_false] at this ⊢
    · exact List.mem_cons_of_mem _ this
    · rcases List.mem_cons.1 this with h | h
      · rw [h]; exact List.mem_cons_self
      · exact List.mem_cons_of_mem _ (List.mem_cons_of_mem _ h)
theorem mn_mem (r : Rat2) (l : List Rat2) : mn r l ∈ r :: l := by
  unfold mn
  induction l generalizing r with
  | nil => exact List.mem_cons_self
  | cons q l ih =>
    rw [List.foldl_cons]
    have := ih (mnStep r q)
    unfold mnStep at this ⊢
    split at this <;> rename_i hq <;> simp only [hq, if_true, Bool.false_eq_true, if_false] at this ⊢
    · exact List.mem_cons_of_mem _ this
    · rcases List.mem_cons.1 this with h | h
      · rw [h]; exact List.mem_cons_self
      · exact List.mem_cons_of_mem _ (List.mem_cons_of_mem _ h)
theorem bounds_cases {h : Hs} (hk : h.check = 0) (m : Int) : ((h.bounds m).2.2 = 0 ∧ (h.bounds m).1.Ok1 ∧ (h.bounds m).2.1.Ok1) ∨ (((h.bounds m).2.2 = 6 ∨ (h.bounds m).2.2 = 7) ∧ (h.bounds m).1 = ⟨0, 0⟩ ∧ (h.bounds m).2.1 = ⟨0, 0⟩) := by
  have hl : ∀ q ∈ h.lowers m, q.Ok1 := by
    intro q hq
    obtain ⟨x, hx, rfl⟩ := List.mem_map.1 hq
    exact (check_ok hk x (List.mem_filter.1 hx).1).least1
  have hu : ∀ q ∈ h.uppers m, q.Ok1 := by
    intro q hq
    obtain ⟨x, hx, rfl⟩ := List.mem_map.1 hq
    exact (check_ok hk x (List.mem_filter.1 hx).1).most1
  unfold Hs.bounds
  split
  · exact .inr ⟨.inr rfl, rfl, rfl⟩
  · cases hL : h.lowers m with
    | nil => exact .inr ⟨.inl rfl, rfl, rfl⟩
    | cons a l =>
      cases hU : h.uppers m with
      | nil => exact .inr ⟨.inl rfl, rfl, rfl⟩
      | cons b u => exact .inl ⟨rfl, hl _ (by rw [hL]; exact gr_mem a l), hu _ (by rw [hU]; exact mn_mem b u)⟩

set_option maxRecDepth 100000 in
set_option maxHeartbeats 1000000 in
theorem meat_any (h : Hs) (A : Option Addr) (c : Nat) (m s : Int) (w : World) (hr : RowIn Wg.enc 5 w w.heap.size A h.ws) (hk : h.check = 0) (hm : h.month m = true) (hs0 : 0 ≤ s) (hs1 : s ≤ 1000) :
    Calls Try.prog 17 #[h.val A c, .int .i64 m, .int .i64 s] w fun e w' => e = .returned (spVal (h.meat m s)) ∧ Below w.heap.size w w' := by
  have hlen := check_len hk
  have HR := Lib.hid hr
  have HK := Lib.hid hk
  have HIN := Lib.hid (fun V => in_any s 0 1000 V)
  rw [show inB s 0 1000 = true by simp [inB]; omega] at HIN
  have HBD := Lib.hid (fun V hr => bounds_any h A c m V hr hk hm)
  have HCS := Lib.hid (bounds_cases hk m)
  clear hr hk hm
  unfold Hs.val
  go_enter Try.func17, Try.ntmps17
  go_wp2_with fail
  refine (check_any h A c _ ((HR.out.below (((Below.refl _ _).alloc (Nat.le_refl _) _).alloc (by simp) _)).mono (by simp; omega)) (by omega)).mono ?_
  rintro e w1 ⟨rfl, hb1⟩
  rw [HK.out]
  have hbw1 : Below w.heap.size w w1 := (((Below.refl _ _).alloc (Nat.le_refl _) _).alloc (by simp) _).trans (hb1.mono (by simp; omega))
  have hho : Blk w1 w.heap.size 25 #[.int .i64 h.months, .int .i64 h.peak, .slice A h.ws.length c] := ((Blk.new w 25 _).alloc _).later hb1
  have hre : Blk w1 (w.heap.size + 1) 47 #[.int .i64 0, .int .i64 0] := by
    have := Blk.new (w.alloc (.cells #[.int .i64 h.months, .int .i64 h.peak, .slice A h.ws.length c] 25)) 47 #[.int .i64 0, .int .i64 0]
    rw [World.size_alloc] at this
    exact this.later hb1
  clear hb1
  go_wp2_with fail
  refine (HIN.out _).mono ?_
  rintro e w2 ⟨rfl, rfl⟩
  have hc0 := hho.cell 0
  have hc1 := hho.cell 1
  have hc2 := hho.cell 2
  simp only [List.getElem?_toArray, List.getElem?_cons_zero, List.getElem?_cons_succ] at hc0 hc1 hc2
  go_wp2_with fail
  refine (HBD.out _ ((HR.out.below hbw1).mono hbw1.size)).mono ?_
  rintro e w3 ⟨rfl, hb3⟩
  have hbw3 : Below w.heap.size w w3 := hbw1.trans (hb3.mono hbw1.size)
  have hre3 := hre.later hb3
  have hmeat : ∀ B, h.bounds m = B → h.meat m s = (if B.2.2 ≠ 0 then (0, 0, B.2.2) else if (B.1.num * s + B.1.den - 1) / B.1.den > B.2.1.num * s / B.2.1.den then (0, 0, 8) else ((B.1.num * s + B.1.den - 1) / B.1.den, B.2.1.num * s / B.2.1.den, 0)) := fun B hB => by
    unfold Hs.meat; rw [hB]
  have HMT := Lib.hid hmeat
  clear hb3 hre hc0 hc1 hc2 hho hbw1 hmeat
  unfold bdVal Rat2.val
  rcases HCS.out with ⟨hz, hlo, hhi⟩ | ⟨hz, hlo, hhi⟩
  · have HM1 := HMT.out _ rfl
    clear HMT HCS HBD
    generalize h.bounds m = B at hz hlo hhi HM1 ⊢
    obtain ⟨⟨ln, ld⟩, ⟨un, ud⟩, ee⟩ := B
    obtain ⟨l1, l2, l3, l4⟩ := hlo
    obtain ⟨u1, u2, u3, u4⟩ := hhi
    simp only at hz l1 l2 l3 l4 u1 u2 u3 u4
    subst hz
    have HM := Lib.hid HM1
    clear HM1
    simp only
    have p1 := mul_bd (x := ln) (y := s) (M := 1000) (N := 1000) (by omega) (by omega) hs0 hs1
    have p2 := mul_bd (x := un) (y := s) (M := 1000) (N := 1000) (by omega) (by omega) hs0 hs1
    obtain ⟨p1, p1'⟩ := p1
    obtain ⟨p2, p2'⟩ := p2
    have q1 : ld ≠ 0 := by omega
    have q2 : ud ≠ 0 := by omega
    go_wp2_with fail
    have n1 : Blk ((w3.alloc (.cells #[.int .i64 ln, .int .i64 ld] 43)).alloc (.cells #[.int .i64 un, .int .i64 ud] 43)) w3.heap.size 43 #[.int .i64 ln, .int .i64 ld] := (Blk.new _ _ _).alloc _
    have n2 : Blk ((w3.alloc (.cells #[.int .i64 ln, .int .i64 ld] 43)).alloc (.cells #[.int .i64 un, .int .i64 ud] 43)) (w3.heap.size + 1) 43 #[.int .i64 un, .int .i64 ud] := by
      have := Blk.new (w3.alloc (.cells #[.int .i64 ln, .int .i64 ld] 43)) 43 #[.int .i64 un, .int .i64 ud]
      rwa [World.size_alloc] at this
    have n3 : Below w3.heap.size w3 ((w3.alloc (.cells #[.int .i64 ln, .int .i64 ld] 43)).alloc (.cells #[.int .i64 un, .int .i64 ud] 43)) := by repeat (first | exact Below.refl _ _ | exact Below.refl _ _ | refine Below.drew ?_ | refine below_drewN ?_ _ | refine Below.setCell ?_ (by first | assumption | omega | (simp; done) | (simp; omega) | (simp at *; omega)) _ | refine Below.alloc ?_ (by first | assumption | omega | (simp; done) | (simp; omega) | (simp at *; omega)) _ | refine Below.trans ?_ (Below.mono Below.refl _ _ (by first | assumption | omega | (simp; done) | (simp; omega) | (simp at *; omega))))
    generalize (w3.alloc (.cells #[.int .i64 ln, .int .i64 ld] 43)).alloc (.cells #[.int .i64 un, .int .i64 ud] 43) = w4 at n1 n2 n3 ⊢
    have hre4 := hre3.later n3
    have hbw4 : Below w.heap.size w w4 := hbw3.trans (n3.mono hbw3.size)
    have l0 := Blk.cell n1 0
    have l1 := Blk.cell n1 1
    have lf0 := Blk.frozen n1 0
    have lf1 := Blk.frozen n1 1
    simp only [List.getElem?_toArray, List.getElem?_cons_zero, List.getElem?_cons_succ] at l0 l1
    have u0 := Blk.cell n2 0
    have u1 := Blk.cell n2 1
    have uf0 := Blk.frozen n2 0
    have uf1 := Blk.frozen n2 1
    simp only [List.getElem?_toArray, List.getElem?_cons_zero, List.getElem?_cons_succ] at u0 u1
    refine wp_region_plan (fun w' => (w'.cell? ⟨w3.heap.size, 0, none⟩ = some (.int .i64 ln) ∧ w'.cell? ⟨w3.heap.size, 1, none⟩ = some (.int .i64 ld)) ∧ (w'.cell? ⟨w3.heap.size + 1, 0, none⟩ = some (.int .i64 un) ∧ w'.cell? ⟨w3.heap.size + 1, 1, none⟩ = some (.int .i64 ud)))
      [(0, true), (1, true), (2, true), (3, true), (4, true), (5, true), (6, true), (7, true), (8, true), (9, true), (10, true), (11, true), (12, true), (13, true), (14, true), (15, true), (16, true), (17, true), (18, true), (19, false), (20, false)] (by kernel_rfl) (by kernel_rfl) (fun _ _ _ _ _ h => h) ⟨⟨by simpa using l0, by simpa using l1⟩, ⟨by simpa using u0, by simpa using u1⟩⟩ (fun hS => ?_)
    apply wpPlan_take
    case hi => (simp only [List.getElem?_toArray, List.getElem?_cons_succ, List.getElem?_cons_zero]; exact rfl)
    case hw => rfl
    case hr => (intro w' hSw; (try dsimp only at hSw); go_split_ands; go_simp; try with_reducible rfl)
    (simp only [Act.put, List.setIfInBounds_toArray, List.set_cons_zero, List.set_cons_succ])
    apply wpPlan_take
    case hi => (simp only [List.getElem?_toArray, List.getElem?_cons_succ, List.getElem?_cons_zero]; exact rfl)
    case hw => rfl
    case hr => (intro w' hSw; (try dsimp only at hSw); go_split_ands; go_simp; try with_reducible rfl)
    (simp only [Act.put, List.setIfInBounds_toArray, List.set_cons_zero, List.set_cons_succ])
    apply wpPlan_take
    case hi => (simp only [List.getElem?_toArray, List.getElem?_cons_succ, List.getElem?_cons_zero]; exact rfl)
    case hw => rfl
    case hr => (intro w' hSw; (try dsimp only at hSw); go_split_ands; go_simp; try with_reducible rfl)
    (simp only [Act.put, List.setIfInBounds_toArray, List.set_cons_zero, List.set_cons_succ])
    apply wpPlan_take
    case hi => (simp only [List.getElem?_toArray, List.getElem?_cons_succ, List.getElem?_cons_zero]; exact rfl)
    case hw => rfl
    case hr => (intro w' hSw; (try dsimp only at hSw); go_split_ands; go_simp; try with_reducible rfl)
    (simp only [Act.put, List.setIfInBounds_toArray, List.set_cons_zero, List.set_cons_succ])
    apply wpPlan_take
    case hi => (simp only [List.getElem?_toArray, List.getElem?_cons_succ, List.getElem?_cons_zero]; exact rfl)
    case hw => rfl
    case hr => (intro w' hSw; (try dsimp only at hSw); go_split_ands; go_simp; try with_reducible rfl)
    (simp only [Act.put, List.setIfInBounds_toArray, List.set_cons_zero, List.set_cons_succ])
    apply wpPlan_take
    case hi => (simp only [List.getElem?_toArray, List.getElem?_cons_succ, List.getElem?_cons_zero]; exact rfl)
    case hw => rfl
    case hr => (intro w' hSw; (try dsimp only at hSw); go_split_ands; go_simp; try with_reducible rfl)
    (simp only [Act.put, List.setIfInBounds_toArray, List.set_cons_zero, List.set_cons_succ])
    apply wpPlan_take
    case hi => (simp only [List.getElem?_toArray, List.getElem?_cons_succ, List.getElem?_cons_zero]; exact rfl)
    case hw => rfl
    case hr => (intro w' hSw; (try dsimp only at hSw); go_split_ands; go_simp; try with_reducible rfl)
    (simp only [Act.put, List.setIfInBounds_toArray, List.set_cons_zero, List.set_cons_succ])
    apply wpPlan_take
    case hi => (simp only [List.getElem?_toArray, List.getElem?_cons_succ, List.getElem?_cons_zero]; exact rfl)
    case hw => rfl
    case hr => (intro w' hSw; (try dsimp only at hSw); go_split_ands; go_simp; try with_reducible rfl)
    (simp only [Act.put, List.setIfInBounds_toArray, List.set_cons_zero, List.set_cons_succ])
    apply wpPlan_take
    case hi => (simp only [List.getElem?_toArray, List.getElem?_cons_succ, List.getElem?_cons_zero]; exact rfl)
    case hw => rfl
    case hr => (intro w' hSw; (try dsimp only at hSw); go_split_ands; go_simp; try with_reducible rfl)
    (simp only [Act.put, List.setIfInBounds_toArray, List.set_cons_zero, List.set_cons_succ])
    apply wpPlan_take
    case hi => (simp only [List.getElem?_toArray, List.getElem?_cons_succ, List.getElem?_cons_zero]; exact rfl)
    case hw => rfl
    case hr => (intro w' hSw; (try dsimp only at hSw); go_split_ands; go_simp; try with_reducible rfl)
    (simp only [Act.put, List.setIfInBounds_toArray, List.set_cons_zero, List.set_cons_succ])
    apply wpPlan_take
    case hi => (simp only [List.getElem?_toArray, List.getElem?_cons_succ, List.getElem?_cons_zero]; exact rfl)
    case hw => rfl
    case hr => (intro w' hSw; (try dsimp only at hSw); go_split_ands; go_simp; try with_reducible rfl)
    (simp only [Act.put, List.setIfInBounds_toArray, List.set_cons_zero, List.set_cons_succ])
    apply wpPlan_take
    case hi => (simp only [List.getElem?_toArray, List.getElem?_cons_succ, List.getElem?_cons_zero]; exact rfl)
    case hw => rfl
    case hr => (intro w' hSw; (try dsimp only at hSw); go_split_ands; go_simp; try with_reducible rfl)
    (simp only [Act.put, List.setIfInBounds_toArray, List.set_cons_zero, List.set_cons_succ])
    apply wpPlan_take
    case hi => (simp only [List.getElem?_toArray, List.getElem?_cons_succ, List.getElem?_cons_zero]; exact rfl)
    case hw => rfl
    case hr => (intro w' hSw; (try dsimp only at hSw); go_split_ands; go_simp; try with_reducible rfl)
    (simp only [Act.put, List.setIfInBounds_toArray, List.set_cons_zero, List.set_cons_succ])
    apply wpPlan_take
    case hi => (simp only [List.getElem?_toArray, List.getElem?_cons_succ, List.getElem?_cons_zero]; exact rfl)
    case hw => rfl
    case hr => (intro w' hSw; (try dsimp only at hSw); go_split_ands; go_simp; try with_reducible rfl)
    (simp only [Act.put, List.setIfInBounds_toArray, List.set_cons_zero, List.set_cons_succ])
    apply wpPlan_take
    case hi => (simp only [List.getElem?_toArray, List.getElem?_cons_succ, List.getElem?_cons_zero]; exact rfl)
    case hw => rfl
    case hr => (intro w' hSw; (try dsimp only at hSw); go_split_ands; go_simp; try with_reducible rfl)
    (simp only [Act.put, List.setIfInBounds_toArray, List.set_cons_zero, List.set_cons_succ])
    apply wpPlan_take
    case hi => (simp only [List.getElem?_toArray, List.getElem?_cons_succ, List.getElem?_cons_zero]; exact rfl)
    case hw => rfl
    case hr => (intro w' hSw; (try dsimp only at hSw); go_split_ands; go_simp; try with_reducible rfl)
    (simp only [Act.put, List.setIfInBounds_toArray, List.set_cons_zero, List.set_cons_succ])
    apply wpPlan_take
    case hi => (simp only [List.getElem?_toArray, List.getElem?_cons_succ, List.getElem?_cons_zero]; exact rfl)
    case hw => rfl
    case hr => (intro w' hSw; (try dsimp only at hSw); go_split_ands; go_simp; try with_reducible rfl)
    (simp only [Act.put, List.setIfInBounds_toArray, List.set_cons_zero, List.set_cons_succ])
    apply wpPlan_take
    case hi => (simp only [List.getElem?_toArray, List.getElem?_cons_succ, List.getElem?_cons_zero]; exact rfl)
    case hw => rfl
    case hr => (intro w' hSw; (try dsimp only at hSw); go_split_ands; go_simp; try with_reducible rfl)
    (simp only [Act.put, List.setIfInBounds_toArray, List.set_cons_zero, List.set_cons_succ])
    apply wpPlan_take
    case hi => (simp only [List.getElem?_toArray, List.getElem?_cons_succ, List.getElem?_cons_zero]; exact rfl)
    case hw => rfl
    case hr => (intro w' hSw; (try dsimp only at hSw); go_split_ands; go_simp; try with_reducible rfl)
    (simp only [Act.put, List.setIfInBounds_toArray, List.set_cons_zero, List.set_cons_succ])
    have k1 := Int.ediv_nonneg (a := ln * s + ld - 1) (b := ld) (by omega) (by omega)
    have k2 := Int.ediv_le_self (a := ln * s + ld - 1) ld (by omega)
    have k3 := Int.ediv_nonneg (a := un * s) (b := ud) (by omega) (by omega)
    have k4 := Int.ediv_le_self (a := un * s) ud (by omega)
    rw [wrapS (ln * s) (by omega) (by omega), wrapS (ln * s + ld) (by omega) (by omega), wrapS (ln * s + ld - 1) (by omega) (by omega), Int.tdiv_eq_ediv_of_nonneg (by omega), wrapS ((ln * s + ld - 1) / ld) (by omega) (by omega),
      wrapS (un * s) (by omega) (by omega), Int.tdiv_eq_ediv_of_nonneg (by omega), wrapS (un * s / ud) (by omega) (by omega)]
    generalize hX : (ln * s + ld - 1) / ld = X at HM k1 k2 ⊢
    generalize hY : un * s / ud = Y at HM k3 k4 ⊢
    clear hX hY l0 l1 lf0 lf1 u0 u1 uf0 uf1
    apply wpPlan_step
    case ho => (simp only [List.getElem?_toArray, List.getElem?_cons_succ, List.getElem?_cons_zero]; exact rfl)
    intro K hK
    rw [if_pos (by rfl)]
    go_simp
    have a1 : Below w4.heap.size w4 ((w4.alloc (.cells #[.int .i64 0, .int .i64 0] 47)).drew) := by repeat (first | exact Below.refl _ _ | exact Below.refl _ _ | refine Below.drew ?_ | refine below_drewN ?_ _ | refine Below.setCell ?_ (by first | assumption | omega | (simp; done) | (simp; omega) | (simp at *; omega)) _ | refine Below.alloc ?_ (by first | assumption | omega | (simp; done) | (simp; omega) | (simp at *; omega)) _ | refine Below.trans ?_ (Below.mono Below.refl _ _ (by first | assumption | omega | (simp; done) | (simp; omega) | (simp at *; omega))))
    have a2 : Blk ((w4.alloc (.cells #[.int .i64 0, .int .i64 0] 47)).drew) w4.heap.size 47 #[.int .i64 0, .int .i64 0] := Blk.new _ _ _
    generalize (w4.alloc (.cells #[.int .i64 0, .int .i64 0] 47)).drew = w5 at a1 a2 ⊢
    have m1 := n1.later a1
    have m2 := n2.later a1
    have l0 := Blk.cell m1 0
    have l1 := Blk.cell m1 1
    have lf0 := Blk.frozen m1 0
    have lf1 := Blk.frozen m1 1
    simp only [List.getElem?_toArray, List.getElem?_cons_zero, List.getElem?_cons_succ] at l0 l1
    have u0 := Blk.cell m2 0
    have u1 := Blk.cell m2 1
    have uf0 := Blk.frozen m2 0
    have uf1 := Blk.frozen m2 1
    simp only [List.getElem?_toArray, List.getElem?_cons_zero, List.getElem?_cons_succ] at u0 u1
    have t0 := Blk.cell a2 0
    have t1 := Blk.cell a2 1
    have tf0 := Blk.frozen a2 0
    have tf1 := Blk.frozen a2 1
    simp only [List.getElem?_toArray, List.getElem?_cons_zero, List.getElem?_cons_succ] at t0 t1
    have hS5 : (w5.cell? ⟨w3.heap.size, 0, none⟩ = some (.int .i64 ln) ∧ w5.cell? ⟨w3.heap.size, 1, none⟩ = some (.int .i64 ld)) ∧ (w5.cell? ⟨w3.heap.size + 1, 0, none⟩ = some (.int .i64 un) ∧ w5.cell? ⟨w3.heap.size + 1, 1, none⟩ = some (.int .i64 ud)) := ⟨⟨l0, l1⟩, u0, u1⟩
    clear hS
    refine hK.out _ _ (hS5) (fun hS => ?_)
    clear hK
    clear K
    try (simp only [Act.put, List.setIfInBounds_toArray, List.set_cons_zero, List.set_cons_succ])
    clear hS5 hS
    apply wpPlan_step
    case ho => (simp only [List.getElem?_toArray, List.getElem?_cons_succ, List.getElem?_cons_zero]; exact rfl)
    intro K hK
    rw [if_pos (by rfl)]
    go_simp
    have hne1 : w3.heap.size ≠ w4.heap.size := by have := n1.lt; omega
    have hne2 : w3.heap.size + 1 ≠ w4.heap.size := by have := n2.lt; omega
    have b1 : Below w4.heap.size w4 ((w5.setCell ⟨w4.heap.size, 0, none⟩ (.int .i64 X)).setCell ⟨w4.heap.size, 1, none⟩ (.int .i64 Y)) := (a1.setCell (p := ⟨w4.heap.size, 0, none⟩) (Nat.le_refl _) _).setCell (p := ⟨w4.heap.size, 1, none⟩) (Nat.le_refl _) _
    have b2 : Blk ((w5.setCell ⟨w4.heap.size, 0, none⟩ (.int .i64 X)).setCell ⟨w4.heap.size, 1, none⟩ (.int .i64 Y)) w4.heap.size 47 #[.int .i64 X, .int .i64 Y] := (a2.set_ 0 _).set_ 1 _
    generalize (w5.setCell ⟨w4.heap.size, 0, none⟩ (.int .i64 X)).setCell ⟨w4.heap.size, 1, none⟩ (.int .i64 Y) = w6 at b1 b2 ⊢
    have m1 := n1.later b1
    have m2 := n2.later b1
    clear l0 l1 lf0 lf1 u0 u1 uf0 uf1 t0 t1 tf0 tf1
    have l0 := Blk.cell m1 0
    have l1 := Blk.cell m1 1
    have lf0 := Blk.frozen m1 0
    have lf1 := Blk.frozen m1 1
    simp only [List.getElem?_toArray, List.getElem?_cons_zero, List.getElem?_cons_succ] at l0 l1
    have u0 := Blk.cell m2 0
    have u1 := Blk.cell m2 1
    have uf0 := Blk.frozen m2 0
    have uf1 := Blk.frozen m2 1
    simp only [List.getElem?_toArray, List.getElem?_cons_zero, List.getElem?_cons_succ] at u0 u1
    have hS6 : (w6.cell? ⟨w3.heap.size, 0, none⟩ = some (.int .i64 ln) ∧ w6.cell? ⟨w3.heap.size, 1, none⟩ = some (.int .i64 ld)) ∧ (w6.cell? ⟨w3.heap.size + 1, 0, none⟩ = some (.int .i64 un) ∧ w6.cell? ⟨w3.heap.size + 1, 1, none⟩ = some (.int .i64 ud)) := ⟨⟨l0, l1⟩, u0, u1⟩
    refine hK.out _ _ (hS6) (fun hS => ?_)
    clear hK
    clear K
    try (simp only [Act.put, List.setIfInBounds_toArray, List.set_cons_zero, List.set_cons_succ])
    clear hS6 hS l0 l1 lf0 lf1 u0 u1 uf0 uf1 m1 m2 n1 n2
    refine wpPlan_end ?_
    have t0 := Blk.cell b2 0
    have t1 := Blk.cell b2 1
    have tf0 := Blk.frozen b2 0
    have tf1 := Blk.frozen b2 1
    simp only [List.getElem?_toArray, List.getElem?_cons_zero, List.getElem?_cons_succ] at t0 t1
    have hre6 := hre4.later b1
    have hbw6 : Below w.heap.size w w6 := hbw4.trans (b1.mono hbw4.size)
    have r0 := Blk.cell hre6 0
    have r1 := Blk.cell hre6 1
    have rf0 := Blk.frozen hre6 0
    have rf1 := Blk.frozen hre6 1
    simp only [List.getElem?_toArray, List.getElem?_cons_zero, List.getElem?_cons_succ] at r0 r1
    have hzz : w.heap.size + 1 < w4.heap.size := hre4.lt
    by_cases hgt : X > Y
    · have hmt : h.meat m s = (0, 0, 8) := by rw [HM.out]; simp only [ne_eq, not_true_eq_false, if_false]; rw [if_pos hgt]
      have HMM := Lib.hid hmt
      clear hmt HM
      go_wp2
      refine bodyPost_ret (v := spVal (0, 0, 8)) ?_ rfl ⟨by rw [HMM.out], (hbw6.setCell (p := ⟨w.heap.size + 1, 0, none⟩) (by simp) _).setCell (p := ⟨w.heap.size + 1, 1, none⟩) (by simp) _⟩
      have hY2 := (hre6.set_ 0 (.int .i64 0)).set_ 1 (.int .i64 0)
      have e0 := hY2.cell 0
      have e1 := hY2.cell 1
      simp only [List.setIfInBounds_toArray, List.set_cons_zero, List.set_cons_succ, List.getElem?_toArray, List.getElem?_cons_zero, List.getElem?_cons_succ] at e0 e1
      unfold spVal
      simp [results, Try.results17, go_sem, e0, e1]
    · have hmt : h.meat m s = (X, Y, 0) := by rw [HM.out]; simp only [ne_eq, not_true_eq_false, if_false]; rw [if_neg hgt]
      have HMM := Lib.hid hmt
      clear hmt HM
      go_wp2
      refine bodyPost_ret (v := spVal (X, Y, 0)) ?_ rfl ⟨by rw [HMM.out], (hbw6.setCell (p := ⟨w.heap.size + 1, 0, none⟩) (by simp) _).setCell (p := ⟨w.heap.size + 1, 1, none⟩) (by simp) _⟩
      have hY2 := (hre6.set_ 0 (.int .i64 X)).set_ 1 (.int .i64 Y)
      have e0 := hY2.cell 0
      have e1 := hY2.cell 1
      simp only [List.setIfInBounds_toArray, List.set_cons_zero, List.set_cons_succ, List.getElem?_toArray, List.getElem?_cons_zero, List.getElem?_cons_succ] at e0 e1
      unfold spVal
      simp [results, Try.results17, go_sem, e0, e1]
  · have HM1 := HMT.out _ rfl
    clear HMT HCS HBD
    generalize h.bounds m = B at hz hlo hhi HM1 ⊢
    obtain ⟨lo, hi, ee⟩ := B
    simp only at hz hlo hhi
    subst hlo
    subst hhi
    have hz' : ee ≠ 0 := by omega
    have hq : (ee != 0) = true := bne_iff_ne.2 hz'
    have HM : Hid (h.meat m s = (0, 0, ee)) := Lib.hid (by rw [HM1]; simp [hz'])
    clear HM1
    simp only
    have hA := (hre3.alloc (.cells #[.int .i64 0, .int .i64 0] 43)).alloc (.cells #[.int .i64 0, .int .i64 0] 43)
    have hbA : Below w.heap.size w ((w3.alloc (.cells #[.int .i64 0, .int .i64 0] 43)).alloc (.cells #[.int .i64 0, .int .i64 0] 43)) := (hbw3.alloc hbw3.size _).alloc (by simp; have := hbw3.size; omega) _
    have r0 := Blk.cell hA 0
    have r1 := Blk.cell hA 1
    have rf0 := Blk.frozen hA 0
    have rf1 := Blk.frozen hA 1
    simp only [List.getElem?_toArray, List.getElem?_cons_zero, List.getElem?_cons_succ] at r0 r1
    have hzz := hre3.lt
    go_wp2
    refine bodyPost_ret (v := spVal (0, 0, ee)) ?_ rfl ⟨by rw [HM.out], (hbA.setCell (p := ⟨w.heap.size + 1, 0, none⟩) (by simp) _).setCell (p := ⟨w.heap.size + 1, 1, none⟩) (by simp) _⟩
    have hY2 := (hA.set_ 0 (.int .i64 0)).set_ 1 (.int .i64 0)
    have e0 := hY2.cell 0
    have e1 := hY2.cell 1
    simp only [List.setIfInBounds_toArray, List.set_cons_zero, List.set_cons_succ, List.getElem?_toArray, List.getElem?_cons_zero, List.getElem?_cons_succ] at e0 e1
    unfold spVal
    simp [results, Try.results17, go_sem, e0, e1]
end Go.Proofs.Ytjihnnbpfdhceaa
