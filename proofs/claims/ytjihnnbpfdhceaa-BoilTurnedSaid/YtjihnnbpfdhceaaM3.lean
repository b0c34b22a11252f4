/- Plain: true houses agree; what meat can have come out. No program in sight. -/
import Derived.Test.YtjihnnbpfdhceaaM2
set_option linter.unusedSimpArgs false
set_option linter.unusedVariables false
namespace Go.Proofs.Ytjihnnbpfdhceaa

theorem mono_up {r : Nat → Rat2} {p : Int} (H : ∀ j : Nat, (j : Int) < p → (r j).num ≤ (r (j + 1)).num) (a : Nat) : ∀ d : Nat, (a : Int) + d ≤ p → (r a).num ≤ (r (a + d)).num := by
  intro d
  induction d with
  | zero => intro _; exact Int.le_refl _
  | succ d ih =>
    intro hd
    exact Int.le_trans (ih (by omega)) (H (a + d) (by omega))
theorem mono_down {r : Nat → Rat2} {p M : Int} (H : ∀ j : Nat, p ≤ j → (j : Int) + 1 < M → (r (j + 1)).num ≤ (r j).num) (a : Nat) (ha : p ≤ a) : ∀ d : Nat, (a : Int) + d < M → (r (a + d)).num ≤ (r a).num := by
  intro d
  induction d with
  | zero => intro _; exact Int.le_refl _
  | succ d ih =>
    intro hd
    exact Int.le_trans (H (a + d) (by omega) (by omega)) (ih (by omega))
theorem MadeOk.mono {h : Hs} {r : Nat → Rat2} {mo we : Nat} {wr : Int} (H : MadeOk h r mo we wr) {a b : Nat} (ha : (a : Int) < h.months) (hb : (b : Int) < h.months) (hu : h.under a b = true) : (r a).num ≤ (r b).num := by
  unfold Hs.under at hu
  simp at hu
  rcases hu with ⟨h1, h2⟩ | ⟨h1, h2⟩
  · obtain ⟨d, rfl⟩ := Nat.exists_eq_add_of_le h1
    exact mono_up H.up a d (by omega)
  · obtain ⟨d, rfl⟩ := Nat.exists_eq_add_of_le h2
    exact mono_down H.down b h1 d (by omega)
/-- The ratio that a month really had. -/
theorem MadeOk.den {h : Hs} {r : Nat → Rat2} {mo we : Nat} {wr : Int} (H : MadeOk h r mo we wr) {a : Nat} (ha : (a : Int) < h.months) : (r a).den = 200 := (H.rat a ha).2.2
theorem MadeOk.pos {h : Hs} {r : Nat → Rat2} {mo we : Nat} {wr : Int} (H : MadeOk h r mo we wr) {a : Nat} (ha : (a : Int) < h.months) : (r a).Pos := by
  obtain ⟨h1, h2, h3⟩ := H.rat a ha
  exact ⟨by omega, by omega⟩
theorem MadeOk.le_ {h : Hs} {r : Nat → Rat2} {mo we : Nat} {wr : Int} (H : MadeOk h r mo we wr) {a b : Nat} (ha : (a : Int) < h.months) (hb : (b : Int) < h.months) (hu : h.under a b = true) : rle (r a) (r b) := by
  unfold rle
  rw [H.den ha, H.den hb]
  have := H.mono ha hb hu
  omega
theorem MadeOk.wmonth {h : Hs} {r : Nat → Rat2} {mo we : Nat} {wr : Int} (H : MadeOk h r mo we wr) {x : Wg} (hx : x ∈ h.ws) : ∃ a : Nat, x.month = a ∧ (a : Int) < h.months := by
  obtain ⟨⟨h1, h2⟩, _⟩ := H.ws x hx
  exact ⟨x.month.toNat, by omega, by omega⟩
theorem MadeOk.true_ {h : Hs} {r : Nat → Rat2} {mo we : Nat} (H : MadeOk h r mo we 0) {x : Wg} (hx : x ∈ h.ws) {a : Nat} (ha : x.month = a) : rle x.least (r a) ∧ rle (r a) x.most := by
  obtain ⟨⟨m1, m2⟩, _, _, ht⟩ := H.ws x hx
  have hg := (H.good x hx).ok
  obtain ⟨t1, t2⟩ := ht rfl
  rw [ha, Int.toNat_natCast] at t1 t2
  have hd := H.den (a := a) (by omega)
  refine ⟨?_, ?_⟩
  · unfold Wg.least
    rw [rle_lowest_l hg.mlo1 hg.shi1, hd]; exact t1
  · unfold Wg.most
    rw [rle_lowest_r hg.mhi1 hg.slo1, hd]; exact t2
theorem agreeB_iff (M : Nat → Nat → Bool) : agreeB M = true ↔ ∀ i j, i < 14 → j < 14 → M i j = false := by
  unfold agreeB
  simp only [List.all_eq_true, List.mem_range, beq_iff_eq]
  exact ⟨fun h i j hi hj => h i hi j hj, fun h i hi j hj => h i j hi hj⟩
theorem agreeB_all {h : Hs} (hl : h.ws.length ≤ 14) : agreeB h.clashM = true ↔ ∀ i j, h.clashM i j = false := by
  rw [agreeB_iff]
  constructor
  · intro H i j
    cases hm : h.clashM i j
    · rfl
    · have hlt := clashM_lt hm
      have := H i j (by omega) (by omega)
      rw [hm] at this; cases this
  · intro H i j _ _; exact H i j
theorem agree_ws {h : Hs} (hl : h.ws.length ≤ 14) : agreeB h.clashM = true ↔ ∀ x ∈ h.ws, ∀ y ∈ h.ws, h.clash x y = false := by
  rw [agreeB_all hl]
  constructor
  · intro H x hx y hy
    obtain ⟨i, hi, rfl⟩ := List.getElem_of_mem hx
    obtain ⟨j, hj, rfl⟩ := List.getElem_of_mem hy
    rw [← clashM_in h hi hj]; exact H i j
  · intro H i j
    cases hm : h.clashM i j
    · rfl
    · obtain ⟨hi, hj⟩ := clashM_lt hm
      rw [clashM_in h hi hj, H _ (List.getElem_mem hi) _ (List.getElem_mem hj)] at hm
      cases hm
theorem clash_false {h : Hs} {x y : Wg} : h.clash x y = false ↔ (h.under x.month y.month = true → rle x.least y.most) := by
  have := clash_true (h := h) (x := x) (y := y)
  unfold rlt at this
  cases hc : h.clash x y
  · simp only [true_iff]
    intro hu
    rcases Classical.em (rle x.least y.most) with h1 | h1
    · exact h1
    · rw [hc] at this
      exact absurd (this.2 ⟨hu, h1⟩) (by simp)
  · rw [hc] at this
    have h1 := this.1 rfl
    simp only [Bool.true_eq_false, false_iff]
    exact fun H => h1.2 (H h1.1)
theorem MadeOk.agree {h : Hs} {r : Nat → Rat2} {mo we : Nat} (H : MadeOk h r mo we 0) (h2 : we ≤ 14) : agreeB h.clashM = true := by
  rw [agree_ws (by have := H.len; omega)]
  intro x hx y hy
  rw [clash_false]
  intro hu
  obtain ⟨a, ea, ha⟩ := H.wmonth hx
  obtain ⟨b, eb, hb⟩ := H.wmonth hy
  rw [ea, eb] at hu
  have h1 := (H.true_ hx ea).1
  have h3 := (H.true_ hy eb).2
  have h4 := H.le_ ha hb hu
  exact rle_trans (H.good x hx).ok.least_pos (H.pos hb) (H.good y hy).ok.most_pos (rle_trans (H.good x hx).ok.least_pos (H.pos ha) (H.pos hb) h1 h4) h3

/-! ### Meat -/
theorem ceil_spec (a d : Int) (hd : 1 ≤ d) : a ≤ (a + d - 1) / d * d ∧ ((a + d - 1) / d - 1) * d < a := by
  have h1 := Int.ediv_mul_le (a + d - 1) (show d ≠ 0 by omega)
  have h2 := Int.lt_ediv_add_one_mul_self (a + d - 1) (show 0 < d by omega)
  rw [Int.add_mul, Int.one_mul] at h2
  rw [Int.sub_mul, Int.one_mul]
  omega
theorem floor_spec (b e : Int) (he : 1 ≤ e) : b / e * e ≤ b ∧ b < (b / e + 1) * e :=
  ⟨Int.ediv_mul_le b (by omega), Int.lt_ediv_add_one_mul_self b (by omega)⟩
theorem le_of_mul {a b d : Int} (hd : 1 ≤ d) (h : a * d ≤ b * d) : a ≤ b := Int.le_of_mul_le_mul_right h (by omega)
theorem lt_of_mul {a b d : Int} (hd : 1 ≤ d) (h : a * d < b * d) : a < b := Int.lt_of_mul_lt_mul_right h (by omega)
def fitsB (lo hi : Rat2) (k n : Int) : Bool := decide (lo.num * n ≤ k * lo.den) && decide (k * hi.den ≤ hi.num * n)
/-- The bounds of what came out. -/
structure MeatBd (lo hi : Rat2) (n a b : Int) : Prop where
  a0 : 0 ≤ a
  a1 : a ≤ 1000000
  b0 : 0 ≤ b
  b1 : b ≤ 1000000
  l1 : lo.num * n ≤ a * lo.den
  l2 : (a - 1) * lo.den < lo.num * n
  u1 : b * hi.den ≤ hi.num * n
  u2 : hi.num * n < (b + 1) * hi.den
theorem meatBd {lo hi : Rat2} (hlo : lo.Ok1) (hhi : hi.Ok1) (n : Int) (h0 : 0 ≤ n) (h1 : n ≤ 1000) : MeatBd lo hi n ((lo.num * n + lo.den - 1) / lo.den) (hi.num * n / hi.den) := by
  obtain ⟨c1, c2⟩ := ceil_spec (lo.num * n) lo.den hlo.d0
  obtain ⟨f1, f2⟩ := floor_spec (hi.num * n) hi.den hhi.d0
  have p1 := mul_bd (x := lo.num) (y := n) (M := 1000) (N := 1000) (by have := hlo.n0; omega) hlo.n1 h0 h1
  have p2 := mul_bd (x := hi.num) (y := n) (M := 1000) (N := 1000) (by have := hhi.n0; omega) hhi.n1 h0 h1
  have d0 := hlo.d0
  have e0 := hhi.d0
  refine ⟨Int.ediv_nonneg (by omega) (by omega), ?_, Int.ediv_nonneg (by omega) (by omega), Int.le_trans (Int.ediv_le_self _ (by omega)) (by omega), c1, c2, f1, f2⟩
  have := le_of_mul (a := (lo.num * n + lo.den - 1) / lo.den - 1) (b := 999999) (d := lo.den) d0 (by
    have h3 : 999999 * 1 ≤ 999999 * lo.den := Int.mul_le_mul_of_nonneg_left d0 (by omega)
    rcases Nat.lt_or_ge 0 1 with _ | h
    · by_cases hz : lo.num * n ≤ 999999
      · omega
      · have hz2 : lo.num * n = 1000000 := by omega
        rw [hz2] at c2 ⊢
        by_cases hd1 : lo.den = 1
        · rw [hd1]; omega
        · have : 999999 * 2 ≤ 999999 * lo.den := Int.mul_le_mul_of_nonneg_left (by omega) (by omega)
          omega
    · omega)
  omega
theorem MeatBd.none_ {lo hi : Rat2} {n a b : Int} (H : MeatBd lo hi n a b) (hlo : 1 ≤ lo.den) (hhi : 1 ≤ hi.den) (hab : b < a) (k : Int) : fitsB lo hi k n = false := by
  unfold fitsB
  rw [Bool.and_eq_false_iff, decide_eq_false_iff_not, decide_eq_false_iff_not]
  rcases Int.lt_or_le k a with h | h
  · left
    intro h1
    have : k * lo.den ≤ (a - 1) * lo.den := Int.mul_le_mul_of_nonneg_right (by omega) (by omega)
    have := H.l2
    omega
  · right
    intro h1
    have : (b + 1) * hi.den ≤ k * hi.den := Int.mul_le_mul_of_nonneg_right (by omega) (by omega)
    have := H.u2
    omega
theorem MeatBd.fits {lo hi : Rat2} {n a b : Int} (H : MeatBd lo hi n a b) (hlo : 1 ≤ lo.den) (hhi : 1 ≤ hi.den) (hab : a ≤ b) : fitsB lo hi a n = true ∧ fitsB lo hi b n = true ∧ fitsB lo hi (a - 1) n = false ∧ fitsB lo hi (b + 1) n = false := by
  unfold fitsB
  have h1 : a * lo.den ≤ b * lo.den := Int.mul_le_mul_of_nonneg_right hab (by omega)
  have h2 : a * hi.den ≤ b * hi.den := Int.mul_le_mul_of_nonneg_right hab (by omega)
  have l1 := H.l1
  have l2 := H.l2
  have u1 := H.u1
  have u2 := H.u2
  simp only [Bool.and_eq_true, Bool.and_eq_false_iff, decide_eq_true_eq, decide_eq_false_iff_not]
  exact ⟨⟨by omega, by omega⟩, ⟨by omega, by omega⟩, .inl (by omega), .inr (by omega)⟩
theorem MeatBd.mono {lo hi : Rat2} {n a b a' b' : Int} (H : MeatBd lo hi n a b) (H' : MeatBd lo hi (n + 1) a' b') (hlo : lo.Ok1) (hhi : hi.Ok1) : a ≤ a' ∧ b ≤ b' := by
  have n1 := hlo.n0
  have n2 := hhi.n0
  have l2 := H.l2
  have l1' := H'.l1
  have u1 := H.u1
  have u2' := H'.u2
  rw [Int.mul_add, Int.mul_one] at l1' u2'
  have h1 := lt_of_mul (a := a - 1) (b := a') hlo.d0 (by omega)
  have h2 := lt_of_mul (a := b) (b := b' + 1) hhi.d0 (by omega)
  omega
theorem MeatBd.zero {lo hi : Rat2} {n a b : Int} (H : MeatBd lo hi n a b) (hlo : 1 ≤ lo.den) (hhi : 1 ≤ hi.den) (hn : n = 0) : a = 0 ∧ b = 0 := by
  subst hn
  have l2 := H.l2
  have u1 := H.u1
  have a0 := H.a0
  have b0 := H.b0
  rw [Int.mul_zero] at l2 u1
  refine ⟨?_, ?_⟩
  · rcases Int.lt_or_le 0 a with h | h
    · have : 0 ≤ (a - 1) * lo.den := Int.mul_nonneg (by omega) (by omega)
      omega
    · omega
  · rcases Int.lt_or_le 0 b with h | h
    · have : 1 * 1 ≤ b * hi.den := Int.mul_le_mul (by omega) hhi (by omega) (by omega)
      omega
    · omega
theorem meat_cases {h : Hs} (hk : h.check = 0) (m n : Int) (h0 : 0 ≤ n) (h1 : n ≤ 1000) (hb : (h.bounds m).2.2 = 0) : ∃ a b, MeatBd (h.bounds m).1 (h.bounds m).2.1 n a b ∧ ((a ≤ b ∧ h.meat m n = (a, b, 0)) ∨ (b < a ∧ h.meat m n = (0, 0, 8))) := by
  rcases bounds_cases hk m with ⟨_, hlo, hhi⟩ | ⟨he, _⟩
  · refine ⟨_, _, meatBd hlo hhi n h0 h1, ?_⟩
    unfold Hs.meat
    simp only
    rw [if_neg (by simpa using hb)]
    by_cases hgt : ((h.bounds m).1.num * n + (h.bounds m).1.den - 1) / (h.bounds m).1.den > (h.bounds m).2.1.num * n / (h.bounds m).2.1.den
    · right; exact ⟨hgt, by rw [if_pos hgt]⟩
    · left; exact ⟨by omega, by rw [if_neg hgt]⟩
  · omega
theorem meat_err {h : Hs} {m n : Int} (hb : (h.bounds m).2.2 ≠ 0) : h.meat m n = (0, 0, (h.bounds m).2.2) := by
  unfold Hs.meat; simp only; rw [if_pos hb]
theorem kept_err {h : Hs} {m n t : Int} (hb : (h.meat m n).2.2 ≠ 0) : h.kept m n t = (0, (h.meat m n).2.2) := by
  unfold Hs.kept; rw [if_pos hb]
theorem kept_ok {h : Hs} {m n t : Int} (hb : (h.meat m n).2.2 = 0) : h.kept m n t = (max 0 ((h.meat m n).1 - t), 0) := by
  unfold Hs.kept; rw [if_neg (by simpa using hb)]
theorem bounds_err {h : Hs} (hag : agreeB h.clashM = true) (m : Int) : (h.bounds m).2.2 = 0 ∨ (h.bounds m).2.2 = 6 := by
  unfold Hs.bounds
  rw [if_neg (by simp [hag])]
  split <;> simp
end Go.Proofs.Ytjihnnbpfdhceaa
