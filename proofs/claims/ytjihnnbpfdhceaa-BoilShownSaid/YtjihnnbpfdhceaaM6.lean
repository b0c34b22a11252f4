/- Plain: what follows where all weighings are true. No program in sight. -/
import Derived.Test.YtjihnnbpfdhceaaM5
import Derived.Test.YtjihnnbpfdhceaaA30
set_option linter.unusedSimpArgs false
set_option linter.unusedVariables false
namespace Go.Proofs.Ytjihnnbpfdhceaa

theorem gr_ge {r : Rat2} {l : List Rat2} (hp : ∀ q ∈ r :: l, q.Pos) : ∀ q ∈ r :: l, rle q (gr r l) := by
  unfold gr
  induction l generalizing r with
  | nil =>
    intro q hq
    rw [List.mem_singleton.1 hq]
    exact rle_refl _
  | cons a l ih =>
    rw [List.foldl_cons]
    have hr := hp r List.mem_cons_self
    have ha := hp a (List.mem_cons_of_mem _ List.mem_cons_self)
    have hs : (grStep r a).Pos := by unfold grStep; split <;> assumption
    have hp' : ∀ q ∈ grStep r a :: l, q.Pos := by
      intro q hq
      rcases List.mem_cons.1 hq with rfl | hq
      · exact hs
      · exact hp q (List.mem_cons_of_mem _ (List.mem_cons_of_mem _ hq))
    have h1 := ih hp' _ List.mem_cons_self
    have hg : (l.foldl grStep (grStep r a)).Pos := hp' _ (gr_mem (grStep r a) l)
    have h2 : rle r (grStep r a) ∧ rle a (grStep r a) := by
      unfold grStep
      split
      · rename_i h
        exact ⟨rlt_le (aboveB_true.1 h), rle_refl _⟩
      · rename_i h
        exact ⟨rle_refl _, aboveB_false.1 (by simpa using h)⟩
    intro q hq
    rcases List.mem_cons.1 hq with rfl | hq
    · exact rle_trans hr hs hg h2.1 h1
    · rcases List.mem_cons.1 hq with rfl | hq
      · exact rle_trans ha hs hg h2.2 h1
      · exact ih hp' q (List.mem_cons_of_mem _ hq)
theorem mn_le {r : Rat2} {l : List Rat2} (hp : ∀ q ∈ r :: l, q.Pos) : ∀ q ∈ r :: l, rle (mn r l) q := by
  unfold mn
  induction l generalizing r with
  | nil =>
    intro q hq
    rw [List.mem_singleton.1 hq]
    exact rle_refl _
  | cons a l ih =>
    rw [List.foldl_cons]
    have hr := hp r List.mem_cons_self
    have ha := hp a (List.mem_cons_of_mem _ List.mem_cons_self)
    have hs : (mnStep r a).Pos := by unfold mnStep; split <;> assumption
    have hp' : ∀ q ∈ mnStep r a :: l, q.Pos := by
      intro q hq
      rcases List.mem_cons.1 hq with rfl | hq
      · exact hs
      · exact hp q (List.mem_cons_of_mem _ (List.mem_cons_of_mem _ hq))
    have h1 := ih hp' _ List.mem_cons_self
    have hg : (l.foldl mnStep (mnStep r a)).Pos := hp' _ (mn_mem (mnStep r a) l)
    have h2 : rle (mnStep r a) r ∧ rle (mnStep r a) a := by
      unfold mnStep
      split
      · rename_i h
        exact ⟨rlt_le (aboveB_true.1 h), rle_refl _⟩
      · rename_i h
        exact ⟨rle_refl _, aboveB_false.1 (by simpa using h)⟩
    intro q hq
    rcases List.mem_cons.1 hq with rfl | hq
    · exact rle_trans hg hs hr h1 h2.1
    · rcases List.mem_cons.1 hq with rfl | hq
      · exact rle_trans hg hs ha h1 h2.2
      · exact ih hp' q (List.mem_cons_of_mem _ hq)

/-! ### Nothing clashes: the smallest set is empty -/
theorem proofSt_none (len k : Nat) : proofSt (fun _ _ => false) len k = fun _ => -1 := by
  induction k with
  | zero => rfl
  | succ k ih =>
    show (tryP (fun _ _ => false) len 15 k { met := fun _ => false, over := proofSt (fun _ _ => false) len k }).2.over = _
    rw [ih]
    have hb : bels (fun _ _ => false) len k = [] := by unfold bels; simp
    show (loopF (stepW (tryP (fun _ _ => false) len 14) k) (bels (fun _ _ => false) len k) { met := fun _ => false, over := fun _ => -1 }).2.over = _
    rw [hb]
    rfl
theorem pfLen_none (len : Nat) : pfLen (fun _ _ => false) len = 0 := by
  unfold pfLen
  rw [proofSt_none]
  unfold pairsTo
  simp
theorem clashesB_none (len : Nat) (g : Nat → Bool) : clashesB (fun _ _ => false) len g = false := by
  unfold clashesB hitB
  simp
theorem fewL_none (len : Nat) : fewL (fun _ _ => false) len = [] := by
  unfold fewL seen
  rw [pfLen_none]
  show (bif (runW (leafW (fun _ _ => false) len stepF) [[]] []).1 then [] else (runW (leafW (fun _ _ => false) len stepF) [[]] []).2) = _
  rw [runW_one]
  unfold leafW
  rw [clashesB_none]
  rfl
theorem trustL_none (len : Nat) : trustL (fun _ _ => false) len = List.range len := by
  unfold trustL doubtB seen
  rw [pfLen_none]
  show keepTo (runW (leafW (fun _ _ => false) len stepT) [[]] (fun _ => false)).2 len = _
  rw [runW_one]
  unfold leafW
  rw [clashesB_none]
  show keepTo (orL (fun _ => false) []) len = _
  unfold keepTo orL
  simp
theorem clashM_none {h : Hs} (hl : h.ws.length ≤ 14) (hag : agreeB h.clashM = true) : h.clashM = fun _ _ => false := by
  funext i j
  exact (agreeB_all hl).1 hag i j
theorem clash_none {len : Nat} {e : Ending} (h : ClashRes (fun _ _ => false) len e) : e = .returned (.tuple #[.agg #[.int .i64 0, .int .i64 0], .int .i64 6]) := by
  rcases h with ⟨a, b, _, _, hM, _⟩ | ⟨_, h⟩
  · cases hM
  · exact h

/-! ### What is shown -/
theorem Rat2.Ok1.pos {r : Rat2} (h : r.Ok1) : r.Pos := ⟨h.n0, h.d0⟩
theorem lowers_mem {h : Hs} {m : Int} {q : Rat2} : q ∈ h.lowers m ↔ ∃ x ∈ h.ws, h.under x.month m = true ∧ x.least = q := by
  unfold Hs.lowers
  rw [List.mem_map]
  constructor
  · rintro ⟨x, hx, rfl⟩
    exact ⟨x, (List.mem_filter.1 hx).1, (List.mem_filter.1 hx).2, rfl⟩
  · rintro ⟨x, hx, hu, rfl⟩
    exact ⟨x, List.mem_filter.2 ⟨hx, hu⟩, rfl⟩
theorem uppers_mem {h : Hs} {m : Int} {q : Rat2} : q ∈ h.uppers m ↔ ∃ x ∈ h.ws, h.under m x.month = true ∧ x.most = q := by
  unfold Hs.uppers
  rw [List.mem_map]
  constructor
  · rintro ⟨x, hx, rfl⟩
    exact ⟨x, (List.mem_filter.1 hx).1, (List.mem_filter.1 hx).2, rfl⟩
  · rintro ⟨x, hx, hu, rfl⟩
    exact ⟨x, List.mem_filter.2 ⟨hx, hu⟩, rfl⟩
theorem shown_all {h : Hs} (hk : h.check = 0) (m : Int) : ∀ q ∈ (⟨1, 1000⟩ : Rat2) :: h.lowers m, q.Ok1 := by
  intro q hq
  rcases List.mem_cons.1 hq with rfl | hq
  · exact ⟨by decide, by decide, by decide, by decide⟩
  · obtain ⟨x, hx, _, rfl⟩ := lowers_mem.1 hq
    exact (check_ok hk x hx).least1
theorem shownAt_ok {h : Hs} (hk : h.check = 0) (m : Int) : (h.shownAt m).Ok1 := shown_all hk m _ (gr_mem _ _)
theorem shownAt_ge {h : Hs} (hk : h.check = 0) (m : Int) : ∀ q ∈ (⟨1, 1000⟩ : Rat2) :: h.lowers m, rle q (h.shownAt m) :=
  gr_ge (fun q hq => (shown_all hk m q hq).pos)
theorem first_le_most {x : Wg} (hx : x.Ok) : rle ⟨1, 1000⟩ x.most := by
  unfold Wg.most
  rw [rle_lowest_r hx.mhi1 hx.slo1]
  have := hx.slo2
  have := hx.mhi1
  show 1 * x.slo ≤ x.mhi * 1000
  omega
/-- Each ratio that is shown is at most the greatest of a weighing above. -/
theorem shownAt_le {h : Hs} (hk : h.check = 0) (hag : agreeB h.clashM = true) {m : Int} {x : Wg} (hx : x ∈ h.ws) (hu : h.under m x.month = true) : rle (h.shownAt m) x.most := by
  have hl := check_len hk
  rcases List.mem_cons.1 (gr_mem ⟨1, 1000⟩ (h.lowers m)) with he | hm
  · show rle (gr ⟨1, 1000⟩ (h.lowers m)) x.most
    rw [he]
    exact first_le_most (check_ok hk x hx)
  · obtain ⟨y, hy, huy, he⟩ := lowers_mem.1 hm
    show rle (gr ⟨1, 1000⟩ (h.lowers m)) x.most
    rw [← he]
    have := (agree_ws hl).1 hag y hy x hx
    exact clash_false.1 this (under_trans h huy hu)
theorem shownAt_least {h : Hs} (hk : h.check = 0) {m : Int} {x : Wg} (hx : x ∈ h.ws) (hu : h.under x.month m = true) : rle x.least (h.shownAt m) :=
  shownAt_ge hk m _ (List.mem_cons_of_mem _ (lowers_mem.2 ⟨x, hx, hu, rfl⟩))
theorem shownAt_mono {h : Hs} (hk : h.check = 0) {a b : Int} (hu : h.under a b = true) : rle (h.shownAt a) (h.shownAt b) := by
  rcases List.mem_cons.1 (gr_mem ⟨1, 1000⟩ (h.lowers a)) with he | hm
  · show rle (gr ⟨1, 1000⟩ (h.lowers a)) _
    rw [he]
    exact shownAt_ge hk b _ List.mem_cons_self
  · obtain ⟨y, hy, huy, he⟩ := lowers_mem.1 hm
    show rle (gr ⟨1, 1000⟩ (h.lowers a)) _
    rw [← he]
    exact shownAt_least hk hy (under_trans h huy hu)
/-- A law's test whether a weighing is true with a ratio. -/
def isB (x : Wg) (r : Rat2) : Bool := decide (x.mlo * r.den ≤ r.num * x.shi) && decide (r.num * x.slo ≤ x.mhi * r.den)
theorem isB_iff {x : Wg} (hx : x.Ok) {r : Rat2} : isB x r = true ↔ rle x.least r ∧ rle r x.most := by
  unfold isB Wg.least Wg.most
  rw [rle_lowest_l hx.mlo1 hx.shi1, rle_lowest_r hx.mhi1 hx.slo1]
  simp
theorem Rat2.Ok1.okB {r : Rat2} (h : r.Ok1) : r.okB = true := by
  obtain ⟨a, b, c, d⟩ := h
  simp [Rat2.okB, inB]; omega

/-- Ratios given by a function. -/
theorem ratiosE_fn {h : Hs} (hk : h.check = 0) {n : Nat} (hn : h.months = n) {r : Nat → Rat2} (hr : ∀ j, j < n → (r j).okB = true) : h.ratiosE (ratL n r) = 0 := by
  unfold Hs.ratiosE
  rw [if_neg (by simpa using hk), if_neg (by rw [ratL_len]; simp [hn]), if_neg]
  simp only [ratL, Bool.not_eq_false, List.all_eq_true, List.mem_map, List.mem_range]
  rintro x ⟨j, hj, rfl⟩
  exact hr j hj
theorem ratL_getD {n : Nat} {r : Nat → Rat2} {j : Nat} (hj : j < n) : (ratL n r).getD j ⟨0, 0⟩ = r j := by
  unfold ratL
  rw [List.getD_eq_getElem?_getD, List.getElem?_map, List.getElem?_range hj]
  rfl
theorem truthB_fn {h : Hs} {n : Nat} {r : Nat → Rat2} (H : ∀ a b : Nat, a < n → b < n → h.under a b = true → (a + 1 = b ∨ b + 1 = a) → rle (r a) (r b)) : h.truthB (ratL n r) = true := by
  refine truthB_yes fun m h1 h2 => ?_
  rw [ratL_len] at h2
  unfold Hs.violB
  rw [ratL_getD h2, ratL_getD (show m - 1 < n by omega)]
  split
  · rename_i hp
    rw [aboveB_false]
    exact H (m - 1) m (by omega) h2 (by unfold Hs.under; simp; omega) (by omega)
  · rename_i hp
    rw [aboveB_false]
    exact H m (m - 1) h2 (by omega) (by unfold Hs.under; simp; omega) (by omega)
theorem falseTo_none {h : Hs} {l : List Rat2} (H : ∀ x ∈ h.ws, wrongB l x = false) : falseTo h l h.ws.length = [] := by
  unfold falseTo
  rw [List.filter_eq_nil_iff]
  intro i hi
  rw [List.mem_range] at hi
  rw [List.getD_eq_getElem?_getD, List.getElem?_eq_getElem hi]
  simp [H _ (List.getElem_mem hi)]
theorem wrongB_fn {n : Nat} {r : Nat → Rat2} {x : Wg} {a : Nat} (ha : x.month = a) (han : a < n) (h1 : rle x.least (r a)) (h2 : rle (r a) x.most) : wrongB (ratL n r) x = false := by
  unfold wrongB
  rw [ha, Int.toNat_natCast, ratL_getD han, Bool.or_eq_false_iff, aboveB_false, aboveB_false]
  exact ⟨h1, h2⟩
end Go.Proofs.Ytjihnnbpfdhceaa
