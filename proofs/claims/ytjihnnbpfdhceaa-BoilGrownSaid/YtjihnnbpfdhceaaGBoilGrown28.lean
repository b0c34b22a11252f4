/- Plain: what follows where all weighings are true. No program in sight. -/
import Derived.Test.YtjihnnbpfdhceaaGBoilGrown24
import Derived.Test.YtjihnnbpfdhceaaGBoilGrown27
set_option linter.unusedSimpArgs false
set_option linter.unusedVariables false
namespace Go.Proofs.Ytjihnnbpfdhceaa

theorem gr_ge {r : Rat2} {l : List Rat2} (hp : ∀ q ∈ r :: l, q.Pos) : ∀ q ∈ r :: l, rle q (gr r l) := by
  unfold gr
  induction l generalizing r with
  | nil =>
    intro q hq
    rw [List.mem_singleton.1 hq]
    exact rle_refl _
  | cons a l ih =>
    rw [List.foldl_cons]
    have hr := hp r List.mem_cons_self
    have ha := hp a (List.mem_cons_of_mem _ List.mem_cons_self)
    have hs : (grStep r a).Pos := by unfold grStep; split <;> assumption
    have hp' : ∀ q ∈ grStep r a :: l, q.Pos := by
      intro q hq
      rcases List.mem_cons.1 hq with rfl | hq
      · exact hs
      · exact hp q (List.mem_cons_of_mem _ (List.mem_cons_of_mem _ hq))
    have h1 := ih hp' _ List.mem_cons_self
    have hg : (l.foldl grStep (grStep r a)).Pos := hp' _ (gr_mem (grStep r a) l)
    have h2 : rle r (grStep r a) ∧ rle a (grStep r a) := by
      unfold grStep
      split
      · rename_i h
        exact ⟨rlt_le (aboveB_true.1 h), rle_refl _⟩
      · rename_i h
        exact ⟨rle_refl _, aboveB_false.1 (by simpa using h)⟩
    intro q hq
    rcases List.mem_cons.1 hq with rfl | hq
    · exact rle_trans hr hs hg h2.1 h1
    · rcases List.mem_cons.1 hq with rfl | hq
      · exact rle_trans ha hs hg h2.2 h1
      · exact ih hp' q (List.mem_cons_of_mem _ hq)
theorem mn_le {r : Rat2} {l : List Rat2} (hp : ∀ q ∈ r :: l, q.Pos) : ∀ q ∈ r :: l, rle (mn r l) q := by
  unfold mn
  induction l generalizing r with
  | nil =>
    intro q hq
    rw [List.mem_singleton.1 hq]
    exact rle_refl _
  | cons a l ih =>
    rw [List.foldl_cons]
    have hr := hp r List.mem_cons_self
    have ha := hp a (List.mem_cons_of_mem _ List.mem_cons_self)
    have hs : (mnStep r a).Pos := by unfold mnStep; split <;> assumption
    have hp' : ∀ q ∈ mnStep r a :: l, q.Pos := by
      intro q hq
      rcases List.mem_cons.1 hq with rfl | hq
      · exact hs
      · exact hp q (List.mem_cons_of_mem _ (List.mem_cons_of_mem _ hq))
    have h1 := ih hp' _ List.mem_cons_self
    have hg : (l.foldl mnStep (mnStep r a)).Pos := hp' _ (mn_mem (mnStep r a) l)
    have h2 : rle (mnStep r a) r ∧ rle (mnStep r a) a := by
      unfold mnStep
      split
      · rename_i h
        exact ⟨rlt_le (aboveB_true.1 h), rle_refl _⟩
      · rename_i h
        exact ⟨rle_refl _, aboveB_false.1 (by simpa using h)⟩
    intro q hq
    rcases List.mem_cons.1 hq with rfl | hq
    · exact rle_trans hg hs hr h1 h2.1
    · rcases List.mem_cons.1 hq with rfl | hq
      · exact rle_trans hg hs ha h1 h2.2
      · exact ih hp' q (List.mem_cons_of_mem _ hq)

/-! ### Nothing clashes: the smallest set is empty -/
theorem proofSt_none (len k : Nat) : proofSt (fun _ _ => false) len k = fun _ => -1 := by
  induction k with
  | zero => rfl
  | succ k ih =>
    show (tryP (fun _ _ => false) len 15 k { met := fun _ => false, over := proofSt (fun _ _ => false) len k }).2.over = _
    rw [ih]
    have hb : bels (fun _ _ => false) len k = [] := by unfold bels; simp
    show (loopF (stepW (tryP (fun _ _ => false) len 14) k) (bels (fun _ _ => false) len k) { met := fun _ => false, over := fun _ => -1 }).2.over = _
    rw [hb]
    rfl
theorem pfLen_none (len : Nat) : pfLen (fun _ _ => false) len = 0 := by
  unfold pfLen
  rw [proofSt_none]
  unfold pairsTo
  simp
theorem clashesB_none (len : Nat) (g : Nat → Bool) : clashesB (fun _ _ => false) len g = false := by
  unfold clashesB hitB
  simp
theorem fewL_none (len : Nat) : fewL (fun _ _ => false) len = [] := by
  unfold fewL seen
  rw [pfLen_none]
  show (bif (runW (leafW (fun _ _ => false) len stepF) [[]] []).1 then [] else (runW (leafW (fun _ _ => false) len stepF) [[]] []).2) = _
  rw [runW_one]
  unfold leafW
  rw [clashesB_none]
  rfl
theorem trustL_none (len : Nat) : trustL (fun _ _ => false) len = List.range len := by
  unfold trustL doubtB seen
  rw [pfLen_none]
  show keepTo (runW (leafW (fun _ _ => false) len stepT) [[]] (fun _ => false)).2 len = _
  rw [runW_one]
  unfold leafW
  rw [clashesB_none]
  show keepTo (orL (fun _ => false) []) len = _
  unfold keepTo orL
  simp
theorem clashM_none {h : Hs} (hl : h.ws.length ≤ 14) (hag : agreeB h.clashM = true) : h.clashM = fun _ _ => false := by
  funext i j
  exact (agreeB_all hl).1 hag i j
theorem clash_none {len : Nat} {e : Ending} (h : ClashRes (fun _ _ => false) len e) : e = .returned (.tuple #[.agg #[.int .i64 0, .int .i64 0], .int .i64 6]) := by
  rcases h with ⟨a, b, _, _, hM, _⟩ | ⟨_, h⟩
  · cases hM
  · exact h

/-! ### What is shown -/
theorem Rat2.Ok1.pos {r : Rat2} (h : r.Ok1) : r.Pos := ⟨h.n0, h.d0⟩
theorem lowers_mem {h : Hs} {m : Int} {q : Rat2} : q ∈ h.lowers m ↔ ∃ x ∈ h.ws, h.under x.month m = true ∧ x.least = q := by
  unfold Hs.lowers
  rw [List.mem_map]
  constructor
  · rintro ⟨x, hx, rfl⟩
    exact ⟨x, (List.mem_filter.1 hx).1, (List.mem_filter.1 hx).2, rfl⟩
  · rintro ⟨x, hx, hu, rfl⟩
    exact ⟨x, List.mem_filter.2 ⟨hx, hu⟩, rfl⟩
theorem uppers_mem {h : Hs} {m : Int} {q : Rat2} : q ∈ h.uppers m ↔ ∃ x ∈ h.ws, h.under m x.month = true ∧ x.most = q := by
  unfold Hs.uppers
  rw [List.mem_map]
  constructor
  · rintro ⟨x, hx, rfl⟩
    exact ⟨x, (List.mem_filter.1 hx).1, (List.mem_filter.1 hx).2, rfl⟩
  · rintro ⟨x, hx, hu, rfl⟩
    exact ⟨x, List.mem_filter.2 ⟨hx, hu⟩, rfl⟩
theorem shown_all {h : Hs} (hk : h.check = 0) (m : Int) : ∀ q ∈ (⟨1, 1000⟩ : Rat2) :: h.lowers m, q.Ok1 := by
  intro q hq
  rcases List.mem_cons.1 hq with rfl | hq
  · exact ⟨by decide, by decide, by decide, by decide⟩
  · obtain ⟨x, hx, _, rfl⟩ := lowers_mem.1 hq
    exact (check_ok hk x hx).least1
theorem shownAt_ok {h : Hs} (hk : h.check = 0) (m : Int) : (h.shownAt m).Ok1 := shown_all hk m _ (gr_mem _ _)
theorem shownAt_ge {h : Hs} (hk : h.check = 0) (m : Int) : ∀ q ∈ (⟨1, 1000⟩ : Rat2) :: h.lowers m, rle q (h.shownAt m) :=
  gr_ge (fun q hq => (shown_all hk m q hq).pos)
theorem first_le_most {x : Wg} (hx : x.Ok) : rle ⟨1, 1000⟩ x.most := by
  unfold Wg.most
  rw [rle_lowest_r hx.mhi1 hx.slo1]
  have := hx.slo2
  have := hx.mhi1
  show 1 * x.slo ≤ x.mhi * 1000
  omega
/-- Each ratio that is shown is at most the greatest of a weighing above. -/
theorem shownAt_le {h : Hs} (hk : h.check = 0) (hag : agreeB h.clashM = true) {m : Int} {x : Wg} (hx : x ∈ h.ws) (hu : h.under m x.month = true) : rle (h.shownAt m) x.most := by
  have hl := check_len hk
  rcases List.mem_cons.1 (gr_mem ⟨1, 1000⟩ (h.lowers m)) with he | hm
  · show rle (gr ⟨1, 1000⟩ (h.lowers m)) x.most
    rw [he]
    exact first_le_most (check_ok hk x hx)
  · obtain ⟨y, hy, huy, he⟩ := lowers_mem.1 hm
    show rle (gr ⟨1, 1000⟩ (h.lowers m)) x.most
    rw [← he]
    have := (agree_ws hl).1 hag y hy x hx
    exact clash_false.1 this (under_trans h huy hu)
theorem shownAt_least {h : Hs} (hk : h.check = 0) {m : Int} {x : Wg} (hx : x ∈ h.ws) (hu : h.under x.month m = true) : rle x.least (h.shownAt m) :=
  shownAt_ge hk m _ (List.mem_cons_of_mem _ (lowers_mem.2 ⟨x, hx, hu, rfl⟩))
theorem shownAt_mono {h : Hs} (hk : h.check = 0) {a b : Int} (hu : h.under a b = true) : rle (h.shownAt a) (h.shownAt b) := by
  rcases List.mem_cons.1 (gr_mem ⟨1, 1000⟩ (h.lowers a)) with he | hm
  · show rle (gr ⟨1, 1000⟩ (h.lowers a)) _
    rw [he]
    exact shownAt_ge hk b _ List.mem_cons_self
  · obtain ⟨y, hy, huy, he⟩ := lowers_mem.1 hm
    show rle (gr ⟨1, 1000⟩ (h.lowers a)) _
    rw [← he]
    exact shownAt_least hk hy (under_trans h huy hu)
/-- A law's test whether a weighing is true with a ratio. -/
def isB (x : Wg) (r : Rat2) : Bool := decide (x.mlo * r.den ≤ r.num * x.shi) && decide (r.num * x.slo ≤ x.mhi * r.den)
theorem isB_iff {x : Wg} (hx : x.Ok) {r : Rat2} : isB x r = true ↔ rle x.least r ∧ rle r x.most := by
  unfold isB Wg.least Wg.most
  rw [rle_lowest_l hx.mlo1 hx.shi1, rle_lowest_r hx.mhi1 hx.slo1]
  simp
theorem Rat2.Ok1.okB {r : Rat2} (h : r.Ok1) : r.okB = true := by
  obtain ⟨a, b, c, d⟩ := h
  simp [Rat2.okB, inB]; omega

/-- Ratios given by a function. -/
theorem ratiosE_fn {h : Hs} (hk : h.check = 0) {n : Nat} (hn : h.months = n) {r : Nat → Rat2} (hr : ∀ j, j < n → (r j).okB = true) : h.ratiosE (ratL n r) = 0 := by
  unfold Hs.ratiosE
  rw [if_neg (by simpa using hk), if_neg (by rw [ratL_len]; simp [hn]), if_neg]
  simp only [ratL, Bool.not_eq_false, List.all_eq_true, List.mem_map, List.mem_range]
  rintro x ⟨j, hj, rfl⟩
  exact hr j hj
theorem ratL_getD {n : Nat} {r : Nat → Rat2} {j : Nat} (hj : j < n) : (ratL n r).getD j ⟨0, 0⟩ = r j := by
  unfold ratL
  rw [List.getD_eq_getElem?_getD, List.getElem?_map, List.getElem?_range hj]
  rfl
theorem truthB_fn {h : Hs} {n : Nat} {r : Nat → Rat2} (H : ∀ a b : Nat, a < n → b < n → h.under a b = true → (a + 1 = b ∨ b + 1 = a) → rle (r a) (r b)) : h.truthB (ratL n r) = true := by
  refine truthB_yes fun m h1 h2 => ?_
  rw [ratL_len] at h2
  unfold Hs.violB
  rw [ratL_getD h2, ratL_getD (show m - 1 < n by omega)]
  split
  · rename_i hp
    rw [aboveB_false]
    exact H (m - 1) m (by omega) h2 (by unfold Hs.under; simp; omega) (by omega)
  · rename_i hp
    rw [aboveB_false]
    exact H m (m - 1) h2 (by omega) (by unfold Hs.under; simp; omega) (by omega)
theorem falseTo_none {h : Hs} {l : List Rat2} (H : ∀ x ∈ h.ws, wrongB l x = false) : falseTo h l h.ws.length = [] := by
  unfold falseTo
  rw [List.filter_eq_nil_iff]
  intro i hi
  rw [List.mem_range] at hi
  rw [List.getD_eq_getElem?_getD, List.getElem?_eq_getElem hi]
  simp [H _ (List.getElem_mem hi)]
theorem wrongB_fn {n : Nat} {r : Nat → Rat2} {x : Wg} {a : Nat} (ha : x.month = a) (han : a < n) (h1 : rle x.least (r a)) (h2 : rle (r a) x.most) : wrongB (ratL n r) x = false := by
  unfold wrongB
  rw [ha, Int.toNat_natCast, ratL_getD han, Bool.or_eq_false_iff, aboveB_false, aboveB_false]
  exact ⟨h1, h2⟩
end Go.Proofs.Ytjihnnbpfdhceaa

/- Plain: what the search for places finds, and what it shows where it finds none. No program in sight. -/
set_option linter.unusedSimpArgs false
set_option linter.unusedVariables false
namespace Go.Proofs.Ytjihnnbpfdhceaa

/-- What stands above what is a pair that clashes, each at most once; a stands nowhere but where it was met. -/
structure Good (M : Nat → Nat → Bool) (len : Nat) (a : Nat) (s : Pst) : Prop where
  ov : ∀ b, s.over b = -1 ∨ ∃ x : Nat, s.over b = x ∧ x < len ∧ b < len ∧ M x b = true
  inj : ∀ b b', s.over b = s.over b' → s.over b ≠ -1 → b = b'
  out : ∀ b, s.over b = (a : Int) → s.met b = true
structure Placed (M : Nat → Nat → Bool) (len : Nat) (a : Nat) (s s' : Pst) : Prop where
  ov : ∀ b, s'.over b = -1 ∨ ∃ x : Nat, s'.over b = x ∧ x < len ∧ b < len ∧ M x b = true
  at_ : ∃ b, s.met b = false ∧ s'.over b = (a : Int)
  dup : ∀ b b', b ≠ b' → s'.over b = s'.over b' → s'.over b ≠ -1 → s'.over b = (a : Int) ∧ (s.met b = true ∨ s.met b' = true)
  one : ∃ b0, b0 < len ∧ s.over b0 = -1 ∧ s'.over b0 ≠ -1 ∧ ∀ b, b ≠ b0 → (s'.over b = -1 ↔ s.over b = -1)
  old : ∀ b, s.met b = false → s'.over b ≠ (a : Int) → s'.over b ≠ -1 → ∃ b3, s.met b3 = false ∧ s.over b3 = s'.over b
structure Res (M : Nat → Nat → Bool) (len : Nat) (a : Nat) (s : Pst) (ok : Bool) (s' : Pst) : Prop where
  met : ∀ b, s.met b = true → s'.met b = true
  keep : ∀ b, s.met b = true → s'.over b = s.over b
  same : ok = false → s'.over = s.over
  shut : ok = false → ∀ b, s'.met b = true → s.met b = false → ∃ x : Nat, s.over b = x ∧ ∀ b2, b2 < len → M x b2 = true → s'.met b2 = true
  placed : ok = true → Placed M len a s s'
section
variable {M : Nat → Nat → Bool} {len a : Nat} {s s2 s' : Pst} {ok : Bool}
theorem Good.later (h : Good M len a s) (ho : s2.over = s.over) (hm : ∀ b, s.met b = true → s2.met b = true) : Good M len a s2 :=
  ⟨fun b => by rw [ho]; exact h.ov b, fun b b' => by rw [ho]; exact h.inj b b', fun b hb => hm b (h.out b (by rw [← ho]; exact hb))⟩
theorem Res.refl : Res M len a s false s := ⟨fun _ h => h, fun _ _ => rfl, fun _ => rfl, (fun _ b h1 h2 => by rw [h2] at h1; cases h1), (fun h => by cases h)⟩
theorem Res.then_ (hg : Good M len a s) (h1 : Res M len a s false s2) (h2 : Res M len a s2 ok s') : Res M len a s ok s' := by
  have ho := h1.same rfl
  refine ⟨fun b hb => h2.met b (h1.met b hb), fun b hb => (h2.keep b (h1.met b hb)).trans (h1.keep b hb), fun hk => (h2.same hk).trans ho, fun hk b hb1 hb2 => ?_, fun hk => ?_⟩
  · cases hm : s2.met b
    · obtain ⟨x, e, hx⟩ := h2.shut hk b hb1 hm
      exact ⟨x, by rw [← ho]; exact e, hx⟩
    · obtain ⟨x, e, hx⟩ := h1.shut rfl b hm hb2
      exact ⟨x, e, fun b2 h3 h4 => h2.met b2 (hx b2 h3 h4)⟩
  · have P := h2.placed hk
    refine ⟨P.ov, ?_, ?_, ?_, ?_⟩
    · obtain ⟨b, hb, e⟩ := P.at_
      refine ⟨b, ?_, e⟩
      cases hm : s.met b
      · rfl
      · rw [h1.met b hm] at hb; cases hb
    · intro b b' hne he hn
      obtain ⟨e, hh⟩ := P.dup b b' hne he hn
      refine ⟨e, ?_⟩
      rcases hh with hh | hh
      · left
        refine hg.out b ?_
        rw [← ho, ← h2.keep b hh]; exact e
      · right
        refine hg.out b' ?_
        rw [← ho, ← h2.keep b' hh, ← he]; exact e
    · obtain ⟨b0, h3, h4, h5, h6⟩ := P.one
      exact ⟨b0, h3, by rw [← ho]; exact h4, h5, fun b hb => by rw [h6 b hb, ho]⟩
    · intro b hb hna hn
      cases hm : s2.met b
      · obtain ⟨b3, h3, h4⟩ := P.old b hm hna hn
        refine ⟨b3, ?_, by rw [← ho]; exact h4⟩
        cases hm3 : s.met b3
        · rfl
        · rw [h1.met b3 hm3] at h3; cases h3
      · exact ⟨b, hb, by rw [h2.keep b hm, ho]⟩
theorem upd_met {b : Nat} (x : Nat) (h : s.met x = true) : updB s.met b true x = true := by unfold updB; split <;> simp_all
theorem step_res {f : Nat} (hrec : ∀ (x : Nat) (t : Pst), x < len → Good M len x t → unmet t.met < f → Res M len x t (tryP M len f x t).1 (tryP M len f x t).2 ∧ ((tryP M len f x t).1 = false → ∀ b2, b2 < len → M x b2 = true → (tryP M len f x t).2.met b2 = true))
    (hlen : len ≤ 14) (hg : Good M len a s) (ha : a < len) {b : Nat} (hb : b < len) (hM : M a b = true) (hf : unmet s.met < f + 1) :
    Res M len a s (stepW (tryP M len f) a b s).1 (stepW (tryP M len f) a b s).2 ∧ ((stepW (tryP M len f) a b s).1 = false → (stepW (tryP M len f) a b s).2.met b = true) := by
  unfold stepW
  by_cases hm : s.met b = true
  · rw [if_pos hm]
    exact ⟨Res.refl, fun _ => hm⟩
  · rw [if_neg hm]
    have hmf : s.met b = false := by simpa using hm
    by_cases ho : s.over b = -1
    · rw [if_pos ho]
      refine ⟨⟨fun x hx => upd_met x hx, fun x hx => ?_, (fun h => by cases h), (fun h => by cases h), fun _ => ?_⟩, (fun h => by cases h)⟩
      · show updI s.over b a x = s.over x
        unfold updI
        rw [if_neg (fun e => by subst e; rw [hmf] at hx; cases hx)]
      · refine ⟨fun x => ?_, ⟨b, hmf, by simp [updI]⟩, ?_, ⟨b, hb, ho, by simp [updI], fun x hx => by simp [updI, hx]⟩, ?_⟩
        · by_cases hx : x = b
          · subst hx
            exact .inr ⟨a, by simp [updI], ha, hb, hM⟩
          · have := hg.ov x
            simpa [updI, hx] using this
        · intro x y hne he hn
          by_cases hx : x = b
          · subst hx
            have hy : y ≠ x := fun e => hne e.symm
            simp [updI, hy] at he
            exact ⟨by simp [updI], .inr (hg.out y he.symm)⟩
          · by_cases hy : y = b
            · subst hy
              simp [updI, hx] at he
              exact ⟨by simp [updI, hx, he], .inl (hg.out x he)⟩
            · simp [updI, hx, hy] at he hn
              exact absurd (hg.inj x y he hn) hne
        · intro x hx hna hn
          have hxb : x ≠ b := fun e => hna (by simp [updI, e])
          exact ⟨x, hx, by simp [updI, hxb]⟩
    · rw [if_neg ho]
      obtain ⟨x, hx, hxl, _, hxM⟩ := (hg.ov b).resolve_left ho
      rw [hx, Int.toNat_natCast]
      have hax : a ≠ x := fun e => by subst e; exact hm (hg.out b hx)
      have hg1 : Good M len x { s with met := updB s.met b true } := ⟨hg.ov, hg.inj, fun y hy => by
        have : y = b := hg.inj y b (by rw [hx]; exact hy) (by show s.over y ≠ -1; rw [show s.over y = (x : Int) from hy]; omega)
        subst this
        simp [updB]⟩
      have hun : unmet (updB s.met b true) < f := by
        have := unmet_upd (m := s.met) (b := b) (by omega) hmf
        omega
      obtain ⟨R, hR⟩ := hrec x { s with met := updB s.met b true } hxl hg1 hun
      generalize tryP M len f x { s with met := updB s.met b true } = q at R hR ⊢
      obtain ⟨ok, t⟩ := q
      simp only at R hR ⊢
      have hmet : ∀ y, s.met y = true → t.met y = true := fun y hy => R.met y (upd_met y hy)
      cases ok
      · simp only [Bool.false_eq_true, if_false]
        have hbm : t.met b = true := R.met b (by simp [updB])
        refine ⟨⟨hmet, fun y hy => R.keep y (upd_met y hy), fun _ => R.same rfl, fun _ y hy1 hy2 => ?_, (fun h => by cases h)⟩, fun _ => hbm⟩
        by_cases hyb : y = b
        · subst hyb
          exact ⟨x, hx, hR rfl⟩
        · exact R.shut rfl y hy1 (by simp [updB, hyb, hy2])
      · simp only [if_true]
        have P := R.placed rfl
        refine ⟨⟨hmet, fun y hy => ?_, (fun h => by cases h), (fun h => by cases h), fun _ => ?_⟩, (fun h => by cases h)⟩
        · have hyb : y ≠ b := fun e => by subst e; rw [hmf] at hy; cases hy
          show updI t.over b a y = s.over y
          simp only [updI, if_neg hyb]
          exact R.keep y (upd_met y hy)
        · refine ⟨fun y => ?_, ⟨b, hmf, by simp [updI]⟩, ?_, ?_, ?_⟩
          · by_cases hy : y = b
            · subst hy
              exact .inr ⟨a, by simp [updI], ha, hb, hM⟩
            · have := P.ov y
              simpa [updI, hy] using this
          · have key : ∀ y, y ≠ b → t.over y = (a : Int) → s.met y = true := by
              intro y hy he
              cases hmy : s.met y
              · obtain ⟨b3, h3, h4⟩ := P.old y (by simp [updB, hy, hmy]) (by rw [he]; omega) (by rw [he]; omega)
                have h5 := hg.out b3 (by rw [← he]; exact h4)
                have h6 : updB s.met b true b3 = true := upd_met b3 h5
                rw [show updB s.met b true b3 = false from h3] at h6
                cases h6
              · rfl
            intro y z hne he hn
            by_cases hy : y = b
            · subst hy
              have hz : z ≠ y := fun e => hne e.symm
              simp only [updI, if_true, if_neg hz] at he
              exact ⟨by simp [updI], .inr (key z hz he.symm)⟩
            · by_cases hz : z = b
              · subst hz
                simp only [updI, if_true, if_neg hy] at he
                exact ⟨by simp only [updI, if_neg hy]; exact he, .inl (key y hy he)⟩
              · simp only [updI, if_neg hy, if_neg hz] at he hn
                obtain ⟨e, hh⟩ := P.dup y z hne he hn
                exfalso
                rcases hh with hh | hh
                · have h1 := R.keep y hh
                  have : y = b := hg.inj y b (by rw [hx, ← e]; exact h1.symm) (by show s.over y ≠ -1; rw [← h1]; exact hn)
                  exact hy this
                · have h1 := R.keep z hh
                  have : z = b := hg.inj z b (by rw [hx, ← e, he]; exact h1.symm) (by show s.over z ≠ -1; rw [← h1, ← he]; exact hn)
                  exact hz this
          · obtain ⟨b0, h3, h4, h5, h6⟩ := P.one
            have h4' : s.over b0 = -1 := h4
            have hb0 : b0 ≠ b := fun e => by subst e; exact ho h4'
            refine ⟨b0, h3, h4', by simpa [updI, hb0] using h5, fun y hy => ?_⟩
            by_cases hyb : y = b
            · subst hyb
              simp [updI]
              exact ho
            · have := h6 y hy
              simpa [updI, hyb] using this
          · intro y hy hna hn
            have hyb : y ≠ b := fun e => hna (by simp [updI, e])
            simp only [updI, if_neg hyb] at hna hn ⊢
            by_cases hv : t.over y = (x : Int)
            · exact ⟨b, hmf, by rw [hx, hv]⟩
            · obtain ⟨b3, h3, h4⟩ := P.old y (by simp [updB, hyb, hy]) hv hn
              refine ⟨b3, ?_, h4⟩
              cases hm3 : s.met b3
              · rfl
              · have h6 : updB s.met b true b3 = true := upd_met b3 hm3
                rw [show updB s.met b true b3 = false from h3] at h6
                cases h6
theorem loop_res {f : Nat} (hrec : ∀ (x : Nat) (t : Pst), x < len → Good M len x t → unmet t.met < f → Res M len x t (tryP M len f x t).1 (tryP M len f x t).2 ∧ ((tryP M len f x t).1 = false → ∀ b2, b2 < len → M x b2 = true → (tryP M len f x t).2.met b2 = true))
    (hlen : len ≤ 14) (ha : a < len) (pre : List Nat) : ∀ s : Pst, Good M len a s → (∀ b ∈ pre, b < len ∧ M a b = true) → unmet s.met < f + 1 →
    Res M len a s (loopF (stepW (tryP M len f) a) pre s).1 (loopF (stepW (tryP M len f) a) pre s).2 ∧ ((loopF (stepW (tryP M len f) a) pre s).1 = false → ∀ b ∈ pre, (loopF (stepW (tryP M len f) a) pre s).2.met b = true) := by
  induction pre with
  | nil => intro s _ _ _; exact ⟨Res.refl, fun _ b hb => by simp at hb⟩
  | cons b pre ih =>
    intro s hg hb hf
    obtain ⟨R, hR⟩ := step_res hrec hlen hg ha (hb b List.mem_cons_self).1 (hb b List.mem_cons_self).2 hf
    simp only [loopF]
    cases hk : (stepW (tryP M len f) a b s).1
    · rw [hk] at R hR
      simp only [Bool.false_eq_true, if_false]
      have hg2 := hg.later (R.same rfl) R.met
      have hun : unmet (stepW (tryP M len f) a b s).2.met < f + 1 := Nat.lt_of_le_of_lt (unmet_mono R.met) hf
      obtain ⟨R2, hR2⟩ := ih _ hg2 (fun x hx => hb x (List.mem_cons_of_mem _ hx)) hun
      refine ⟨Res.then_ hg R R2, fun hk2 x hx => ?_⟩
      rcases List.mem_cons.1 hx with rfl | hx
      · exact R2.met _ (hR rfl)
      · exact hR2 hk2 x hx
    · rw [hk] at R
      simp only [if_true]
      exact ⟨R, (fun h => by cases h)⟩
theorem try_res (hlen : len ≤ 14) (f : Nat) : ∀ (x : Nat) (t : Pst), x < len → Good M len x t → unmet t.met < f → Res M len x t (tryP M len f x t).1 (tryP M len f x t).2 ∧ ((tryP M len f x t).1 = false → ∀ b2, b2 < len → M x b2 = true → (tryP M len f x t).2.met b2 = true) := by
  induction f with
  | zero => intro x t _ _ h; omega
  | succ f ih =>
    intro x t hx hg hf
    have := loop_res ih hlen hx (bels M len x) t hg (fun b hb => by
      unfold bels at hb
      rw [List.mem_filter, List.mem_range] at hb
      exact hb) hf
    refine ⟨this.1, fun hk b2 h1 h2 => this.2 hk b2 ?_⟩
    unfold bels
    rw [List.mem_filter, List.mem_range]
    exact ⟨h1, h2⟩
end
end Go.Proofs.Ytjihnnbpfdhceaa

/- Plain: the smallest set has as many weighings as the proof has pairs. No program in sight. -/
set_option linter.unusedSimpArgs false
set_option linter.unusedVariables false
namespace Go.Proofs.Ytjihnnbpfdhceaa

def cnt (n : Nat) (P : Nat → Bool) : Nat := ((List.range n).filter P).length
theorem cnt_0 (P : Nat → Bool) : cnt 0 P = 0 := rfl
theorem cnt_succ (n : Nat) (P : Nat → Bool) : cnt (n + 1) P = cnt n P + if P n = true then 1 else 0 := by
  unfold cnt
  rw [List.range_succ, List.filter_append, List.length_append]
  cases h : P n <;> simp [h]
theorem cnt_congr {n : Nat} {P Q : Nat → Bool} (h : ∀ i, i < n → P i = Q i) : cnt n P = cnt n Q := by
  induction n with
  | zero => rfl
  | succ n ih => rw [cnt_succ, cnt_succ, ih (fun i hi => h i (by omega)), h n (by omega)]
theorem cnt_split (n : Nat) (P Q : Nat → Bool) : cnt n P = cnt n (fun i => P i && Q i) + cnt n (fun i => P i && !Q i) := by
  induction n with
  | zero => rfl
  | succ n ih =>
    rw [cnt_succ, cnt_succ, cnt_succ, ih]
    cases P n <;> cases Q n <;> simp <;> omega
theorem cnt_or (n : Nat) (P Q : Nat → Bool) : cnt n (fun i => P i || Q i) = cnt n P + cnt n (fun i => Q i && !P i) := by
  induction n with
  | zero => rfl
  | succ n ih =>
    rw [cnt_succ, cnt_succ, cnt_succ, ih]
    cases P n <;> cases Q n <;> simp <;> omega
theorem cnt_mono {n : Nat} {P Q : Nat → Bool} (h : ∀ i, i < n → P i = true → Q i = true) : cnt n P ≤ cnt n Q := by
  induction n with
  | zero => exact Nat.le_refl _
  | succ n ih =>
    rw [cnt_succ, cnt_succ]
    have := ih (fun i hi => h i (by omega))
    cases hp : P n
    · simp; omega
    · simp [h n (by omega) hp]; omega
theorem cnt_ext {n m : Nat} (h : n ≤ m) (P : Nat → Bool) (hP : ∀ i, n ≤ i → i < m → P i = false) : cnt m P = cnt n P := by
  induction m with
  | zero => have : n = 0 := by omega
            rw [this]
  | succ m ih =>
    by_cases e : n = m + 1
    · rw [e]
    · rw [cnt_succ, ih (by omega) (fun i h1 h2 => hP i h1 (by omega)), hP m (by omega) (by omega)]
      simp
theorem nodup_len : ∀ (l m : List Nat), l.Nodup → (∀ x ∈ l, x ∈ m) → l.length ≤ m.length := by
  intro l
  induction l with
  | nil => intro m _ _; exact Nat.zero_le _
  | cons x l ih =>
    intro m hn hs
    have hn' := List.nodup_cons.1 hn
    have hx := hs x List.mem_cons_self
    have := ih (m.erase x) hn'.2 (fun y hy => by
      have hne : y ≠ x := fun e => hn'.1 (e ▸ hy)
      exact (List.mem_erase_of_ne hne).2 (hs y (List.mem_cons_of_mem _ hy)))
    rw [List.length_erase_of_mem hx] at this
    have h1 : 0 < m.length := List.length_pos_of_mem hx
    simp only [List.length_cons]; omega
theorem nodup_map {l : List Nat} (f : Nat → Nat) (hn : l.Nodup) (hf : ∀ x ∈ l, ∀ y ∈ l, f x = f y → x = y) : (l.map f).Nodup := by
  induction l with
  | nil => simp
  | cons x l ih =>
    have hn' := List.nodup_cons.1 hn
    rw [List.map_cons, List.nodup_cons]
    refine ⟨fun hm => ?_, ih hn'.2 (fun a ha b hb => hf a (List.mem_cons_of_mem _ ha) b (List.mem_cons_of_mem _ hb))⟩
    obtain ⟨y, hy, he⟩ := List.mem_map.1 hm
    have := hf y (List.mem_cons_of_mem _ hy) x List.mem_cons_self he
    exact hn'.1 (this ▸ hy)
theorem cnt_inj {n m : Nat} {P Q : Nat → Bool} (f : Nat → Nat) (h1 : ∀ i, i < n → P i = true → f i < m ∧ Q (f i) = true) (h2 : ∀ i j, i < n → j < n → P i = true → P j = true → f i = f j → i = j) : cnt n P ≤ cnt m Q := by
  unfold cnt
  rw [← List.length_map (f := f)]
  refine nodup_len _ _ (nodup_map f (List.nodup_range.filter _) ?_) ?_
  · intro x hx y hy he
    rw [List.mem_filter, List.mem_range] at hx hy
    exact h2 x y hx.1 hy.1 hx.2 hy.2 he
  · intro x hx
    obtain ⟨i, hi, rfl⟩ := List.mem_map.1 hx
    rw [List.mem_filter, List.mem_range] at hi
    rw [List.mem_filter, List.mem_range]
    exact h1 i hi.1 hi.2

def isOn (ov : Nat → Int) : Nat → Bool := fun b => !decide (ov b = -1)
theorem pairs_cnt (ov : Nat → Int) (k : Nat) : (pairsTo ov k).length = cnt k (isOn ov) := by
  induction k with
  | zero => rfl
  | succ k ih =>
    rw [cnt_succ, ← ih]
    by_cases h : ov k = -1
    · rw [pairsTo_no _ _ h]; simp [isOn, h]
    · rw [pairsTo_yes _ _ h]; simp [isOn, h]

/-- How far the placing has come: k have been placed, as far as can be; a cover of as many shows that no more can be. -/
structure Stage (M : Nat → Nat → Bool) (len k : Nat) (o : Nat → Int) : Prop where
  ov : ∀ b, o b = -1 ∨ ∃ x : Nat, o b = x ∧ x < k ∧ b < len ∧ M x b = true
  inj : ∀ b b', o b = o b' → o b ≠ -1 → b = b'
  cover : ∃ L R : Nat → Bool, (∀ x y, x < k → y < len → M x y = true → L x = true ∨ R y = true) ∧ cnt k L + cnt len R ≤ cnt 14 (isOn o)
theorem unmet_none : unmet (fun _ => false) = 14 := by decide
theorem stage {M : Nat → Nat → Bool} {len : Nat} (hlen : len ≤ 14) : ∀ k, k ≤ len → Stage M len k (proofSt M len k) := by
  intro k
  induction k with
  | zero =>
    intro _
    refine ⟨fun b => .inl rfl, fun b b' _ h => absurd rfl h, fun _ => false, fun _ => false, fun x y h => by omega, ?_⟩
    rw [cnt_0]
    have : cnt len (fun _ => false) = 0 := by unfold cnt; simp
    omega
  | succ k ih =>
    intro hk
    have S := ih (by omega)
    have hg : Good M len k { met := fun _ => false, over := proofSt M len k } := by
      refine ⟨fun b => ?_, S.inj, fun b hb => ?_⟩
      · rcases S.ov b with h | ⟨x, h1, h2, h3, h4⟩
        · exact .inl h
        · exact .inr ⟨x, h1, by omega, h3, h4⟩
      · rcases S.ov b with h | ⟨x, h1, h2, _⟩
        · rw [show proofSt M len k b = (k : Int) from hb] at h; omega
        · rw [show proofSt M len k b = (k : Int) from hb] at h1; omega
    obtain ⟨R, hR⟩ := try_res hlen 15 k { met := fun _ => false, over := proofSt M len k } (by omega) hg (by show unmet (fun _ => false) < 15; rw [unmet_none]; omega)
    show Stage M len (k + 1) (tryP M len 15 k { met := fun _ => false, over := proofSt M len k }).2.over
    generalize tryP M len 15 k { met := fun _ => false, over := proofSt M len k } = q at R hR ⊢
    obtain ⟨ok, t⟩ := q
    simp only at R hR ⊢
    obtain ⟨L, C, hc, hn⟩ := S.cover
    cases ok
    · have ho : t.over = proofSt M len k := R.same rfl
      rw [ho]
      have hsh : ∀ b, t.met b = true → ∃ x : Nat, proofSt M len k b = x ∧ ∀ b2, b2 < len → M x b2 = true → t.met b2 = true := fun b hb => R.shut rfl b hb rfl
      refine ⟨fun b => ?_, S.inj, ?_⟩
      · rcases S.ov b with h | ⟨x, h1, h2, h3, h4⟩
        · exact .inl h
        · exact .inr ⟨x, h1, by omega, h3, h4⟩
      · let Z : Nat → Bool := fun x => (List.range len).any fun b => t.met b && decide (proofSt M len k b = (x : Int))
        have hZ : ∀ x, Z x = true ↔ ∃ b, b < len ∧ t.met b = true ∧ proofSt M len k b = (x : Int) := by
          intro x
          simp only [Z, List.any_eq_true, List.mem_range, Bool.and_eq_true, decide_eq_true_eq]
        refine ⟨fun x => (decide (x < k) && L x) && !Z x, fun y => C y || t.met y, ?_, ?_⟩
        · intro x y hx hy hm
          by_cases hxk : x = k
          · subst hxk
            right
            show (C y || t.met y) = true
            rw [hR rfl y hy hm, Bool.or_true]
          · cases hz : Z x
            · rcases hc x y (by omega) hy hm with h | h
              · left; simp [h, hz]; omega
              · right; simp [h]
            · obtain ⟨b, _, hb, he⟩ := (hZ x).1 hz
              obtain ⟨x', hx', hcl⟩ := hsh b hb
              have : x' = x := by rw [he] at hx'; omega
              subst this
              right
              show (C y || t.met y) = true
              rw [hcl y hy hm, Bool.or_true]
        · rw [cnt_or]
          have e1 : cnt (k + 1) (fun x => (decide (x < k) && L x) && !Z x) = cnt k (fun x => L x && !Z x) := by
            rw [cnt_succ]
            simp
            exact cnt_congr fun i hi => by simp [hi]
          rw [e1]
          have e2 := cnt_split k L Z
          have e3 : cnt len (fun i => t.met i && !C i) ≤ cnt k (fun x => L x && Z x) := by
            refine cnt_inj (fun b => (proofSt M len k b).toNat) ?_ ?_
            · intro b hb hp
              simp only [Bool.and_eq_true, Bool.not_eq_true'] at hp
              obtain ⟨x, hx, _⟩ := hsh b hp.1
              rcases S.ov b with h | ⟨x', h1, h2, h3, h4⟩
              · omega
              · have : x' = x := by omega
                subst this
                rw [hx, Int.toNat_natCast]
                refine ⟨h2, ?_⟩
                rw [Bool.and_eq_true]
                refine ⟨?_, (hZ x').2 ⟨b, hb, hp.1, hx⟩⟩
                rcases hc x' b h2 h3 h4 with h | h
                · exact h
                · rw [hp.2] at h; cases h
            · intro b b' hb hb' hp hp' he
              simp only [Bool.and_eq_true] at hp hp'
              obtain ⟨x, hx, _⟩ := hsh b hp.1
              obtain ⟨x', hx', _⟩ := hsh b' hp'.1
              refine S.inj b b' ?_ (by rw [hx]; omega)
              rw [hx, hx'] at he ⊢
              simp only [Int.toNat_natCast] at he
              rw [he]
          omega
    · have P := R.placed rfl
      have hval : ∀ b, t.over b = -1 ∨ ∃ x : Nat, t.over b = x ∧ x < k + 1 ∧ b < len ∧ M x b = true := by
        intro b
        rcases P.ov b with h | ⟨x, h1, h2, h3, h4⟩
        · exact .inl h
        · refine .inr ⟨x, h1, ?_, h3, h4⟩
          by_cases hxk : x = k
          · omega
          · obtain ⟨b3, _, h5⟩ := P.old b rfl (by rw [h1]; omega) (by rw [h1]; omega)
            rcases S.ov b3 with h | ⟨x', h6, h7, _⟩
            · rw [show proofSt M len k b3 = t.over b from h5, h1] at h; omega
            · rw [show proofSt M len k b3 = t.over b from h5, h1] at h6; omega
      refine ⟨hval, fun b b' he hn => ?_, ?_⟩
      · rcases Classical.em (b = b') with h | h
        · exact h
        · obtain ⟨_, hh⟩ := P.dup b b' h he hn
          rcases hh with hh | hh <;> cases hh
      · refine ⟨fun x => L x || decide (x = k), C, ?_, ?_⟩
        · intro x y hx hy hm
          by_cases hxk : x = k
          · left; simp [hxk]
          · rcases hc x y (by omega) hy hm with h | h
            · left; simp [h]
            · right; exact h
        · have e1 : cnt (k + 1) (fun x => L x || decide (x = k)) ≤ cnt k L + 1 := by
            rw [cnt_succ]
            simp
            exact Nat.le_of_eq (cnt_congr fun i hi => by simp; intro h; omega)
          have e2 : cnt 14 (isOn (proofSt M len k)) + 1 ≤ cnt 14 (isOn t.over) := by
            obtain ⟨b0, h3, h4, h5, h6⟩ := P.one
            have h4' : proofSt M len k b0 = -1 := h4
            have h6' : ∀ b, b ≠ b0 → (t.over b = -1 ↔ proofSt M len k b = -1) := h6
            have hs := cnt_split 14 (isOn t.over) (isOn (proofSt M len k))
            have a1 : cnt 14 (isOn (proofSt M len k)) ≤ cnt 14 (fun i => isOn t.over i && isOn (proofSt M len k) i) := cnt_mono fun i _ hi => by
              simp only [isOn, Bool.not_eq_true', decide_eq_false_iff_not, Bool.and_eq_true] at hi ⊢
              refine ⟨fun e => ?_, hi⟩
              by_cases hb : i = b0
              · subst hb; exact hi h4'
              · exact hi ((h6' i hb).1 e)
            have a2 : 1 ≤ cnt 14 (fun i => isOn t.over i && !isOn (proofSt M len k) i) := by
              have : cnt 1 (fun _ => true) ≤ cnt 14 (fun i => isOn t.over i && !isOn (proofSt M len k) i) := cnt_inj (fun _ => b0) (fun i _ _ => ⟨by omega, by simp [isOn, h4', h5]⟩) (fun i j hi hj _ _ _ => by omega)
              exact this
            omega
          omega
end Go.Proofs.Ytjihnnbpfdhceaa

/- Plain: the smallest sets that must be false. No program in sight. -/
set_option linter.unusedSimpArgs false
set_option linter.unusedVariables false
namespace Go.Proofs.Ytjihnnbpfdhceaa

/-- All that are not in F agree. -/
def FalseSet (M : Nat → Nat → Bool) (len : Nat) (F : Nat → Bool) : Prop := ∀ i j, i < len → j < len → M i j = true → F i = true ∨ F j = true
theorem clashesB_iff {M : Nat → Nat → Bool} {len : Nat} {F : Nat → Bool} : clashesB M len F = false ↔ FalseSet M len F := by
  unfold clashesB FalseSet hitB
  simp only [List.any_eq_false, List.mem_range, List.any_eq_true, not_exists, not_and, Bool.not_eq_true, Bool.and_eq_false_iff, Bool.not_eq_false']
  constructor
  · intro h i j hi hj hm
    rcases h i hi j hj with h1 | h1 | h1
    · rw [hm] at h1; cases h1
    · exact .inl h1
    · exact .inr h1
  · intro h i hi j hj
    cases hm : M i j
    · exact .inl rfl
    · rcases h i j hi hj hm with h1 | h1
      · exact .inr (.inl h1)
      · exact .inr (.inr h1)
theorem pfLen_cnt (M : Nat → Nat → Bool) (len : Nat) : pfLen M len = cnt 14 (isOn (proofSt M len len)) := by
  unfold pfLen; exact pairs_cnt _ _
/-- No set is smaller. -/
theorem pfLen_le_cnt {M : Nat → Nat → Bool} {len : Nat} (hlen : len ≤ 14) (hT : ∀ i j k, M i j = true → M j k = true → M i k = true) {F : Nat → Bool} (hF : FalseSet M len F) : pfLen M len ≤ cnt len F := by
  have S := stage hlen len (Nat.le_refl _) (M := M)
  rw [pfLen_cnt]
  let up : Nat → Bool := fun a => (List.range len).any fun x => !F x && (decide (x = a) || M x a)
  have hup : ∀ a, up a = true ↔ ∃ x, x < len ∧ F x = false ∧ (x = a ∨ M x a = true) := by
    intro a
    simp only [up, List.any_eq_true, List.mem_range, Bool.and_eq_true, Bool.not_eq_true', Bool.or_eq_true, decide_eq_true_eq]
  have hon : ∀ b, isOn (proofSt M len len) b = true → ∃ x : Nat, proofSt M len len b = x ∧ x < len ∧ b < len ∧ M x b = true := by
    intro b hb
    rcases S.ov b with h | h
    · simp [isOn, h] at hb
    · exact h
  refine cnt_inj (fun b => if up (proofSt M len len b).toNat = true then b else (proofSt M len len b).toNat) ?_ ?_
  · intro b _ hb
    obtain ⟨x, h1, h2, h3, h4⟩ := hon b hb
    rw [h1, Int.toNat_natCast]
    split
    · rename_i hu
      obtain ⟨y, hy, hfy, hh⟩ := (hup x).1 hu
      have hyb : M y b = true := by
        rcases hh with rfl | hh
        · exact h4
        · exact hT y x b hh h4
      refine ⟨h3, ?_⟩
      rcases hF y b hy h3 hyb with h | h
      · rw [hfy] at h; cases h
      · exact h
    · rename_i hu
      refine ⟨h2, ?_⟩
      cases hfx : F x
      · exact absurd ((hup x).2 ⟨x, h2, hfx, .inl rfl⟩) hu
      · rfl
  · intro b b' _ _ hb hb' he
    obtain ⟨x, h1, h2, h3, h4⟩ := hon b hb
    obtain ⟨x', h1', h2', h3', h4'⟩ := hon b' hb'
    simp only [h1, h1', Int.toNat_natCast] at he
    have cross : ∀ {x b x' : Nat}, M x b = true → up x = true → ¬ up x' = true → b = x' → False := by
      intro x b x' hm hu hu' e
      subst e
      obtain ⟨y, hy, hfy, hh⟩ := (hup x).1 hu
      refine hu' ((hup b).2 ⟨y, hy, hfy, .inr ?_⟩)
      rcases hh with rfl | hh
      · exact hm
      · exact hT y x b hh hm
    split at he
    · rename_i hu
      split at he
      · exact he
      · rename_i hu'
        exact (cross h4 hu hu' he).elim
    · rename_i hu
      split at he
      · rename_i hu'
        exact (cross h4' hu' hu he.symm).elim
      · exact S.inj b b' (by rw [h1, h1', he]) (by rw [h1]; omega)
/-- A set of that size there is. -/
theorem cover_set {M : Nat → Nat → Bool} {len : Nat} (hlen : len ≤ 14) : ∃ F : Nat → Bool, FalseSet M len F ∧ cnt len F ≤ pfLen M len := by
  obtain ⟨L, R, h1, h2⟩ := (stage hlen len (Nat.le_refl _) (M := M)).cover
  refine ⟨fun v => L v || R v, fun i j hi hj hm => ?_, ?_⟩
  · rcases h1 i j hi hj hm with h | h
    · exact .inl (by simp [h])
    · exact .inr (by simp [h])
  · rw [pfLen_cnt]
    refine Nat.le_trans ?_ h2
    rw [cnt_or]
    have : cnt len (fun i => R i && !L i) ≤ cnt len R := cnt_mono fun i _ h => by simp at h; exact h.1
    omega
/-- The weighings of a set, in order. -/
def setL (len : Nat) (F : Nat → Bool) : List Nat := (List.range len).filter F
theorem setL_in {len : Nat} {F : Nat → Bool} {i : Nat} (hi : i < len) : inL (setL len F) i = F i := by
  unfold inL setL
  cases h : F i <;> simp [List.mem_filter, hi, h]
theorem setL_sub {M : Nat → Nat → Bool} {len k : Nat} {F : Nat → Bool} (hc : cnt len F = k) : setL len F ∈ subsL len k [] 0 := by
  have := subsL_all len k [] (setL len F) 0 hc (List.Pairwise.filter _ List.pairwise_lt_range) (fun n hn => ⟨Nat.zero_le _, List.mem_range.1 (List.mem_filter.1 hn).1⟩)
  simpa using this
theorem FalseSet.congr {M : Nat → Nat → Bool} {len : Nat} {F G : Nat → Bool} (h : ∀ i, i < len → F i = G i) (hF : FalseSet M len F) : FalseSet M len G := by
  intro i j hi hj hm
  rw [← h i hi, ← h j hj]; exact hF i j hi hj hm
theorem cnt_inL {len : Nat} : ∀ {l : List Nat}, l.Pairwise (· < ·) → (∀ n ∈ l, n < len) → cnt len (inL l) = l.length := by
  intro l hp hb
  have hn : l.Nodup := hp.imp fun h => Nat.ne_of_lt h
  unfold cnt
  apply Nat.le_antisymm
  · refine nodup_len _ _ (List.nodup_range.filter _) fun x hx => ?_
    rw [List.mem_filter] at hx
    simpa [inL] using hx.2
  · refine nodup_len _ _ hn fun x hx => ?_
    rw [List.mem_filter, List.mem_range]
    exact ⟨hb x hx, by simpa [inL] using hx⟩
theorem subs_props {len k : Nat} {l : List Nat} (h : l ∈ subsL len k [] 0) : l.length = k ∧ l.Pairwise (· < ·) ∧ ∀ n ∈ l, n < len := by
  obtain ⟨y, e, h1, h2, h3⟩ := subsL_mem _ _ _ _ _ h
  rw [List.nil_append] at e
  subst e
  exact ⟨h1, h2, fun n hn => (h3 n hn).2⟩

/-- What boil.Fewest hands back. -/
structure FewOk (M : Nat → Nat → Bool) (len : Nat) (l : List Nat) : Prop where
  sub : l ∈ subsL len (pfLen M len) [] 0
  false_ : FalseSet M len (inL l)
  least : ∀ F, FalseSet M len F → l.length ≤ cnt len F
  first : ∃ pre post, subsL len (pfLen M len) [] 0 = pre ++ l :: post ∧ ∀ x ∈ pre, ¬ FalseSet M len (inL x)
theorem few_ok {M : Nat → Nat → Bool} {len : Nat} (hlen : len ≤ 14) (hT : ∀ i j k, M i j = true → M j k = true → M i k = true) : FewOk M len (fewL M len) := by
  obtain ⟨F, hF, hc⟩ := cover_set hlen (M := M)
  have hc2 := pfLen_le_cnt hlen hT hF
  have hm := setL_sub (M := M) (show cnt len F = pfLen M len by omega)
  have hfs : FalseSet M len (inL (setL len F)) := hF.congr fun i hi => (setL_in hi).symm
  rcases fewL_cases M len with ⟨_, h2⟩ | ⟨pre, post, h2, h3, h4⟩
  · have := h2 _ hm
    rw [clashesB_iff.2 hfs] at this
    cases this
  · have hs : fewL M len ∈ subsL len (pfLen M len) [] 0 := by rw [h2]; exact List.mem_append_right _ List.mem_cons_self
    refine ⟨hs, clashesB_iff.1 h4, fun G hG => ?_, pre, post, h2, fun x hx hfx => ?_⟩
    · rw [(subs_props hs).1]
      exact pfLen_le_cnt hlen hT hG
    · have := h3 x hx
      rw [clashesB_iff.2 hfx] at this
      cases this
theorem few_cnt {M : Nat → Nat → Bool} {len : Nat} {l : List Nat} (h : FewOk M len l) : cnt len (inL l) = l.length ∧ l.length = pfLen M len := by
  obtain ⟨h1, h2, h3⟩ := subs_props h.sub
  exact ⟨cnt_inL h2 h3, h1⟩
theorem few_len_le {M : Nat → Nat → Bool} {len : Nat} (hlen : len ≤ 14) (hT : ∀ i j k, M i j = true → M j k = true → M i k = true) {F : Nat → Bool} (hF : FalseSet M len F) : (fewL M len).length ≤ cnt len F := (few_ok hlen hT).least F hF

/-! ### Trusted -/
theorem runW_T (M : Nat → Nat → Bool) (k : Nat) (L : List (List Nat)) : ∀ (s : Nat → Bool) (n : Nat), (runW (leafW M k stepT) L s).2 n = true ↔ s n = true ∨ ∃ l ∈ L, clashesB M k (inL l) = false ∧ n ∈ l := by
  induction L with
  | nil => intro s n; simp [runW]
  | cons a L ih =>
    intro s n
    have hd : leafW M k stepT a s = if clashesB M k (inL a) = true then (true, s) else (true, orL s a) := by
      unfold leafW stepT
      cases clashesB M k (inL a) <;> rfl
    have hr : runW (leafW M k stepT) (a :: L) s = runW (leafW M k stepT) L (if clashesB M k (inL a) = true then s else orL s a) := by
      simp only [runW]
      rw [hd]
      cases clashesB M k (inL a) <;> rfl
    rw [hr, ih]
    cases hc : clashesB M k (inL a)
    · simp only [Bool.false_eq_true, if_false, orL, Bool.or_eq_true, decide_eq_true_eq]
      constructor
      · rintro ((h | h) | ⟨l, hl, h1, h2⟩)
        · exact .inl h
        · exact .inr ⟨a, List.mem_cons_self, hc, h⟩
        · exact .inr ⟨l, List.mem_cons_of_mem _ hl, h1, h2⟩
      · rintro (h | ⟨l, hl, h1, h2⟩)
        · exact .inl (.inl h)
        · rcases List.mem_cons.1 hl with rfl | hl
          · exact .inl (.inr h2)
          · exact .inr ⟨l, hl, h1, h2⟩
    · simp only [if_true]
      constructor
      · rintro (h | ⟨l, hl, h1, h2⟩)
        · exact .inl h
        · exact .inr ⟨l, List.mem_cons_of_mem _ hl, h1, h2⟩
      · rintro (h | ⟨l, hl, h1, h2⟩)
        · exact .inl h
        · rcases List.mem_cons.1 hl with rfl | hl
          · rw [hc] at h1; cases h1
          · exact .inr ⟨l, hl, h1, h2⟩
theorem trust_mem {M : Nat → Nat → Bool} {len n : Nat} : n ∈ trustL M len ↔ n < len ∧ ∀ l ∈ subsL len (pfLen M len) [] 0, FalseSet M len (inL l) → n ∉ l := by
  unfold trustL keepTo doubtB seen
  rw [List.mem_filter, List.mem_range]
  constructor
  · rintro ⟨h1, h2⟩
    refine ⟨h1, fun l hl hf hn => ?_⟩
    have := (runW_T M len (subsL len (pfLen M len) [] 0) (fun _ => false) n).2 (.inr ⟨l, hl, clashesB_iff.2 hf, hn⟩)
    rw [this] at h2
    cases h2
  · rintro ⟨h1, h2⟩
    refine ⟨h1, ?_⟩
    cases hd : (runW (leafW M len stepT) (subsL len (pfLen M len) [] 0) (fun _ => false)).2 n
    · rfl
    · rcases (runW_T M len (subsL len (pfLen M len) [] 0) (fun _ => false) n).1 hd with h | ⟨l, hl, h3, h4⟩
      · cases h
      · exact absurd h4 (h2 l hl (clashesB_iff.1 h3))

/-! ### One weighing less -/
def skip (n i : Nat) : Nat := if i < n then i else i + 1
theorem skip_inj {n i j : Nat} (h : skip n i = skip n j) : i = j := by unfold skip at h; split at h <;> split at h <;> omega
theorem skip_ne (n i : Nat) : skip n i ≠ n := by unfold skip; split <;> omega
theorem skip_lt {n len i : Nat} (hn : n < len) (hi : i < len - 1) : skip n i < len := by unfold skip; split <;> omega
theorem skip_of {n len j : Nat} (hn : n < len) (hj : j < len) (hne : j ≠ n) : ∃ i, i < len - 1 ∧ skip n i = j := by
  by_cases h : j < n
  · exact ⟨j, by omega, by simp [skip, h]⟩
  · exact ⟨j - 1, by omega, by unfold skip; rw [if_neg (by omega)]; omega⟩
/-- The set without n. -/
theorem less_false {M M' : Nat → Nat → Bool} {len n : Nat} (hn : n < len) (hM : ∀ i j, i < len - 1 → j < len - 1 → M' i j = M (skip n i) (skip n j)) {F : Nat → Bool} (hF : FalseSet M len F) : FalseSet M' (len - 1) (fun i => F (skip n i)) := by
  intro i j hi hj hm
  rw [hM i j hi hj] at hm
  exact hF _ _ (skip_lt hn hi) (skip_lt hn hj) hm
theorem less_cnt {len n : Nat} (hn : n < len) (F : Nat → Bool) : cnt (len - 1) (fun i => F (skip n i)) + (if F n = true then 1 else 0) = cnt len F := by
  have h1 : cnt (len - 1) (fun i => F (skip n i)) = cnt len (fun i => F i && !decide (i = n)) := by
    apply Nat.le_antisymm
    · exact cnt_inj (skip n) (fun i hi hp => ⟨skip_lt hn hi, by simp [hp, skip_ne]⟩) (fun i j _ _ _ _ he => skip_inj he)
    · refine cnt_inj (fun j => if j < n then j else j - 1) ?_ ?_
      · intro j hj hp
        simp only [Bool.and_eq_true, Bool.not_eq_true', decide_eq_false_iff_not] at hp
        by_cases h : j < n
        · simp only [h, if_true]
          exact ⟨by omega, by simp [skip, h, hp.1]⟩
        · simp only [h, if_false]
          refine ⟨by omega, ?_⟩
          unfold skip
          rw [if_neg (by omega), show j - 1 + 1 = j by omega]
          exact hp.1
      · intro i j _ _ hp hp' he
        simp only [Bool.and_eq_true, Bool.not_eq_true', decide_eq_false_iff_not] at hp hp'
        by_cases h : i < n <;> by_cases h' : j < n <;> simp only [h, h', if_true, if_false] at he <;> omega
  rw [h1, cnt_split len F (fun i => !decide (i = n))]
  congr 1
  have h2 : cnt len (fun i => F i && !!decide (i = n)) = if F n = true then 1 else 0 := by
    split
    · rename_i hf
      apply Nat.le_antisymm
      · have : cnt len (fun i => F i && !!decide (i = n)) ≤ cnt 1 (fun _ => true) := cnt_inj (fun _ => 0) (fun _ _ _ => ⟨by omega, rfl⟩) (fun i j _ _ hp hp' _ => by simp at hp hp'; omega)
        exact this
      · have : cnt 1 (fun _ => true) ≤ cnt len (fun i => F i && !!decide (i = n)) := cnt_inj (fun _ => n) (fun _ _ _ => ⟨hn, by simp [hf]⟩) (fun i j hi hj _ _ _ => by omega)
        exact this
    · rename_i hf
      have : cnt len (fun i => F i && !!decide (i = n)) = cnt len (fun _ => false) := cnt_congr fun i _ => by
        by_cases h : i = n
        · subst h; simp at hf; simp [hf]
        · simp [h]
      rw [this]
      unfold cnt; simp
  exact h2.symm
/-- A set of the house without n, and n. -/
def liftS (n : Nat) (G : Nat → Bool) : Nat → Bool := fun j => decide (j = n) || G (if j < n then j else j - 1)
theorem lift_skip (n : Nat) (G : Nat → Bool) (i : Nat) : liftS n G (skip n i) = G i := by
  unfold liftS
  rw [decide_eq_false (skip_ne n i), Bool.false_or]
  unfold skip
  by_cases h : i < n
  · simp [h]
  · rw [if_neg h, if_neg (by omega)]; simp
theorem lift_false {M M' : Nat → Nat → Bool} {len n : Nat} (hn : n < len) (hM : ∀ i j, i < len - 1 → j < len - 1 → M' i j = M (skip n i) (skip n j)) {G : Nat → Bool} (hG : FalseSet M' (len - 1) G) : FalseSet M len (liftS n G) := by
  intro i j hi hj hm
  by_cases h1 : i = n
  · left; simp [liftS, h1]
  · by_cases h2 : j = n
    · right; simp [liftS, h2]
    · obtain ⟨a, ha, rfl⟩ := skip_of hn hi h1
      obtain ⟨b, hb, rfl⟩ := skip_of hn hj h2
      rw [lift_skip, lift_skip]
      exact hG a b ha hb (by rw [hM a b ha hb]; exact hm)
theorem lift_cnt {len n : Nat} (hn : n < len) (G : Nat → Bool) : cnt len (liftS n G) = cnt (len - 1) G + 1 := by
  rw [← less_cnt hn (liftS n G)]
  have : cnt (len - 1) (fun i => liftS n G (skip n i)) = cnt (len - 1) G := cnt_congr fun i _ => lift_skip n G i
  rw [this]
  simp [liftS]
end Go.Proofs.Ytjihnnbpfdhceaa

/- Plain: a weighing less, a weighing with wider spans. No program in sight. -/
set_option linter.unusedSimpArgs false
set_option linter.unusedVariables false
namespace Go.Proofs.Ytjihnnbpfdhceaa

theorem keep_one (ws : List Wg) (n : Nat) (hn : n < ws.length) : ∀ k, k ≤ ws.length → keepW (addI (fun _ => false) n) ws k = (ws.take k).eraseIdx n := by
  intro k
  induction k with
  | zero => intro _; simp [keepW]
  | succ k ih =>
    intro hk
    by_cases he : k = n
    · subst he
      rw [keepW_no _ _ _ (by simp [addI]), ih (by omega), List.take_succ_eq_append_getElem (by omega)]
      rw [List.eraseIdx_of_length_le (by simp; omega)]
      rw [List.eraseIdx_append_of_length_le (by simp; omega)]
      simp [Nat.min_eq_left (show k ≤ ws.length by omega)]
    · rw [keepW_yes _ _ _ (by omega) (by simp [addI]; omega), ih (by omega), List.take_succ_eq_append_getElem (by omega)]
      by_cases hlt : n < k
      · rw [List.eraseIdx_append_of_lt_length (by simp; omega)]
      · rw [List.eraseIdx_of_length_le (by simp; omega), List.eraseIdx_of_length_le (by simp; omega)]
theorem gone_one {h : Hs} {n : Nat} (hn : n < h.ws.length) : h.goneR [(n : Int)] = (0, addI (fun _ => false) n) := by
  unfold Hs.goneR goneL
  have hw : h.weighing n = true := by simp [Hs.weighing, inB]; omega
  rw [hw]
  simp [goneL]
theorem without_one {h : Hs} {n : Nat} (hn : n < h.ws.length) : h.without [(n : Int)] = ⟨h.months, h.peak, h.ws.eraseIdx n⟩ := by
  unfold Hs.without
  rw [gone_one hn]
  simp only [if_true]
  rw [keep_one _ _ hn _ (Nat.le_refl _), List.take_length]
theorem erase_len {ws : List Wg} {n : Nat} (hn : n < ws.length) : (ws.eraseIdx n).length = ws.length - 1 := List.length_eraseIdx_of_lt hn
theorem erase_get {ws : List Wg} {n i : Nat} (hn : n < ws.length) (hi : i < ws.length - 1) : (ws.eraseIdx n)[i]'(by rw [erase_len hn]; exact hi) = ws[skip n i]'(skip_lt hn hi) := by
  rw [List.getElem_eraseIdx]
  unfold skip
  by_cases h : i < n
  · simp [h]
  · simp [h]
/-- The house without the weighing n. -/
def Hs.drop1 (h : Hs) (n : Nat) : Hs := ⟨h.months, h.peak, h.ws.eraseIdx n⟩
theorem drop1_clashM {h : Hs} {n : Nat} (hn : n < h.ws.length) : ∀ i j, i < h.ws.length - 1 → j < h.ws.length - 1 → (h.drop1 n).clashM i j = h.clashM (skip n i) (skip n j) := by
  intro i j hi hj
  have l1 : i < (h.drop1 n).ws.length := by show i < (h.ws.eraseIdx n).length; rw [erase_len hn]; exact hi
  have l2 : j < (h.drop1 n).ws.length := by show j < (h.ws.eraseIdx n).length; rw [erase_len hn]; exact hj
  rw [clashM_in _ l1 l2, clashM_in h (skip_lt hn hi) (skip_lt hn hj)]
  have e1 : (h.drop1 n).ws[i] = h.ws[skip n i]'(skip_lt hn hi) := erase_get hn hi
  have e2 : (h.drop1 n).ws[j] = h.ws[skip n j]'(skip_lt hn hj) := erase_get hn hj
  rw [e1, e2]
  rfl
theorem drop1_check {h : Hs} (hk : h.check = 0) (n : Nat) : (h.drop1 n).check = 0 := by
  have hm := check_months hk
  have hp := check_peak hk
  have hl := check_len hk
  have hsub : ∀ x ∈ h.ws.eraseIdx n, x ∈ h.ws := fun x hx => List.mem_of_mem_eraseIdx hx
  exact check_intro hm (Nat.le_trans (List.length_eraseIdx_le _ _) hl) hp (fun x hx => check_wmonth hk x (hsub x hx)) (fun x hx => check_good hk x (hsub x hx))
/-- The house with wider spans of the weighing n. -/
def widenW (d e : Int) (x : Wg) : Wg := ⟨x.month, x.slo, min 1000 (x.shi + e), max 1 (x.mlo - d), x.mhi⟩
def Hs.widen (h : Hs) (n : Nat) (d e : Int) : Hs := ⟨h.months, h.peak, h.ws.modify n (widenW d e)⟩
theorem widen_len (h : Hs) (n : Nat) (d e : Int) : (h.widen n d e).ws.length = h.ws.length := by unfold Hs.widen; simp
theorem widenW_good {x : Wg} (hx : x.Good) {d e : Int} (hd : 0 ≤ d) (he : 0 ≤ e) : (widenW d e x).Good := by
  obtain ⟨⟨a1, a2, a3, a4, a5, a6, a7, a8⟩, s, m⟩ := hx
  unfold widenW
  exact ⟨⟨a1, a2, by simp only; omega, by simp only; omega, by simp only; omega, by simp only; omega, a7, a8⟩, by simp only; omega, by simp only; omega⟩
theorem widen_mem {h : Hs} {n : Nat} {d e : Int} {i : Nat} (hi : i < h.ws.length) : ∃ x, (h.widen n d e).ws[i]'(by rw [widen_len]; exact hi) = x ∧ (x = h.ws[i] ∨ x = widenW d e h.ws[i]) := by
  refine ⟨_, rfl, ?_⟩
  have h1 : (h.widen n d e).ws[i]? = some (if n = i then widenW d e h.ws[i] else h.ws[i]) := by
    unfold Hs.widen
    rw [List.getElem?_modify, List.getElem?_eq_getElem hi]
    by_cases hni : n = i <;> simp [hni]
  have h2 := List.getElem?_eq_getElem (l := (h.widen n d e).ws) (i := i) (by rw [widen_len]; exact hi)
  rw [h1] at h2
  injection h2 with h2
  rw [← h2]
  split
  · exact .inr rfl
  · exact .inl rfl
theorem widen_check {h : Hs} (hk : h.check = 0) (n : Nat) {d e : Int} (hd : 0 ≤ d) (he : 0 ≤ e) : (h.widen n d e).check = 0 := by
  have hm := check_months hk
  have hp := check_peak hk
  have hl := check_len hk
  have key : ∀ x ∈ (h.widen n d e).ws, (0 ≤ x.month ∧ x.month < h.months) ∧ x.Good := by
    intro x hx
    obtain ⟨i, hi, rfl⟩ := List.getElem_of_mem hx
    rw [widen_len] at hi
    obtain ⟨y, hy, hc⟩ := widen_mem (h := h) (n := n) (d := d) (e := e) hi
    rw [hy]
    have g := check_good hk _ (List.getElem_mem hi)
    have w := check_wmonth hk _ (List.getElem_mem hi)
    rcases hc with rfl | rfl
    · exact ⟨w, g⟩
    · exact ⟨w, widenW_good g hd he⟩
  exact check_intro hm (by rw [widen_len]; exact hl) hp (fun x hx => (key x hx).1) (fun x hx => (key x hx).2)
theorem widen_least {x : Wg} (hx : x.Good) {d e : Int} (hd : 0 ≤ d) (he : 0 ≤ e) : rle (widenW d e x).least x.least := by
  have hg := widenW_good hx hd he
  unfold Wg.least
  rw [rle_lowest_l hg.ok.mlo1 hg.ok.shi1]
  obtain ⟨g, hg1, e1, e2, _⟩ := lowest_spec x.mlo x.shi hx.ok.mlo1 hx.ok.shi1
  generalize lowest x.mlo x.shi = q at e1 e2 ⊢
  have h1 : (widenW d e x).mlo * x.shi ≤ x.mlo * (widenW d e x).shi := by
    have a1 : (widenW d e x).mlo ≤ x.mlo := by have := hx.ok.mlo1; simp only [widenW]; omega
    have a2 : x.shi ≤ (widenW d e x).shi := by have := hx.ok.shi2; simp only [widenW]; omega
    exact Int.mul_le_mul a1 a2 (by have := hx.ok.shi1; omega) (by have := hx.ok.mlo1; omega)
  rw [← e2] at h1
  rw [← e1] at h1
  have h2 : ((widenW d e x).mlo * q.den) * g ≤ (q.num * (widenW d e x).shi) * g := by
    rw [Int.mul_assoc, Int.mul_right_comm]; exact h1
  exact Int.le_of_mul_le_mul_right h2 (by omega)
theorem widen_clash {h : Hs} (hk : h.check = 0) {n : Nat} {d e : Int} (hd : 0 ≤ d) (he : 0 ≤ e) {i j : Nat} (hm : (h.widen n d e).clashM i j = true) : h.clashM i j = true := by
  obtain ⟨hi, hj⟩ := clashM_lt hm
  rw [clashM_in _ hi hj] at hm
  rw [widen_len] at hi hj
  rw [clashM_in h hi hj]
  obtain ⟨x, hx, hxc⟩ := widen_mem (h := h) (n := n) (d := d) (e := e) hi
  obtain ⟨y, hy, hyc⟩ := widen_mem (h := h) (n := n) (d := d) (e := e) hj
  rw [hx, hy, clash_true] at hm
  rw [clash_true]
  have gi := check_good hk _ (List.getElem_mem hi)
  have gj := check_good hk _ (List.getElem_mem hj)
  have hu : h.under h.ws[i].month h.ws[j].month = true := by
    have := hm.1
    rcases hxc with rfl | rfl <;> rcases hyc with rfl | rfl <;> exact this
  refine ⟨hu, ?_⟩
  have hmost : y.most = h.ws[j].most := by rcases hyc with rfl | rfl <;> rfl
  have hr := hm.2
  rw [hmost] at hr
  rcases hxc with rfl | rfl
  · exact hr
  · exact rlt_of_lt_le gj.ok.most_pos (widenW_good gi hd he).ok.least_pos gi.ok.least_pos hr (widen_least gi hd he)

/-- What BoilGrown asks. -/
theorem grown_facts {h : Hs} (hk : h.check = 0) {n : Nat} (hn : n < h.ws.length) {d e : Int} (hd : 0 ≤ d) (he : 0 ≤ e) :
    (fewL (h.drop1 n).clashM (h.ws.length - 1)).length ≤ (fewL h.clashM h.ws.length).length ∧
    (fewL h.clashM h.ws.length).length ≤ (fewL (h.drop1 n).clashM (h.ws.length - 1)).length + 1 ∧
    (n ∈ fewL h.clashM h.ws.length → (fewL (h.drop1 n).clashM (h.ws.length - 1)).length + 1 = (fewL h.clashM h.ws.length).length) ∧
    (fewL (h.widen n d e).clashM h.ws.length).length ≤ (fewL h.clashM h.ws.length).length ∧
    (∀ x ∈ fewL h.clashM h.ws.length, x ∉ trustL h.clashM h.ws.length) ∧
    (n ∈ trustL h.clashM h.ws.length ↔ (fewL (h.drop1 n).clashM (h.ws.length - 1)).length = (fewL h.clashM h.ws.length).length) := by
  have hl := check_len hk
  have hT : ∀ i j k, h.clashM i j = true → h.clashM j k = true → h.clashM i k = true := fun i j k => clashM_trans hk
  have hT1 : ∀ i j k, (h.drop1 n).clashM i j = true → (h.drop1 n).clashM j k = true → (h.drop1 n).clashM i k = true := fun i j k => clashM_trans (drop1_check hk n)
  have hT2 : ∀ i j k, (h.widen n d e).clashM i j = true → (h.widen n d e).clashM j k = true → (h.widen n d e).clashM i k = true := fun i j k => clashM_trans (widen_check hk n hd he)
  have F := few_ok hl hT
  have G := few_ok (len := h.ws.length - 1) (by omega) hT1
  have hM := drop1_clashM hn
  obtain ⟨cF, pF⟩ := few_cnt F
  obtain ⟨cG, pG⟩ := few_cnt G
  have l1 := less_cnt hn (inL (fewL h.clashM h.ws.length))
  have f1 := G.least _ (less_false hn hM F.false_)
  have f2 := F.least _ (lift_false hn hM G.false_)
  rw [lift_cnt hn, cG] at f2
  have a1 : (fewL (h.drop1 n).clashM (h.ws.length - 1)).length ≤ (fewL h.clashM h.ws.length).length := by
    rw [cF] at l1
    split at l1 <;> omega
  have a3 : n ∈ fewL h.clashM h.ws.length → (fewL (h.drop1 n).clashM (h.ws.length - 1)).length + 1 = (fewL h.clashM h.ws.length).length := by
    intro hin
    have : inL (fewL h.clashM h.ws.length) n = true := by simpa [inL] using hin
    rw [if_pos this, cF] at l1
    omega
  refine ⟨a1, f2, a3, ?_, ?_, ?_⟩
  · have : FalseSet (h.widen n d e).clashM h.ws.length (inL (fewL h.clashM h.ws.length)) := fun i j hi hj hm => F.false_ i j hi hj (widen_clash hk hd he hm)
    have := few_len_le hl hT2 this
    rw [cF] at this
    exact this
  · intro x hx ht
    exact (trust_mem.1 ht).2 _ F.sub F.false_ hx
  · rw [trust_mem]
    constructor
    · rintro ⟨_, ht⟩
      apply Nat.le_antisymm a1
      rcases Nat.lt_or_ge (fewL (h.drop1 n).clashM (h.ws.length - 1)).length (fewL h.clashM h.ws.length).length with hlt | hge
      · exfalso
        have hc : cnt h.ws.length (liftS n (inL (fewL (h.drop1 n).clashM (h.ws.length - 1)))) = pfLen h.clashM h.ws.length := by
          rw [lift_cnt hn, cG, ← pF]; omega
        have hfs := (lift_false hn hM G.false_).congr (fun i hi => (setL_in (F := liftS n (inL (fewL (h.drop1 n).clashM (h.ws.length - 1)))) hi).symm)
        refine ht _ (setL_sub (M := h.clashM) hc) hfs ?_
        unfold setL
        rw [List.mem_filter, List.mem_range]
        exact ⟨hn, by simp [liftS]⟩
      · exact hge
    · intro he
      refine ⟨hn, fun l hl2 hf hin => ?_⟩
      obtain ⟨h1, h2, h3⟩ := subs_props hl2
      have hc := cnt_inL h2 h3
      have hlc := less_cnt hn (inL l)
      have : inL l n = true := by simpa [inL] using hin
      rw [if_pos this, hc, h1, ← pF] at hlc
      have := G.least _ (less_false hn hM hf)
      omega
end Go.Proofs.Ytjihnnbpfdhceaa
