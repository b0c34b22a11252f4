/- Plain: houses that are made are right; to clash is an order; the first pair. No program in sight. -/
import Derived.Test.YtjihnnbpfdhceaaB7
set_option linter.unusedSimpArgs false
set_option linter.unusedVariables false
namespace Go.Proofs.Ytjihnnbpfdhceaa

theorem clashM_in (h : Hs) {i j : Nat} (hi : i < h.ws.length) (hj : j < h.ws.length) : h.clashM i j = h.clash h.ws[i] h.ws[j] := by
  unfold Hs.clashM; simp [hi, hj]
theorem under_trans (h : Hs) {a b c : Int} (h1 : h.under a b = true) (h2 : h.under b c = true) : h.under a c = true := by
  unfold Hs.under at *
  simp at *
  omega
theorem under_peak (h : Hs) (a : Int) : h.under a h.peak = true := by
  unfold Hs.under; simp; omega
theorem under_antisymm (h : Hs) {a b : Int} (h1 : h.under a b = true) (h2 : h.under b a = true) : a = b := by
  unfold Hs.under at *
  simp at *
  omega
theorem under_refl (h : Hs) (a : Int) : h.under a a = true := by
  unfold Hs.under; simp; omega
/-- A weighing as Check wants it. -/
structure Wg.Good (x : Wg) : Prop where
  ok : x.Ok
  s : x.slo ≤ x.shi
  m : x.mlo ≤ x.mhi
theorem check_good {h : Hs} (hk : h.check = 0) : ∀ x ∈ h.ws, x.Good := by
  intro x hx
  refine ⟨check_ok hk x hx, ?_, ?_⟩ <;>
  · have h3 : h.ws.all Wg.ordered = true := by
      unfold Hs.check at hk
      cases h4 : h.ws.all Wg.ordered
      · rw [h4] at hk
        split at hk
        · omega
        · split at hk
          · omega
          · split at hk
            · omega
            · simp at hk
      · rfl
    have := List.all_eq_true.1 h3 x hx
    simp [Wg.ordered] at this
    omega
theorem check_peak {h : Hs} (hk : h.check = 0) : 0 ≤ h.peak ∧ h.peak < h.months := by
  unfold Hs.check at hk
  split at hk
  · omega
  · split at hk
    · omega
    · rename_i h2
      simp [Hs.month, inB] at h2
      omega
theorem check_wmonth {h : Hs} (hk : h.check = 0) : ∀ x ∈ h.ws, 0 ≤ x.month ∧ x.month < h.months := by
  intro x hx
  unfold Hs.check at hk
  split at hk
  · omega
  · split at hk
    · omega
    · rename_i h2
      simp [Hs.month, inB] at h2
      have := h2.2 x hx
      omega
theorem check_intro {h : Hs} (h1 : 1 ≤ h.months ∧ h.months ≤ 12) (h2 : h.ws.length ≤ 14) (h3 : 0 ≤ h.peak ∧ h.peak < h.months) (h4 : ∀ x ∈ h.ws, 0 ≤ x.month ∧ x.month < h.months) (h5 : ∀ x ∈ h.ws, x.Good) : h.check = 0 := by
  unfold Hs.check
  rw [if_neg, if_neg, if_neg, if_neg]
  · simp only [Bool.not_eq_true', Bool.not_eq_false, List.all_eq_true]
    intro x hx
    have := h5 x hx
    simp [Wg.ordered, this.s, this.m]
  · simp only [Bool.not_eq_true', Bool.not_eq_false, List.all_eq_true]
    intro x hx
    have := (h5 x hx).ok
    obtain ⟨a, b, c, d, e, f, g, i⟩ := this
    simp [Wg.measured, inB, a, b, c, d, e, f, g, i]
  · simp only [Bool.or_eq_true, Bool.not_eq_true', not_or, Bool.not_eq_false, List.all_eq_true]
    refine ⟨by simp [Hs.month, inB]; omega, fun x hx => ?_⟩
    have := h4 x hx
    simp [Hs.month, inB]; omega
  · simp [inB]
    omega
theorem MadeOk.good {h : Hs} {r : Nat → Rat2} {mo we : Nat} {wr : Int} (H : MadeOk h r mo we wr) : ∀ x ∈ h.ws, x.Good := by
  intro x hx
  obtain ⟨_, ⟨a, b, c⟩, ⟨d, e, f⟩, _⟩ := H.ws x hx
  exact ⟨⟨by omega, by omega, by omega, by omega, by omega, by omega, by omega, by omega⟩, b, e⟩
theorem MadeOk.check {h : Hs} {r : Nat → Rat2} {mo we : Nat} {wr : Int} (H : MadeOk h r mo we wr) (h1 : mo ≤ 12) (h2 : we ≤ 14) : h.check = 0 :=
  check_intro ⟨H.mo.1, by have := H.mo.2; omega⟩ (by have := H.len; omega) H.pk (fun x hx => (H.ws x hx).1) H.good

theorem Wg.Good.least_le_most {x : Wg} (h : x.Good) : rle x.least x.most := by
  unfold Wg.least Wg.most
  rw [rle_lowest_l h.ok.mlo1 h.ok.shi1]
  obtain ⟨g, hg, e1, e2, _⟩ := lowest_spec x.mhi x.slo h.ok.mhi1 h.ok.slo1
  generalize lowest x.mhi x.slo = q at e1 e2 ⊢
  have h1 : x.mlo * x.slo ≤ x.mhi * x.shi := by
    have a1 := Int.mul_le_mul h.m h.s (by have := h.ok.slo1; omega) (by have := h.ok.mhi1; omega)
    exact a1
  rw [← e1, ← e2, Int.mul_right_comm, ← Int.mul_assoc] at h1
  exact Int.le_of_mul_le_mul_right h1 (by omega)
theorem Wg.Ok.least_pos {x : Wg} (h : x.Ok) : x.least.Pos := lowest_pos _ _ h.mlo1 h.shi1
theorem Wg.Ok.most_pos {x : Wg} (h : x.Ok) : x.most.Pos := lowest_pos _ _ h.mhi1 h.slo1
theorem clash_true {h : Hs} {x y : Wg} : h.clash x y = true ↔ h.under x.month y.month = true ∧ rlt y.most x.least := by
  unfold Hs.clash rlt
  rw [Bool.and_eq_true, aboveB_true]
theorem clash_trans {h : Hs} {x y z : Wg} (hx : x.Ok) (hy : y.Good) (hz : z.Ok) (h1 : h.clash x y = true) (h2 : h.clash y z = true) : h.clash x z = true := by
  rw [clash_true] at *
  refine ⟨under_trans h h1.1 h2.1, ?_⟩
  have a := rlt_of_lt_le hz.most_pos hy.ok.least_pos hy.ok.most_pos h2.2 hy.least_le_most
  exact rlt_of_lt_le hz.most_pos hy.ok.most_pos hx.least_pos a (rlt_le h1.2)
theorem clash_irrefl {h : Hs} {x : Wg} (hx : x.Good) : h.clash x x = false := by
  cases hc : h.clash x x
  · rfl
  · exact absurd hx.least_le_most (clash_true.1 hc).2
theorem clashM_trans {h : Hs} (hk : h.check = 0) {i j k : Nat} (h1 : h.clashM i j = true) (h2 : h.clashM j k = true) : h.clashM i k = true := by
  by_cases hi : i < h.ws.length
  · by_cases hj : j < h.ws.length
    · by_cases hl : k < h.ws.length
      · rw [clashM_in h hi hj] at h1
        rw [clashM_in h hj hl] at h2
        rw [clashM_in h hi hl]
        exact clash_trans (check_ok hk _ (List.getElem_mem _)) (check_good hk _ (List.getElem_mem _)) (check_ok hk _ (List.getElem_mem _)) h1 h2
      · unfold Hs.clashM at h2; simp [hl] at h2
    · unfold Hs.clashM at h2; simp [hj] at h2
  · unfold Hs.clashM at h1; simp [hi] at h1
theorem clashM_irrefl {h : Hs} (hk : h.check = 0) (i : Nat) : h.clashM i i = false := by
  by_cases hi : i < h.ws.length
  · rw [clashM_in h hi hi]; exact clash_irrefl (check_good hk _ (List.getElem_mem _))
  · unfold Hs.clashM; simp [hi]
theorem clashM_lt {h : Hs} {i j : Nat} (h1 : h.clashM i j = true) : i < h.ws.length ∧ j < h.ws.length := by
  unfold Hs.clashM at h1
  split at h1
  · assumption
  · cases h1

/-- (a, b) is the first pair of S that M names, or a is -1 and there is none. -/
def FirstIn (M : Nat → Nat → Bool) (S : Nat → Nat → Prop) (A B : Int) : Prop :=
  (A = -1 ∧ ∀ i j, S i j → M i j = false) ∨ (∃ a b : Nat, A = a ∧ B = b ∧ S a b ∧ M a b = true ∧ ∀ i j, S i j → (i < a ∨ (i = a ∧ j < b)) → M i j = false)
theorem FirstIn.congr {M : Nat → Nat → Bool} {S S' : Nat → Nat → Prop} {A B : Int} (h : FirstIn M S A B) (hS : ∀ i j, M i j = true → (S i j ↔ S' i j)) : FirstIn M S' A B := by
  rcases h with ⟨h1, h2⟩ | ⟨a, b, h1, h2, h3, h4, h5⟩
  · refine .inl ⟨h1, fun i j hs => ?_⟩
    cases hm : M i j
    · rfl
    · have := h2 i j ((hS i j hm).2 hs); rw [hm] at this; cases this
  · refine .inr ⟨a, b, h1, h2, (hS a b h4).1 h3, h4, fun i j hs hlt => ?_⟩
    cases hm : M i j
    · rfl
    · have := h5 i j ((hS i j hm).2 hs) hlt; rw [hm] at this; cases this
theorem FirstIn.miss {M : Nat → Nat → Bool} {S : Nat → Nat → Prop} {A B : Int} (h : FirstIn M S A B) (a b : Nat) (hm : M a b = false) : FirstIn M (fun i j => (i = a ∧ j = b) ∨ S i j) A B :=
  h.congr fun i j hij => ⟨fun hs => .inr hs, fun hs => hs.resolve_left (fun ⟨e1, e2⟩ => by subst e1; subst e2; rw [hm] at hij; cases hij)⟩
theorem FirstIn.hit {M : Nat → Nat → Bool} {S : Nat → Nat → Prop} (a b : Nat) (hm : M a b = true) (hS : ∀ i j, S i j → ¬ (i < a ∨ (i = a ∧ j < b))) : FirstIn M (fun i j => (i = a ∧ j = b) ∨ S i j) a b := by
  refine .inr ⟨a, b, rfl, rfl, .inl ⟨rfl, rfl⟩, hm, fun i j hs hlt => ?_⟩
  rcases hs with ⟨e1, e2⟩ | hs
  · omega
  · exact absurd hlt (hS i j hs)
theorem FirstIn.uniq {M : Nat → Nat → Bool} {S : Nat → Nat → Prop} {A B A' B' : Int} (h : FirstIn M S A B) (h' : FirstIn M S A' B') : A = A' ∧ (A ≠ -1 → B = B') := by
  rcases h with ⟨h1, h2⟩ | ⟨a, b, h1, h2, h3, h4, h5⟩
  · rcases h' with ⟨g1, g2⟩ | ⟨a', b', g1, g2, g3, g4, g5⟩
    · exact ⟨by omega, fun h => absurd h1 h⟩
    · have := h2 _ _ g3; rw [g4] at this; cases this
  · rcases h' with ⟨g1, g2⟩ | ⟨a', b', g1, g2, g3, g4, g5⟩
    · have := g2 _ _ h3; rw [h4] at this; cases this
    · have n1 : ¬ (a' < a ∨ (a' = a ∧ b' < b)) := fun hlt => by have := h5 _ _ g3 hlt; rw [g4] at this; cases this
      have n2 : ¬ (a < a' ∨ (a = a' ∧ b < b')) := fun hlt => by have := g5 _ _ h3 hlt; rw [h4] at this; cases this
      exact ⟨by omega, fun _ => by omega⟩
theorem ClashRes.open_ {M : Nat → Nat → Bool} {len : Nat} {e : Ending} (h : ClashRes M len e) : ∃ pa pb ee : Int, e = .returned (.tuple #[.agg #[.int .i64 pa, .int .i64 pb], .int .i64 ee]) ∧
    ((ee = 0 ∧ 0 ≤ pa ∧ FirstIn M (fun i j => i < len ∧ j < len) pa pb) ∨ (ee = 6 ∧ ∀ i j, i < len → j < len → M i j = false)) := by
  rcases h with ⟨a, b, ha, hb, hM, h1, h2, rfl⟩ | ⟨h1, rfl⟩
  · exact ⟨a, b, 0, rfl, .inl ⟨rfl, by omega, .inr ⟨a, b, rfl, rfl, ⟨ha, hb⟩, hM, fun i j ⟨_, hj⟩ hlt => by
      rcases hlt with hlt | ⟨rfl, hlt⟩
      · exact h1 i hlt j hj
      · exact h2 j hlt⟩⟩⟩
  · exact ⟨0, 0, 6, rfl, .inr ⟨rfl, fun i j hi hj => h1 i hi j hj⟩⟩
end Go.Proofs.Ytjihnnbpfdhceaa
