/- Plain: the first of the smallest sets. No program in sight. -/
import Derived.Test.YtjihnnbpfdhceaaGBoilGrown22
set_option linter.unusedSimpArgs false
set_option linter.unusedVariables false
namespace Go.Proofs.Ytjihnnbpfdhceaa

theorem runW_first (M : Nat → Nat → Bool) (k : Nat) (L : List (List Nat)) (s : List Nat) :
    ((runW (leafW M k stepF) L s).1 = true ∧ (∀ l ∈ L, clashesB M k (inL l) = true)) ∨
    ((runW (leafW M k stepF) L s).1 = false ∧ ∃ pre post, L = pre ++ (runW (leafW M k stepF) L s).2 :: post ∧ (∀ l ∈ pre, clashesB M k (inL l) = true) ∧ clashesB M k (inL (runW (leafW M k stepF) L s).2) = false) := by
  induction L generalizing s with
  | nil => exact .inl ⟨rfl, fun l hl => by simp at hl⟩
  | cons a L ih =>
    have hd : leafW M k stepF a s = if clashesB M k (inL a) = true then (true, s) else (false, a) := by
      unfold leafW stepF
      cases clashesB M k (inL a) <;> rfl
    have hr : runW (leafW M k stepF) (a :: L) s = if clashesB M k (inL a) = true then runW (leafW M k stepF) L s else (false, a) := by
      simp only [runW]
      rw [hd]
      cases clashesB M k (inL a) <;> rfl
    cases hc : clashesB M k (inL a)
    · rw [hc] at hr
      simp only [Bool.false_eq_true, if_false] at hr
      rw [hr]
      exact .inr ⟨rfl, [], L, rfl, fun l hl => by simp at hl, hc⟩
    · rw [hc] at hr
      simp only [if_true] at hr
      rw [hr]
      rcases ih s with ⟨h1, h2⟩ | ⟨h1, pre, post, h2, h3, h4⟩
      · refine .inl ⟨h1, fun l hl => ?_⟩
        rcases List.mem_cons.1 hl with rfl | hl
        · exact hc
        · exact h2 l hl
      · refine .inr ⟨h1, a :: pre, post, by rw [List.cons_append, ← h2], fun l hl => ?_, h4⟩
        rcases List.mem_cons.1 hl with rfl | hl
        · exact hc
        · exact h3 l hl
/-- Sets in order: they go on from l, with elements from f on. -/
theorem subsL_mem (k : Nat) : ∀ (left : Nat) (l : List Nat) (f : Nat) (x : List Nat), x ∈ subsL k left l f → ∃ y, x = l ++ y ∧ y.length = left ∧ y.Pairwise (· < ·) ∧ ∀ n ∈ y, f ≤ n ∧ n < k := by
  intro left
  induction left with
  | zero =>
    intro l f x hx
    simp only [subsL, List.mem_singleton] at hx
    subst hx
    exact ⟨[], by simp, rfl, List.Pairwise.nil, by simp⟩
  | succ left ih =>
    intro l f x hx
    simp only [subsL, List.mem_flatMap] at hx
    obtain ⟨n, hn, hx⟩ := hx
    rw [List.mem_range'] at hn
    obtain ⟨i, hi, rfl⟩ := hn
    obtain ⟨y, rfl, hy, hp, hb⟩ := ih _ _ _ hx
    refine ⟨(f + 1 * i) :: y, by simp, by simp [hy], ?_, ?_⟩
    · refine List.Pairwise.cons (fun m hm => ?_) hp
      have := (hb m hm).1; omega
    · intro m hm
      rcases List.mem_cons.1 hm with rfl | hm
      · omega
      · have := hb m hm; omega
theorem inc_room {k : Nat} : ∀ (y : List Nat) (n : Nat), (∀ m ∈ y, n < m ∧ m < k) → y.Pairwise (· < ·) → n < k → n + y.length < k := by
  intro y
  induction y with
  | nil => intro n _ _ h; simpa using h
  | cons m y ih =>
    intro n hb hp hn
    have hpc := List.pairwise_cons.1 hp
    have hm := hb m List.mem_cons_self
    have := ih m (fun x hx => ⟨hpc.1 x hx, (hb x (List.mem_cons_of_mem _ hx)).2⟩) hpc.2 hm.2
    simp only [List.length_cons]; omega
theorem subsL_all (k : Nat) : ∀ (left : Nat) (l y : List Nat) (f : Nat), y.length = left → y.Pairwise (· < ·) → (∀ n ∈ y, f ≤ n ∧ n < k) → l ++ y ∈ subsL k left l f := by
  intro left
  induction left with
  | zero =>
    intro l y f hy _ _
    have : y = [] := List.eq_nil_of_length_eq_zero hy
    subst this
    simp [subsL]
  | succ left ih =>
    intro l y f hy hp hb
    cases y with
    | nil => simp at hy
    | cons n y =>
      simp only [subsL, List.mem_flatMap]
      have hn := hb n List.mem_cons_self
      have hpc := List.pairwise_cons.1 hp
      have hlen : y.length = left := by simpa using hy
      have hroom : n + left < k := by
        rw [← hlen]
        exact inc_room y n (fun m hm => ⟨hpc.1 m hm, (hb m (List.mem_cons_of_mem _ hm)).2⟩) hpc.2 hn.2
      refine ⟨n, ?_, ?_⟩
      · rw [List.mem_range']
        exact ⟨n - f, by omega, by omega⟩
      · have := ih (l ++ [n]) y (n + 1) hlen hpc.2 (fun m hm => ⟨hpc.1 m hm, (hb m (List.mem_cons_of_mem _ hm)).2⟩)
        simpa using this
theorem fewL_cases (M : Nat → Nat → Bool) (len : Nat) :
    (fewL M len = [] ∧ ∀ l ∈ subsL len (pfLen M len) [] 0, clashesB M len (inL l) = true) ∨
    (∃ pre post, subsL len (pfLen M len) [] 0 = pre ++ fewL M len :: post ∧ (∀ l ∈ pre, clashesB M len (inL l) = true) ∧ clashesB M len (inL (fewL M len)) = false) := by
  have H := runW_first M len (subsL len (pfLen M len) [] 0) []
  unfold fewL seen
  generalize runW (leafW M len stepF) (subsL len (pfLen M len) [] 0) [] = R at H ⊢
  rcases H with ⟨h1, h2⟩ | ⟨h1, pre, post, h2, h3, h4⟩
  · rw [h1]; exact .inl ⟨rfl, h2⟩
  · rw [h1]; exact .inr ⟨pre, post, h2, h3, h4⟩
theorem fewL_len (M : Nat → Nat → Bool) (len : Nat) : (fewL M len).length ≤ 14 := by
  rcases fewL_cases M len with ⟨h1, _⟩ | ⟨pre, post, h2, _⟩
  · rw [h1]; exact Nat.zero_le _
  · have hm : fewL M len ∈ subsL len (pfLen M len) [] 0 := by rw [h2]; exact List.mem_append_right _ List.mem_cons_self
    obtain ⟨y, hy, hl, _⟩ := subsL_mem _ _ _ _ _ hm
    rw [hy]
    have := pfLen_le M len
    simp; omega
theorem trustL_len (M : Nat → Nat → Bool) (len : Nat) : (trustL M len).length ≤ len := by
  unfold trustL; exact keepTo_len _ _
end Go.Proofs.Ytjihnnbpfdhceaa
