/- Plain: lists of sets in order, told one by one as long as it is let. -/
import Derived.Test.YtjihnnbpfdhceaaA12
set_option linter.unusedSimpArgs false
set_option linter.unusedVariables false
namespace Go.Proofs.Ytjihnnbpfdhceaa
open Go.RowKit Go.Shelf

def inL (l : List Nat) : Nat → Bool := fun n => decide (n ∈ l)
section
variable {σ : Type} {leaf : List Nat → σ → Bool × σ}
def runW (leaf : List Nat → σ → Bool × σ) : List (List Nat) → σ → Bool × σ
  | [], s => (true, s)
  | l :: L, s => bif (leaf l s).1 then runW leaf L (leaf l s).2 else (false, (leaf l s).2)
theorem runW_append (A B : List (List Nat)) (s : σ) (h : (runW leaf A s).1 = true) : runW leaf (A ++ B) s = runW leaf B (runW leaf A s).2 := by
  induction A generalizing s with
  | nil => rfl
  | cons l L ih =>
    simp only [List.cons_append, runW] at h ⊢
    cases hc : (leaf l s).1
    · rw [hc] at h; simp at h
    · rw [hc] at h; simp only [cond_true] at h ⊢; exact ih _ h
theorem runW_stop (A B : List (List Nat)) (s : σ) (h : (runW leaf A s).1 = false) : runW leaf (A ++ B) s = runW leaf A s := by
  induction A generalizing s with
  | nil => simp [runW] at h
  | cons l L ih =>
    simp only [List.cons_append, runW] at h ⊢
    cases hc : (leaf l s).1
    · rfl
    · rw [hc] at h; simp only [cond_true] at h ⊢; exact ih _ h
theorem runW_one (l : List Nat) (s : σ) : runW leaf [l] s = leaf l s := by
  simp only [runW]
  cases hc : (leaf l s).1
  · simp only [cond_false]; rw [← hc]
  · simp only [cond_true]; rw [← hc]
def leafW (M : Nat → Nat → Bool) (k : Nat) (step : List Nat → σ → Bool × σ) (l : List Nat) (s : σ) : Bool × σ := bif clashesB M k (inL l) then (true, s) else step l s
end
/-- The sets that go on with so many, from one on. -/
def subsL (k : Nat) : Nat → List Nat → Nat → List (List Nat)
  | 0, l, _ => [l]
  | left + 1, l, f => (List.range' f (k - left - f)).flatMap fun n => subsL k left (l ++ [n]) (n + 1)
def subsTo (k left : Nat) (l : List Nat) (f n : Nat) : List (List Nat) := (List.range' f (n - f)).flatMap fun m => subsL k left (l ++ [m]) (m + 1)
theorem subsTo_start (k left : Nat) (l : List Nat) (f : Nat) : subsTo k left l f f = [] := by simp [subsTo]
theorem subsTo_snoc (k left : Nat) (l : List Nat) (f n : Nat) (h : f ≤ n) : subsTo k left l f (n + 1) = subsTo k left l f n ++ subsL k left (l ++ [n]) (n + 1) := by
  unfold subsTo
  rw [show n + 1 - f = (n - f) + 1 by omega, List.range'_concat, List.flatMap_append]
  simp [show f + (n - f) = n by omega]
theorem subsTo_end (k left : Nat) (l : List Nat) (f n : Nat) (h1 : f ≤ n) (h2 : n = f ∨ n ≤ k - left) (h3 : k - left ≤ n) : subsL k (left + 1) l f = subsTo k left l f n := by
  unfold subsTo
  show (List.range' f (k - left - f)).flatMap _ = _
  rw [show k - left - f = n - f by omega]
/-- A stop within tells the whole. -/
theorem subsTo_split (k left : Nat) (l : List Nat) (f n : Nat) (h1 : f ≤ n) (h2 : n < k - left) : ∃ R, subsL k (left + 1) l f = subsTo k left l f n ++ (subsL k left (l ++ [n]) (n + 1) ++ R) := by
  refine ⟨(List.range' (n + 1) (k - left - (n + 1))).flatMap fun n => subsL k left (l ++ [n]) (n + 1), ?_⟩
  rw [← List.append_assoc, ← subsTo_snoc _ _ _ _ _ h1]
  show (List.range' f (k - left - f)).flatMap _ = _
  unfold subsTo
  rw [← List.flatMap_append, show k - left - f = (n + 1 - f) + (k - left - (n + 1)) by omega, ← List.range'_append_1, show f + (n + 1 - f) = n + 1 by omega]
theorem row14_inL (l : List Nat) (n : Nat) : row14 (updB (inL l) n true) = row14 (inL (l ++ [n])) := by
  apply row14_congr
  intro b _
  unfold updB inL
  by_cases h : b = n
  · subst h; simp
  · simp [h]
theorem row14_empty : row14 (fun _ => false) = row14 (inL []) := by
  apply row14_congr
  intro b _
  simp [inL]
end Go.Proofs.Ytjihnnbpfdhceaa
