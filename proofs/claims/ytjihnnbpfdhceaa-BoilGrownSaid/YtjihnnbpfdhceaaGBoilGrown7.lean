/- Plain: placing weighings above others, as the program does it. No program in sight. Conditions: none beyond those that each theorem names. -/
namespace Go.Proofs.Ytjihnnbpfdhceaa

def updB (m : Nat → Bool) (i : Nat) (v : Bool) : Nat → Bool := fun x => if x = i then v else m x
def updI (m : Nat → Int) (i : Nat) (v : Int) : Nat → Int := fun x => if x = i then v else m x

structure Pst where
  met : Nat → Bool
  over : Nat → Int

/-- A loop that stops where a step says so. -/
def loopF {β σ : Type} (step : β → σ → Bool × σ) : List β → σ → Bool × σ
  | [], s => (false, s)
  | b :: bs, s => if (step b s).1 then (true, (step b s).2) else loopF step bs (step b s).2

theorem loopF_snoc {β σ : Type} (step : β → σ → Bool × σ) (pre : List β) (b : β) (s : σ) (h : (loopF step pre s).1 = false) : loopF step (pre ++ [b]) s = step b (loopF step pre s).2 := by
  induction pre generalizing s with
  | nil =>
    simp only [List.nil_append, loopF]
    split
    · rename_i h1; exact Prod.ext h1.symm rfl
    · rename_i h1; exact Prod.ext (by simpa using h1 : (step b s).1 = false).symm rfl
  | cons a pre ih =>
    simp only [List.cons_append, loopF] at h ⊢
    split
    · rename_i h1; rw [if_pos h1] at h; cases h
    · rename_i h1; rw [if_neg h1] at h; exact ih _ h
theorem loopF_found {β σ : Type} (step : β → σ → Bool × σ) (pre rest : List β) (s : σ) (h : (loopF step pre s).1 = true) : loopF step (pre ++ rest) s = loopF step pre s := by
  induction pre generalizing s with
  | nil => simp [loopF] at h
  | cons a pre ih =>
    simp only [List.cons_append, loopF] at h ⊢
    split
    · rfl
    · rename_i h1; rw [if_neg h1] at h; exact ih _ h
theorem loopF_inv {β σ : Type} (step : β → σ → Bool × σ) (I : σ → Prop) (pre : List β) (hs : ∀ b ∈ pre, ∀ s, I s → I (step b s).2) (s : σ) (h : I s) : I (loopF step pre s).2 := by
  induction pre generalizing s with
  | nil => exact h
  | cons a pre ih =>
    simp only [loopF]
    split
    · exact hs a (by simp) s h
    · exact ih (fun b hb => hs b (by simp [hb])) _ (hs a (by simp) s h)

/-- The weighings below a, of len. -/
def bels (M : Nat → Nat → Bool) (len a : Nat) : List Nat := (List.range len).filter fun b => M a b

def stepW (rec : Nat → Pst → Bool × Pst) (a b : Nat) (s : Pst) : Bool × Pst :=
  if s.met b then (false, s)
  else if s.over b = -1 then (true, { met := updB s.met b true, over := updI s.over b a })
  else if (rec (s.over b).toNat { s with met := updB s.met b true }).1 then
    (true, { (rec (s.over b).toNat { s with met := updB s.met b true }).2 with over := updI (rec (s.over b).toNat { s with met := updB s.met b true }).2.over b a })
  else (false, (rec (s.over b).toNat { s with met := updB s.met b true }).2)
def tryP (M : Nat → Nat → Bool) (len : Nat) : Nat → Nat → Pst → Bool × Pst
  | 0 => fun _ s => (false, s)
  | f + 1 => fun a s => loopF (stepW (tryP M len f) a) (bels M len a) s
def stepP (M : Nat → Nat → Bool) (len f a b : Nat) (s : Pst) : Bool × Pst := stepW (tryP M len f) a b s

def unmet (m : Nat → Bool) : Nat := ((List.range 14).filter fun b => !m b).length
theorem unmet_mono {m m' : Nat → Bool} (h : ∀ b, m b = true → m' b = true) : unmet m' ≤ unmet m := by
  unfold unmet
  rw [← List.countP_eq_length_filter, ← List.countP_eq_length_filter]
  exact List.countP_mono_left fun b _ hb => by
    cases hm : m b
    · rfl
    · rw [h b hm] at hb; simp at hb
theorem unmet_upd {m : Nat → Bool} {b : Nat} (hb : b < 14) (h : m b = false) : unmet (updB m b true) < unmet m := by
  unfold unmet
  have e : (List.range 14).filter (fun x => !updB m b true x) = ((List.range 14).filter fun x => !m x).filter (fun x => decide (x ≠ b)) := by
    rw [List.filter_filter]
    congr 1
    funext x
    by_cases hx : x = b
    · subst hx; simp [updB]
    · simp [updB, hx]
  rw [e]
  have hmem : b ∈ (List.range 14).filter fun x => !m x := List.mem_filter.2 ⟨List.mem_range.2 hb, by simp [h]⟩
  rcases Nat.lt_or_ge (((List.range 14).filter fun x => !m x).filter (fun x => decide (x ≠ b))).length ((List.range 14).filter fun x => !m x).length with h1 | h1
  · exact h1
  · have h2 := List.length_filter_le (fun x => decide (x ≠ b)) ((List.range 14).filter fun x => !m x)
    have h3 := List.length_filter_eq_length_iff.1 (Nat.le_antisymm h2 h1) b hmem
    simp at h3

/-- What has been met stays met; what stands above another one is one of the weighings. -/
structure PstLe (len : Nat) (s s' : Pst) : Prop where
  met : ∀ b, s.met b = true → s'.met b = true
  over : (∀ b, s.over b = -1 ∨ (0 ≤ s.over b ∧ s.over b < len)) → ∀ b, s'.over b = -1 ∨ (0 ≤ s'.over b ∧ s'.over b < len)
theorem PstLe.refl (len : Nat) (s : Pst) : PstLe len s s := ⟨fun _ h => h, fun h => h⟩
theorem PstLe.trans {len : Nat} {a b c : Pst} (h : PstLe len a b) (h' : PstLe len b c) : PstLe len a c := ⟨fun x hx => h'.met x (h.met x hx), fun x => h'.over (h.over x)⟩

theorem tryP_le (M : Nat → Nat → Bool) (len : Nat) (f : Nat) : ∀ (a : Nat) (s : Pst), a < len → (∀ b, s.over b = -1 ∨ (0 ≤ s.over b ∧ s.over b < len)) → PstLe len s (tryP M len f a s).2 := by
  induction f with
  | zero => intro a s _ _; simp only [tryP]; exact PstLe.refl _ _
  | succ f ih =>
    intro a s ha hov
    show PstLe len s (loopF (stepP M len f a) (bels M len a) s).2
    refine loopF_inv (stepP M len f a) (fun s' => PstLe len s s') _ ?_ s (PstLe.refl _ _)
    intro b _ s' hs'
    have hov' := hs'.over hov
    simp only [stepP, stepW]
    split
    · exact hs'
    · split
      · refine hs'.trans ⟨fun x hx => by simp only [updB]; split <;> simp_all, fun _ x => ?_⟩
        simp only [updI]
        split
        · right; omega
        · exact hov' x
      · rename_i h1 h2
        have h3 : PstLe len s' { s' with met := updB s'.met b true } := ⟨fun x hx => by simp only [updB]; split <;> simp_all, fun h => h⟩
        have h4 := ih (s'.over b).toNat { s' with met := updB s'.met b true } (by have := hov' b; omega) hov'
        split
        · refine (hs'.trans h3).trans (h4.trans ⟨fun x hx => hx, fun h x => ?_⟩)
          simp only [updI]
          split
          · right; omega
          · exact h x
        · exact (hs'.trans h3).trans h4
theorem loopP_le (M : Nat → Nat → Bool) (len f a : Nat) (pre : List Nat) (s : Pst) (ha : a < len) (hov : ∀ b, s.over b = -1 ∨ (0 ≤ s.over b ∧ s.over b < len)) : PstLe len s (loopF (stepP M len f a) pre s).2 := by
  refine loopF_inv (stepP M len f a) (fun s' => PstLe len s s') _ ?_ s (PstLe.refl _ _)
  intro b _ s' hs'
  have hov' := hs'.over hov
  simp only [stepP, stepW]
  split
  · exact hs'
  · split
    · refine hs'.trans ⟨fun x hx => by simp only [updB]; split <;> simp_all, fun _ x => ?_⟩
      simp only [updI]
      split
      · right; omega
      · exact hov' x
    · rename_i h1 h2
      have h3 : PstLe len s' { s' with met := updB s'.met b true } := ⟨fun x hx => by simp only [updB]; split <;> simp_all, fun h => h⟩
      have h4 := tryP_le M len f (s'.over b).toNat { s' with met := updB s'.met b true } (by have := hov' b; omega) hov'
      split
      · refine (hs'.trans h3).trans (h4.trans ⟨fun x hx => hx, fun h x => ?_⟩)
        simp only [updI]
        split
        · right; omega
        · exact h x
      · exact (hs'.trans h3).trans h4
end Go.Proofs.Ytjihnnbpfdhceaa
