/- A map of ints to bools that the call makes. Conditions: none beyond those that each theorem names. -/
import Derived.Test.YtjihnnbpfdhceaaGBoilGrown16
import Derived.Maps.Own
import Derived.Maps.OwnSet
import Derived.Maps.Views
set_option linter.unusedSimpArgs false
set_option linter.unusedVariables false
namespace Go.Proofs.Ytjihnnbpfdhceaa
open Go.RowKit Go.Shelf Go.Maps

theorem keyInt : Keyed Try.prog 3 := int_keyed Try.underlying3
theorem zeroBool (w : World) : (zeroValue 4).run Try.prog w = .ok (.bool false) w := by kernel_rfl
/-- Block b is a map that says f of each number, false where it has none. -/
def MapB (W : World) (b n : Nat) (f : Int → Bool) : Prop :=
  ∃ D : DataW Nat, W.ownsMap Try.prog 3 (plainElem Try.prog 4) b n D ∧ ∀ k : Int, D.atKey (.int .i64 k) (.lit (.bool false)) = .lit (.bool (f k))
theorem MapB.made (w : World) : MapB (w.alloc (.map #[] 0)) w.heap.size 0 (fun _ => false) :=
  ⟨.map [], World.ownsMap_made _ _ _ _, fun k => rfl⟩
theorem MapB.lt {W : World} {b n : Nat} {f : Int → Bool} (h : MapB W b n f) : b < W.heap.size := by
  obtain ⟨D, h, _⟩ := h
  exact h.lt
theorem MapB.kept {W W' : World} {b n : Nat} {f : Int → Bool} {row : Option Nat} (h : MapB W b n f) (hg : W.grownBy W' row) (hne : some b ≠ row) : MapB W' b n f := by
  obtain ⟨D, h, hf⟩ := h
  exact ⟨D, h.kept hg hne, hf⟩
theorem MapB.later {W W' : World} {b n : Nat} {f : Int → Bool} (h : MapB W b n f) (hb : Below W.heap.size W W') : MapB W' b n f := h.kept (row := none) (grown_below hb) (by simp)
theorem plain_bool_inv {P : Program} {e : TypeId} (he : P.underlying e = some .bool) {v : Value} {x : Bool} {ps : List MemPlace} (h : plainElem (H := Nat) P e v = some (.lit (.bool x), ps)) : v = .bool x := by
  unfold plainElem at h
  rw [he] at h
  cases v <;> simp at h
  rw [h.1]
theorem wfI {k : Int} (h1 : -9223372036854775808 ≤ k) (h2 : k ≤ 9223372036854775807) : (Lit.int .i64 k).wf = true := WalkArith.wf_i64 (by omega)
theorem MapB.look {W : World} {b n : Nat} {f : Int → Bool} (h : MapB W b n f) (k : Int) (h1 : -9223372036854775808 ≤ k) (h2 : k ≤ 9223372036854775807) :
    (Instr.lookup 122 (.map (some b)) (.int .i64 k) false).run Try.prog W = .ok (.bool (f k)) W := by
  obtain ⟨D, h, hf⟩ := h
  obtain ⟨v, ps, hrun, hv⟩ := h.lookup keyInt Try.underlying122 (zeroBool W) (plainElem_bool Try.underlying4 false) (keyOf_int_mk Try.underlying3 (wfI h1 h2))
  rw [hf k] at hv
  rw [plain_bool_inv Try.underlying4 hv] at hrun
  exact hrun
theorem intKey_ne {j k : Int} (h : j ≠ k) : (Lit.int .i64 j) ≠ Lit.int .i64 k := fun e => by injection e with _ e; exact h e
theorem MapB.upd {W : World} {b n : Nat} {f : Int → Bool} (h : MapB W b n f) (hn : n < maxLen) (k : Int) (h1 : -9223372036854775808 ≤ k) (h2 : k ≤ 9223372036854775807) (x : Bool) :
    ∃ W', (Instr.mapUpdate 122 (.map (some b)) (.int .i64 k) (.bool x)).run Try.prog W = .ok () W' ∧ MapB W' b (n + 1) (fun j => if j = k then x else f j) ∧ W.grownBy W' (some b) := by
  obtain ⟨D, h, hf⟩ := h
  obtain ⟨W', hrun, h', hg⟩ := h.update keyInt Try.underlying122 hn (keyOf_int_mk Try.underlying3 (wfI h1 h2)) (plainElem_bool Try.underlying4 x)
  refine ⟨W', hrun, ⟨_, h', fun j => ?_⟩, hg⟩
  show _ = DataW.lit (.bool (if j = k then x else f j))
  by_cases hj : j = k
  · subst hj
    rw [if_pos rfl]
    exact atKey_put_same h.isMap (by simp [WideAt.IsKeyLit]) _ _
  · rw [if_neg hj, atKey_put_other (intKey_ne hj)]
    exact hf j
theorem wpList_upd_b {W : World} {ops : Array Oper} {rest : List Oper} {o : Oper} {a : Act} {Q : Exit → Act → World → Prop} (hg : o.guard = none) (m x v : Operand) (hop : o.op = Op.mapUpdate 122 m x v)
    {b n : Nat} {f : Int → Bool} (h : MapB W b n f) (hn : n < maxLen) (k : Int) (h1 : -9223372036854775808 ≤ k) (h2 : k ≤ 9223372036854775807) (y : Bool) (hm : a.eval m = .map (some b)) (hx : a.eval x = .int .i64 k) (hv : a.eval v = .bool y)
    (hK : ∀ W', MapB W' b (n + 1) (fun j => if j = k then y else f j) → W.grownBy W' (some b) → wpList Try.prog ops Q rest (a.put o.dst undef) W') : wpList Try.prog ops Q (o :: rest) a W := by
  refine wpList_plain hg fun K' hK' => ?_
  obtain ⟨w', hrun, r1, r2⟩ := h.upd hn k h1 h2 y
  unfold Oper.wp
  simp [execOp, hop, hm, hx, hv, hrun, Result.andThen]
  exact hK' _ _ (hK w' r1 r2)
end Go.Proofs.Ytjihnnbpfdhceaa
