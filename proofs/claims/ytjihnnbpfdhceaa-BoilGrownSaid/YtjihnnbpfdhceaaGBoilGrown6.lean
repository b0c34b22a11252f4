/- Loops over iterators: regions that draw their order inside a round; a function's marks at its end; iterators that read known blocks. Conditions: none beyond those that each theorem names. -/
import Derived.Test.YtjihnnbpfdhceaaGBoilGrown3
import Derived.RangeFuncNested
import Derived.RangeFuncBound
import Derived.RangeFuncCalls
import Derived.RangeFuncLeaves
import Derived.Shelf.Abstract
import Derived.OwnWalkIn
import Derived.TacticsInMore
import Derived.LoopNIn
import Derived.LoopIn
set_option linter.unusedSimpArgs false
set_option linter.unusedVariables false
namespace Go.Proofs.Ytjihnnbpfdhceaa
open Go.RowKit

/-- A fence that shuts out nothing. -/
structure Open (P : Program) (F : Fence) : Prop where
  fn : ∀ f, F.fn f
  depth : F.depth = none
  calls : ∀ (n : Nat) (f : FuncId) (args : Array Value) (w : World) (R : Ending → World → Prop), Calls P f args w R → CallsIn F n P f args w R
theorem open_wide (P : Program) : Open P Fence.wide := ⟨fun _ => trivial, rfl, fun _ _ _ _ _ h => callsIn_wide.2 h⟩
theorem open_round (P : Program) (l : Nat) : Open P (Fence.wide.inRound l) := ⟨fun _ => trivial, rfl, fun _ _ _ _ _ h => CallsIn.inRound l (callsIn_wide.2 h)⟩

def noDefer (ops : Array Oper) : Bool := ops.all fun o => match o.op with | .defer _ => false | _ => true
theorem noDefer_spec {ops : Array Oper} (h : noDefer ops = true) {i : Nat} {o : Oper} (hi : ops[i]? = some o) : ∀ c, o.op ≠ .defer c := by
  intro c hc
  have := Array.all_eq_true.1 h i (Array.getElem?_eq_some_iff.1 hi).1
  rw [(Array.getElem?_eq_some_iff.1 hi).2, hc] at this
  simp at this

section
variable {F : Fence} {n : Nat} {P : Program} {ops : Array Oper} {md : Region.Mode} {C : World → Prop}

theorem wpIn_of_quiet (hF : Open P F) {o : Oper} (hnd : ∀ c, o.op ≠ .defer c) {a : Act} {K : Act → Prop} {K' : Act → World → Prop} {Q' : Exit → Act → World → Prop} {w : World} (hw : C w) (h : ∀ a w', C w' → K a → K' a w') (hh : o.quiet P a C K) : o.wpIn F n P a w K' Q' := by
  obtain ⟨v, h1, h2⟩ := hh
  have h3 := h1 w hw
  unfold Oper.quietAt at h3
  unfold Oper.wpIn
  refine ⟨fun f _ => hF.fn f, ?_⟩
  rw [Oper.semAt_eq _ _ _ hnd]
  generalize (execOp a.eval o).run P w = r at *
  cases r with
  | ok x w' =>
    cases x <;> simp only [Oper.quietUpon] at h3 <;> simp only [Oper.uponIn]
    case value u =>
      obtain ⟨e1, e2⟩ := h3
      rw [e1, e2]
      exact h _ _ hw h2
    case skip =>
      obtain ⟨e1, e2⟩ := h3
      rw [e1, ← e2]
      exact h _ _ hw h2
    case enter f args =>
      obtain ⟨e1, hc⟩ := h3
      rw [e1]
      exact ⟨(fun hd => by rw [hF.depth] at hd; cases hd), hF.calls _ _ _ _ _ (hc.mono fun e w'' ⟨he, hw''⟩ => by subst he; exact h _ _ hw'' h2)⟩
  | halt x w' => simp only [Oper.quietUpon] at h3

theorem wpOpIn_of_qOp (hF : Open P F) (hnd : noDefer ops = true) {i : Nat} {a : Act} {K : Act → Prop} {K' : Act → World → Prop} {Q' : Exit → Act → World → Prop} {w : World} (hC : C w) (h : ∀ a w', C w' → K a → K' a w') (hh : qOp P ops C i K a) : wpOpIn F n P ops Q' i K' a w := by
  unfold qOp at hh
  unfold wpOpIn
  split
  · rename_i ho; simp only [ho] at hh; exact h _ _ hC hh
  · rename_i o ho
    simp only [ho] at hh
    split
    · rename_i hw; simp only [hw, if_true] at hh; exact wpIn_of_quiet hF (noDefer_spec hnd ho) hC h hh
    · rename_i hw; simp only [hw] at hh; exact ⟨fun f _ => hF.fn f, h _ _ hC hh⟩

theorem wpAnyIn_of_wpHead (hF : Open P F) (hnd : noDefer ops = true) {m g : Nat} {L : Array Bool → Act → Prop} {Q' : Exit → Act → World → Prop} (hL : ∀ listed a w, C w → L listed a → wpAnyIn F n P md ops Q' g listed a w) (f : Nat) :
    ∀ (listed : Array Bool) (a : Act) (w : World), C w → wpHead P md ops C m L f listed a → wpAnyIn F n P md ops Q' (f + g) listed a w := by
  induction f with
  | zero => intro listed a w hw h; rw [Nat.zero_add]; exact hL _ _ _ hw h
  | succ f ih =>
    intro listed a w hw h
    rw [show f + 1 + g = (f + g) + 1 by omega]
    exact ⟨fun h0 => absurd h0 h.1, fun i hi => wpOpIn_of_qOp hF hnd hw (fun a' w' hw' h' => ih _ a' w' hw' h') (h.2 i hi).2⟩

theorem wpAnyIn_of_seq (hF : Open P F) {Q' : Exit → Act → World → Prop} (l : List Oper) : ∀ (k : Nat) (listed : Array Bool) (a : Act) (w : World), (∀ j, l[j]? = ops[k + j]?) →
    Region.seqB md ops l.length k listed = true → wpListIn F n P ops Q' l a w → wpAnyIn F n P md ops Q' l.length listed a w := by
  induction l with
  | nil => intro k listed a w _ hB h; exact ⟨by simpa [Region.seqB] using hB, h⟩
  | cons o l ih =>
    intro k listed a w hl hB h
    have h0 : ops[k]? = some o := by simpa using (hl 0).symm
    simp only [List.length_cons, Region.seqB, Bool.and_eq_true, decide_eq_true_eq] at hB
    refine ⟨fun h1 => (by rw [hB.1] at h1; cases h1), fun i hi => ?_⟩
    rw [hB.1] at hi
    have hik : i = k := by simpa using hi
    subst hik
    have hw : wpOpIn F n P ops Q' i (wpListIn F n P ops Q' l) a w := by
      unfold wpOpIn
      simp only [h0]
      exact h
    exact wpOpIn_mono (fun a' w' h' => ih (i + 1) _ a' w' (fun j => by have := hl (j + 1); simpa [Nat.add_assoc, Nat.add_comm 1 j] using this) hB.2 h') hw

/-- As wp_region_tail, within a fence that shuts out nothing (a round of a loop over an iterator). -/
theorem wpIn_region_tail (hF : Open P F) {id : Nat} {Q : Exit → Act → World → Prop} {a : Act} {w : World} {l : List Oper} (m : Nat) (hm : P.follows .mixedOrders = true) (hnd : noDefer l.toArray = true) (hB : Region.lexTailB .any l.toArray m = true) (hC : C { w with drawn := w.drawn + 1 })
    (h : wpQuiet P l.toArray C (fun a' => ∀ w', C w' → wpListIn F n P l.toArray Q (l.drop m) a' w') (l.take m) a) : (Code.region id l.toArray true).wpIn F n P Q a w := by
  simp only [Region.lexTailB, Bool.and_eq_true, decide_eq_true_eq] at hB
  obtain ⟨⟨⟨⟨hsel, hn⟩, hs⟩, hc⟩, hlex⟩ := hB
  have hn' : m < l.length := by simpa using hn
  have htl : (l.take m).length = m := by simp; omega
  have hdl : (l.drop m).length = l.toArray.size - m := by simp
  have inv0 : HeadInv .any l.toArray m (Array.replicate l.toArray.size false) :=
    ⟨by simp, fun j oj _ hl => (by rw [getD_replicate_false] at hl; cases hl), fun t _ ht => getD_in (by simpa using ht) (getD_replicate_false _ _)⟩
  have H := wpHead_lex (C := C) (md := .any) (g := l.toArray.size - m) hsel hs hc hn (l.take m) 0 _ a (fun j hj => by
    have hj' : j < m := by rw [htl] at hj; exact hj
    simp [hj']) (by simpa using htl) inv0 (by rw [htl]; exact hlex) h
  refine wpIn_region_any hm ?_
  have := wpAnyIn_of_wpHead (n := n) hF hnd (Q' := Q) (g := l.toArray.size - m) (fun listed a' w' hw' hL => by
    have := wpAnyIn_of_seq (n := n) (md := .any) hF (Q' := Q) (l.drop m) m listed a' w' (fun j => by simp [List.getElem?_drop]) (by rw [hdl]; exact hL.1) (hL.2 w' hw')
    rwa [hdl] at this) _ _ _ _ hC H
  rw [htl, show m + (l.toArray.size - m) = l.toArray.size by omega] at this
  exact this

theorem wpAnyIn_of_quiet (hF : Open P F) (hnd : noDefer ops = true) {Q : Act → Prop} {Q' : Exit → Act → World → Prop} (hQ : ∀ a w, C w → Q a → Q' .normal a w) (fuel : Nat) : ∀ (listed : Array Bool) (a : Act) (w : World), C w →
    wpAnyQ P md ops C Q fuel listed a → wpAnyIn F n P md ops Q' fuel listed a w := by
  induction fuel with
  | zero => intro _ _ _ hw h; exact ⟨h.1, hQ _ _ hw h.2⟩
  | succ fuel ih => intro _ _ _ hw h; exact ⟨fun h0 => hQ _ _ hw (h.1 h0), fun i hi => wpOpIn_of_qOp hF hnd hw (fun a' w' hw' h' => ih _ a' w' hw' h') (h.2 i hi)⟩

/-- As wp_region_quiet, within a fence that shuts out nothing. -/
theorem wpIn_region_quiet (hF : Open P F) {id : Nat} {Q : Exit → Act → World → Prop} {a : Act} {w : World} (hm : P.follows .mixedOrders = true) (hnd : noDefer ops = true) (hB : Region.lexB .any ops = true) (hC : C { w with drawn := w.drawn + 1 })
    (h : wpQuiet P ops C (fun a' => ∀ w', C w' → Q .normal a' w') ops.toList a) : (Code.region id ops true).wpIn F n P Q a w := by
  simp only [Region.lexB, Bool.and_eq_true] at hB
  refine wpIn_region_any hm (wpAnyIn_of_quiet hF hnd (Q := fun a' => ∀ w', C w' → Q .normal a' w') (fun _ w' hw' h => h w' hw') _ _ _ _ hC ?_)
  have := wpAnyQ_lex (C := C) (md := .any) hB.1 ops.toList 0 (Array.replicate ops.size false) a (by simp) (by simpa using hB.2) h
  simpa using this
end

theorem wpIn_region_later_tail {F : Fence} {n : Nat} {P : Program} (hF : Open P F) {id : Nat} {Q : Exit → Act → World → Prop} {a : Act} {w : World} {l : List Oper} (m : Nat) (hm : P.follows .mixedOrders = true) (hnd : noDefer l.toArray = true) (hB : Region.lexTailB .any l.toArray m = true)
    (h : wpQuiet P l.toArray (fun w' => ∃ u : Later w, w' = u.w) (fun a' => ∀ u : Later w, wpListIn F n P l.toArray Q (l.drop m) a' u.w) (l.take m) a) : (Code.region id l.toArray true).wpIn F n P Q a w := by
  refine wpIn_region_tail (C := fun w' => ∃ u : Later w, w' = u.w) hF m hm hnd hB ⟨⟨w.drew, (Below.refl _ _).drew⟩, rfl⟩ ?_
  have : (fun a' => ∀ w', (∃ u : Later w, w' = u.w) → wpListIn F n P l.toArray Q (l.drop m) a' w') = (fun a' => ∀ u : Later w, wpListIn F n P l.toArray Q (l.drop m) a' u.w) := by
    funext a'; apply propext; exact ⟨fun h u => h _ ⟨u, rfl⟩, fun h w' ⟨u, hu⟩ => by rw [hu]; exact h u⟩
  rw [this]
  exact h
theorem wpIn_region_later {F : Fence} {n : Nat} {P : Program} (hF : Open P F) {id : Nat} {Q : Exit → Act → World → Prop} {a : Act} {w : World} {l : List Oper} (hm : P.follows .mixedOrders = true) (hnd : noDefer l.toArray = true) (hB : Region.lexB .any l.toArray = true)
    (h : wpQuiet P l.toArray (fun w' => ∃ u : Later w, w' = u.w) (fun a' => ∀ u : Later w, Q .normal a' u.w) l a) : (Code.region id l.toArray true).wpIn F n P Q a w := by
  refine wpIn_region_quiet (C := fun w' => ∃ u : Later w, w' = u.w) hF hm hnd hB ⟨⟨w.drew, (Below.refl _ _).drew⟩, rfl⟩ ?_
  have : (fun a' => ∀ w', (∃ u : Later w, w' = u.w) → Q .normal a' w') = (fun a' => ∀ u : Later w, Q .normal a' u.w) := by
    funext a'; apply propext; exact ⟨fun h u => h _ ⟨u, rfl⟩, fun h w' ⟨u, hu⟩ => by rw [hu]; exact h u⟩
  rw [this]
  simpa using h

/-! ### A function's marks at its end -/

def mark (D : Nat) : Deferred := { target := .collected D, args := #[] }
/-- The worlds differ at the blocks of a list alone. -/
structure ButAt (Ds : List Nat) (w w' : World) : Prop where
  os : w'.os = w.os
  tape : w'.tape = w.tape
  output : w'.output = w.output
  size : w'.heap.size = w.heap.size
  block : ∀ k, k ∉ Ds → w'.heap[k]? = w.heap[k]?

theorem ButAt.below {Ds : List Nat} {B : Nat} {w0 w w' : World} (h : ButAt Ds w w') (hb : Below B w0 w) (hD : ∀ D ∈ Ds, B ≤ D) : Below B w0 w' :=
  hb.trans ⟨h.os, h.tape, h.output, by rw [h.size]; exact Nat.le_refl _, fun k hk => h.block k (fun hm => by have := hD k hm; omega)⟩

theorem leaves_marks {F : Fence} {n : Nat} {P : Program} {fn : Func} {tmps : Array Value} {R : Ending → World → Prop} (Ds : List Nat) :
    ∀ (w : World), Ds.Nodup → (∀ D ∈ Ds, w.heap[D]? = some (.deferred (some []))) →
    (∀ w', ButAt Ds w w' → ∃ v, (results fn tmps).run P w' = .ok v w' ∧ R (.returned v) w') → LeavesInM F n P fn tmps R (Ds.map mark) .returning w := by
  induction Ds with
  | nil => intro w _ _ h; exact h w ⟨rfl, rfl, rfl, rfl, fun _ _ => rfl⟩
  | cons D Ds ih =>
    intro w hnd ho h
    obtain ⟨hD, hnd⟩ := List.nodup_cons.1 hnd
    refine ⟨by simp, .inl ⟨D, _, rfl, run_takeDeferred (ho D (by simp)), ih _ hnd ?_ ?_⟩⟩
    · intro D' hD'
      rw [World.putObj_heap_other (by rintro rfl; exact hD hD')]
      exact ho D' (by simp [hD'])
    · intro w' hw'
      refine h w' ⟨hw'.os, hw'.tape, hw'.output, by rw [hw'.size]; simp, fun k hk => ?_⟩
      rw [hw'.block k (fun hm => hk (by simp [hm])), World.putObj_heap_other (by rintro rfl; exact hk (by simp))]

/-- The marks of an activation: each block is there, and open. -/
structure Marks (Ds : List Nat) (B : Nat) (w : World) : Prop where
  nodup : Ds.Nodup
  ge : ∀ D ∈ Ds, B ≤ D
  open_ : ∀ D ∈ Ds, w.heap[D]? = some (.deferred (some []))
theorem Marks.nil (B : Nat) (w : World) : Marks [] B w := ⟨List.nodup_nil, fun _ h => by simp at h, fun _ h => by simp at h⟩
theorem Marks.lt {Ds : List Nat} {B : Nat} {w : World} (h : Marks Ds B w) {D : Nat} (hD : D ∈ Ds) : D < w.heap.size := (Array.getElem?_eq_some_iff.1 (h.open_ D hD)).1
theorem Marks.later {Ds : List Nat} {B : Nat} {w w' : World} (h : Marks Ds B w) (hb : Below w.heap.size w w') : Marks Ds B w' :=
  ⟨h.nodup, h.ge, fun D hD => (hb.block D (h.lt hD)).trans (h.open_ D hD)⟩
/-- One mark more, laid behind all that was there. -/
theorem Marks.cons {Ds : List Nat} {B D : Nat} {w w' : World} (h : Marks Ds B w) (hb : ∀ D' ∈ Ds, w'.heap[D']? = w.heap[D']?) (hD : w.heap.size ≤ D) (hB : B ≤ w.heap.size) (hd : w'.heap[D]? = some (.deferred (some []))) : Marks (D :: Ds) B w' :=
  ⟨List.nodup_cons.2 ⟨fun hm => by have := h.lt hm; omega, h.nodup⟩, fun D' hm => (List.mem_cons.1 hm).elim (fun e => by rw [e]; omega) (fun hm => h.ge D' hm),
    fun D' hm => (List.mem_cons.1 hm).elim (fun e => by rw [e]; exact hd) (fun hm => (hb D' hm).trans (h.open_ D' hm))⟩
theorem Marks.leaves {F : Fence} {n : Nat} {P : Program} {fn : Func} {tmps : Array Value} {R : Ending → World → Prop} {Ds : List Nat} {B : Nat} {w : World} (h : Marks Ds B w)
    (hr : ∀ w', ButAt Ds w w' → ∃ v, (results fn tmps).run P w' = .ok v w' ∧ R (.returned v) w') : LeavesInM F n P fn tmps R (Ds.map mark) .returning w := leaves_marks Ds w h.nodup h.open_ hr

theorem ownFrom_grown {α : Type} {W1 : World} {row : Option Nat} : OwnFrom W1.heap.size (fun (_ : α) W => W1.grownBy W row) := fun s A B' r hs hg hr =>
  ⟨hg.os.trans hs.os, hg.tape.trans hs.tape, hg.output.trans hs.output, Nat.le_trans hs.size hg.size, fun k hk hne => (hg.block k (Nat.lt_of_lt_of_le hk hs.size) (fun e => by have := (hr k e.symm).1; omega)).trans (hs.block k hk hne)⟩
theorem ownFrom_blk {α : Type} {B g : Nat} {t : TypeId} {cs : α → Array Value} : OwnFrom B (fun (s : α) W => W.heap[g]? = some (.cells (cs s) t (0, 0))) := fun s A B' r hs hg hr =>
  (hg.block g (Array.getElem?_eq_some_iff.1 hs).1 (fun e => by obtain ⟨_, o, ho, hc⟩ := hr g e.symm; rw [hs] at ho; cases ho; simp [Obj.isCells] at hc)).trans hs
theorem grown_below {W W' : World} {row : Option Nat} (h : Below W.heap.size W W') : W.grownBy W' row := ⟨h.os, h.tape, h.output, h.size, fun k hk _ => h.block k hk⟩
theorem below_grown {W W' : World} (h : W.grownBy W' none) : Below W.heap.size W W' := ⟨h.os, h.tape, h.output, h.size, fun k hk => h.block k hk (by simp)⟩
/-- A step that turns one row, from a world on: what lay below that row's number lies as it lay. -/
theorem Below.grown_row {w W W' : World} {r : Nat} (hb : Below w.heap.size w W) (hg : W.grownBy W' (some r)) (hr : w.heap.size ≤ r) : Below w.heap.size w W' :=
  hb.trans ⟨hg.os, hg.tape, hg.output, hg.size, fun k hk => hg.block k (Nat.lt_of_lt_of_le hk hb.size) (by simp; omega)⟩
theorem Marks.grown {Ds : List Nat} {B : Nat} {w w' : World} {row : Option Nat} (h : Marks Ds B w) (hb : w.grownBy w' row) (hr : ∀ r, row = some r → r ∉ Ds) : Marks Ds B w' :=
  ⟨h.nodup, h.ge, fun D hD => (hb.block D (h.lt hD) (fun e => hr D e.symm hD)).trans (h.open_ D hD)⟩
theorem grown_trans' {a b c : World} {row : Option Nat} (h : a.grownBy b row) (h' : b.grownBy c row) : a.grownBy c row :=
  ⟨h'.os.trans h.os, h'.tape.trans h.tape, h'.output.trans h.output, Nat.le_trans h.size h'.size, fun k hk hne => (h'.block k (Nat.lt_of_lt_of_le hk h.size) hne).trans (h.block k hk hne)⟩
theorem grown_set {a b : World} {r i : Nat} (h : a.grownBy b (some r)) (u : Value) : a.grownBy (b.setCell ⟨r, i, none⟩ u) (some r) :=
  ⟨h.os, h.tape, h.output, by simpa [World.setCell] using h.size, fun k hk hne => (Below.heap_setCell b ⟨r, i, none⟩ u k (by intro e; exact hne (by rw [e]))).trans (h.block k hk hne)⟩

/-! ### Iterators that read known blocks -/

/-- These blocks lie as they lay. -/
def KeepB (K : List Nat) (W W' : World) : Prop := ∀ k ∈ K, W'.heap[k]? = W.heap[k]?
theorem KeepB.t {K : List Nat} {A B C : World} (h : KeepB K A B) (h' : KeepB K B C) : KeepB K A C := fun k hk => (h' k hk).trans (h k hk)
theorem KeepB.b {K : List Nat} {N : Nat} (hK : ∀ k ∈ K, k < N) (W : World) (l : Nat) (o o' : Obj) (hl : N ≤ l) (_ : W.heap[l]? = some o) (_ : o.isCells = false) (_ : o.isWalk = false) : KeepB K W (W.putObj l o') :=
  fun k hk => World.putObj_heap_other (by have := hK k hk; omega)

/-! ### The worlds differ at some known blocks, and above -/
structure Chg (S : List Nat) (W W' : World) : Prop where
  os : W'.os = W.os
  tape : W'.tape = W.tape
  output : W'.output = W.output
  size : W.heap.size ≤ W'.heap.size
  block : ∀ k, k < W.heap.size → k ∉ S → W'.heap[k]? = W.heap[k]?
section
variable {S S' : List Nat} {A B C W W' : World}
theorem Chg.refl (S : List Nat) (W : World) : Chg S W W := ⟨rfl, rfl, rfl, Nat.le_refl _, fun _ _ _ => rfl⟩
theorem Chg.trans (h : Chg S A B) (h' : Chg S B C) : Chg S A C :=
  ⟨h'.os.trans h.os, h'.tape.trans h.tape, h'.output.trans h.output, Nat.le_trans h.size h'.size, fun k hk hn => (h'.block k (Nat.lt_of_lt_of_le hk h.size) hn).trans (h.block k hk hn)⟩
theorem Chg.mono (h : Chg S A B) (hs : ∀ k ∈ S, k < A.heap.size → k ∈ S') : Chg S' A B := ⟨h.os, h.tape, h.output, h.size, fun k hk hn => h.block k hk (fun hm => hn (hs k hm hk))⟩
theorem Chg.of_below (h : Below A.heap.size A B) : Chg S A B := ⟨h.os, h.tape, h.output, h.size, fun k hk _ => h.block k hk⟩
theorem Chg.later (h : Chg S A B) (h' : Below B.heap.size B C) : Chg S A C := h.trans (Chg.of_below h')
theorem Chg.set_ (h : Chg S A B) {p : Addr} (hp : p.block ∈ S ∨ A.heap.size ≤ p.block) (u : Value) : Chg S A (B.setCell p u) :=
  ⟨h.os, h.tape, h.output, by simpa [World.setCell] using h.size, fun k hk hn => (Below.heap_setCell B p u k (by rintro rfl; rcases hp with hp | hp; exact hn hp; omega)).trans (h.block k hk hn)⟩
theorem Chg.alloc (h : Chg S A B) (o : Obj) : Chg S A (B.alloc o) := h.later ((Below.refl _ _).alloc (Nat.le_refl _) _)
/-- What lay below a world that came before, and below all those blocks, lies as it lay. -/
theorem Chg.below {N : Nat} (h : Chg S A B) (hb : Below N W A) (hN : N ≤ A.heap.size) (hS : ∀ k ∈ S, N ≤ k) : Below N W B :=
  hb.trans ⟨h.os, h.tape, h.output, h.size, fun k hk => h.block k (by omega) (fun hm => by have := hS k hm; omega)⟩
theorem Chg.keepB {K : List Nat} (h : Chg S A B) (hK : ∀ k ∈ K, k < A.heap.size ∧ k ∉ S) : KeepB K A B := fun k hk => h.block k (hK k hk).1 (hK k hk).2
theorem Chg.marks {Ds : List Nat} {N : Nat} (h : Chg S A B) (hm : Marks Ds N A) (hS : ∀ D ∈ Ds, D ∉ S) : Marks Ds N B := ⟨hm.nodup, hm.ge, fun D hD => (h.block D (hm.lt hD) (hS D hD)).trans (hm.open_ D hD)⟩
theorem ownFrom_chg {α : Type} : OwnFrom A.heap.size (fun (_ : α) W => Chg S A W) := fun s X Y r hs hg hr =>
  ⟨hg.os.trans hs.os, hg.tape.trans hs.tape, hg.output.trans hs.output, Nat.le_trans hs.size hg.size, fun k hk hne => (hg.block k (Nat.lt_of_lt_of_le hk hs.size) (fun e => by have := (hr k e.symm).1; omega)).trans (hs.block k hk hne)⟩
end
end Go.Proofs.Ytjihnnbpfdhceaa
