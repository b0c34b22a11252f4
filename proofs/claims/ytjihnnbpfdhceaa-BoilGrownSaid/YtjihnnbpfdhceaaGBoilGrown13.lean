/- A region that draws its order, walked by a plan: some operations are taken first (they yield the same in every world that meets S), the others come in the one order that is left; behind each of these S is shown anew. Conditions: none beyond those that each theorem names. -/
import Derived.Test.YtjihnnbpfdhceaaGBoilGrown6
import Derived.OrdersHeld
import Derived.Deep.RegionHeld
import Derived.Deep.MidRow
set_option linter.unusedSimpArgs false
set_option linter.unusedVariables false
namespace Go.Proofs.Ytjihnnbpfdhceaa
open Go.RowKit

section
variable {P : Program} {ops : Array Oper} {Q : Exit → Act → World → Prop} {md : Region.Mode} {S : World → Prop}

def planB (md : Region.Mode) (ops : Array Oper) : List (Nat × Bool) → Array Bool → Bool
  | [], listed => (Region.ready md ops listed).isEmpty
  | (i, true) :: pl, listed => Region.free md ops listed i && ((Region.ready md ops listed).contains i && planB md ops pl (listed.setIfInBounds i true))
  | (i, false) :: pl, listed => (Region.ready md ops listed == [i]) && planB md ops pl (listed.setIfInBounds i true)
def planAll (md : Region.Mode) (ops : Array Oper) (pl : List (Nat × Bool)) : Bool :=
  Region.noSelect ops && ((pl.length == ops.size) && planB md ops pl (Array.replicate ops.size false))

def wpPlan (P : Program) (ops : Array Oper) (Q : Exit → Act → World → Prop) (S : World → Prop) : List (Nat × Bool) → Act → World → Prop
  | [], a, w => Q .normal a w
  | (i, true) :: pl, a, w => ∃ oi v, ops[i]? = some oi ∧ YieldsIf P ops S oi v a ∧ wpPlan P ops Q S pl (a.put oi.dst v) w
  | (i, false) :: pl, a, w => wpOp P ops Q i (fun a' w' => S w' ∧ wpPlan P ops Q S pl a' w') a w

theorem wpAnyH_of_plan (hs : Region.noSelect ops = true) (hQ : ∀ c (a : Act) (d : Tmp) (v : Value) w, Q (.panic c) (a.put (some d) v) w → Q (.panic c) a w) (pl : List (Nat × Bool)) :
    ∀ (listed : Array Bool) (a : Act) (w : World), planB md ops pl listed = true → S w → wpPlan P ops Q S pl a w → wpAnyH P md ops Q S pl.length listed a w := by
  induction pl with
  | nil =>
    intro listed a w hB hS h
    exact wpAnyH_done (by simpa [planB] using hB) h 0
  | cons x pl ih =>
    intro listed a w hB hS h
    obtain ⟨i, b⟩ := x
    cases b
    · simp only [planB, Bool.and_eq_true, beq_iff_eq] at hB
      refine wpAnyH_all hB.1 (by simp) ?_
      intro j hj
      rw [List.mem_singleton.1 hj]
      exact wpOp_mono (fun a' w' h' => ⟨h'.1, ih _ a' w' hB.2 h'.1 h'.2⟩) h
    · simp only [planB, Bool.and_eq_true] at hB
      obtain ⟨oi, v, hi, hy, h'⟩ := h
      exact wpAnyH_take hi hs hB.1 hB.2.1 (fun c a w => (match oi.dst with | none => fun h => h | some d => hQ c a d v w)) hy hS (ih _ _ w hB.2.2 hS h')

theorem wp_region_plan (S : World → Prop) (pl : List (Nat × Bool)) {id : Nat} {a : Act} {w : World} (hm : P.follows .mixedOrders = true) (hB : planAll .any ops pl = true)
    (hQ : ∀ c (a : Act) (d : Tmp) (v : Value) w, Q (.panic c) (a.put (some d) v) w → Q (.panic c) a w) (hS : S w.drew) (h : S w.drew → wpPlan P ops Q S pl a w.drew) : (Code.region id ops true).wp P Q a w := by
  simp only [planAll, Bool.and_eq_true, beq_iff_eq] at hB
  refine wp_region_held_drew (S := S) hm hS fun hS => ?_
  rw [← hB.2.1]
  have := wpAnyH_of_plan (md := .any) hB.1 hQ pl _ a w.drew hB.2.2 hS (h hS)
  rw [hB.2.1] at this ⊢
  exact this

theorem wpPlan_take {i : Nat} {pl : List (Nat × Bool)} {a : Act} {w : World} {oi : Oper} (v : Value) (hi : ops[i]? = some oi) (hw : Region.wanted oi (yielded ops a.tmps) = true) (hr : ∀ w, S w → (execOp a.eval oi).run P w = .ok (.value v) w)
    (h : wpPlan P ops Q S pl (a.put oi.dst v) w) : wpPlan P ops Q S ((i, true) :: pl) a w := ⟨oi, v, hi, .inl ⟨hw, hr⟩, h⟩
theorem wpPlan_row {i : Nat} {pl : List (Nat × Bool)} {a : Act} {w : World} {op : Oper} (hi : ops[i]? = some op) (hw : Region.wanted op (yielded ops a.tmps) = true) (ty : TypeId) (x : Operand) (ho : op.op = .load ty x)
    (g : Nat) (hx : a.eval x = .pointer (some ⟨g, 0, none⟩)) (t : TypeId) (cs : Array Value) (fr : Nat × Nat) (d : TypeDesc) (hg : ∀ w, S w → w.heap[g]? = some (.cells cs t fr))
    (hu : P.underlying ty = some d) (hd : (match d with | .struct _ | .array _ _ => true | _ => false) = true) (hi' : (P.info? ty).map (·.size) = some cs.size)
    (h : wpPlan P ops Q S pl (a.put op.dst (.agg cs)) w) : wpPlan P ops Q S ((i, true) :: pl) a w :=
  ⟨op, .agg cs, hi, .inl ⟨hw, fun w hw' => by
    unfold execOp
    simp only [ho, hx, Instr.loadAt, Instr.sureAddr, Sem.run_bind, Sem.run_pure, Result.andThen_ok, run_loadVar_row w g t ty cs fr d (hg w hw') hu hd hi']⟩, h⟩
theorem wpPlan_skip {i : Nat} {pl : List (Nat × Bool)} {a : Act} {w : World} {oi : Oper} (hi : ops[i]? = some oi) (hw : Region.wanted oi (yielded ops a.tmps) = false)
    (h : wpPlan P ops Q S pl (a.put oi.dst undef) w) : wpPlan P ops Q S ((i, true) :: pl) a w := ⟨oi, undef, hi, .inr ⟨hw, rfl⟩, h⟩
theorem wpPlan_step {i : Nat} {pl : List (Nat × Bool)} {a : Act} {w : World} {o : Oper} (ho : ops[i]? = some o)
    (h : ∀ K' : Act → World → Prop, Shut (∀ a w, S w → (S w → wpPlan P ops Q S pl a w) → K' a w) → if Region.wanted o (yielded ops a.tmps) = true then Oper.wp P o a w K' Q else K' (a.put o.dst undef) w) : wpPlan P ops Q S ((i, false) :: pl) a w :=
  wpOp_step ho (fun K' hK => h K' (fun a w hS hW => hK a w ⟨hS, hW hS⟩))
theorem wpPlan_end {a : Act} {w : World} (h : Q .normal a w) : wpPlan P ops Q S [] a w := h
end
end Go.Proofs.Ytjihnnbpfdhceaa

/- As R3, where two operations may come in either order. Conditions: none beyond those that each theorem names. -/
set_option linter.unusedSimpArgs false
set_option linter.unusedVariables false
namespace Go.Proofs.Ytjihnnbpfdhceaa
open Go.RowKit

inductive Plan where
  | nil
  | take (i : Nat) (p : Plan)
  | step (i : Nat) (p : Plan)
  | alt (i : Nat) (p : Plan) (j : Nat) (q : Plan)
def Plan.len : Plan → Nat
  | .nil => 0
  | .take _ p => p.len + 1
  | .step _ p => p.len + 1
  | .alt _ p _ _ => p.len + 1

section
variable {P : Program} {ops : Array Oper} {Q : Exit → Act → World → Prop} {md : Region.Mode} {S : World → Prop}
def Plan.okB (md : Region.Mode) (ops : Array Oper) : Plan → Array Bool → Bool
  | .nil, listed => (Region.ready md ops listed).isEmpty
  | .take i p, listed => Region.free md ops listed i && ((Region.ready md ops listed).contains i && p.okB md ops (listed.setIfInBounds i true))
  | .step i p, listed => (Region.ready md ops listed == [i]) && p.okB md ops (listed.setIfInBounds i true)
  | .alt i p j q, listed => (Region.ready md ops listed == [i, j]) && ((p.len == q.len) && (p.okB md ops (listed.setIfInBounds i true) && q.okB md ops (listed.setIfInBounds j true)))
def Plan.allB (md : Region.Mode) (ops : Array Oper) (pl : Plan) : Bool :=
  Region.noSelect ops && ((pl.len == ops.size) && pl.okB md ops (Array.replicate ops.size false))

def wpTree (P : Program) (ops : Array Oper) (Q : Exit → Act → World → Prop) (S : World → Prop) : Plan → Act → World → Prop
  | .nil, a, w => Q .normal a w
  | .take i pl, a, w => ∃ oi v, ops[i]? = some oi ∧ YieldsIf P ops S oi v a ∧ wpTree P ops Q S pl (a.put oi.dst v) w
  | .step i pl, a, w => wpOp P ops Q i (fun a' w' => S w' ∧ wpTree P ops Q S pl a' w') a w
  | .alt i p j q, a, w => wpOp P ops Q i (fun a' w' => S w' ∧ wpTree P ops Q S p a' w') a w ∧ wpOp P ops Q j (fun a' w' => S w' ∧ wpTree P ops Q S q a' w') a w

theorem wpAnyH_of_tree (hs : Region.noSelect ops = true) (hQ : ∀ c (a : Act) (d : Tmp) (v : Value) w, Q (.panic c) (a.put (some d) v) w → Q (.panic c) a w) (pl : Plan) :
    ∀ (listed : Array Bool) (a : Act) (w : World), pl.okB md ops listed = true → S w → wpTree P ops Q S pl a w → wpAnyH P md ops Q S pl.len listed a w := by
  induction pl with
  | nil =>
    intro listed a w hB hS h
    exact wpAnyH_done (by simpa [Plan.okB] using hB) h 0
  | take i pl ih =>
    intro listed a w hB hS h
    simp only [Plan.okB, Bool.and_eq_true] at hB
    obtain ⟨oi, v, hi, hy, h'⟩ := h
    exact wpAnyH_take hi hs hB.1 hB.2.1 (fun c a w => (match oi.dst with | none => fun h => h | some d => hQ c a d v w)) hy hS (ih _ _ w hB.2.2 hS h')
  | step i pl ih =>
    intro listed a w hB hS h
    simp only [Plan.okB, Bool.and_eq_true, beq_iff_eq] at hB
    refine wpAnyH_all hB.1 (by simp) ?_
    intro j hj
    rw [List.mem_singleton.1 hj]
    exact wpOp_mono (fun a' w' h' => ⟨h'.1, ih _ a' w' hB.2 h'.1 h'.2⟩) h
  | alt i p j q ihp ihq =>
    intro listed a w hB hS h
    simp only [Plan.okB, Bool.and_eq_true, beq_iff_eq] at hB
    refine wpAnyH_all hB.1 (by simp) ?_
    intro k hk
    rcases List.mem_cons.1 hk with rfl | hk
    · exact wpOp_mono (fun a' w' h' => ⟨h'.1, ihp _ a' w' hB.2.2.1 h'.1 h'.2⟩) h.1
    · rw [List.mem_singleton.1 hk]
      refine wpOp_mono (fun a' w' h' => ⟨h'.1, ?_⟩) h.2
      have := ihq _ a' w' hB.2.2.2 h'.1 h'.2
      rwa [← hB.2.1] at this

theorem wp_region_tree (S : World → Prop) (pl : Plan) {id : Nat} {a : Act} {w : World} (hm : P.follows .mixedOrders = true) (hB : pl.allB .any ops = true)
    (hQ : ∀ c (a : Act) (d : Tmp) (v : Value) w, Q (.panic c) (a.put (some d) v) w → Q (.panic c) a w) (hS : S w.drew) (h : S w.drew → wpTree P ops Q S pl a w.drew) : (Code.region id ops true).wp P Q a w := by
  simp only [Plan.allB, Bool.and_eq_true, beq_iff_eq] at hB
  refine wp_region_held_drew (S := S) hm hS fun hS => ?_
  have := wpAnyH_of_tree (md := .any) hB.1 hQ pl _ a w.drew hB.2.2 hS (h hS)
  rw [hB.2.1] at this
  exact this

theorem wpTree_take {i : Nat} {pl : Plan} {a : Act} {w : World} {oi : Oper} (v : Value) (hi : ops[i]? = some oi) (hw : Region.wanted oi (yielded ops a.tmps) = true) (hr : ∀ w, S w → (execOp a.eval oi).run P w = .ok (.value v) w)
    (h : wpTree P ops Q S pl (a.put oi.dst v) w) : wpTree P ops Q S (.take i pl) a w := ⟨oi, v, hi, .inl ⟨hw, hr⟩, h⟩
theorem wpTree_row {i : Nat} {pl : Plan} {a : Act} {w : World} {op : Oper} (hi : ops[i]? = some op) (hw : Region.wanted op (yielded ops a.tmps) = true) (ty : TypeId) (x : Operand) (ho : op.op = .load ty x)
    (g : Nat) (hx : a.eval x = .pointer (some ⟨g, 0, none⟩)) (t : TypeId) (cs : Array Value) (fr : Nat × Nat) (d : TypeDesc) (hg : ∀ w, S w → w.heap[g]? = some (.cells cs t fr))
    (hu : P.underlying ty = some d) (hd : (match d with | .struct _ | .array _ _ => true | _ => false) = true) (hi' : (P.info? ty).map (·.size) = some cs.size)
    (h : wpTree P ops Q S pl (a.put op.dst (.agg cs)) w) : wpTree P ops Q S (.take i pl) a w :=
  ⟨op, .agg cs, hi, .inl ⟨hw, fun w hw' => by
    unfold execOp
    simp only [ho, hx, Instr.loadAt, Instr.sureAddr, Sem.run_bind, Sem.run_pure, Result.andThen_ok, run_loadVar_row w g t ty cs fr d (hg w hw') hu hd hi']⟩, h⟩
theorem wpTree_step {i : Nat} {pl : Plan} {a : Act} {w : World} {o : Oper} (ho : ops[i]? = some o)
    (h : ∀ K' : Act → World → Prop, Shut (∀ a w, S w → (S w → wpTree P ops Q S pl a w) → K' a w) → if Region.wanted o (yielded ops a.tmps) = true then Oper.wp P o a w K' Q else K' (a.put o.dst undef) w) : wpTree P ops Q S (.step i pl) a w :=
  wpOp_step ho (fun K' hK => h K' (fun a w hS hW => hK a w ⟨hS, hW hS⟩))
theorem wpTree_alt {i j : Nat} {p q : Plan} {a : Act} {w : World} (h1 : wpTree P ops Q S (.step i p) a w) (h2 : wpTree P ops Q S (.step j q) a w) : wpTree P ops Q S (.alt i p j q) a w := ⟨h1, h2⟩
theorem wpTree_end {a : Act} {w : World} (h : Q .normal a w) : wpTree P ops Q S .nil a w := h
end
end Go.Proofs.Ytjihnnbpfdhceaa
