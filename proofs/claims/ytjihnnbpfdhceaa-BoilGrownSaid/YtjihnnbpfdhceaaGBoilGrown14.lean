/- The closure of boil.desk.smallest that tells sets of weighings. Conditions: none beyond those that each theorem names. -/
import Derived.Test.YtjihnnbpfdhceaaGBoilGrown12
import Derived.Test.YtjihnnbpfdhceaaGBoilGrown13
import Derived.Deep.RegionHeld3
import Derived.Deep.DrawnRows
import Derived.Deep.MidRow
set_option linter.unusedSimpArgs false
set_option linter.unusedVariables false
namespace Go.Proofs.Ytjihnnbpfdhceaa
open Go.RowKit Go.Shelf
attribute [local go_sem] Oper.semAt_some
attribute [local go_sem ↓] Go.wp_at_zero Go.wp_at_succ

/-- What one append of one value brings. -/
structure App2 (base : Nat) (e : TypeId) (w : World) (v : Value) (n : Nat) (xs : List Value) (x : Value) (v' : Value) (w' : World) : Prop where
  own : w'.ownsRow base e 1 v' (n + 1) (xs ++ [x])
  how : (v'.ownBlock = v.ownBlock ∧ w.grownBy w' v.ownBlock ∧ ∀ W : World, W.ownsRow base e 1 v' (n + 1) (xs ++ [x]) → W.ownsRow base e 1 v n xs) ∨ ((∃ g, v'.ownBlock = some g ∧ w.heap.size ≤ g) ∧ w.grownBy w' none)
theorem App2.grown {base : Nat} {e : TypeId} {w : World} {v : Value} {n : Nat} {xs : List Value} {x v' : Value} {w' : World} (h : App2 base e w v n xs x v' w') : w.grownBy w' v.ownBlock := by
  rcases h.how with ⟨_, h, _⟩ | ⟨_, h⟩
  · exact h
  · exact grown_below (below_grown h)

theorem step_append_two {P : Program} {ops : Array Oper} {o : Oper} {a : Act} {w : World} {K : Act → World → Prop} {Q : Exit → Act → World → Prop} {E : Prop} (hgd : o.guard = none) (s y : Operand) (t : TypeId)
    (ho : o.op = .call { callee := .builtin .append, args := #[s, y], argTypes := #[t, t] })
    (base : Nat) (e : TypeId) (i : TypeInfo) (z : Value) (bytes : Nat) (ht : P.underlying t = some (.slice e)) (hi : P.info? e = some i) (hz : i.zero = some z)
    (hsize : i.size = 1) (hby : i.bytes = bytes) (hzs : z.cells.size = 1)
    (v : Value) (n : Nat) (xs : List Value) (hs : a.eval s = v) (hown : w.ownsRow base e 1 v n xs)
    (ad : Addr) (c : Nat) (x : Value) (hy : a.eval y = .slice (some ad) 1 c) (hx : w.cell? ad = some x) (h1 : x.oneCell' = true)
    (h63 : n + 1 ≤ maxLen) (hbytes : (n + 1) * bytes ≤ 140737488355328) (hbase : base ≤ w.heap.size)
    (h : ∀ v' w', App2 base e w v n xs x v' w' → K (a.put o.dst v') w') :
    if Region.wanted o (yielded ops a.tmps) = true then Oper.wp P o a w K Q else E := by
  have hw : Region.wanted o (yielded ops a.tmps) = true := by simp [Region.wanted, hgd]
  rw [if_pos hw]
  obtain ⟨v', w', hr, h2, h3⟩ := run_append_two (P := P) w base t o.type e i z bytes ht hi hz hsize hby hzs v n xs hown ad c x hx h1 h63 hbytes hbase
  unfold Oper.wp execOp
  simp only [ho, resolve, invoke, builtin, Sem.run_bind, Sem.run_pure, Result.andThen_ok, List.map_toArray, List.map_cons, List.map_nil, hs, hy, hr]
  exact h v' w' ⟨h2, h3⟩

def moreFn (pd pw pm : Nat) : Value := .func (.func 89) #[] #[.pointer (some ⟨pd, 0, none⟩), .pointer (some ⟨pw, 0, none⟩), .pointer (some ⟨pm, 0, none⟩)]
/-- What the closure reads. -/
structure MoreAt (g len c : Nat) (A : Option Addr) (x0 x1 : Value) (M : Nat → Nat → Bool) (pd pw pm : Nat) (wv : Value) (W : World) : Prop where
  desk : Blk W g 134 (deskCells x0 x1 (.slice A len c) M)
  d : Blk W pd 96 #[.pointer (some ⟨g, 0, none⟩)]
  w : Blk W pw 119 #[wv]
  p : Blk W pm 137 #[moreFn pd pw pm]
theorem MoreAt.chg {g len c : Nat} {A : Option Addr} {x0 x1 : Value} {M : Nat → Nat → Bool} {pd pw pm : Nat} {wv : Value} {W W' : World} {S : List Nat} (h : MoreAt g len c A x0 x1 M pd pw pm wv W) (hc : Chg S W W') (hS : ∀ k ∈ S, k ≠ g ∧ k ≠ pd ∧ k ≠ pw ∧ k ≠ pm) : MoreAt g len c A x0 x1 M pd pw pm wv W' :=
  ⟨(hc.block g h.desk.lt (fun hm => (hS _ hm).1 rfl)).trans h.desk, (hc.block pd h.d.lt (fun hm => (hS _ hm).2.1 rfl)).trans h.d,
    (hc.block pw h.w.lt (fun hm => (hS _ hm).2.2.1 rfl)).trans h.w, (hc.block pm h.p.lt (fun hm => (hS _ hm).2.2.2 rfl)).trans h.p⟩
theorem MoreAt.later {g len c : Nat} {A : Option Addr} {x0 x1 : Value} {M : Nat → Nat → Bool} {pd pw pm : Nat} {wv : Value} {W W' : World} (h : MoreAt g len c A x0 x1 M pd pw pm wv W) (hb : Below W.heap.size W W') : MoreAt g len c A x0 x1 M pd pw pm wv W' :=
  h.chg (S := []) (Chg.of_below hb) (by simp)

/-- A watch: what it does with a set that it is told. -/
def WatchOk {σ : Type} (F : FuncId) (cap : Array Value) (wb B : Nat) (wt : TypeId) (cs : σ → Array Value) (step : List Nat → σ → Bool × σ) (Fin : σ → World → Prop) : Prop :=
  ∀ (l : List Nat) (s : σ) (v : Value) (W : World), l.length ≤ 14 → (∀ x ∈ l, x < 14) → Blk W wb wt (cs s) → W.ownsRow B 3 1 v l.length (intsV l) → B ≤ W.heap.size →
    Calls Try.prog F (#[v] ++ cap) W fun e W' => e = .returned (.bool (step l s).1) ∧ Chg [wb] W W' ∧ ((step l s).1 = true → Blk W' wb wt (cs (step l s).2)) ∧ ((step l s).1 = false → Fin (step l s).2 W')

structure MoreOut {σ : Type} (wb B : Nat) (wt : TypeId) (cs : σ → Array Value) (Fin : σ → World → Prop) (v : Value) (l : List Nat) (r : Bool × σ) (W W' : World) : Prop where
  chg : Chg (wb :: v.ownBlock.toList) W W'
  own : W'.ownsRow B 3 1 v l.length (intsV l)
  go : r.1 = true → Blk W' wb wt (cs r.2)
  fin : r.1 = false → Fin r.2 W'

theorem wpQuiet_load_row {P : Program} {ops : Array Oper} {C : World → Prop} {Q : Act → Prop} {rest : List Oper} {o : Oper} {a : Act} (hgd : o.guard = none) (ty : TypeId) (x : Operand) (ho : o.op = .load ty x)
    (g : Nat) (hx : a.eval x = .pointer (some ⟨g, 0, none⟩)) (t : TypeId) (cs : Array Value) (fr : Nat × Nat) (d : TypeDesc) (hg : ∀ w, C w → w.heap[g]? = some (.cells cs t fr))
    (hu : P.underlying ty = some d) (hd : (match d with | .struct _ | .array _ _ => true | _ => false) = true) (hi : (P.info? ty).map (·.size) = some cs.size)
    (h : wpQuiet P ops C Q rest (a.put o.dst (.agg cs))) : wpQuiet P ops C Q (o :: rest) a :=
  wpQuiet_step fun K hK => by
    rw [if_pos (by simp [Region.wanted, hgd])]
    exact ⟨.agg cs, fun w hw => by
      unfold Oper.quietAt execOp
      simp only [ho, hx, Instr.loadAt, Instr.sureAddr, Sem.run_bind, Sem.run_pure, Result.andThen_ok, run_loadVar_row w g t ty cs fr d (hg w hw) hu hd hi]
      exact ⟨rfl, rfl⟩, hK _ h⟩
theorem ownsRow_keep {w w' : World} {base : Nat} {e : TypeId} {size : Nat} {v : Value} {n : Nat} {xs : List Value} (h : w.ownsRow base e size v n xs) (hb : Below w.heap.size w w') : w'.ownsRow base e size v n xs := by
  obtain ⟨h1, h2⟩ := h
  refine ⟨h1, ?_⟩
  rcases h2 with h2 | ⟨g, cap, cur, hv, hg, hh, r⟩
  · exact .inl h2
  · exact .inr ⟨g, cap, cur, hv, hg, (hb.block g (Array.getElem?_eq_some_iff.1 hh).1).trans hh, r⟩
theorem ownsRow_chg {w w' : World} {base : Nat} {e : TypeId} {size : Nat} {v : Value} {n : Nat} {xs : List Value} {S : List Nat} (h : w.ownsRow base e size v n xs) (hb : Chg S w w') (hS : ∀ k ∈ S, k < base) : w'.ownsRow base e size v n xs := by
  obtain ⟨h1, h2⟩ := h
  refine ⟨h1, ?_⟩
  rcases h2 with h2 | ⟨g, cap, cur, hv, hg, hh, r⟩
  · exact .inl h2
  · exact .inr ⟨g, cap, cur, hv, hg, (hb.block g (Array.getElem?_eq_some_iff.1 hh).1 (fun hm => by have := hS g hm; omega)).trans hh, r⟩
theorem row14_sz (r : Nat → Bool) : (row14 r).size = 14 := Array.size_ofFn
theorem row14_list (r : Nat → Bool) : (row14 r).toList.length = 14 := by rw [Array.length_toList]; exact Array.size_ofFn
theorem info_set : (Try.prog.info? 121).map (·.size) = some 14 := by kernel_rfl

def MoreOk {σ : Type} (g len c : Nat) (A : Option Addr) (x0 x1 : Value) (M : Nat → Nat → Bool) (pd pw pm : Nat) (F : FuncId) (cap : Array Value) (wb B : Nat) (wt : TypeId) (cs : σ → Array Value) (step : List Nat → σ → Bool × σ) (Fin : σ → World → Prop) (left : Nat) : Prop :=
  ∀ (l : List Nat) (f : Nat) (s : σ) (v : Value) (W : World) (xa xf xl : Value), xa = .agg (row14 (inL l)) → xf = .int .i64 f → xl = .int .i64 left →
    l.length + left ≤ 14 → (∀ x ∈ l, x < 14) → f ≤ 14 → MoreAt g len c A x0 x1 M pd pw pm (.func (.func F) #[] cap) W → Blk W wb wt (cs s) → W.ownsRow B 3 1 v l.length (intsV l) → B ≤ W.heap.size →
    Calls Try.prog 89 #[xa, v, xf, xl, .pointer (some ⟨pd, 0, none⟩), .pointer (some ⟨pw, 0, none⟩), .pointer (some ⟨pm, 0, none⟩)] W fun e W' =>
      e = .returned (.bool (runW (leafW M len step) (subsL len left l f) s).1) ∧ MoreOut wb B wt cs Fin v l (runW (leafW M len step) (subsL len left l f) s) W W'

set_option maxRecDepth 100000 in
set_option maxHeartbeats 2000000 in
theorem more_zero {σ : Type} (g len c : Nat) (A : Option Addr) (x0 x1 : Value) (M : Nat → Nat → Bool) (pd pw pm : Nat) (hlen : len ≤ 14) (F : FuncId) (cap : Array Value) (eF : ∀ args w, (callFunc F args).run Try.prog w = .ok (.enter F args) w) (wb B : Nat) (wt : TypeId) (cs : σ → Array Value) (step : List Nat → σ → Bool × σ) (Fin : σ → World → Prop)
    (hW : WatchOk F cap wb B wt cs step Fin) (hk : wb ≠ g ∧ wb ≠ pd ∧ wb ≠ pw ∧ wb ≠ pm) (hB : wb < B ∧ g < B ∧ pd < B ∧ pw < B ∧ pm < B) : MoreOk g len c A x0 x1 M pd pw pm F cap wb B wt cs step Fin 0 := by
  intro l f s v W xa xf xl rfl rfl rfl hll hx14 hf hP hwb hown hBW
  rw [show subsL len 0 l f = [l] from rfl, runW_one]
  have cd := hP.d.cell 0
  have cw := hP.w.cell 0
  simp only [List.getElem?_toArray, List.getElem?_cons_zero] at cd cw
  have HP := Lib.hid hP
  have HWB := Lib.hid hwb
  have HO := Lib.hid hown
  have hpd := hP.d.lt
  have hpw := hP.w.lt
  have hw1 : ∃ W1 : World, W1 = W.alloc (.cells (row14 (inL l)) 121) := ⟨_, rfl⟩
  obtain ⟨W1, hW1⟩ := hw1
  have hbw : Below W.heap.size W W1 := by rw [hW1]; repeat (first | exact Below.refl _ _ | exact Below.refl _ _ | refine Below.drew ?_ | refine below_drewN ?_ _ | refine Below.setCell ?_ (by first | assumption | omega | (simp; done) | (simp; omega) | (simp at *; omega)) _ | refine Below.alloc ?_ (by first | assumption | omega | (simp; done) | (simp; omega) | (simp at *; omega)) _ | refine Below.trans ?_ (Below.mono Below.refl _ _ (by first | assumption | omega | (simp; done) | (simp; omega) | (simp at *; omega))))
  have hnow : Blk W1 W.heap.size 121 (row14 (inL l)) := by rw [hW1]; exact Blk.new _ _ _
  clear hP hwb hown
  go_enter Try.func89, Try.ntmps89
  go_wp2
  rw [← hW1]
  have hP1 := HP.out.later hbw
  have cn := hnow
  have cd1 := (hbw.cell (p := ⟨pd, 0, none⟩) hpd).trans cd
  have cw1 := (hbw.cell (p := ⟨pw, 0, none⟩) hpw).trans cw
  have hnl := hnow.lt
  have HN := Lib.hid hnow
  have HP1 := Lib.hid hP1
  have cd0 := cd
  have cw0 := cw
  clear hnow hW1 cd cw cn hP1
  cases hq : clashesB M len (inL l)
  · have HB0 := Lib.hid hW
    clear hW
    refine wp_region_plan (fun w' => (w'.cell? ⟨pd, 0, none⟩ = some (.pointer (some ⟨g, 0, none⟩)) ∧ w'.cell? ⟨pw, 0, none⟩ = some (.func (.func F) #[] cap)) ∧ w'.heap[W.heap.size]? = some (.cells (row14 (inL l)) 121 (0, 0)))
      [(0, true), (1, true), (2, false), (3, true), (4, true), (5, true), (6, true), (7, false), (8, false), (9, false), (10, false)] (by kernel_rfl) (by kernel_rfl) (fun _ _ _ _ _ h => h) ⟨⟨by simpa using cd1, by simpa using cw1⟩, HN.out⟩ (fun hS => ?_)
    apply wpPlan_take
    case hi => (simp only [List.getElem?_toArray, List.getElem?_cons_succ, List.getElem?_cons_zero]; exact rfl)
    case hw => rfl
    case hr => (intro w' hSw; (try dsimp only at hSw); go_split_ands; go_simp; try with_reducible rfl)
    (simp only [Act.put, List.setIfInBounds_toArray, List.set_cons_zero, List.set_cons_succ])
    apply wpPlan_row (ty := 121) (g := W.heap.size) (t := 121) (cs := row14 (inL l)) (fr := (0, 0)) (hg := fun w' hw' => hw'.2) (hu := Try.underlying121) (hd := rfl)
    case hi => (simp only [List.getElem?_toArray, List.getElem?_cons_succ, List.getElem?_cons_zero]; exact rfl)
    case hw => rfl
    case ho => rfl
    case hx => rfl
    case hi' => (rw [row14_sz]; exact info_set)
    (simp only [Act.put, List.setIfInBounds_toArray, List.set_cons_zero, List.set_cons_succ])
    apply wpPlan_step
    case ho => (simp only [List.getElem?_toArray, List.getElem?_cons_succ, List.getElem?_cons_zero]; exact rfl)
    intro K hK
    rw [if_pos (by rfl)]
    go_wp2_with fail
    refine (clashes_any g len c A x0 x1 M (inL l) _ (HP1.out.later (Below.refl _ _).drew).desk hlen).mono ?_
    rintro e W2 ⟨rfl, hb2⟩
    rw [hq]
    have hbw2 : Below W.heap.size W W2 := (hbw.drew).trans (hb2.mono (by simpa using hbw.size))
    have hS2 : (W2.cell? ⟨pd, 0, none⟩ = some (.pointer (some ⟨g, 0, none⟩)) ∧ W2.cell? ⟨pw, 0, none⟩ = some (.func (.func F) #[] cap)) ∧ W2.heap[W.heap.size]? = some (.cells (row14 (inL l)) 121 (0, 0)) :=
      ⟨⟨(hbw2.cell (p := ⟨pd, 0, none⟩) hpd).trans cd0, (hbw2.cell (p := ⟨pw, 0, none⟩) hpw).trans cw0⟩, ((HN.out.later (Below.refl _ _).drew).later hb2)⟩
    clear hb2 hS
    refine hK.out _ _ (hS2) (fun hS => ?_)
    clear hK
    clear K
    try (simp only [Act.put, List.setIfInBounds_toArray, List.set_cons_zero, List.set_cons_succ])
    clear hS2
    apply wpPlan_take
    case hi => (simp only [List.getElem?_toArray, List.getElem?_cons_succ, List.getElem?_cons_zero]; exact rfl)
    case hw => rfl
    case hr => (intro w' hSw; (try dsimp only at hSw); go_split_ands; go_simp; try with_reducible rfl)
    (simp only [Act.put, List.setIfInBounds_toArray, List.set_cons_zero, List.set_cons_succ])
    apply wpPlan_take
    case hi => (simp only [List.getElem?_toArray, List.getElem?_cons_succ, List.getElem?_cons_zero]; exact rfl)
    case hw => rfl
    case hr => (intro w' hSw; (try dsimp only at hSw); go_split_ands; go_simp; try with_reducible rfl)
    (simp only [Act.put, List.setIfInBounds_toArray, List.set_cons_zero, List.set_cons_succ])
    apply wpPlan_take
    case hi => (simp only [List.getElem?_toArray, List.getElem?_cons_succ, List.getElem?_cons_zero]; exact rfl)
    case hw => rfl
    case hr => (intro w' hSw; (try dsimp only at hSw); go_split_ands; go_simp; try with_reducible rfl)
    (simp only [Act.put, List.setIfInBounds_toArray, List.set_cons_zero, List.set_cons_succ])
    apply wpPlan_take
    case hi => (simp only [List.getElem?_toArray, List.getElem?_cons_succ, List.getElem?_cons_zero]; exact rfl)
    case hw => rfl
    case hr => (intro w' hSw; (try dsimp only at hSw); go_split_ands; go_simp; try with_reducible rfl)
    (simp only [Act.put, List.setIfInBounds_toArray, List.set_cons_zero, List.set_cons_succ])
    apply wpPlan_step
    case ho => (simp only [List.getElem?_toArray, List.getElem?_cons_succ, List.getElem?_cons_zero]; exact rfl)
    intro K hK
    rw [if_pos (by rfl)]
    go_wp2_with fail
    refine (clone_any v B l _ (ownsRow_keep HO.out hbw2) (Nat.le_trans hBW hbw2.size) (by omega)).mono ?_
    rintro e W3 ⟨v', rfl, hown3, hb3⟩
    have hbw3 : Below W.heap.size W W3 := hbw2.trans (hb3.mono hbw2.size)
    have hS3 : (W3.cell? ⟨pd, 0, none⟩ = some (.pointer (some ⟨g, 0, none⟩)) ∧ W3.cell? ⟨pw, 0, none⟩ = some (.func (.func F) #[] cap)) ∧ W3.heap[W.heap.size]? = some (.cells (row14 (inL l)) 121 (0, 0)) :=
      ⟨⟨(hbw3.cell (p := ⟨pd, 0, none⟩) hpd).trans cd0, (hbw3.cell (p := ⟨pw, 0, none⟩) hpw).trans cw0⟩, (Blk.later hS.2 hb3)⟩
    clear hS
    have HO3 := Lib.hid (ownsRow_base' hown3 (Nat.le_trans hBW hbw2.size))
    clear hb3 hown3
    refine hK.out _ _ (hS3) (fun hS => ?_)
    clear hK
    clear K
    try (simp only [Act.put, List.setIfInBounds_toArray, List.set_cons_zero, List.set_cons_succ])
    clear hS3
    apply wpPlan_step
    case ho => (simp only [List.getElem?_toArray, List.getElem?_cons_succ, List.getElem?_cons_zero]; exact rfl)
    intro K hK
    rw [if_pos (by rfl)]
    go_wp2_with fail
    refine (HB0.out l s v' W3 (by omega) hx14 (HWB.out.later hbw3) HO3.out (Nat.le_trans hBW hbw3.size)).mono ?_
    rintro e W4 ⟨rfl, hch4, hgo4, hfin4⟩
    have hS4 : (W4.cell? ⟨pd, 0, none⟩ = some (.pointer (some ⟨g, 0, none⟩)) ∧ W4.cell? ⟨pw, 0, none⟩ = some (.func (.func F) #[] cap)) ∧ W4.heap[W.heap.size]? = some (.cells (row14 (inL l)) 121 (0, 0)) :=
      ⟨⟨(World.cell?_of_block (a := ⟨pd, 0, none⟩) (hch4.block pd (by have := hbw3.size; omega) (by simp; exact Ne.symm hk.2.1))).trans hS.1.1, (World.cell?_of_block (a := ⟨pw, 0, none⟩) (hch4.block pw (by have := hbw3.size; omega) (by simp; exact Ne.symm hk.2.2.1))).trans hS.1.2⟩,
        (hch4.block W.heap.size (Blk.lt hS.2) (by simp; omega)).trans hS.2⟩
    clear hS
    have HC4 := Lib.hid hch4
    have HG4 := Lib.hid hgo4
    have HF4 := Lib.hid hfin4
    clear hch4 hgo4 hfin4
    refine hK.out _ _ (hS4) (fun hS => ?_)
    clear hK
    clear K
    try (simp only [Act.put, List.setIfInBounds_toArray, List.set_cons_zero, List.set_cons_succ])
    clear hS4
    apply wpPlan_step
    case ho => (simp only [List.getElem?_toArray, List.getElem?_cons_succ, List.getElem?_cons_zero]; exact rfl)
    intro K hK
    rw [if_pos (by rfl)]
    go_simp
    refine hK.out _ _ (hS) (fun hS => ?_)
    clear hK
    clear K
    try (simp only [Act.put, List.setIfInBounds_toArray, List.set_cons_zero, List.set_cons_succ])
    apply wpPlan_step
    case ho => (simp only [List.getElem?_toArray, List.getElem?_cons_succ, List.getElem?_cons_zero]; exact rfl)
    intro K hK
    rw [if_pos (by rfl)]
    go_simp
    refine hK.out _ _ (hS) (fun hS => ?_)
    clear hK
    clear K
    try (simp only [Act.put, List.setIfInBounds_toArray, List.set_cons_zero, List.set_cons_succ])
    refine wpPlan_end ?_
    clear hS
    go_wp2
    go_ret
    have hq' : leafW M len step l s = step l s := by unfold leafW; rw [hq]; rfl
    rw [hq']
    refine ⟨rfl, ((Chg.of_below hbw3).trans HC4.out).mono (by simp), ownsRow_chg (ownsRow_keep HO.out hbw3) HC4.out (by simp; omega), HG4.out, HF4.out⟩
  · have Fcd1 := fun u => Later.cell cd1 u
    have hcr : ∀ u : Later W1, u.w.heap[W.heap.size]? = some (.cells (row14 (inL l)) 121 (0, 0)) := fun u => HN.out.later u.below
    have Fcd1 := fun u => Later.cell cd1 u
    have HC : Hid (∀ u : Later W1, Calls Try.prog 90 #[.pointer (some ⟨g, 0, none⟩), .agg (row14 (inL l))] u.w fun e w' => e = .returned (.bool true) ∧ Below u.w.heap.size u.w w') := Lib.hid (fun u => by
      have := clashes_any g len c A x0 x1 M (inL l) _ (HP1.out.later u.below).desk hlen
      rwa [hq] at this)
    refine wp_region_later (by kernel_rfl) (by kernel_rfl) ?_
    go_big_quiet_step (fail)
    refine wpQuiet_load_row rfl 121 (.tmp 7) rfl W.heap.size rfl 121 (row14 (inL l)) (0, 0) _ (by rintro _ ⟨u, rfl⟩; exact hcr u) Try.underlying121 rfl (by rw [row14_sz]; exact info_set) ?_
    (simp only [Act.put, List.setIfInBounds_toArray, List.set_cons_zero, List.set_cons_succ])
    repeat (go_big_quiet_step ((go_at_call 90; exact Later.call (HC.out _))))
    refine wpQuiet_nil ?_
    intro u
    have hu := u.below
    go_wp2
    go_ret
    have hq' : leafW M len step l s = (true, s) := by unfold leafW; rw [hq]; rfl
    rw [hq']
    have hb2 : Below W.heap.size W u.w := hbw.trans (hu.mono hbw.size)
    exact ⟨rfl, Chg.of_below hb2, ownsRow_keep HO.out hb2, fun _ => HWB.out.later hb2, fun h => by cases h⟩
end Go.Proofs.Ytjihnnbpfdhceaa

/- The closure of boil.desk.smallest: a round more. Conditions: none beyond those that each theorem names. -/
set_option linter.unusedSimpArgs false
set_option linter.unusedVariables false
namespace Go.Proofs.Ytjihnnbpfdhceaa
open Go.RowKit Go.Shelf
attribute [local go_sem] Oper.semAt_some
attribute [local go_sem ↓] Go.wp_at_zero Go.wp_at_succ

section
variable {wb B : Nat} {W wr w4 w5 w6 : World} {v v' : Value} {l : List Nat} {n : Nat} {x : Value}
theorem app_far {e : TypeId} {xs : List Value} {m : Nat} (h : App2 B e w4 v m xs x v' w5) (k : Nat) (hk : k < w4.heap.size) (hv : v.ownBlock ≠ some k) : w5.heap[k]? = w4.heap[k]? := h.grown.block k hk (Ne.symm hv)
theorem app_own {e : TypeId} {xs : List Value} {m : Nat} (h : App2 B e w4 v m xs x v' w5) (k : Nat) (hk : k < w4.heap.size) (hv : v.ownBlock ≠ some k) : v'.ownBlock ≠ some k := by
  rcases h.how with ⟨h1, _⟩ | ⟨⟨g, h1, h2⟩, _⟩
  · rw [h1]; exact hv
  · rw [h1]; intro e; injection e with e; omega
theorem more_far {e : TypeId} {xs : List Value} {m : Nat} (h : App2 B e w4 v m xs x v' w5) (hout : Chg (wb :: v'.ownBlock.toList) w5 w6) (k : Nat) (hk : k < w4.heap.size) (hwb : k ≠ wb) (hv : v.ownBlock ≠ some k) : w6.heap[k]? = w4.heap[k]? := by
  rw [hout.block k (Nat.lt_of_lt_of_le hk h.grown.size) ?_, app_far h k hk hv]
  have := app_own h k hk hv
  simp only [List.mem_cons, Option.mem_toList, not_or]
  exact ⟨hwb, this⟩
theorem app_chg {e : TypeId} {xs : List Value} {m : Nat} (h : App2 B e w4 v m xs x v' w5) : Chg v.ownBlock.toList w4 w5 :=
  ⟨h.grown.os, h.grown.tape, h.grown.output, h.grown.size, fun k hk hn => app_far h k hk (by rw [Option.mem_toList] at hn; exact hn)⟩
theorem more_chg {e : TypeId} {xs : List Value} {m : Nat} (hch : Chg (wb :: v.ownBlock.toList) W w4) (h : App2 B e w4 v m xs x v' w5) (hout : Chg (wb :: v'.ownBlock.toList) w5 w6) : Chg (wb :: v.ownBlock.toList) W w6 := by
  refine ⟨hout.os.trans (h.grown.os.trans hch.os), hout.tape.trans (h.grown.tape.trans hch.tape), hout.output.trans (h.grown.output.trans hch.output), Nat.le_trans hch.size (Nat.le_trans h.grown.size hout.size), fun k hk hn => ?_⟩
  simp only [List.mem_cons, Option.mem_toList, not_or] at hn
  rw [more_far h hout k (Nat.lt_of_lt_of_le hk hch.size) hn.1 hn.2]
  exact hch.block k hk (by simp only [List.mem_cons, Option.mem_toList, not_or]; exact hn)
theorem ownsRow_at {w w' : World} {base : Nat} {e : TypeId} {size : Nat} {v : Value} {n : Nat} {xs : List Value} (h : w.ownsRow base e size v n xs) (hb : ∀ k, v.ownBlock = some k → base ≤ k → k < w.heap.size → w'.heap[k]? = w.heap[k]?) : w'.ownsRow base e size v n xs := by
  obtain ⟨h1, h2⟩ := h
  refine ⟨h1, ?_⟩
  rcases h2 with h2 | ⟨g, cap, cur, hv, hg, hh, r⟩
  · exact .inl h2
  · exact .inr ⟨g, cap, cur, hv, hg, (hb g (by rw [hv]; rfl) hg (Array.getElem?_eq_some_iff.1 hh).1).trans hh, r⟩
theorem more_own (hwB : wb < B) (hown : w4.ownsRow B 3 1 v l.length (intsV l)) (h : App2 B 3 w4 v l.length (intsV l) (.int .i64 n) v' w5) (hout : Chg (wb :: v'.ownBlock.toList) w5 w6)
    (h6 : w6.ownsRow B 3 1 v' (l ++ [n]).length (intsV (l ++ [n]))) : w6.ownsRow B 3 1 v l.length (intsV l) := by
  rcases h.how with ⟨h1, _, h3⟩ | ⟨⟨g, h1, h2⟩, h3⟩
  · refine h3 w6 ?_
    rw [List.length_append, intsV_snoc] at h6
    exact h6
  · refine ownsRow_at hown fun k hk hBk hkl => ?_
    rw [hout.block k (Nat.lt_of_lt_of_le hkl h3.size) ?_, h3.block k hkl (by simp)]
    rw [h1]
    simp only [Option.toList_some, List.mem_cons, List.not_mem_nil, or_false, not_or]
    exact ⟨by omega, by omega⟩
theorem more_new (h : App2 B 3 w4 v l.length (intsV l) (.int .i64 n) v' w5) : w5.ownsRow B 3 1 v' (l ++ [n]).length (intsV (l ++ [n])) := by
  rw [List.length_append, intsV_snoc]; exact h.own
end

theorem row14_one (r : Nat → Bool) : (row14 r).all (·.oneCell') = true := by
  rw [Array.all_eq_true]
  intro i hi
  simp [row14, Value.oneCell']

set_option maxRecDepth 100000 in
set_option maxHeartbeats 2000000 in
theorem more_succ {σ : Type} (g len c : Nat) (A : Option Addr) (x0 x1 : Value) (M : Nat → Nat → Bool) (pd pw pm : Nat) (hlen : len ≤ 14) (F : FuncId) (cap : Array Value) (wb B : Nat) (wt : TypeId) (cs : σ → Array Value) (step : List Nat → σ → Bool × σ) (Fin : σ → World → Prop)
    (hk : wb ≠ g ∧ wb ≠ pd ∧ wb ≠ pw ∧ wb ≠ pm) (hB : wb < B ∧ g < B ∧ pd < B ∧ pw < B ∧ pm < B) (left : Nat) (ih : MoreOk g len c A x0 x1 M pd pw pm F cap wb B wt cs step Fin left) : MoreOk g len c A x0 x1 M pd pw pm F cap wb B wt cs step Fin (left + 1) := by
  intro l f s v W xa xf xl rfl rfl rfl hll hx14 hf hP hwb hown hBW
  have IH := Lib.hid ih
  obtain ⟨i0, hi0, hz0, hz1, hz2⟩ := info_parts info_int
  have hq : (((left + 1 : Nat) : Int) == 0) = false := beq_eq_false_iff_ne.2 (by omega)
  have cd := hP.d.cell 0
  have cg2 := (hP.desk.cell 2).trans (deskCells_2 _ _ _ _)
  simp only [List.getElem?_toArray, List.getElem?_cons_zero] at cd
  have HP := Lib.hid hP
  have HWB := Lib.hid hwb
  have HO := Lib.hid hown
  have hw1 : ∃ W1 : World, W1 = W.alloc (.cells (row14 (inL l)) 121) := ⟨_, rfl⟩
  obtain ⟨W1, hW1⟩ := hw1
  have hbw : Below W.heap.size W W1 := by rw [hW1]; repeat (first | exact Below.refl _ _ | exact Below.refl _ _ | refine Below.drew ?_ | refine below_drewN ?_ _ | refine Below.setCell ?_ (by first | assumption | omega | (simp; done) | (simp; omega) | (simp at *; omega)) _ | refine Below.alloc ?_ (by first | assumption | omega | (simp; done) | (simp; omega) | (simp at *; omega)) _ | refine Below.trans ?_ (Below.mono Below.refl _ _ (by first | assumption | omega | (simp; done) | (simp; omega) | (simp at *; omega))))
  have hnow : Blk W1 W.heap.size 121 (row14 (inL l)) := by rw [hW1]; exact Blk.new _ _ _
  have HN := Lib.hid hnow
  clear hP hwb hown ih hnow cd cg2
  go_enter Try.func89, Try.ntmps89
  go_wp2
  rw [← hW1]
  clear hW1
  go_loopw [12] (fun i wr => ∃ (n : Nat) (st : σ), f ≤ n ∧ (n = f ∨ n ≤ len - left) ∧ i = .int .i64 n ∧ Chg (wb :: v.ownBlock.toList) W wr ∧ Blk wr W.heap.size 121 (row14 (inL l)) ∧ Blk wr wb wt (cs st) ∧ wr.ownsRow B 3 1 v l.length (intsV l) ∧ Aside (runW (leafW M len step) (subsTo len left l f n) s = (true, st))) (fun i _ => 15 - (intOf i).toNat)
  case atStart => exact ⟨f, s, Nat.le_refl _, .inl rfl, rfl, Chg.of_below hbw, HN.out, HWB.out.later hbw, ownsRow_keep HO.out hbw, by show _ = _; rw [subsTo_start]; rfl⟩
  case round =>
    clear hbw HN
    obtain ⟨n, st, hfn, hn, rfl, hch, hgo, hbw, hown, HR⟩ := hrel
    have hP := HP.out.chg hch (by
      intro k hk'
      simp only [List.mem_cons, Option.mem_toList] at hk'
      rcases hk' with rfl | hk'
      · exact ⟨hk.1, hk.2.1, hk.2.2.1, hk.2.2.2⟩
      · have := (hown.lt k hk').1
        omega)
    have cd := hP.d.cell 0
    have cg2 := (hP.desk.cell 2).trans (deskCells_2 _ _ _ _)
    simp only [List.getElem?_toArray, List.getElem?_cons_zero] at cd
    have HP2 := Lib.hid hP
    have HG := Lib.hid hgo
    have HB2 := Lib.hid hbw
    have HO2 := Lib.hid hown
    have HC := Lib.hid hch
    have hzr := hch.size
    clear hP hgo hbw hown hch
    by_cases hlt : n < len - left
    · have hlt' : (n : Int) ≤ (len : Int) - ((left + 1 : Nat) : Int) := by omega
      iterate 45 go_step
      refine wpList_load_row rfl 121 (.tmp 7) rfl W.heap.size rfl 121 (row14 (inL l)) (0, 0) _ HG.out Try.underlying121 rfl (by rw [row14_sz]; exact info_set) ?_
      have hz14 := zero_row14
      iterate 3 go_step
      refine wpList_store_row rfl 121 _ _ rfl wr.heap.size (row14 (inL l)) rfl rfl 121 (row14 (fun _ => false)) (Blk.new _ _ _) (by rw [row14_sz]; exact info_set) (by rw [row14_sz, row14_sz]) (row14_one _) ?_
      have hb3 : Below wr.heap.size wr ((wr.alloc (.cells (row14 fun _ => false) 121)).setRow wr.heap.size (row14 (inL l))) :=
        ⟨rfl, rfl, rfl, by simp [World.setRow], fun k hk => (setRow_other _ _ _ _ (by omega)).trans (((Below.refl _ _).alloc (Nat.le_refl _) _).block k hk)⟩
      have hn3 : Blk ((wr.alloc (.cells (row14 fun _ => false) 121)).setRow wr.heap.size (row14 (inL l))) wr.heap.size 121 (row14 (inL l)) := setRow_heap _ _ _ _ _ _ (Blk.new _ _ _)
      generalize (wr.alloc (.cells (row14 fun _ => false) 121)).setRow wr.heap.size (row14 (inL l)) = w3 at hb3 hn3 ⊢
      have hn14 : (n : Int) < 14 := by omega
      have cn := (hn3.cell n).trans (row14_at _ _ (by omega))
      have cnf := hn3.frozen n
      have HN3 := Lib.hid hn3
      have HB3 := Lib.hid hb3
      clear hn3 hb3 hz14
      go_wp2
      obtain ⟨w3', hw3⟩ : ∃ w3' : World, w3' = w3.setCell ⟨wr.heap.size, n, none⟩ (.bool true) := ⟨_, rfl⟩
      rw [← hw3]
      have hb4 : Below wr.heap.size wr w3' := by rw [hw3]; exact HB3.out.setCell (p := ⟨wr.heap.size, n, none⟩) (Nat.le_refl _) _
      have hn4 : Blk w3' wr.heap.size 121 (row14 (inL (l ++ [n]))) := by
        have := HN3.out.set_ n (.bool true)
        rw [row14_set, row14_inL, ← hw3] at this
        exact this
      clear cn cnf hw3 HN3 HB3 w3
      have hp4 := HP2.out.later hb4
      have hw4 := HB2.out.later hb4
      have ho4 := ownsRow_keep HO2.out hb4
      have hc4 : Chg (wb :: v.ownBlock.toList) W w3' := HC.out.later hb4
      have hz4 := hb4.size
      have hv4 : ∀ k, v.ownBlock = some k → B ≤ k ∧ k < wr.heap.size := fun k hk => HO2.out.lt k hk
      have cp4 := hp4.p.cell 0
      simp only [List.getElem?_toArray, List.getElem?_cons_zero, moreFn] at cp4
      have HP4 := Lib.hid hp4
      have HB4 := Lib.hid hb4
      have HW4 := Lib.hid hw4
      have HO4 := Lib.hid ho4
      have HC4 := Lib.hid hc4
      have HV4 := Lib.hid hv4
      have hl14 : l.length + 1 + left ≤ 14 := by omega
      clear hp4 hw4 ho4 hc4 hv4 cd cg2
      refine wp_region_plan (fun w' => w'.cell? ⟨pm, 0, none⟩ = some (.func (.func 89) #[] #[.pointer (some ⟨pd, 0, none⟩), .pointer (some ⟨pw, 0, none⟩), .pointer (some ⟨pm, 0, none⟩)]) ∧ w'.heap[wr.heap.size]? = some (.cells (row14 (inL (l ++ [n]))) 121 (0, 0)))
        [(0, true), (1, true), (2, true), (3, true), (6, true), (7, true), (8, true), (9, true), (4, false), (5, false), (10, false), (11, false)] (by kernel_rfl) (by kernel_rfl) (fun _ _ _ _ _ h => h) ⟨by simpa using cp4, hn4⟩ (fun hS => ?_)
      apply wpPlan_take
      case hi => (simp only [List.getElem?_toArray, List.getElem?_cons_succ, List.getElem?_cons_zero]; exact rfl)
      case hw => rfl
      case hr => (intro w' hSw; (try dsimp only at hSw); go_split_ands; go_simp; try with_reducible rfl)
      (simp only [Act.put, List.setIfInBounds_toArray, List.set_cons_zero, List.set_cons_succ])
      apply wpPlan_row (ty := 121) (g := wr.heap.size) (t := 121) (cs := row14 (inL (l ++ [n]))) (fr := (0, 0)) (hg := fun w' hw' => hw'.2) (hu := Try.underlying121) (hd := rfl)
      case hi => (simp only [List.getElem?_toArray, List.getElem?_cons_succ, List.getElem?_cons_zero]; exact rfl)
      case hw => rfl
      case ho => rfl
      case hx => rfl
      case hi' => (rw [row14_sz]; exact info_set)
      (simp only [Act.put, List.setIfInBounds_toArray, List.set_cons_zero, List.set_cons_succ])
      apply wpPlan_take
      case hi => (simp only [List.getElem?_toArray, List.getElem?_cons_succ, List.getElem?_cons_zero]; exact rfl)
      case hw => rfl
      case hr => (intro w' hSw; (try dsimp only at hSw); go_split_ands; go_simp; try with_reducible rfl)
      (simp only [Act.put, List.setIfInBounds_toArray, List.set_cons_zero, List.set_cons_succ])
      apply wpPlan_take
      case hi => (simp only [List.getElem?_toArray, List.getElem?_cons_succ, List.getElem?_cons_zero]; exact rfl)
      case hw => rfl
      case hr => (intro w' hSw; (try dsimp only at hSw); go_split_ands; go_simp; try with_reducible rfl)
      (simp only [Act.put, List.setIfInBounds_toArray, List.set_cons_zero, List.set_cons_succ])
      apply wpPlan_take
      case hi => (simp only [List.getElem?_toArray, List.getElem?_cons_succ, List.getElem?_cons_zero]; exact rfl)
      case hw => rfl
      case hr => (intro w' hSw; (try dsimp only at hSw); go_split_ands; go_simp; try with_reducible rfl)
      (simp only [Act.put, List.setIfInBounds_toArray, List.set_cons_zero, List.set_cons_succ])
      apply wpPlan_take
      case hi => (simp only [List.getElem?_toArray, List.getElem?_cons_succ, List.getElem?_cons_zero]; exact rfl)
      case hw => rfl
      case hr => (intro w' hSw; (try dsimp only at hSw); go_split_ands; go_simp; try with_reducible rfl)
      (simp only [Act.put, List.setIfInBounds_toArray, List.set_cons_zero, List.set_cons_succ])
      apply wpPlan_take
      case hi => (simp only [List.getElem?_toArray, List.getElem?_cons_succ, List.getElem?_cons_zero]; exact rfl)
      case hw => rfl
      case hr => (intro w' hSw; (try dsimp only at hSw); go_split_ands; go_simp; try with_reducible rfl)
      (simp only [Act.put, List.setIfInBounds_toArray, List.set_cons_zero, List.set_cons_succ])
      apply wpPlan_take
      case hi => (simp only [List.getElem?_toArray, List.getElem?_cons_succ, List.getElem?_cons_zero]; exact rfl)
      case hw => rfl
      case hr => (intro w' hSw; (try dsimp only at hSw); go_split_ands; go_simp; try with_reducible rfl)
      (simp only [Act.put, List.setIfInBounds_toArray, List.set_cons_zero, List.set_cons_succ])
      apply wpPlan_step
      case ho => (simp only [List.getElem?_toArray, List.getElem?_cons_succ, List.getElem?_cons_zero]; exact rfl)
      intro K hK
      rw [if_pos (by rfl)]
      go_simp
      have hb5 : Below w3'.heap.size w3' ((w3'.alloc (.cells #[.int .i64 (n : Int)] 3)).drew) := by repeat (first | exact Below.refl _ _ | exact Below.refl _ _ | refine Below.drew ?_ | refine below_drewN ?_ _ | refine Below.setCell ?_ (by first | assumption | omega | (simp; done) | (simp; omega) | (simp at *; omega)) _ | refine Below.alloc ?_ (by first | assumption | omega | (simp; done) | (simp; omega) | (simp at *; omega)) _ | refine Below.trans ?_ (Below.mono Below.refl _ _ (by first | assumption | omega | (simp; done) | (simp; omega) | (simp at *; omega))))
      have cn5 : ((w3'.alloc (.cells #[.int .i64 (n : Int)] 3)).drew).cell? ⟨w3'.heap.size, 0, none⟩ = some (.int .i64 (n : Int)) := by simp
      have hz5 : ((w3'.alloc (.cells #[.int .i64 (n : Int)] 3)).drew).heap.size = w3'.heap.size + 1 := by simp
      generalize (w3'.alloc (.cells #[.int .i64 (n : Int)] 3)).drew = w4 at hb5 cn5 hz5 ⊢
      have hS5 : w4.cell? ⟨pm, 0, none⟩ = some (.func (.func 89) #[] #[.pointer (some ⟨pd, 0, none⟩), .pointer (some ⟨pw, 0, none⟩), .pointer (some ⟨pm, 0, none⟩)]) ∧ w4.heap[wr.heap.size]? = some (.cells (row14 (inL (l ++ [n]))) 121 (0, 0)) :=
        ⟨(hb5.cell (p := ⟨pm, 0, none⟩) HP4.out.p.lt).trans (by simpa using hS.1), hn4.later hb5⟩
      clear hS
      refine hK.out _ _ (hS5) (fun hS => ?_)
      clear hK
      clear K
      try (simp only [Act.put, List.setIfInBounds_toArray, List.set_cons_zero, List.set_cons_succ])
      clear hS5
      apply wpPlan_step
      case ho => (simp only [List.getElem?_toArray, List.getElem?_cons_succ, List.getElem?_cons_zero]; exact rfl)
      intro K hK
      have ho5 : w4.ownsRow B 3 1 v l.length (intsV l) := ownsRow_keep HO4.out hb5
      refine step_append_two (by rfl) _ _ 64 (by rfl) B 3 i0 _ 8 Try.underlying64 hi0 hz0 hz1 hz2 rfl v l.length (intsV l) (by rfl) ho5 ⟨w3'.heap.size, 0, none⟩ _ (.int .i64 (n : Int)) (by rfl) cn5 rfl (by unfold maxLen; omega) (by omega) (by rw [hz5]; omega) ?_
      intro v' w5 hap
      have hnv : ∀ k, k < B ∨ k = wr.heap.size → v.ownBlock ≠ some k := fun k hk e => by have := HV4.out k e; omega
      have hS5 : w5.cell? ⟨pm, 0, none⟩ = some (.func (.func 89) #[] #[.pointer (some ⟨pd, 0, none⟩), .pointer (some ⟨pw, 0, none⟩), .pointer (some ⟨pm, 0, none⟩)]) ∧ w5.heap[wr.heap.size]? = some (.cells (row14 (inL (l ++ [n]))) 121 (0, 0)) :=
        ⟨(World.cell?_of_block (a := ⟨pm, 0, none⟩) (app_far hap pm (by omega) (hnv pm (by omega)))).trans hS.1, (app_far hap _ (by omega) (hnv _ (by omega))).trans hS.2⟩
      clear hS
      have HAP := Lib.hid hap
      have hP5 : MoreAt g len c A x0 x1 M pd pw pm (.func (.func F) #[] cap) w5 := (HP4.out.later hb5).chg (app_chg hap) (by
        intro k hk'
        rw [Option.mem_toList] at hk'
        have := HV4.out k hk'
        omega)
      have hw5 : Blk w5 wb wt (cs st) := (app_far hap wb (by have := (HW4.out.later hb5).lt; omega) (hnv wb (by omega))).trans (HW4.out.later hb5)
      have HW5 := Lib.hid hw5
      have HP5 := Lib.hid hP5
      have hz6 := hap.grown.size
      have HB5 := Lib.hid hb5
      clear hap hP5 hw5 hb5 cn5 ho5 hn4
      refine hK.out _ _ (hS5) (fun hS => ?_)
      clear hK
      clear K
      try (simp only [Act.put, List.setIfInBounds_toArray, List.set_cons_zero, List.set_cons_succ])
      clear hS5
      apply wpPlan_step
      case ho => (simp only [List.getElem?_toArray, List.getElem?_cons_succ, List.getElem?_cons_zero]; exact rfl)
      intro K hK
      rw [if_pos (by rfl)]
      go_wp2_with fail
      refine (IH.out (l ++ [n]) (n + 1) st v' w5 _ _ _ rfl (by go_num) (by go_num) (by simp; omega) ?hx (by omega) HP5.out HW5.out (more_new HAP.out) (by omega)).mono ?_
      case hx =>
        intro x hx
        rcases List.mem_append.1 hx with hx | hx
        · exact hx14 x hx
        · rw [List.mem_singleton.1 hx]; omega
      rintro e w6 ⟨rfl, hout⟩
      have hS6 : w6.cell? ⟨pm, 0, none⟩ = some (.func (.func 89) #[] #[.pointer (some ⟨pd, 0, none⟩), .pointer (some ⟨pw, 0, none⟩), .pointer (some ⟨pm, 0, none⟩)]) ∧ w6.heap[wr.heap.size]? = some (.cells (row14 (inL (l ++ [n]))) 121 (0, 0)) := by
        have e1 := app_own HAP.out pm (by omega) (hnv pm (by omega))
        have e2 := app_own HAP.out wr.heap.size (by omega) (hnv _ (by omega))
        refine ⟨(World.cell?_of_block (a := ⟨pm, 0, none⟩) (hout.chg.block pm (by omega) ?_)).trans hS.1, (hout.chg.block wr.heap.size (by omega) ?_).trans hS.2⟩
        · simp only [List.mem_cons, Option.mem_toList, not_or]
          exact ⟨by omega, e1⟩
        · simp only [List.mem_cons, Option.mem_toList, not_or]
          exact ⟨by omega, e2⟩
      have hchg6 : Chg (wb :: v.ownBlock.toList) W w6 := more_chg (HC4.out.later HB5.out) HAP.out hout.chg
      have hown6 : w6.ownsRow B 3 1 v l.length (intsV l) := more_own hB.1 (ownsRow_keep HO4.out HB5.out) HAP.out hout.chg hout.own
      have hgo6 : Blk w6 W.heap.size 121 (row14 (inL l)) := (more_far HAP.out hout.chg W.heap.size (by have := HG.out.lt; omega) (by omega) (fun e => by have := HO.out.lt _ e; omega)).trans ((HG.out.later HB4.out).later HB5.out)
      have hgo := hout.go
      have hfin := hout.fin
      generalize hr : runW (leafW M len step) (subsL len left (l ++ [n]) (n + 1)) st = r at hgo hfin ⊢
      clear hS hout
      obtain ⟨b, st'⟩ := r
      have HCH6 := Lib.hid hchg6
      have HOW6 := Lib.hid hown6
      have HGO6 := Lib.hid hgo6
      have HGG := Lib.hid hgo
      have HFF := Lib.hid hfin
      have HRR := Lib.hid hr
      clear hchg6 hown6 hgo6 hgo hfin hr
      cases b
      case false =>
        refine hK.out _ _ (hS6) (fun hS => ?_)
        clear hK
        clear K
        try (simp only [Act.put, List.setIfInBounds_toArray, List.set_cons_zero, List.set_cons_succ])
        clear hS6
        apply wpPlan_step
        case ho => (simp only [List.getElem?_toArray, List.getElem?_cons_succ, List.getElem?_cons_zero]; exact rfl)
        intro K hK
        rw [if_pos (by rfl)]
        go_simp
        refine hK.out _ _ (hS) (fun hS => ?_)
        clear hK
        clear K
        try (simp only [Act.put, List.setIfInBounds_toArray, List.set_cons_zero, List.set_cons_succ])
        refine wpPlan_end ?_
        clear hS
        go_wp2
        go_ret
        have hres : runW (leafW M len step) (subsL len (left + 1) l f) s = (false, st') := by
          obtain ⟨R, hR⟩ := subsTo_split len left l f n hfn hlt
          have h1 : runW (leafW M len step) (subsTo len left l f n) s = (true, st) := HR
          rw [hR, runW_append _ _ _ (by rw [h1]), h1, runW_stop _ _ _ (by rw [HRR.out]), HRR.out]
        rw [hres]
        exact ⟨rfl, HCH6.out, HOW6.out, (fun h => (by cases h)), fun _ => (by simpa using HFF.out)⟩
      case true =>
        refine hK.out _ _ (hS6) (fun hS => ?_)
        clear hK
        clear K
        try (simp only [Act.put, List.setIfInBounds_toArray, List.set_cons_zero, List.set_cons_succ])
        clear hS6
        apply wpPlan_step
        case ho => (simp only [List.getElem?_toArray, List.getElem?_cons_succ, List.getElem?_cons_zero]; exact rfl)
        intro K hK
        rw [if_pos (by rfl)]
        go_simp
        refine hK.out _ _ (hS) (fun hS => ?_)
        clear hK
        clear K
        try (simp only [Act.put, List.setIfInBounds_toArray, List.set_cons_zero, List.set_cons_succ])
        refine wpPlan_end ?_
        clear hS
        go_wp2
        refine ⟨⟨n + 1, by omega, by omega, by omega, HCH6.out, HGO6.out, st', (by simpa using HGG.out), HOW6.out, ?_⟩, by simp [intOf]; omega⟩
        show runW (leafW M len step) (subsTo len left l f (n + 1)) s = (true, st')
        have h1 : runW (leafW M len step) (subsTo len left l f n) s = (true, st) := HR
        rw [subsTo_snoc _ _ _ _ _ hfn, runW_append _ _ _ (by rw [h1]), h1, HRR.out]
    · have hlt' : ¬ (n : Int) ≤ (len : Int) - ((left + 1 : Nat) : Int) := by omega
      go_wp2
      go_ret
      have hres : runW (leafW M len step) (subsL len (left + 1) l f) s = (true, st) := by
        rw [subsTo_end len left l f n hfn (by omega) (by omega)]
        exact HR
      rw [hres]
      exact ⟨rfl, HC.out, HO2.out, fun _ => HB2.out, (fun h => (by cases h))⟩

theorem more_any {σ : Type} (g len c : Nat) (A : Option Addr) (x0 x1 : Value) (M : Nat → Nat → Bool) (pd pw pm : Nat) (hlen : len ≤ 14) (F : FuncId) (cap : Array Value) (eF : ∀ args w, (callFunc F args).run Try.prog w = .ok (.enter F args) w) (wb B : Nat) (wt : TypeId) (cs : σ → Array Value) (step : List Nat → σ → Bool × σ) (Fin : σ → World → Prop)
    (hW : WatchOk F cap wb B wt cs step Fin) (hk : wb ≠ g ∧ wb ≠ pd ∧ wb ≠ pw ∧ wb ≠ pm) (hB : wb < B ∧ g < B ∧ pd < B ∧ pw < B ∧ pm < B) (left : Nat) : MoreOk g len c A x0 x1 M pd pw pm F cap wb B wt cs step Fin left := by
  induction left with
  | zero => exact more_zero g len c A x0 x1 M pd pw pm hlen F cap eF wb B wt cs step Fin hW hk hB
  | succ left ih => exact more_succ g len c A x0 x1 M pd pw pm hlen F cap wb B wt cs step Fin hk hB left ih
end Go.Proofs.Ytjihnnbpfdhceaa

/- boil.desk.smallest. Conditions: none beyond those that each theorem names. -/
set_option linter.unusedSimpArgs false
set_option linter.unusedVariables false
namespace Go.Proofs.Ytjihnnbpfdhceaa
open Go.RowKit Go.Shelf
attribute [local go_sem] Oper.semAt_some
attribute [local go_sem ↓] Go.wp_at_zero Go.wp_at_succ

/-- How many pairs the proof has. -/
def pfLen (M : Nat → Nat → Bool) (len : Nat) : Nat := (pairsTo (proofSt M len len) 14).length
theorem pfLen_le (M : Nat → Nat → Bool) (len : Nat) : pfLen M len ≤ 14 := pairsTo_len _ _
/-- What a watch has seen when all smallest sets were told, or it let no more. -/
def seen {σ : Type} (M : Nat → Nat → Bool) (len : Nat) (step : List Nat → σ → Bool × σ) (s : σ) : Bool × σ := runW (leafW M len step) (subsL len (pfLen M len) [] 0) s

set_option maxRecDepth 100000 in
set_option maxHeartbeats 2000000 in
theorem smallest_any {σ : Type} (g len c : Nat) (A : Option Addr) (x0 x1 : Value) (M : Nat → Nat → Bool) (hlen : len ≤ 14) (F : FuncId) (cap : Array Value) (eF : ∀ args w, (callFunc F args).run Try.prog w = .ok (.enter F args) w) (wb : Nat) (wt : TypeId) (cs : σ → Array Value) (step : List Nat → σ → Bool × σ) (Fin : σ → World → Prop) (s : σ)
    (W : World) (hW : ∀ B, W.heap.size ≤ B → WatchOk F cap wb B wt cs step Fin) (hg : Blk W g 134 (deskCells x0 x1 (.slice A len c) M)) (hwb : Blk W wb wt (cs s)) (hne : wb ≠ g) :
    Calls Try.prog 66 #[.pointer (some ⟨g, 0, none⟩), .agg #[.func (.func F) #[] cap]] W fun e W' => e = .returned (.tuple #[]) ∧ Chg [wb] W W' ∧
      ((seen M len step s).1 = true → Blk W' wb wt (cs (seen M len step s).2)) ∧ ((seen M len step s).1 = false → Fin (seen M len step s).2 W') := by
  have HG := Lib.hid hg
  have HW := Lib.hid hwb
  have HK := Lib.hid hW
  have hgl := hg.lt
  have hwl := hwb.lt
  have hz1 := zero_row14
  rw [row14_empty] at hz1
  clear hg hwb hW
  go_enter Try.func66, Try.ntmps66
  go_wp2
  have hw1 : ∃ W1 : World, W1 = ((W.alloc (.cells #[.pointer (some ⟨g, 0, none⟩)] 96)).alloc (.cells #[.func (.func F) #[] cap] 119)).alloc (.cells #[moreFn W.heap.size (W.heap.size + 1) (W.heap.size + 1 + 1)] 137) := ⟨_, rfl⟩
  obtain ⟨W1, hW1⟩ := hw1
  have hbw : Below W.heap.size W W1 := by rw [hW1]; repeat (first | exact Below.refl _ _ | exact Below.refl _ _ | refine Below.drew ?_ | refine below_drewN ?_ _ | refine Below.setCell ?_ (by first | assumption | omega | (simp; done) | (simp; omega) | (simp at *; omega)) _ | refine Below.alloc ?_ (by first | assumption | omega | (simp; done) | (simp; omega) | (simp at *; omega)) _ | refine Below.trans ?_ (Below.mono Below.refl _ _ (by first | assumption | omega | (simp; done) | (simp; omega) | (simp at *; omega))))
  have b1 : Blk W1 W.heap.size 96 #[.pointer (some ⟨g, 0, none⟩)] := by rw [hW1]; exact ((Blk.new _ _ _).alloc _).alloc _
  have b2 : Blk W1 (W.heap.size + 1) 119 #[.func (.func F) #[] cap] := by
    have := Blk.new (W.alloc (.cells #[.pointer (some ⟨g, 0, none⟩)] 96)) 119 #[.func (.func F) #[] cap]
    rw [World.size_alloc] at this
    rw [hW1]; exact this.alloc _
  have b3 : Blk W1 (W.heap.size + 1 + 1) 137 #[moreFn W.heap.size (W.heap.size + 1) (W.heap.size + 1 + 1)] := by
    have := Blk.new ((W.alloc (.cells #[.pointer (some ⟨g, 0, none⟩)] 96)).alloc (.cells #[.func (.func F) #[] cap] 119)) 137 #[moreFn W.heap.size (W.heap.size + 1) (W.heap.size + 1 + 1)]
    rw [World.size_alloc, World.size_alloc] at this
    rw [hW1]; exact this
  have hz3 : W1.heap.size = W.heap.size + 1 + 1 + 1 := by rw [hW1]; simp
  unfold moreFn at hW1
  rw [← hW1]
  clear hW1
  have hP1 : MoreAt g len c A x0 x1 M W.heap.size (W.heap.size + 1) (W.heap.size + 1 + 1) (.func (.func F) #[] cap) W1 := ⟨HG.out.later hbw, b1, b2, b3⟩
  have HP := Lib.hid hP1
  have HWB := Lib.hid (HW.out.later hbw)
  have c1 := b1.cell 0
  have c3 := b3.cell 0
  simp only [List.getElem?_toArray, List.getElem?_cons_zero, moreFn] at c1 c3
  have HBW := Lib.hid hbw
  clear b1 b2 b3 hP1 hbw
  have hpf := pfLen_le M len
  refine wp_region_plan (fun w' => True ∧ w'.cell? ⟨W.heap.size, 0, none⟩ = some (.pointer (some ⟨g, 0, none⟩)) ∧ w'.cell? ⟨W.heap.size + 1 + 1, 0, none⟩ = some (.func (.func 89) #[] #[.pointer (some ⟨W.heap.size, 0, none⟩), .pointer (some ⟨W.heap.size + 1, 0, none⟩), .pointer (some ⟨W.heap.size + 1 + 1, 0, none⟩)]))
    [(0, true), (1, true), (2, true), (3, false), (4, false), (5, false)] (by kernel_rfl) (by kernel_rfl) (fun _ _ _ _ _ h => h) ⟨trivial, by simpa using c1, by simpa using c3⟩ (fun hS => ?_)
  apply wpPlan_take
  case hi => (simp only [List.getElem?_toArray, List.getElem?_cons_succ, List.getElem?_cons_zero]; exact rfl)
  case hw => rfl
  case hr => (intro w' hSw; (try dsimp only at hSw); go_split_ands; go_simp; try with_reducible rfl)
  (simp only [Act.put, List.setIfInBounds_toArray, List.set_cons_zero, List.set_cons_succ])
  apply wpPlan_take
  case hi => (simp only [List.getElem?_toArray, List.getElem?_cons_succ, List.getElem?_cons_zero]; exact rfl)
  case hw => rfl
  case hr => (intro w' hSw; (try dsimp only at hSw); go_split_ands; go_simp; try with_reducible rfl)
  (simp only [Act.put, List.setIfInBounds_toArray, List.set_cons_zero, List.set_cons_succ])
  apply wpPlan_take
  case hi => (simp only [List.getElem?_toArray, List.getElem?_cons_succ, List.getElem?_cons_zero]; exact rfl)
  case hw => rfl
  case hr => (intro w' hSw; (try dsimp only at hSw); go_split_ands; go_simp; try with_reducible rfl)
  (simp only [Act.put, List.setIfInBounds_toArray, List.set_cons_zero, List.set_cons_succ])
  apply wpPlan_step
  case ho => (simp only [List.getElem?_toArray, List.getElem?_cons_succ, List.getElem?_cons_zero]; exact rfl)
  intro K hK
  rw [if_pos (by rfl)]
  go_wp2_with fail
  refine (proof_any g len c A x0 x1 M hlen _ (HP.out.later (Below.refl _ _).drew).desk).mono ?_
  rintro e W2 ⟨ps, A', c', rfl, hps, hperm, _, hb2⟩
  have hb2' : Below W1.heap.size W1 W2 := ((Below.refl _ _).drew).trans hb2
  have hpl : ps.length = pfLen M len := hperm.length_eq
  have hps14 : ps.length ≤ 14 := by omega
  have hS2 : True ∧ W2.cell? ⟨W.heap.size, 0, none⟩ = some (.pointer (some ⟨g, 0, none⟩)) ∧ W2.cell? ⟨W.heap.size + 1 + 1, 0, none⟩ = some (.func (.func 89) #[] #[.pointer (some ⟨W.heap.size, 0, none⟩), .pointer (some ⟨W.heap.size + 1, 0, none⟩), .pointer (some ⟨W.heap.size + 1 + 1, 0, none⟩)]) :=
    ⟨trivial, (hb2'.cell (p := ⟨W.heap.size, 0, none⟩) (by simp; omega)).trans c1, (hb2'.cell (p := ⟨W.heap.size + 1 + 1, 0, none⟩) (by simp; omega)).trans c3⟩
  have HB2 := Lib.hid hb2'
  have HPL := Lib.hid hpl
  clear hps hperm hb2 hb2' hpl hS
  refine hK.out _ _ (hS2) (fun hS => ?_)
  clear hK
  clear K
  try (simp only [Act.put, List.setIfInBounds_toArray, List.set_cons_zero, List.set_cons_succ])
  clear hS2
  apply wpPlan_step
  case ho => (simp only [List.getElem?_toArray, List.getElem?_cons_succ, List.getElem?_cons_zero]; exact rfl)
  intro K hK
  rw [if_pos (by rfl)]
  go_simp
  refine hK.out _ _ (hS) (fun hS => ?_)
  clear hK
  clear K
  try (simp only [Act.put, List.setIfInBounds_toArray, List.set_cons_zero, List.set_cons_succ])
  apply wpPlan_step
  case ho => (simp only [List.getElem?_toArray, List.getElem?_cons_succ, List.getElem?_cons_zero]; exact rfl)
  intro K hK
  rw [if_pos (by rfl)]
  go_wp2_with fail
  have hB : Hid (W1.heap.size ≤ W2.heap.size) := Lib.hid HB2.out.size
  refine (more_any g len c A x0 x1 M W.heap.size (W.heap.size + 1) (W.heap.size + 1 + 1) hlen F cap eF wb (W.heap.size + 1 + 1 + 1) wt cs step Fin (HK.out _ (by omega)) ⟨hne, by omega, by omega, by omega⟩ ⟨by omega, by omega, by omega, by omega, by omega⟩ (pfLen M len)
    [] 0 s (.slice none 0 0) W2 _ _ _ rfl rfl (by rw [HPL.out]) (by simp; omega) (by simp) (by omega) (HP.out.later HB2.out) (HWB.out.later HB2.out) (World.ownsRow_nil W2 _ _ 1) (by have := hB.out; omega)).mono ?_
  rintro e W3 ⟨rfl, hout⟩
  have hc3 : Chg [wb] W2 W3 := hout.chg
  have hS3 : True ∧ W3.cell? ⟨W.heap.size, 0, none⟩ = some (.pointer (some ⟨g, 0, none⟩)) ∧ W3.cell? ⟨W.heap.size + 1 + 1, 0, none⟩ = some (.func (.func 89) #[] #[.pointer (some ⟨W.heap.size, 0, none⟩), .pointer (some ⟨W.heap.size + 1, 0, none⟩), .pointer (some ⟨W.heap.size + 1 + 1, 0, none⟩)]) := by
    have := hB.out
    exact ⟨trivial, (World.cell?_of_block (a := ⟨W.heap.size, 0, none⟩) (hc3.block _ (by simp; omega) (by simp; omega))).trans hS.2.1, (World.cell?_of_block (a := ⟨W.heap.size + 1 + 1, 0, none⟩) (hc3.block _ (by simp; omega) (by simp; omega))).trans hS.2.2⟩
  have HOUT := Lib.hid hout
  have HC3 := Lib.hid hc3
  clear hout hc3 hS
  refine hK.out _ _ (hS3) (fun hS => ?_)
  clear hK
  clear K
  try (simp only [Act.put, List.setIfInBounds_toArray, List.set_cons_zero, List.set_cons_succ])
  clear hS3
  refine wpPlan_end ?_
  clear hS
  refine bodyPost_end (results_none rfl _ _ _) rfl ?_
  have hb3 : Below W.heap.size W W2 := HBW.out.trans (HB2.out.mono (by omega))
  exact ⟨rfl, (Chg.of_below hb3).trans HC3.out, HOUT.out.go, HOUT.out.fin⟩
end Go.Proofs.Ytjihnnbpfdhceaa

/- boil.Fewest, boil.Trusted; errors of houses. Conditions: none beyond those that each theorem names. -/
set_option linter.unusedSimpArgs false
set_option linter.unusedVariables false
namespace Go.Proofs.Ytjihnnbpfdhceaa
open Go.RowKit Go.Shelf
attribute [local go_sem] Oper.semAt_some
attribute [local go_sem ↓] Go.wp_at_zero Go.wp_at_succ

set_option maxHeartbeats 400000 in
theorem opened_err (h : Hs) (A : Option Addr) (c : Nat) (w : World) (hr : RowIn Wg.enc 5 w w.heap.size A h.ws) (hl : h.ws.length ≤ 1000000) (hk : h.check ≠ 0) :
    Calls Try.prog 48 #[h.val A c] w fun e w' => e = .returned (.tuple #[.pointer none, .int .i64 h.check]) ∧ Below w.heap.size w w' := by
  have HR := Lib.hid hr
  have hq : (h.check != 0) = true := by simpa using hk
  clear hr hk
  unfold Hs.val
  go_enter Try.func48, Try.ntmps48
  go_wp2_with fail
  refine (check_any h A c _ ((HR.out.below ((Below.refl _ _).alloc (Nat.le_refl _) _)).mono (by simp)) (by omega)).mono ?_
  rintro e w1 ⟨rfl, hb1⟩
  have zhb1 := hb1.size
  try simp only [World.size_alloc, World.size_setCell, World.size_drew] at zhb1
  go_wp2
  go_ret2
  exact ⟨rfl, by repeat (first | exact Below.refl _ _ | exact hb1 | refine Below.drew ?_ | refine below_drewN ?_ _ | refine Below.setCell ?_ (by first | assumption | omega | (simp; done) | (simp; omega) | (simp at *; omega)) _ | refine Below.alloc ?_ (by first | assumption | omega | (simp; done) | (simp; omega) | (simp at *; omega)) _ | refine Below.trans ?_ (Below.mono hb1 (by first | assumption | omega | (simp; done) | (simp; omega) | (simp at *; omega))))⟩

/-- The watch of boil.Fewest keeps the first set, and lets no more. -/
def stepF (l : List Nat) (_ : List Nat) : Bool × List Nat := (false, l)
set_option maxHeartbeats 400000 in
theorem watch_fewest (wb B0 B : Nat) (hB : B0 ≤ B) (hwB : wb < B) : WatchOk 67 #[.pointer (some ⟨wb, 0, none⟩)] wb B 64 (fun (_ : List Nat) => #[.slice none 0 0]) stepF
    (fun s W => ∃ v, Blk W wb 64 #[v] ∧ W.ownsRow B0 3 1 v s.length (intsV s)) := by
  intro l s v W hl hx hwb hown hBW
  have HW := Lib.hid hwb
  have HO := Lib.hid hown
  have c0 := hwb.cell 0
  have f0 := hwb.frozen 0
  simp only [List.getElem?_toArray, List.getElem?_cons_zero] at c0
  rw [show ∀ a b : Value, (#[a] ++ #[b] : Array Value) = #[a, b] from fun _ _ => rfl]
  obtain ⟨ao, n, cap, rfl⟩ : ∃ (ao : Option Addr) (n cap : Nat), v = .slice ao n cap := by
    rcases hown.2 with ⟨rfl, _⟩ | ⟨g, cap, cur, rfl, _⟩
    · exact ⟨_, _, _, rfl⟩
    · exact ⟨_, _, _, rfl⟩
  clear hwb hown
  go_enter Try.func67, Try.ntmps67
  go_wp2
  go_ret
  refine ⟨rfl, (Chg.refl _ _).set_ (.inl (by simp)) _, (fun h => (by cases h)), fun _ => ⟨_, HW.out.set_ 0 _, ?_⟩⟩
  exact ownsRow_base' (ownsRow_at HO.out (fun k hk hB' _ => Below.heap_setCell W ⟨wb, 0, none⟩ _ k (by simp; omega))) hB
/-- boil.Fewest's answer. -/
def fewL (M : Nat → Nat → Bool) (len : Nat) : List Nat := bif (seen M len stepF []).1 then [] else (seen M len stepF []).2

set_option maxRecDepth 100000 in
set_option maxHeartbeats 1000000 in
theorem fewest_any (h : Hs) (A : Option Addr) (c : Nat) (w : World) (hr : RowIn Wg.enc 5 w w.heap.size A h.ws) (hk : h.check = 0) :
    Calls Try.prog 27 #[h.val A c] w fun e w' => ∃ v, e = .returned (.tuple #[v, .int .i64 0]) ∧ w'.ownsRow w.heap.size 3 1 v (fewL h.clashM h.ws.length).length (intsV (fewL h.clashM h.ws.length)) ∧ Below w.heap.size w w' := by
  have hlen := check_len hk
  have HR := Lib.hid hr
  have HK := Lib.hid hk
  clear hr hk
  have eF := enters_of Try.func67 (by kernel_rfl) rfl
  unfold Hs.val
  go_enter Try.func27, Try.ntmps27
  go_wp2_with fail
  refine (opened_any h A c _ ((HR.out.below ((Below.refl _ _).alloc (Nat.le_refl _) _)).mono (by simp)) HK.out).mono ?_
  rintro e w1 ⟨g, rfl, hg, hgb, hb1⟩
  have hz1 : w.heap.size + 1 ≤ g := by simpa using hg
  have hbw1 : Below w.heap.size w w1 := by repeat (first | exact Below.refl _ _ | exact hb1 | refine Below.drew ?_ | refine below_drewN ?_ _ | refine Below.setCell ?_ (by first | assumption | omega | (simp; done) | (simp; omega) | (simp at *; omega)) _ | refine Below.alloc ?_ (by first | assumption | omega | (simp; done) | (simp; omega) | (simp at *; omega)) _ | refine Below.trans ?_ (Below.mono hb1 (by first | assumption | omega | (simp; done) | (simp; omega) | (simp at *; omega))))
  have hdk : Blk w1 g 134 (deskCells (.int .i64 h.months) (.int .i64 h.peak) (.slice A h.ws.length c) h.clashM) := hgb
  have hdl := hdk.lt
  have hzz := hbw1.size
  have HD := Lib.hid hdk
  have HB1 := Lib.hid hbw1
  clear hgb hg hb1 hdk hbw1
  go_wp2_with fail
  refine (smallest_any g h.ws.length c A _ _ h.clashM hlen 67 _ eF w1.heap.size 64 (fun (_ : List Nat) => #[.slice none 0 0]) stepF (fun s W => ∃ v, Blk W w1.heap.size 64 #[v] ∧ W.ownsRow w.heap.size 3 1 v s.length (intsV s)) [] _
    (fun B hB => watch_fewest _ _ _ (by simp at hB; omega) (by simp at hB; omega)) (HD.out.alloc _) (Blk.new _ _ _) (by omega)).mono ?_
  rintro e w3 ⟨rfl, hch, hgo, hfin⟩
  have hz3 := hch.size
  rw [World.size_alloc] at hz3
  have hb3 : Below w.heap.size w w3 := Chg.below hch (HB1.out.trans (((Below.refl _ _).alloc (Nat.le_refl _) _).mono hzz)) (by simp; omega) (by simp; omega)
  have hout : ∃ v, Blk w3 w1.heap.size 64 #[v] ∧ w3.ownsRow w.heap.size 3 1 v (fewL h.clashM h.ws.length).length (intsV (fewL h.clashM h.ws.length)) := by
    unfold fewL
    cases hs : (seen h.clashM h.ws.length stepF []).1
    · exact hfin hs
    · exact ⟨_, hgo hs, World.ownsRow_nil _ _ _ 1⟩
  obtain ⟨v, hv, hown⟩ := hout
  have c0 := hv.cell 0
  simp only [List.getElem?_toArray, List.getElem?_cons_zero] at c0
  have HO := Lib.hid hown
  have HB3 := Lib.hid hb3
  clear hch hgo hfin hv hown hb3
  go_wp2
  go_ret2
  exact ⟨_, rfl, HO.out, HB3.out⟩
end Go.Proofs.Ytjihnnbpfdhceaa

/- boil.Trusted. Conditions: none beyond those that each theorem names. -/
set_option linter.unusedSimpArgs false
set_option linter.unusedVariables false
namespace Go.Proofs.Ytjihnnbpfdhceaa
open Go.RowKit Go.Shelf
attribute [local go_sem] Oper.semAt_some
attribute [local go_sem ↓] Go.wp_at_zero Go.wp_at_succ

/-- The watch of boil.Trusted marks each weighing of each set, and goes on. -/
def orL (s : Nat → Bool) (l : List Nat) : Nat → Bool := fun n => s n || decide (n ∈ l)
def stepT (l : List Nat) (s : Nat → Bool) : Bool × (Nat → Bool) := (true, orL s l)
theorem orL_snoc (s : Nat → Bool) (l : List Nat) (i : Nat) (hi : i < l.length) : updB (orL s (l.take i)) l[i] true = orL s (l.take (i + 1)) := by
  have hm : ∀ n, n ∈ l.take (i + 1) ↔ (n ∈ l.take i ∨ n = l[i]) := by
    intro n
    rw [List.take_succ_eq_append_getElem hi, List.mem_append, List.mem_singleton]
  funext n
  unfold updB orL
  by_cases h : n = l[i]
  · rw [if_pos h, decide_eq_true ((hm n).2 (.inr h)), Bool.or_true]
  · rw [if_neg h]
    congr 1
    exact decide_eq_decide.2 ⟨fun x => (hm n).2 (.inl x), fun x => ((hm n).1 x).resolve_right h⟩
theorem orL_nil (s : Nat → Bool) : orL s [] = s := by funext n; simp [orL]
theorem addr_add0 (g i : Nat) : (⟨g, 0, none⟩ : Addr).add i = ⟨g, i, none⟩ := by unfold Addr.add; split <;> simp_all

theorem ownsRow_nth {W : World} {B : Nat} {e : TypeId} {v : Value} {l : List Nat} (h : W.ownsRow B e 1 v l.length (intsV l)) :
    ∃ (ao : Option Addr) (cap : Nat), v = .slice ao l.length cap ∧ ∀ i (hi : i < l.length), ∃ g, ao = some ⟨g, 0, none⟩ ∧ B ≤ g ∧ g < W.heap.size ∧ W.cell? ⟨g, i, none⟩ = some (.int .i64 (l[i] : Nat)) := by
  rcases h.2 with ⟨rfl, hn⟩ | ⟨g, cap, cur, rfl, hg, hh, r⟩
  · exact ⟨none, 0, by rw [hn], fun i hi => by omega⟩
  · refine ⟨_, _, rfl, fun i hi => ⟨g, rfl, hg, (Array.getElem?_eq_some_iff.1 hh).1, ?_⟩⟩
    have := h.cells (g := g) rfl i (.int .i64 (l[i] : Nat)) (by simp [intsV, hi])
    rwa [addr_add0] at this

set_option maxRecDepth 100000 in
set_option maxHeartbeats 1000000 in
theorem watch_trusted (wb B : Nat) (hwB : wb < B) : WatchOk 68 #[.pointer (some ⟨wb, 0, none⟩)] wb B 121 row14 stepT (fun _ _ => True) := by
  intro l s v W hl hx hwb hown hBW
  obtain ⟨ao, cap, rfl, hc⟩ := ownsRow_nth hown
  have HW := Lib.hid hwb
  have HC := Lib.hid hc
  rw [show ∀ a b : Value, (#[a] ++ #[b] : Array Value) = #[a, b] from fun _ _ => rfl]
  clear hwb hown hc
  go_enter Try.func68, Try.ntmps68
  go_wp2
  go_loopw [8] (fun i wr => ∃ k : Nat, k ≤ l.length ∧ i = .int .i64 k ∧ Chg [wb] W wr ∧ Blk wr wb 121 (row14 (orL s (l.take k)))) (fun i _ => l.length - (intOf i).toNat)
  case atStart => exact ⟨0, Nat.zero_le _, rfl, Chg.refl _ _, by rw [List.take_zero, orL_nil]; exact HW.out⟩
  case round =>
    obtain ⟨k, hk, rfl, hch, hb⟩ := hrel
    by_cases hlt : k < l.length
    · obtain ⟨g, rfl, hg, hgl, ck⟩ := HC.out k hlt
      have hgw : g ≠ wb := by omega
      have hx14 : l[k] < 14 := hx _ (List.getElem_mem hlt)
      have ck2 : wr.cell? ⟨g, k, none⟩ = some (.int .i64 (l[k] : Nat)) := (World.cell?_of_block (a := ⟨g, k, none⟩) (hch.block g hgl (by simp [hgw]))).trans ck
      have HS := Lib.hid (orL_snoc s l k hlt)
      generalize l[k] = x at hx14 ck2 HS
      have hx14' : (x : Int) < 14 := by omega
      have cx := (hb.cell x).trans (row14_at _ _ (by omega))
      have fx := hb.frozen x
      have HB := Lib.hid hb
      have HCH := Lib.hid hch
      clear hb hch ck
      go_wp2
      go_roundw
      case rel =>
        refine ⟨k + 1, by omega, by go_num, HCH.out.set_ (.inl (by simp)) _, ?_⟩
        have := HB.out.set_ x (.bool true)
        rw [row14_set, HS.out] at this
        exact this
      case measure => simp [intOf]; omega
    · obtain rfl : k = l.length := by omega
      rw [List.take_length] at hb
      have HB := Lib.hid hb
      have HCH := Lib.hid hch
      clear hb hch
      go_wp2
      go_ret
      exact ⟨rfl, HCH.out, fun _ => HB.out, fun _ => trivial⟩

theorem runW_true {σ : Type} (M : Nat → Nat → Bool) (len : Nat) (step : List Nat → σ → Bool × σ) (h : ∀ l s, (step l s).1 = true) (L : List (List Nat)) (s : σ) : (runW (leafW M len step) L s).1 = true := by
  induction L generalizing s with
  | nil => rfl
  | cons l L ih =>
    unfold runW
    have : (leafW M len step l s).1 = true := by
      unfold leafW
      cases clashesB M len (inL l)
      · exact h l s
      · rfl
    rw [this]
    exact ih _
/-- Which weighings are in some smallest set. -/
def doubtB (M : Nat → Nat → Bool) (len : Nat) : Nat → Bool := (seen M len stepT (fun _ => false)).2
def keepTo (d : Nat → Bool) (n : Nat) : List Nat := (List.range n).filter fun i => !d i
theorem keepTo_no (d : Nat → Bool) (n : Nat) (h : d n = true) : keepTo d (n + 1) = keepTo d n := by
  unfold keepTo; rw [List.range_succ, List.filter_append]; simp [h]
theorem keepTo_yes (d : Nat → Bool) (n : Nat) (h : d n = false) : keepTo d (n + 1) = keepTo d n ++ [n] := by
  unfold keepTo; rw [List.range_succ, List.filter_append]; simp [h]
theorem keepTo_len (d : Nat → Bool) (n : Nat) : (keepTo d n).length ≤ n := by
  unfold keepTo
  have := List.length_filter_le (fun i => !d i) (List.range n)
  simpa using this
/-- boil.Trusted's answer. -/
def trustL (M : Nat → Nat → Bool) (len : Nat) : List Nat := keepTo (doubtB M len) len

set_option maxRecDepth 100000 in
set_option maxHeartbeats 1000000 in
theorem trusted_any (h : Hs) (A : Option Addr) (c : Nat) (w : World) (hr : RowIn Wg.enc 5 w w.heap.size A h.ws) (hk : h.check = 0) :
    Calls Try.prog 28 #[h.val A c] w fun e w' => ∃ v, e = .returned (.tuple #[v, .int .i64 0]) ∧ w'.ownsRow w.heap.size 3 1 v (trustL h.clashM h.ws.length).length (intsV (trustL h.clashM h.ws.length)) ∧ Below w.heap.size w w' := by
  obtain ⟨i0, hi0, hz0, hz1, hz2⟩ := info_parts info_int
  have hlen := check_len hk
  have HR := Lib.hid hr
  have HK := Lib.hid hk
  clear hr hk
  have eF := enters_of Try.func68 (by kernel_rfl) rfl
  have hz14 := zero_row14
  unfold Hs.val
  go_enter Try.func28, Try.ntmps28
  go_wp2_with fail
  refine (opened_any h A c _ ((HR.out.below ((Below.refl _ _).alloc (Nat.le_refl _) _)).mono (by simp)) HK.out).mono ?_
  rintro e w1 ⟨g, rfl, hg, hgb, hb1⟩
  have hzg : w.heap.size + 1 ≤ g := by simpa using hg
  have hbw1 : Below w.heap.size w w1 := by repeat (first | exact Below.refl _ _ | exact hb1 | refine Below.drew ?_ | refine below_drewN ?_ _ | refine Below.setCell ?_ (by first | assumption | omega | (simp; done) | (simp; omega) | (simp at *; omega)) _ | refine Below.alloc ?_ (by first | assumption | omega | (simp; done) | (simp; omega) | (simp at *; omega)) _ | refine Below.trans ?_ (Below.mono hb1 (by first | assumption | omega | (simp; done) | (simp; omega) | (simp at *; omega))))
  have hdk : Blk w1 g 134 (deskCells (.int .i64 h.months) (.int .i64 h.peak) (.slice A h.ws.length c) h.clashM) := hgb
  have hho : Blk w1 w.heap.size 25 #[.int .i64 h.months, .int .i64 h.peak, .slice A h.ws.length c] := (Blk.new w 25 _).later hb1
  have hdl := hdk.lt
  have hzz := hbw1.size
  have HD := Lib.hid hdk
  have HB1 := Lib.hid hbw1
  have HH := Lib.hid hho
  clear hgb hg hb1 hdk hbw1 hho
  go_wp2_with fail
  refine (smallest_any g h.ws.length c A _ _ h.clashM hlen 68 _ eF w1.heap.size 121 row14 stepT (fun _ _ => True) (fun _ => false) _
    (fun B hB => watch_trusted _ _ (by simp at hB; omega)) (HD.out.alloc _) (Blk.new _ _ _) (by omega)).mono ?_
  rintro e w3 ⟨rfl, hch, hgo, _⟩
  have hz3 := hch.size
  rw [World.size_alloc] at hz3
  have hb3 : Below w.heap.size w w3 := Chg.below hch (HB1.out.trans (((Below.refl _ _).alloc (Nat.le_refl _) _).mono hzz)) (by simp; omega) (by simp; omega)
  have hv : Blk w3 w1.heap.size 121 (row14 (doubtB h.clashM h.ws.length)) := hgo (runW_true _ _ _ (fun _ _ => rfl) _ _)
  have hho3 : Blk w3 w.heap.size 25 #[.int .i64 h.months, .int .i64 h.peak, .slice A h.ws.length c] := (hch.block w.heap.size (by simp; have := HH.out.lt; omega) (by simp; have := HH.out.lt; omega)).trans (HH.out.alloc _)
  have c2 := hho3.cell 2
  simp only [List.getElem?_toArray, List.getElem?_cons_zero, List.getElem?_cons_succ] at c2
  have HV := Lib.hid hv
  have hb0 : Below w3.heap.size w3 w3 := Below.refl _ _
  have HB3 := Lib.hid hb3
  have hwl : w1.heap.size < w3.heap.size := hv.lt
  clear hch hgo hv hho3 hz14 hb3
  go_wp2
  go_loopw [7, 24] (fun v i wr => ∃ n : Nat, n ≤ h.ws.length ∧ i = .int .i64 n ∧ Below w3.heap.size w3 wr ∧ wr.ownsRow w3.heap.size 3 1 v (keepTo (doubtB h.clashM h.ws.length) n).length (intsV (keepTo (doubtB h.clashM h.ws.length) n))) (fun _ i _ => h.ws.length - (intOf i).toNat)
  case atStart => exact ⟨0, by omega, rfl, hb0, World.ownsRow_nil _ _ _ 1⟩
  case round =>
    clear hb0 c2
    obtain ⟨n, hn, rfl, hB, hOw⟩ := hrel
    by_cases hlt : n < h.ws.length
    · have hlt' : (n : Int) < 14 := by omega
      have hlt2 : (n : Int) < (h.ws.length : Int) := by omega
      have hvw := HV.out.later hB
      have cn := (hvw.cell n).trans (row14_at _ _ (by omega))
      have hlk := keepTo_len (doubtB h.clashM h.ws.length) n
      have HZ := hB.size
      clear hvw
      cases hd : doubtB h.clashM h.ws.length n
      · rw [hd] at cn
        have HP := Lib.hid (keepTo_yes _ _ hd)
        clear hd
        go_wp2_with (at_builtin; refine wpList_append_own _ rfl _ _ 64 rfl w3.heap.size 3 i0 _ 1 8 Try.underlying64 hi0 hz0 hz1 hz2 rfl (by decide) _ _ _ rfl (hOw.alloc _) ⟨wr.heap.size, 0, none⟩ 1 1 [.int .i64 n] rfl rfl ?c1 ?c2 ?c3 ?c4 ?c5 ?_)
        case c1 => exact World.news_of_block (cs := #[.int .i64 n]) (t := 3) (fr := (0, 0)) (heap_alloc_new wr _)
        case c2 => simp [Value.oneCell']
        case c3 => unfold maxLen; omega
        case c4 => omega
        case c5 => simp; omega
        intro v' wn hown' hgrow _
        have hBn : Below w3.heap.size w3 wn := (hB.alloc HZ _).grown hgrow (by simp; omega) (fun g hg => (hOw.lt g hg).1)
        have HOw := Lib.hid hown'
        clear hown' hgrow hOw cn
        go_wp2
        go_roundw
        case rel => exact ⟨n + 1, by omega, by go_num, hBn, by rw [HP.out, intsV_snoc, List.length_append]; exact HOw.out⟩
        case measure => simp [intOf]; omega
      · rw [hd] at cn
        have HP := Lib.hid (keepTo_no _ _ hd)
        have HOw := Lib.hid hOw
        clear hd hOw
        go_wp2
        go_roundw
        case rel => exact ⟨n + 1, by omega, by go_num, hB, by rw [HP.out]; exact HOw.out⟩
        case measure => simp [intOf]; omega
    · obtain rfl : n = h.ws.length := by omega
      have HOw := Lib.hid hOw
      clear hOw
      go_wp2
      go_ret2
      exact ⟨_, rfl, ownsRow_base' HOw.out (HB3.out.size), HB3.out.trans (hB.mono HB3.out.size)⟩
end Go.Proofs.Ytjihnnbpfdhceaa
