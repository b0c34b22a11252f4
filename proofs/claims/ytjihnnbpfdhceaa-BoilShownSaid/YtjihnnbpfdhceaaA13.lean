/- The closure of boil.desk.smallest that tells sets of weighings. Conditions: none beyond those that each theorem names. -/
import Derived.Test.YtjihnnbpfdhceaaP2
import Derived.Test.YtjihnnbpfdhceaaR3
import Derived.Deep.RegionHeld3
import Derived.Deep.DrawnRows
import Derived.Deep.MidRow
set_option linter.unusedSimpArgs false
set_option linter.unusedVariables false
namespace Go.Proofs.Ytjihnnbpfdhceaa
open Go.RowKit Go.Shelf
attribute [local go_sem] Oper.semAt_some
attribute [local go_sem ↓] Go.wp_at_zero Go.wp_at_succ

/-- What one append of one value brings. -/
structure App2 (base : Nat) (e : TypeId) (w : World) (v : Value) (n : Nat) (xs : List Value) (x : Value) (v' : Value) (w' : World) : Prop where
  own : w'.ownsRow base e 1 v' (n + 1) (xs ++ [x])
  how : (v'.ownBlock = v.ownBlock ∧ w.grownBy w' v.ownBlock ∧ ∀ W : World, W.ownsRow base e 1 v' (n + 1) (xs ++ [x]) → W.ownsRow base e 1 v n xs) ∨ ((∃ g, v'.ownBlock = some g ∧ w.heap.size ≤ g) ∧ w.grownBy w' none)
theorem App2.grown {base : Nat} {e : TypeId} {w : World} {v : Value} {n : Nat} {xs : List Value} {x v' : Value} {w' : World} (h : App2 base e w v n xs x v' w') : w.grownBy w' v.ownBlock := by
  rcases h.how with ⟨_, h, _⟩ | ⟨_, h⟩
  · exact h
  · exact grown_below (below_grown h)

theorem step_append_two {P : Program} {ops : Array Oper} {o : Oper} {a : Act} {w : World} {K : Act → World → Prop} {Q : Exit → Act → World → Prop} {E : Prop} (hgd : o.guard = none) (s y : Operand) (t : TypeId)
    (ho : o.op = .call { callee := .builtin .append, args := #[s, y], argTypes := #[t, t] })
    (base : Nat) (e : TypeId) (i : TypeInfo) (z : Value) (bytes : Nat) (ht : P.underlying t = some (.slice e)) (hi : P.info? e = some i) (hz : i.zero = some z)
    (hsize : i.size = 1) (hby : i.bytes = bytes) (hzs : z.cells.size = 1)
    (v : Value) (n : Nat) (xs : List Value) (hs : a.eval s = v) (hown : w.ownsRow base e 1 v n xs)
    (ad : Addr) (c : Nat) (x : Value) (hy : a.eval y = .slice (some ad) 1 c) (hx : w.cell? ad = some x) (h1 : x.oneCell' = true)
    (h63 : n + 1 ≤ maxLen) (hbytes : (n + 1) * bytes ≤ 140737488355328) (hbase : base ≤ w.heap.size)
    (h : ∀ v' w', App2 base e w v n xs x v' w' → K (a.put o.dst v') w') :
    if Region.wanted o (yielded ops a.tmps) = true then Oper.wp P o a w K Q else E := by
  have hw : Region.wanted o (yielded ops a.tmps) = true := by simp [Region.wanted, hgd]
  rw [if_pos hw]
  obtain ⟨v', w', hr, h2, h3⟩ := run_append_two (P := P) w base t o.type e i z bytes ht hi hz hsize hby hzs v n xs hown ad c x hx h1 h63 hbytes hbase
  unfold Oper.wp execOp
  simp only [ho, resolve, invoke, builtin, Sem.run_bind, Sem.run_pure, Result.andThen_ok, List.map_toArray, List.map_cons, List.map_nil, hs, hy, hr]
  exact h v' w' ⟨h2, h3⟩

def moreFn (pd pw pm : Nat) : Value := .func (.func 89) #[] #[.pointer (some ⟨pd, 0, none⟩), .pointer (some ⟨pw, 0, none⟩), .pointer (some ⟨pm, 0, none⟩)]
/-- What the closure reads. -/
structure MoreAt (g len c : Nat) (A : Option Addr) (x0 x1 : Value) (M : Nat → Nat → Bool) (pd pw pm : Nat) (wv : Value) (W : World) : Prop where
  desk : Blk W g 134 (deskCells x0 x1 (.slice A len c) M)
  d : Blk W pd 96 #[.pointer (some ⟨g, 0, none⟩)]
  w : Blk W pw 119 #[wv]
  p : Blk W pm 137 #[moreFn pd pw pm]
theorem MoreAt.chg {g len c : Nat} {A : Option Addr} {x0 x1 : Value} {M : Nat → Nat → Bool} {pd pw pm : Nat} {wv : Value} {W W' : World} {S : List Nat} (h : MoreAt g len c A x0 x1 M pd pw pm wv W) (hc : Chg S W W') (hS : ∀ k ∈ S, k ≠ g ∧ k ≠ pd ∧ k ≠ pw ∧ k ≠ pm) : MoreAt g len c A x0 x1 M pd pw pm wv W' :=
  ⟨(hc.block g h.desk.lt (fun hm => (hS _ hm).1 rfl)).trans h.desk, (hc.block pd h.d.lt (fun hm => (hS _ hm).2.1 rfl)).trans h.d,
    (hc.block pw h.w.lt (fun hm => (hS _ hm).2.2.1 rfl)).trans h.w, (hc.block pm h.p.lt (fun hm => (hS _ hm).2.2.2 rfl)).trans h.p⟩
theorem MoreAt.later {g len c : Nat} {A : Option Addr} {x0 x1 : Value} {M : Nat → Nat → Bool} {pd pw pm : Nat} {wv : Value} {W W' : World} (h : MoreAt g len c A x0 x1 M pd pw pm wv W) (hb : Below W.heap.size W W') : MoreAt g len c A x0 x1 M pd pw pm wv W' :=
  h.chg (S := []) (Chg.of_below hb) (by simp)

/-- A watch: what it does with a set that it is told. -/
def WatchOk {σ : Type} (F : FuncId) (cap : Array Value) (wb B : Nat) (wt : TypeId) (cs : σ → Array Value) (step : List Nat → σ → Bool × σ) (Fin : σ → World → Prop) : Prop :=
  ∀ (l : List Nat) (s : σ) (v : Value) (W : World), l.length ≤ 14 → (∀ x ∈ l, x < 14) → Blk W wb wt (cs s) → W.ownsRow B 3 1 v l.length (intsV l) → B ≤ W.heap.size →
    Calls Try.prog F (#[v] ++ cap) W fun e W' => e = .returned (.bool (step l s).1) ∧ Chg [wb] W W' ∧ ((step l s).1 = true → Blk W' wb wt (cs (step l s).2)) ∧ ((step l s).1 = false → Fin (step l s).2 W')

structure MoreOut {σ : Type} (wb B : Nat) (wt : TypeId) (cs : σ → Array Value) (Fin : σ → World → Prop) (v : Value) (l : List Nat) (r : Bool × σ) (W W' : World) : Prop where
  chg : Chg (wb :: v.ownBlock.toList) W W'
  own : W'.ownsRow B 3 1 v l.length (intsV l)
  go : r.1 = true → Blk W' wb wt (cs r.2)
  fin : r.1 = false → Fin r.2 W'

theorem wpQuiet_load_row {P : Program} {ops : Array Oper} {C : World → Prop} {Q : Act → Prop} {rest : List Oper} {o : Oper} {a : Act} (hgd : o.guard = none) (ty : TypeId) (x : Operand) (ho : o.op = .load ty x)
    (g : Nat) (hx : a.eval x = .pointer (some ⟨g, 0, none⟩)) (t : TypeId) (cs : Array Value) (fr : Nat × Nat) (d : TypeDesc) (hg : ∀ w, C w → w.heap[g]? = some (.cells cs t fr))
    (hu : P.underlying ty = some d) (hd : (match d with | .struct _ | .array _ _ => true | _ => false) = true) (hi : (P.info? ty).map (·.size) = some cs.size)
    (h : wpQuiet P ops C Q rest (a.put o.dst (.agg cs))) : wpQuiet P ops C Q (o :: rest) a :=
  wpQuiet_step fun K hK => by
    rw [if_pos (by simp [Region.wanted, hgd])]
    exact ⟨.agg cs, fun w hw => by
      unfold Oper.quietAt execOp
      simp only [ho, hx, Instr.loadAt, Instr.sureAddr, Sem.run_bind, Sem.run_pure, Result.andThen_ok, run_loadVar_row w g t ty cs fr d (hg w hw) hu hd hi]
      exact ⟨rfl, rfl⟩, hK _ h⟩
theorem ownsRow_keep {w w' : World} {base : Nat} {e : TypeId} {size : Nat} {v : Value} {n : Nat} {xs : List Value} (h : w.ownsRow base e size v n xs) (hb : Below w.heap.size w w') : w'.ownsRow base e size v n xs := by
  obtain ⟨h1, h2⟩ := h
  refine ⟨h1, ?_⟩
  rcases h2 with h2 | ⟨g, cap, cur, hv, hg, hh, r⟩
  · exact .inl h2
  · exact .inr ⟨g, cap, cur, hv, hg, (hb.block g (Array.getElem?_eq_some_iff.1 hh).1).trans hh, r⟩
theorem ownsRow_chg {w w' : World} {base : Nat} {e : TypeId} {size : Nat} {v : Value} {n : Nat} {xs : List Value} {S : List Nat} (h : w.ownsRow base e size v n xs) (hb : Chg S w w') (hS : ∀ k ∈ S, k < base) : w'.ownsRow base e size v n xs := by
  obtain ⟨h1, h2⟩ := h
  refine ⟨h1, ?_⟩
  rcases h2 with h2 | ⟨g, cap, cur, hv, hg, hh, r⟩
  · exact .inl h2
  · exact .inr ⟨g, cap, cur, hv, hg, (hb.block g (Array.getElem?_eq_some_iff.1 hh).1 (fun hm => by have := hS g hm; omega)).trans hh, r⟩
theorem row14_sz (r : Nat → Bool) : (row14 r).size = 14 := Array.size_ofFn
theorem row14_list (r : Nat → Bool) : (row14 r).toList.length = 14 := by rw [Array.length_toList]; exact Array.size_ofFn
theorem info_set : (Try.prog.info? 121).map (·.size) = some 14 := by kernel_rfl

def MoreOk {σ : Type} (g len c : Nat) (A : Option Addr) (x0 x1 : Value) (M : Nat → Nat → Bool) (pd pw pm : Nat) (F : FuncId) (cap : Array Value) (wb B : Nat) (wt : TypeId) (cs : σ → Array Value) (step : List Nat → σ → Bool × σ) (Fin : σ → World → Prop) (left : Nat) : Prop :=
  ∀ (l : List Nat) (f : Nat) (s : σ) (v : Value) (W : World) (xa xf xl : Value), xa = .agg (row14 (inL l)) → xf = .int .i64 f → xl = .int .i64 left →
    l.length + left ≤ 14 → (∀ x ∈ l, x < 14) → f ≤ 14 → MoreAt g len c A x0 x1 M pd pw pm (.func (.func F) #[] cap) W → Blk W wb wt (cs s) → W.ownsRow B 3 1 v l.length (intsV l) → B ≤ W.heap.size →
    Calls Try.prog 89 #[xa, v, xf, xl, .pointer (some ⟨pd, 0, none⟩), .pointer (some ⟨pw, 0, none⟩), .pointer (some ⟨pm, 0, none⟩)] W fun e W' =>
      e = .returned (.bool (runW (leafW M len step) (subsL len left l f) s).1) ∧ MoreOut wb B wt cs Fin v l (runW (leafW M len step) (subsL len left l f) s) W W'

set_option maxRecDepth 100000 in
set_option maxHeartbeats 2000000 in
theorem more_zero {σ : Type} (g len c : Nat) (A : Option Addr) (x0 x1 : Value) (M : Nat → Nat → Bool) (pd pw pm : Nat) (hlen : len ≤ 14) (F : FuncId) (cap : Array Value) (eF : ∀ args w, (callFunc F args).run Try.prog w = .ok (.enter F args) w) (wb B : Nat) (wt : TypeId) (cs : σ → Array Value) (step : List Nat → σ → Bool × σ) (Fin : σ → World → Prop)
    (hW : WatchOk F cap wb B wt cs step Fin) (hk : wb ≠ g ∧ wb ≠ pd ∧ wb ≠ pw ∧ wb ≠ pm) (hB : wb < B ∧ g < B ∧ pd < B ∧ pw < B ∧ pm < B) : MoreOk g len c A x0 x1 M pd pw pm F cap wb B wt cs step Fin 0 := by
  intro l f s v W xa xf xl rfl rfl rfl hll hx14 hf hP hwb hown hBW
  rw [show subsL len 0 l f = [l] from rfl, runW_one]
  have cd := hP.d.cell 0
  have cw := hP.w.cell 0
  simp only [List.getElem?_toArray, List.getElem?_cons_zero] at cd cw
  have HP := Lib.hid hP
  have HWB := Lib.hid hwb
  have HO := Lib.hid hown
  have hpd := hP.d.lt
  have hpw := hP.w.lt
  have hw1 : ∃ W1 : World, W1 = W.alloc (.cells (row14 (inL l)) 121) := ⟨_, rfl⟩
  obtain ⟨W1, hW1⟩ := hw1
  have hbw : Below W.heap.size W W1 := by rw [hW1]; repeat (first | exact Below.refl _ _ | exact Below.refl _ _ | refine Below.drew ?_ | refine below_drewN ?_ _ | refine Below.setCell ?_ (by first | assumption | omega | (simp; done) | (simp; omega) | (simp at *; omega)) _ | refine Below.alloc ?_ (by first | assumption | omega | (simp; done) | (simp; omega) | (simp at *; omega)) _ | refine Below.trans ?_ (Below.mono Below.refl _ _ (by first | assumption | omega | (simp; done) | (simp; omega) | (simp at *; omega))))
  have hnow : Blk W1 W.heap.size 121 (row14 (inL l)) := by rw [hW1]; exact Blk.new _ _ _
  clear hP hwb hown
  go_enter Try.func89, Try.ntmps89
  go_wp2
  rw [← hW1]
  have hP1 := HP.out.later hbw
  have cn := hnow
  have cd1 := (hbw.cell (p := ⟨pd, 0, none⟩) hpd).trans cd
  have cw1 := (hbw.cell (p := ⟨pw, 0, none⟩) hpw).trans cw
  have hnl := hnow.lt
  have HN := Lib.hid hnow
  have HP1 := Lib.hid hP1
  have cd0 := cd
  have cw0 := cw
  clear hnow hW1 cd cw cn hP1
  cases hq : clashesB M len (inL l)
  · have HB0 := Lib.hid hW
    clear hW
    refine wp_region_plan (fun w' => (w'.cell? ⟨pd, 0, none⟩ = some (.pointer (some ⟨g, 0, none⟩)) ∧ w'.cell? ⟨pw, 0, none⟩ = some (.func (.func F) #[] cap)) ∧ w'.heap[W.heap.size]? = some (.cells (row14 (inL l)) 121 (0, 0)))
      [(0, true), (1, true), (2, false), (3, true), (4, true), (5, true), (6, true), (7, false), (8, false), (9, false), (10, false)] (by kernel_rfl) (by kernel_rfl) (fun _ _ _ _ _ h => h) ⟨⟨by simpa using cd1, by simpa using cw1⟩, HN.out⟩ (fun hS => ?_)
    apply wpPlan_take
    case hi => (simp only [List.getElem?_toArray, List.getElem?_cons_succ, List.getElem?_cons_zero]; exact rfl)
    case hw => rfl
    case hr => (intro w' hSw; (try dsimp only at hSw); go_split_ands; go_simp; try with_reducible rfl)
    (simp only [Act.put, List.setIfInBounds_toArray, List.set_cons_zero, List.set_cons_succ])
    apply wpPlan_row (ty := 121) (g := W.heap.size) (t := 121) (cs := row14 (inL l)) (fr := (0, 0)) (hg := fun w' hw' => hw'.2) (hu := Try.underlying121) (hd := rfl)
    case hi => (simp only [List.getElem?_toArray, List.getElem?_cons_succ, List.getElem?_cons_zero]; exact rfl)
    case hw => rfl
    case ho => rfl
    case hx => rfl
    case hi' => (rw [row14_sz]; exact info_set)
    (simp only [Act.put, List.setIfInBounds_toArray, List.set_cons_zero, List.set_cons_succ])
    apply wpPlan_step
    case ho => (simp only [List.getElem?_toArray, List.getElem?_cons_succ, List.getElem?_cons_zero]; exact rfl)
    intro K hK
    rw [if_pos (by rfl)]
    go_wp2_with fail
    refine (clashes_any g len c A x0 x1 M (inL l) _ (HP1.out.later (Below.refl _ _).drew).desk hlen).mono ?_
    rintro e W2 ⟨rfl, hb2⟩
    rw [hq]
    have hbw2 : Below W.heap.size W W2 := (hbw.drew).trans (hb2.mono (by simpa using hbw.size))
    have hS2 : (W2.cell? ⟨pd, 0, none⟩ = some (.pointer (some ⟨g, 0, none⟩)) ∧ W2.cell? ⟨pw, 0, none⟩ = some (.func (.func F) #[] cap)) ∧ W2.heap[W.heap.size]? = some (.cells (row14 (inL l)) 121 (0, 0)) :=
      ⟨⟨(hbw2.cell (p := ⟨pd, 0, none⟩) hpd).trans cd0, (hbw2.cell (p := ⟨pw, 0, none⟩) hpw).trans cw0⟩, ((HN.out.later (Below.refl _ _).drew).later hb2)⟩
    clear hb2 hS
    refine hK.out _ _ (hS2) (fun hS => ?_)
    clear hK
    clear K
    try (simp only [Act.put, List.setIfInBounds_toArray, List.set_cons_zero, List.set_cons_succ])
    clear hS2
    apply wpPlan_take
    case hi => (simp only [List.getElem?_toArray, List.getElem?_cons_succ, List.getElem?_cons_zero]; exact rfl)
    case hw => rfl
    case hr => (intro w' hSw; (try dsimp only at hSw); go_split_ands; go_simp; try with_reducible rfl)
    (simp only [Act.put, List.setIfInBounds_toArray, List.set_cons_zero, List.set_cons_succ])
    apply wpPlan_take
    case hi => (simp only [List.getElem?_toArray, List.getElem?_cons_succ, List.getElem?_cons_zero]; exact rfl)
    case hw => rfl
    case hr => (intro w' hSw; (try dsimp only at hSw); go_split_ands; go_simp; try with_reducible rfl)
    (simp only [Act.put, List.setIfInBounds_toArray, List.set_cons_zero, List.set_cons_succ])
    apply wpPlan_take
    case hi => (simp only [List.getElem?_toArray, List.getElem?_cons_succ, List.getElem?_cons_zero]; exact rfl)
    case hw => rfl
    case hr => (intro w' hSw; (try dsimp only at hSw); go_split_ands; go_simp; try with_reducible rfl)
    (simp only [Act.put, List.setIfInBounds_toArray, List.set_cons_zero, List.set_cons_succ])
    apply wpPlan_take
    case hi => (simp only [List.getElem?_toArray, List.getElem?_cons_succ, List.getElem?_cons_zero]; exact rfl)
    case hw => rfl
    case hr => (intro w' hSw; (try dsimp only at hSw); go_split_ands; go_simp; try with_reducible rfl)
    (simp only [Act.put, List.setIfInBounds_toArray, List.set_cons_zero, List.set_cons_succ])
    apply wpPlan_step
    case ho => (simp only [List.getElem?_toArray, List.getElem?_cons_succ, List.getElem?_cons_zero]; exact rfl)
    intro K hK
    rw [if_pos (by rfl)]
    go_wp2_with fail
    refine (clone_any v B l _ (ownsRow_keep HO.out hbw2) (Nat.le_trans hBW hbw2.size) (by omega)).mono ?_
    rintro e W3 ⟨v', rfl, hown3, hb3⟩
    have hbw3 : Below W.heap.size W W3 := hbw2.trans (hb3.mono hbw2.size)
    have hS3 : (W3.cell? ⟨pd, 0, none⟩ = some (.pointer (some ⟨g, 0, none⟩)) ∧ W3.cell? ⟨pw, 0, none⟩ = some (.func (.func F) #[] cap)) ∧ W3.heap[W.heap.size]? = some (.cells (row14 (inL l)) 121 (0, 0)) :=
      ⟨⟨(hbw3.cell (p := ⟨pd, 0, none⟩) hpd).trans cd0, (hbw3.cell (p := ⟨pw, 0, none⟩) hpw).trans cw0⟩, (Blk.later hS.2 hb3)⟩
    clear hS
    have HO3 := Lib.hid (ownsRow_base' hown3 (Nat.le_trans hBW hbw2.size))
    clear hb3 hown3
    refine hK.out _ _ (hS3) (fun hS => ?_)
    clear hK
    clear K
    try (simp only [Act.put, List.setIfInBounds_toArray, List.set_cons_zero, List.set_cons_succ])
    clear hS3
    apply wpPlan_step
    case ho => (simp only [List.getElem?_toArray, List.getElem?_cons_succ, List.getElem?_cons_zero]; exact rfl)
    intro K hK
    rw [if_pos (by rfl)]
    go_wp2_with fail
    refine (HB0.out l s v' W3 (by omega) hx14 (HWB.out.later hbw3) HO3.out (Nat.le_trans hBW hbw3.size)).mono ?_
    rintro e W4 ⟨rfl, hch4, hgo4, hfin4⟩
    have hS4 : (W4.cell? ⟨pd, 0, none⟩ = some (.pointer (some ⟨g, 0, none⟩)) ∧ W4.cell? ⟨pw, 0, none⟩ = some (.func (.func F) #[] cap)) ∧ W4.heap[W.heap.size]? = some (.cells (row14 (inL l)) 121 (0, 0)) :=
      ⟨⟨(World.cell?_of_block (a := ⟨pd, 0, none⟩) (hch4.block pd (by have := hbw3.size; omega) (by simp; exact Ne.symm hk.2.1))).trans hS.1.1, (World.cell?_of_block (a := ⟨pw, 0, none⟩) (hch4.block pw (by have := hbw3.size; omega) (by simp; exact Ne.symm hk.2.2.1))).trans hS.1.2⟩,
        (hch4.block W.heap.size (Blk.lt hS.2) (by simp; omega)).trans hS.2⟩
    clear hS
    have HC4 := Lib.hid hch4
    have HG4 := Lib.hid hgo4
    have HF4 := Lib.hid hfin4
    clear hch4 hgo4 hfin4
    refine hK.out _ _ (hS4) (fun hS => ?_)
    clear hK
    clear K
    try (simp only [Act.put, List.setIfInBounds_toArray, List.set_cons_zero, List.set_cons_succ])
    clear hS4
    apply wpPlan_step
    case ho => (simp only [List.getElem?_toArray, List.getElem?_cons_succ, List.getElem?_cons_zero]; exact rfl)
    intro K hK
    rw [if_pos (by rfl)]
    go_simp
    refine hK.out _ _ (hS) (fun hS => ?_)
    clear hK
    clear K
    try (simp only [Act.put, List.setIfInBounds_toArray, List.set_cons_zero, List.set_cons_succ])
    apply wpPlan_step
    case ho => (simp only [List.getElem?_toArray, List.getElem?_cons_succ, List.getElem?_cons_zero]; exact rfl)
    intro K hK
    rw [if_pos (by rfl)]
    go_simp
    refine hK.out _ _ (hS) (fun hS => ?_)
    clear hK
    clear K
    try (simp only [Act.put, List.setIfInBounds_toArray, List.set_cons_zero, List.set_cons_succ])
    refine wpPlan_end ?_
    clear hS
    go_wp2
    go_ret
    have hq' : leafW M len step l s = step l s := by unfold leafW; rw [hq]; rfl
    rw [hq']
    refine ⟨rfl, ((Chg.of_below hbw3).trans HC4.out).mono (by simp), ownsRow_chg (ownsRow_keep HO.out hbw3) HC4.out (by simp; omega), HG4.out, HF4.out⟩
  · have Fcd1 := fun u => Later.cell cd1 u
    have hcr : ∀ u : Later W1, u.w.heap[W.heap.size]? = some (.cells (row14 (inL l)) 121 (0, 0)) := fun u => HN.out.later u.below
    have Fcd1 := fun u => Later.cell cd1 u
    have HC : Hid (∀ u : Later W1, Calls Try.prog 90 #[.pointer (some ⟨g, 0, none⟩), .agg (row14 (inL l))] u.w fun e w' => e = .returned (.bool true) ∧ Below u.w.heap.size u.w w') := Lib.hid (fun u => by
      have := clashes_any g len c A x0 x1 M (inL l) _ (HP1.out.later u.below).desk hlen
      rwa [hq] at this)
    refine wp_region_later (by kernel_rfl) (by kernel_rfl) ?_
    go_big_quiet_step (fail)
    refine wpQuiet_load_row rfl 121 (.tmp 7) rfl W.heap.size rfl 121 (row14 (inL l)) (0, 0) _ (by rintro _ ⟨u, rfl⟩; exact hcr u) Try.underlying121 rfl (by rw [row14_sz]; exact info_set) ?_
    (simp only [Act.put, List.setIfInBounds_toArray, List.set_cons_zero, List.set_cons_succ])
    repeat (go_big_quiet_step ((go_at_call 90; exact Later.call (HC.out _))))
    refine wpQuiet_nil ?_
    intro u
    have hu := u.below
    go_wp2
    go_ret
    have hq' : leafW M len step l s = (true, s) := by unfold leafW; rw [hq]; rfl
    rw [hq']
    have hb2 : Below W.heap.size W u.w := hbw.trans (hu.mono hbw.size)
    exact ⟨rfl, Chg.of_below hb2, ownsRow_keep HO.out hb2, fun _ => HWB.out.later hb2, fun h => by cases h⟩
end Go.Proofs.Ytjihnnbpfdhceaa
