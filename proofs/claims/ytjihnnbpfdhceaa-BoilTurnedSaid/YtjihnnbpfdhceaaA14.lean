/- The closure of boil.desk.smallest: a round more. Conditions: none beyond those that each theorem names. -/
import Derived.Test.YtjihnnbpfdhceaaA13
set_option linter.unusedSimpArgs false
set_option linter.unusedVariables false
namespace Go.Proofs.Ytjihnnbpfdhceaa
open Go.RowKit Go.Shelf
attribute [local go_sem] Oper.semAt_some
attribute [local go_sem ↓] Go.wp_at_zero Go.wp_at_succ

section
variable {wb B : Nat} {W wr w4 w5 w6 : World} {v v' : Value} {l : List Nat} {n : Nat} {x : Value}
theorem app_far {e : TypeId} {xs : List Value} {m : Nat} (h : App2 B e w4 v m xs x v' w5) (k : Nat) (hk : k < w4.heap.size) (hv : v.ownBlock ≠ some k) : w5.heap[k]? = w4.heap[k]? := h.grown.block k hk (Ne.symm hv)
theorem app_own {e : TypeId} {xs : List Value} {m : Nat} (h : App2 B e w4 v m xs x v' w5) (k : Nat) (hk : k < w4.heap.size) (hv : v.ownBlock ≠ some k) : v'.ownBlock ≠ some k := by
  rcases h.how with ⟨h1, _⟩ | ⟨⟨g, h1, h2⟩, _⟩
  · rw [h1]; exact hv
  · rw [h1]; intro e; injection e with e; omega
theorem more_far {e : TypeId} {xs : List Value} {m : Nat} (h : App2 B e w4 v m xs x v' w5) (hout : Chg (wb :: v'.ownBlock.toList) w5 w6) (k : Nat) (hk : k < w4.heap.size) (hwb : k ≠ wb) (hv : v.ownBlock ≠ some k) : w6.heap[k]? = w4.heap[k]? := by
  rw [hout.block k (Nat.lt_of_lt_of_le hk h.grown.size) ?_, app_far h k hk hv]
  have := app_own h k hk hv
  simp only [List.mem_cons, Option.mem_toList, not_or]
  exact ⟨hwb, this⟩
theorem app_chg {e : TypeId} {xs : List Value} {m : Nat} (h : App2 B e w4 v m xs x v' w5) : Chg v.ownBlock.toList w4 w5 :=
  ⟨h.grown.os, h.grown.tape, h.grown.output, h.grown.size, fun k hk hn => app_far h k hk (by rw [Option.mem_toList] at hn; exact hn)⟩
theorem more_chg {e : TypeId} {xs : List Value} {m : Nat} (hch : Chg (wb :: v.ownBlock.toList) W w4) (h : App2 B e w4 v m xs x v' w5) (hout : Chg (wb :: v'.ownBlock.toList) w5 w6) : Chg (wb :: v.ownBlock.toList) W w6 := by
  refine ⟨hout.os.trans (h.grown.os.trans hch.os), hout.tape.trans (h.grown.tape.trans hch.tape), hout.output.trans (h.grown.output.trans hch.output), Nat.le_trans hch.size (Nat.le_trans h.grown.size hout.size), fun k hk hn => ?_⟩
  simp only [List.mem_cons, Option.mem_toList, not_or] at hn
  rw [more_far h hout k (Nat.lt_of_lt_of_le hk hch.size) hn.1 hn.2]
  exact hch.block k hk (by simp only [List.mem_cons, Option.mem_toList, not_or]; exact hn)
theorem ownsRow_at {w w' : World} {base : Nat} {e : TypeId} {size : Nat} {v : Value} {n : Nat} {xs : List Value} (h : w.ownsRow base e size v n xs) (hb : ∀ k, v.ownBlock = some k → base ≤ k → k < w.heap.size → w'.heap[k]? = w.heap[k]?) : w'.ownsRow base e size v n xs := by
  obtain ⟨h1, h2⟩ := h
  refine ⟨h1, ?_⟩
  rcases h2 with h2 | ⟨g, cap, cur, hv, hg, hh, r⟩
  · exact .inl h2
  · exact .inr ⟨g, cap, cur, hv, hg, (hb g (by rw [hv]; rfl) hg (Array.getElem?_eq_some_iff.1 hh).1).trans hh, r⟩
theorem more_own (hwB : wb < B) (hown : w4.ownsRow B 3 1 v l.length (intsV l)) (h : App2 B 3 w4 v l.length (intsV l) (.int .i64 n) v' w5) (hout : Chg (wb :: v'.ownBlock.toList) w5 w6)
    (h6 : w6.ownsRow B 3 1 v' (l ++ [n]).length (intsV (l ++ [n]))) : w6.ownsRow B 3 1 v l.length (intsV l) := by
  rcases h.how with ⟨h1, _, h3⟩ | ⟨⟨g, h1, h2⟩, h3⟩
  · refine h3 w6 ?_
    rw [List.length_append, intsV_snoc] at h6
    exact h6
  · refine ownsRow_at hown fun k hk hBk hkl => ?_
    rw [hout.block k (Nat.lt_of_lt_of_le hkl h3.size) ?_, h3.block k hkl (by simp)]
    rw [h1]
    simp only [Option.toList_some, List.mem_cons, List.not_mem_nil, or_false, not_or]
    exact ⟨by omega, by omega⟩
theorem more_new (h : App2 B 3 w4 v l.length (intsV l) (.int .i64 n) v' w5) : w5.ownsRow B 3 1 v' (l ++ [n]).length (intsV (l ++ [n])) := by
  rw [List.length_append, intsV_snoc]; exact h.own
end

theorem row14_one (r : Nat → Bool) : (row14 r).all (·.oneCell') = true := by
  rw [Array.all_eq_true]
  intro i hi
  simp [row14, Value.oneCell']

set_option maxRecDepth 100000 in
set_option maxHeartbeats 2000000 in
theorem more_succ {σ : Type} (g len c : Nat) (A : Option Addr) (x0 x1 : Value) (M : Nat → Nat → Bool) (pd pw pm : Nat) (hlen : len ≤ 14) (F : FuncId) (cap : Array Value) (wb B : Nat) (wt : TypeId) (cs : σ → Array Value) (step : List Nat → σ → Bool × σ) (Fin : σ → World → Prop)
    (hk : wb ≠ g ∧ wb ≠ pd ∧ wb ≠ pw ∧ wb ≠ pm) (hB : wb < B ∧ g < B ∧ pd < B ∧ pw < B ∧ pm < B) (left : Nat) (ih : MoreOk g len c A x0 x1 M pd pw pm F cap wb B wt cs step Fin left) : MoreOk g len c A x0 x1 M pd pw pm F cap wb B wt cs step Fin (left + 1) := by
  intro l f s v W xa xf xl rfl rfl rfl hll hx14 hf hP hwb hown hBW
  have IH := Lib.hid ih
  obtain ⟨i0, hi0, hz0, hz1, hz2⟩ := info_parts info_int
  have hq : (((left + 1 : Nat) : Int) == 0) = false := beq_eq_false_iff_ne.2 (by omega)
  have cd := hP.d.cell 0
  have cg2 := (hP.desk.cell 2).trans (deskCells_2 _ _ _ _)
  simp only [List.getElem?_toArray, List.getElem?_cons_zero] at cd
  have HP := Lib.hid hP
  have HWB := Lib.hid hwb
  have HO := Lib.hid hown
  have hw1 : ∃ W1 : World, W1 = W.alloc (.cells (row14 (inL l)) 121) := ⟨_, rfl⟩
  obtain ⟨W1, hW1⟩ := hw1
  have hbw : Below W.heap.size W W1 := by rw [hW1]; repeat (first | exact Below.refl _ _ | exact Below.refl _ _ | refine Below.drew ?_ | refine below_drewN ?_ _ | refine Below.setCell ?_ (by first | assumption | omega | (simp; done) | (simp; omega) | (simp at *; omega)) _ | refine Below.alloc ?_ (by first | assumption | omega | (simp; done) | (simp; omega) | (simp at *; omega)) _ | refine Below.trans ?_ (Below.mono Below.refl _ _ (by first | assumption | omega | (simp; done) | (simp; omega) | (simp at *; omega))))
  have hnow : Blk W1 W.heap.size 121 (row14 (inL l)) := by rw [hW1]; exact Blk.new _ _ _
  have HN := Lib.hid hnow
  clear hP hwb hown ih hnow cd cg2
  go_enter Try.func89, Try.ntmps89
  go_wp2
  rw [← hW1]
  clear hW1
  go_loopw [12] (fun i wr => ∃ (n : Nat) (st : σ), f ≤ n ∧ (n = f ∨ n ≤ len - left) ∧ i = .int .i64 n ∧ Chg (wb :: v.ownBlock.toList) W wr ∧ Blk wr W.heap.size 121 (row14 (inL l)) ∧ Blk wr wb wt (cs st) ∧ wr.ownsRow B 3 1 v l.length (intsV l) ∧ Aside (runW (leafW M len step) (subsTo len left l f n) s = (true, st))) (fun i _ => 15 - (intOf i).toNat)
  case atStart => exact ⟨f, s, Nat.le_refl _, .inl rfl, rfl, Chg.of_below hbw, HN.out, HWB.out.later hbw, ownsRow_keep HO.out hbw, by show _ = _; rw [subsTo_start]; rfl⟩
  case round =>
    clear hbw HN
    obtain ⟨n, st, hfn, hn, rfl, hch, hgo, hbw, hown, HR⟩ := hrel
    have hP := HP.out.chg hch (by
      intro k hk'
      simp only [List.mem_cons, Option.mem_toList] at hk'
      rcases hk' with rfl | hk'
      · exact ⟨hk.1, hk.2.1, hk.2.2.1, hk.2.2.2⟩
      · have := (hown.lt k hk').1
        omega)
    have cd := hP.d.cell 0
    have cg2 := (hP.desk.cell 2).trans (deskCells_2 _ _ _ _)
    simp only [List.getElem?_toArray, List.getElem?_cons_zero] at cd
    have HP2 := Lib.hid hP
    have HG := Lib.hid hgo
    have HB2 := Lib.hid hbw
    have HO2 := Lib.hid hown
    have HC := Lib.hid hch
    have hzr := hch.size
    clear hP hgo hbw hown hch
    by_cases hlt : n < len - left
    · have hlt' : (n : Int) ≤ (len : Int) - ((left + 1 : Nat) : Int) := by omega
      iterate 45 go_step
      refine wpList_load_row rfl 121 (.tmp 7) rfl W.heap.size rfl 121 (row14 (inL l)) (0, 0) _ HG.out Try.underlying121 rfl (by rw [row14_sz]; exact info_set) ?_
      have hz14 := zero_row14
      iterate 3 go_step
      refine wpList_store_row rfl 121 _ _ rfl wr.heap.size (row14 (inL l)) rfl rfl 121 (row14 (fun _ => false)) (Blk.new _ _ _) (by rw [row14_sz]; exact info_set) (by rw [row14_sz, row14_sz]) (row14_one _) ?_
      have hb3 : Below wr.heap.size wr ((wr.alloc (.cells (row14 fun _ => false) 121)).setRow wr.heap.size (row14 (inL l))) :=
        ⟨rfl, rfl, rfl, by simp [World.setRow], fun k hk => (setRow_other _ _ _ _ (by omega)).trans (((Below.refl _ _).alloc (Nat.le_refl _) _).block k hk)⟩
      have hn3 : Blk ((wr.alloc (.cells (row14 fun _ => false) 121)).setRow wr.heap.size (row14 (inL l))) wr.heap.size 121 (row14 (inL l)) := setRow_heap _ _ _ _ _ _ (Blk.new _ _ _)
      generalize (wr.alloc (.cells (row14 fun _ => false) 121)).setRow wr.heap.size (row14 (inL l)) = w3 at hb3 hn3 ⊢
      have hn14 : (n : Int) < 14 := by omega
      have cn := (hn3.cell n).trans (row14_at _ _ (by omega))
      have cnf := hn3.frozen n
      have HN3 := Lib.hid hn3
      have HB3 := Lib.hid hb3
      clear hn3 hb3 hz14
      go_wp2
      obtain ⟨w3', hw3⟩ : ∃ w3' : World, w3' = w3.setCell ⟨wr.heap.size, n, none⟩ (.bool true) := ⟨_, rfl⟩
      rw [← hw3]
      have hb4 : Below wr.heap.size wr w3' := by rw [hw3]; exact HB3.out.setCell (p := ⟨wr.heap.size, n, none⟩) (Nat.le_refl _) _
      have hn4 : Blk w3' wr.heap.size 121 (row14 (inL (l ++ [n]))) := by
        have := HN3.out.set_ n (.bool true)
        rw [row14_set, row14_inL, ← hw3] at this
        exact this
      clear cn cnf hw3 HN3 HB3 w3
      have hp4 := HP2.out.later hb4
      have hw4 := HB2.out.later hb4
      have ho4 := ownsRow_keep HO2.out hb4
      have hc4 : Chg (wb :: v.ownBlock.toList) W w3' := HC.out.later hb4
      have hz4 := hb4.size
      have hv4 : ∀ k, v.ownBlock = some k → B ≤ k ∧ k < wr.heap.size := fun k hk => HO2.out.lt k hk
      have cp4 := hp4.p.cell 0
      simp only [List.getElem?_toArray, List.getElem?_cons_zero, moreFn] at cp4
      have HP4 := Lib.hid hp4
      have HB4 := Lib.hid hb4
      have HW4 := Lib.hid hw4
      have HO4 := Lib.hid ho4
      have HC4 := Lib.hid hc4
      have HV4 := Lib.hid hv4
      have hl14 : l.length + 1 + left ≤ 14 := by omega
      clear hp4 hw4 ho4 hc4 hv4 cd cg2
      refine wp_region_plan (fun w' => w'.cell? ⟨pm, 0, none⟩ = some (.func (.func 89) #[] #[.pointer (some ⟨pd, 0, none⟩), .pointer (some ⟨pw, 0, none⟩), .pointer (some ⟨pm, 0, none⟩)]) ∧ w'.heap[wr.heap.size]? = some (.cells (row14 (inL (l ++ [n]))) 121 (0, 0)))
        [(0, true), (1, true), (2, true), (3, true), (6, true), (7, true), (8, true), (9, true), (4, false), (5, false), (10, false), (11, false)] (by kernel_rfl) (by kernel_rfl) (fun _ _ _ _ _ h => h) ⟨by simpa using cp4, hn4⟩ (fun hS => ?_)
      apply wpPlan_take
      case hi => (simp only [List.getElem?_toArray, List.getElem?_cons_succ, List.getElem?_cons_zero]; exact rfl)
      case hw => rfl
      case hr => (intro w' hSw; (try dsimp only at hSw); go_split_ands; go_simp; try with_reducible rfl)
      (simp only [Act.put, List.setIfInBounds_toArray, List.set_cons_zero, List.set_cons_succ])
      apply wpPlan_row (ty := 121) (g := wr.heap.size) (t := 121) (cs := row14 (inL (l ++ [n]))) (fr := (0, 0)) (hg := fun w' hw' => hw'.2) (hu := Try.underlying121) (hd := rfl)
      case hi => (simp only [List.getElem?_toArray, List.getElem?_cons_succ, List.getElem?_cons_zero]; exact rfl)
      case hw => rfl
      case ho => rfl
      case hx => rfl
      case hi' => (rw [row14_sz]; exact info_set)
      (simp only [Act.put, List.setIfInBounds_toArray, List.set_cons_zero, List.set_cons_succ])
      apply wpPlan_take
      case hi => (simp only [List.getElem?_toArray, List.getElem?_cons_succ, List.getElem?_cons_zero]; exact rfl)
      case hw => rfl
      case hr => (intro w' hSw; (try dsimp only at hSw); go_split_ands; go_simp; try with_reducible rfl)
      (simp only [Act.put, List.setIfInBounds_toArray, List.set_cons_zero, List.set_cons_succ])
      apply wpPlan_take
      case hi => (simp only [List.getElem?_toArray, List.getElem?_cons_succ, List.getElem?_cons_zero]; exact rfl)
      case hw => rfl
      case hr => (intro w' hSw; (try dsimp only at hSw); go_split_ands; go_simp; try with_reducible rfl)
      (simp only [Act.put, List.setIfInBounds_toArray, List.set_cons_zero, List.set_cons_succ])
      apply wpPlan_take
      case hi => (simp only [List.getElem?_toArray, List.getElem?_cons_succ, List.getElem?_cons_zero]; exact rfl)
      case hw => rfl
      case hr => (intro w' hSw; (try dsimp only at hSw); go_split_ands; go_simp; try with_reducible rfl)
      (simp only [Act.put, List.setIfInBounds_toArray, List.set_cons_zero, List.set_cons_succ])
      apply wpPlan_take
      case hi => (simp only [List.getElem?_toArray, List.getElem?_cons_succ, List.getElem?_cons_zero]; exact rfl)
      case hw => rfl
      case hr => (intro w' hSw; (try dsimp only at hSw); go_split_ands; go_simp; try with_reducible rfl)
      (simp only [Act.put, List.setIfInBounds_toArray, List.set_cons_zero, List.set_cons_succ])
      apply wpPlan_take
      case hi => (simp only [List.getElem?_toArray, List.getElem?_cons_succ, List.getElem?_cons_zero]; exact rfl)
      case hw => rfl
      case hr => (intro w' hSw; (try dsimp only at hSw); go_split_ands; go_simp; try with_reducible rfl)
      (simp only [Act.put, List.setIfInBounds_toArray, List.set_cons_zero, List.set_cons_succ])
      apply wpPlan_take
      case hi => (simp only [List.getElem?_toArray, List.getElem?_cons_succ, List.getElem?_cons_zero]; exact rfl)
      case hw => rfl
      case hr => (intro w' hSw; (try dsimp only at hSw); go_split_ands; go_simp; try with_reducible rfl)
      (simp only [Act.put, List.setIfInBounds_toArray, List.set_cons_zero, List.set_cons_succ])
      apply wpPlan_step
      case ho => (simp only [List.getElem?_toArray, List.getElem?_cons_succ, List.getElem?_cons_zero]; exact rfl)
      intro K hK
      rw [if_pos (by rfl)]
      go_simp
      have hb5 : Below w3'.heap.size w3' ((w3'.alloc (.cells #[.int .i64 (n : Int)] 3)).drew) := by repeat (first | exact Below.refl _ _ | exact Below.refl _ _ | refine Below.drew ?_ | refine below_drewN ?_ _ | refine Below.setCell ?_ (by first | assumption | omega | (simp; done) | (simp; omega) | (simp at *; omega)) _ | refine Below.alloc ?_ (by first | assumption | omega | (simp; done) | (simp; omega) | (simp at *; omega)) _ | refine Below.trans ?_ (Below.mono Below.refl _ _ (by first | assumption | omega | (simp; done) | (simp; omega) | (simp at *; omega))))
      have cn5 : ((w3'.alloc (.cells #[.int .i64 (n : Int)] 3)).drew).cell? ⟨w3'.heap.size, 0, none⟩ = some (.int .i64 (n : Int)) := by simp
      have hz5 : ((w3'.alloc (.cells #[.int .i64 (n : Int)] 3)).drew).heap.size = w3'.heap.size + 1 := by simp
      generalize (w3'.alloc (.cells #[.int .i64 (n : Int)] 3)).drew = w4 at hb5 cn5 hz5 ⊢
      have hS5 : w4.cell? ⟨pm, 0, none⟩ = some (.func (.func 89) #[] #[.pointer (some ⟨pd, 0, none⟩), .pointer (some ⟨pw, 0, none⟩), .pointer (some ⟨pm, 0, none⟩)]) ∧ w4.heap[wr.heap.size]? = some (.cells (row14 (inL (l ++ [n]))) 121 (0, 0)) :=
        ⟨(hb5.cell (p := ⟨pm, 0, none⟩) HP4.out.p.lt).trans (by simpa using hS.1), hn4.later hb5⟩
      clear hS
      refine hK.out _ _ (hS5) (fun hS => ?_)
      clear hK
      clear K
      try (simp only [Act.put, List.setIfInBounds_toArray, List.set_cons_zero, List.set_cons_succ])
      clear hS5
      apply wpPlan_step
      case ho => (simp only [List.getElem?_toArray, List.getElem?_cons_succ, List.getElem?_cons_zero]; exact rfl)
      intro K hK
      have ho5 : w4.ownsRow B 3 1 v l.length (intsV l) := ownsRow_keep HO4.out hb5
      refine step_append_two (by rfl) _ _ 64 (by rfl) B 3 i0 _ 8 Try.underlying64 hi0 hz0 hz1 hz2 rfl v l.length (intsV l) (by rfl) ho5 ⟨w3'.heap.size, 0, none⟩ _ (.int .i64 (n : Int)) (by rfl) cn5 rfl (by unfold maxLen; omega) (by omega) (by rw [hz5]; omega) ?_
      intro v' w5 hap
      have hnv : ∀ k, k < B ∨ k = wr.heap.size → v.ownBlock ≠ some k := fun k hk e => by have := HV4.out k e; omega
      have hS5 : w5.cell? ⟨pm, 0, none⟩ = some (.func (.func 89) #[] #[.pointer (some ⟨pd, 0, none⟩), .pointer (some ⟨pw, 0, none⟩), .pointer (some ⟨pm, 0, none⟩)]) ∧ w5.heap[wr.heap.size]? = some (.cells (row14 (inL (l ++ [n]))) 121 (0, 0)) :=
        ⟨(World.cell?_of_block (a := ⟨pm, 0, none⟩) (app_far hap pm (by omega) (hnv pm (by omega)))).trans hS.1, (app_far hap _ (by omega) (hnv _ (by omega))).trans hS.2⟩
      clear hS
      have HAP := Lib.hid hap
      have hP5 : MoreAt g len c A x0 x1 M pd pw pm (.func (.func F) #[] cap) w5 := (HP4.out.later hb5).chg (app_chg hap) (by
        intro k hk'
        rw [Option.mem_toList] at hk'
        have := HV4.out k hk'
        omega)
      have hw5 : Blk w5 wb wt (cs st) := (app_far hap wb (by have := (HW4.out.later hb5).lt; omega) (hnv wb (by omega))).trans (HW4.out.later hb5)
      have HW5 := Lib.hid hw5
      have HP5 := Lib.hid hP5
      have hz6 := hap.grown.size
      have HB5 := Lib.hid hb5
      clear hap hP5 hw5 hb5 cn5 ho5 hn4
      refine hK.out _ _ (hS5) (fun hS => ?_)
      clear hK
      clear K
      try (simp only [Act.put, List.setIfInBounds_toArray, List.set_cons_zero, List.set_cons_succ])
      clear hS5
      apply wpPlan_step
      case ho => (simp only [List.getElem?_toArray, List.getElem?_cons_succ, List.getElem?_cons_zero]; exact rfl)
      intro K hK
      rw [if_pos (by rfl)]
      go_wp2_with fail
      refine (IH.out (l ++ [n]) (n + 1) st v' w5 _ _ _ rfl (by go_num) (by go_num) (by simp; omega) ?hx (by omega) HP5.out HW5.out (more_new HAP.out) (by omega)).mono ?_
      case hx =>
        intro x hx
        rcases List.mem_append.1 hx with hx | hx
        · exact hx14 x hx
        · rw [List.mem_singleton.1 hx]; omega
      rintro e w6 ⟨rfl, hout⟩
      have hS6 : w6.cell? ⟨pm, 0, none⟩ = some (.func (.func 89) #[] #[.pointer (some ⟨pd, 0, none⟩), .pointer (some ⟨pw, 0, none⟩), .pointer (some ⟨pm, 0, none⟩)]) ∧ w6.heap[wr.heap.size]? = some (.cells (row14 (inL (l ++ [n]))) 121 (0, 0)) := by
        have e1 := app_own HAP.out pm (by omega) (hnv pm (by omega))
        have e2 := app_own HAP.out wr.heap.size (by omega) (hnv _ (by omega))
        refine ⟨(World.cell?_of_block (a := ⟨pm, 0, none⟩) (hout.chg.block pm (by omega) ?_)).trans hS.1, (hout.chg.block wr.heap.size (by omega) ?_).trans hS.2⟩
        · simp only [List.mem_cons, Option.mem_toList, not_or]
          exact ⟨by omega, e1⟩
        · simp only [List.mem_cons, Option.mem_toList, not_or]
          exact ⟨by omega, e2⟩
      have hchg6 : Chg (wb :: v.ownBlock.toList) W w6 := more_chg (HC4.out.later HB5.out) HAP.out hout.chg
      have hown6 : w6.ownsRow B 3 1 v l.length (intsV l) := more_own hB.1 (ownsRow_keep HO4.out HB5.out) HAP.out hout.chg hout.own
      have hgo6 : Blk w6 W.heap.size 121 (row14 (inL l)) := (more_far HAP.out hout.chg W.heap.size (by have := HG.out.lt; omega) (by omega) (fun e => by have := HO.out.lt _ e; omega)).trans ((HG.out.later HB4.out).later HB5.out)
      have hgo := hout.go
      have hfin := hout.fin
      generalize hr : runW (leafW M len step) (subsL len left (l ++ [n]) (n + 1)) st = r at hgo hfin ⊢
      clear hS hout
      obtain ⟨b, st'⟩ := r
      have HCH6 := Lib.hid hchg6
      have HOW6 := Lib.hid hown6
      have HGO6 := Lib.hid hgo6
      have HGG := Lib.hid hgo
      have HFF := Lib.hid hfin
      have HRR := Lib.hid hr
      clear hchg6 hown6 hgo6 hgo hfin hr
      cases b
      case false =>
        refine hK.out _ _ (hS6) (fun hS => ?_)
        clear hK
        clear K
        try (simp only [Act.put, List.setIfInBounds_toArray, List.set_cons_zero, List.set_cons_succ])
        clear hS6
        apply wpPlan_step
        case ho => (simp only [List.getElem?_toArray, List.getElem?_cons_succ, List.getElem?_cons_zero]; exact rfl)
        intro K hK
        rw [if_pos (by rfl)]
        go_simp
        refine hK.out _ _ (hS) (fun hS => ?_)
        clear hK
        clear K
        try (simp only [Act.put, List.setIfInBounds_toArray, List.set_cons_zero, List.set_cons_succ])
        refine wpPlan_end ?_
        clear hS
        go_wp2
        go_ret
        have hres : runW (leafW M len step) (subsL len (left + 1) l f) s = (false, st') := by
          obtain ⟨R, hR⟩ := subsTo_split len left l f n hfn hlt
          have h1 : runW (leafW M len step) (subsTo len left l f n) s = (true, st) := HR
          rw [hR, runW_append _ _ _ (by rw [h1]), h1, runW_stop _ _ _ (by rw [HRR.out]), HRR.out]
        rw [hres]
        exact ⟨rfl, HCH6.out, HOW6.out, (fun h => (by cases h)), fun _ => (by simpa using HFF.out)⟩
      case true =>
        refine hK.out _ _ (hS6) (fun hS => ?_)
        clear hK
        clear K
        try (simp only [Act.put, List.setIfInBounds_toArray, List.set_cons_zero, List.set_cons_succ])
        clear hS6
        apply wpPlan_step
        case ho => (simp only [List.getElem?_toArray, List.getElem?_cons_succ, List.getElem?_cons_zero]; exact rfl)
        intro K hK
        rw [if_pos (by rfl)]
        go_simp
        refine hK.out _ _ (hS) (fun hS => ?_)
        clear hK
        clear K
        try (simp only [Act.put, List.setIfInBounds_toArray, List.set_cons_zero, List.set_cons_succ])
        refine wpPlan_end ?_
        clear hS
        go_wp2
        refine ⟨⟨n + 1, by omega, by omega, by omega, HCH6.out, HGO6.out, st', (by simpa using HGG.out), HOW6.out, ?_⟩, by simp [intOf]; omega⟩
        show runW (leafW M len step) (subsTo len left l f (n + 1)) s = (true, st')
        have h1 : runW (leafW M len step) (subsTo len left l f n) s = (true, st) := HR
        rw [subsTo_snoc _ _ _ _ _ hfn, runW_append _ _ _ (by rw [h1]), h1, HRR.out]
    · have hlt' : ¬ (n : Int) ≤ (len : Int) - ((left + 1 : Nat) : Int) := by omega
      go_wp2
      go_ret
      have hres : runW (leafW M len step) (subsL len (left + 1) l f) s = (true, st) := by
        rw [subsTo_end len left l f n hfn (by omega) (by omega)]
        exact HR
      rw [hres]
      exact ⟨rfl, HC.out, HO2.out, fun _ => HB2.out, (fun h => (by cases h))⟩

theorem more_any {σ : Type} (g len c : Nat) (A : Option Addr) (x0 x1 : Value) (M : Nat → Nat → Bool) (pd pw pm : Nat) (hlen : len ≤ 14) (F : FuncId) (cap : Array Value) (eF : ∀ args w, (callFunc F args).run Try.prog w = .ok (.enter F args) w) (wb B : Nat) (wt : TypeId) (cs : σ → Array Value) (step : List Nat → σ → Bool × σ) (Fin : σ → World → Prop)
    (hW : WatchOk F cap wb B wt cs step Fin) (hk : wb ≠ g ∧ wb ≠ pd ∧ wb ≠ pw ∧ wb ≠ pm) (hB : wb < B ∧ g < B ∧ pd < B ∧ pw < B ∧ pm < B) (left : Nat) : MoreOk g len c A x0 x1 M pd pw pm F cap wb B wt cs step Fin left := by
  induction left with
  | zero => exact more_zero g len c A x0 x1 M pd pw pm hlen F cap eF wb B wt cs step Fin hW hk hB
  | succ left ih => exact more_succ g len c A x0 x1 M pd pw pm hlen F cap wb B wt cs step Fin hk hB left ih
end Go.Proofs.Ytjihnnbpfdhceaa
