/- boil.Clash. Conditions: none beyond those that each theorem names. -/
import Derived.Test.YtjihnnbpfdhceaaGBoilGrown14
import Derived.WalkMore
set_option linter.unusedSimpArgs false
set_option linter.unusedVariables false
namespace Go.Proofs.Ytjihnnbpfdhceaa
open Go.RowKit Go.Shelf
attribute [local go_sem] Oper.semAt_some

/-- The first pair that clashes, or none. -/
def ClashRes (M : Nat → Nat → Bool) (len : Nat) (e : Ending) : Prop :=
  (∃ a b, a < len ∧ b < len ∧ M a b = true ∧ (∀ i, i < a → ∀ j, j < len → M i j = false) ∧ (∀ j, j < b → M a j = false) ∧ e = .returned (.tuple #[.agg #[.int .i64 a, .int .i64 b], .int .i64 0])) ∨
  ((∀ i, i < len → ∀ j, j < len → M i j = false) ∧ e = .returned (.tuple #[.agg #[.int .i64 0, .int .i64 0], .int .i64 6]))

theorem filter_first {p : Nat → Bool} {n x : Nat} {t : List Nat} (h : (List.range n).filter p = x :: t) : x < n ∧ p x = true ∧ ∀ j, j < x → p j = false := by
  have h1 : ((List.range n).filter p).head? = some x := by rw [h]; rfl
  rw [List.head?_filter, List.find?_range_eq_some] at h1
  exact ⟨List.mem_range.1 h1.2.1, h1.1, fun j hj => by simpa using h1.2.2 j hj⟩
theorem first_bel {M : Nat → Nat → Bool} {len k : Nat} {pre : List (Bel M len k)} (h : pre <+: belL M len k) (h1 : pre.length = 1) :
    ∃ b, b < len ∧ M k b = true ∧ (∀ j, j < b → M k j = false) ∧ (pre.head?.map (·.1)).getD 0 = b := by
  obtain ⟨x, rfl⟩ := List.length_eq_one_iff.1 h1
  obtain ⟨t, ht⟩ := h
  have h2 := belL_vals M len k
  rw [← ht] at h2
  simp only [List.singleton_append, List.map_cons] at h2
  unfold bels at h2
  obtain ⟨h3, h4, h5⟩ := filter_first h2.symm
  exact ⟨x.1, h3, h4, h5, rfl⟩

set_option maxRecDepth 100000 in
set_option maxHeartbeats 1000000 in
theorem clash_any (h : Hs) (A : Option Addr) (c : Nat) (w : World) (hr : RowIn Wg.enc 5 w w.heap.size A h.ws) (hk : h.check = 0) :
    Calls Try.prog 14 #[h.val A c] w fun e w' => ClashRes h.clashM h.ws.length e ∧ Below w.heap.size w w' := by
  have hlen := check_len hk
  have HR := Lib.hid hr
  have HK := Lib.hid hk
  clear hr hk
  unfold Hs.val
  refine (callsIn_wide (n := 2)).1 ?_
  refine callsIn_of_wp_marks Try.func14 rfl trivial ?_ rfl
  simp only [Try.ntmps14, List.size_toArray, List.length_cons, List.length_nil, Nat.reduceAdd, Nat.reduceSub, Array.replicate_succ, Array.replicate_zero, List.push_toArray, List.append_toArray, List.nil_append, List.cons_append]
  refine wpIn_wide.2 ?_
  go_wp2
  go_step3
  go_wp2_with fail
  refine (opened_any h A c _ ((HR.out.below (((Below.refl _ _).alloc (Nat.le_refl _) _).alloc (by simp) _)).mono (by simp; omega)) HK.out).mono ?_
  rintro e w1 ⟨g, rfl, hg, hgb, hb1⟩
  have hzg : w.heap.size + 1 + 1 ≤ g := by simpa using hg
  have hbw1 : Below w.heap.size w w1 := by repeat (first | exact Below.refl _ _ | exact hb1 | refine Below.drew ?_ | refine below_drewN ?_ _ | refine Below.setCell ?_ (by first | assumption | omega | (simp; done) | (simp; omega) | (simp at *; omega)) _ | refine Below.alloc ?_ (by first | assumption | omega | (simp; done) | (simp; omega) | (simp at *; omega)) _ | refine Below.trans ?_ (Below.mono hb1 (by first | assumption | omega | (simp; done) | (simp; omega) | (simp at *; omega))))
  have hdk : Blk w1 g 134 (deskCells (.int .i64 h.months) (.int .i64 h.peak) (.slice A h.ws.length c) h.clashM) := hgb
  have hho : Blk w1 w.heap.size 25 #[.int .i64 h.months, .int .i64 h.peak, .slice A h.ws.length c] := ((Blk.new w 25 _).alloc _).later hb1
  have hre : Blk w1 (w.heap.size + 1) 36 #[.int .i64 0, .int .i64 0] := by
    have := Blk.new (w.alloc (.cells #[.int .i64 h.months, .int .i64 h.peak, .slice A h.ws.length c] 25)) 36 #[.int .i64 0, .int .i64 0]
    rw [World.size_alloc] at this
    exact this.later hb1
  have hdl := hdk.lt
  have hhl := hho.lt
  have hzz := hbw1.size
  have c2 := hho.cell 2
  simp only [List.getElem?_toArray, List.getElem?_cons_zero, List.getElem?_cons_succ] at c2
  have HD := Lib.hid hdk
  have HB1 := Lib.hid hbw1
  have HH := Lib.hid hho
  have HE := Lib.hid hre
  clear hgb hg hb1 hdk hbw1 hho hre
  go_wp2
  go_step3
  have hb2 : Below w.heap.size w ((w1.alloc (.cells #[.int .i64 (-1), .int .i64 (-1)] 36)).alloc (.cells #[.int .i64 (-1), .int .i64 (-1)] 36)) := by repeat (first | exact Below.refl _ _ | exact HB1.out | refine Below.drew ?_ | refine below_drewN ?_ _ | refine Below.setCell ?_ (by first | assumption | omega | (simp; done) | (simp; omega) | (simp at *; omega)) _ | refine Below.alloc ?_ (by first | assumption | omega | (simp; done) | (simp; omega) | (simp at *; omega)) _ | refine Below.trans ?_ (Below.mono HB1.out (by first | assumption | omega | (simp; done) | (simp; omega) | (simp at *; omega))))
  have hbb : Below w1.heap.size w1 ((w1.alloc (.cells #[.int .i64 (-1), .int .i64 (-1)] 36)).alloc (.cells #[.int .i64 (-1), .int .i64 (-1)] 36)) := by repeat (first | exact Below.refl _ _ | exact Below.refl _ _ | refine Below.drew ?_ | refine below_drewN ?_ _ | refine Below.setCell ?_ (by first | assumption | omega | (simp; done) | (simp; omega) | (simp at *; omega)) _ | refine Below.alloc ?_ (by first | assumption | omega | (simp; done) | (simp; omega) | (simp at *; omega)) _ | refine Below.trans ?_ (Below.mono Below.refl _ _ (by first | assumption | omega | (simp; done) | (simp; omega) | (simp at *; omega))))
  have hn2 : Blk ((w1.alloc (.cells #[.int .i64 (-1), .int .i64 (-1)] 36)).alloc (.cells #[.int .i64 (-1), .int .i64 (-1)] 36)) w1.heap.size 36 #[.int .i64 (-1), .int .i64 (-1)] := (Blk.new _ _ _).alloc _
  have ho2 : Blk ((w1.alloc (.cells #[.int .i64 (-1), .int .i64 (-1)] 36)).alloc (.cells #[.int .i64 (-1), .int .i64 (-1)] 36)) (w1.heap.size + 1) 36 #[.int .i64 (-1), .int .i64 (-1)] := by
    have := Blk.new (w1.alloc (.cells #[.int .i64 (-1), .int .i64 (-1)] 36)) 36 #[.int .i64 (-1), .int .i64 (-1)]
    rwa [World.size_alloc] at this
  generalize (w1.alloc (.cells #[.int .i64 (-1), .int .i64 (-1)] 36)).alloc (.cells #[.int .i64 (-1), .int .i64 (-1)] 36) = w2 at hb2 hbb hn2 ho2 ⊢
  have HD2 := Lib.hid (HD.out.later hbb)
  have HH2 := Lib.hid (HH.out.later hbb)
  have HE2 := Lib.hid (HE.out.later hbb)
  have HO2 := Lib.hid ho2
  have HN2 := Lib.hid hn2
  have hc2 := (HH.out.later hbb).cell 2
  simp only [List.getElem?_toArray, List.getElem?_cons_zero, List.getElem?_cons_succ] at hc2
  clear c2 hbb
  go_wp2
  refine wp_loop (fun a' W => ∃ (k : Nat) (Ds : List Nat) (u8 u25 u26 u27 u28 u29 u34 : Value), a' = { tmps := #[.agg #[.int .i64 h.months, .int .i64 h.peak, .slice A h.ws.length c], .pointer (some ⟨w.heap.size, 0, none⟩), .pointer (some ⟨w.heap.size + 1, 0, none⟩), .int .i64 0, .pointer (some ⟨g, 0, none⟩), .int .i64 0, .pointer (some ⟨w1.heap.size, 0, none⟩), .pointer (some ⟨w1.heap.size + 1, 0, none⟩), u8, undef,
      .tuple #[.pointer (some ⟨g, 0, none⟩), .int .i64 0], .agg #[.int .i64 h.months, .int .i64 h.peak, .slice A h.ws.length c], .tuple #[.pointer (some ⟨g, 0, none⟩), .int .i64 0], .pointer (some ⟨g, 0, none⟩), .int .i64 0, .int .i64 0, .bool false, undef, undef, .agg #[.int .i64 (-1), .int .i64 (-1)], .agg #[.int .i64 (-1), .int .i64 (-1)],
      .pointer (some ⟨w.heap.size, 2, none⟩), .slice A h.ws.length c, .int .i64 h.ws.length, .int .i64 k, u25, u26, u27, u28, u29, undef, undef, undef, undef, u34, undef, undef, undef, undef, undef], defers := Ds.map mark } ∧
    k ≤ h.ws.length ∧ Below w2.heap.size w2 W ∧ Marks Ds w2.heap.size W ∧ Aside (∀ i, i < k → ∀ j, j < h.ws.length → h.clashM i j = false)) (fun a' _ => h.ws.length - (intOf (a'.tmps.getD 24 undef)).toNat) ?_ ?_
  · exact ⟨0, [], _, _, _, _, _, _, _, rfl, Nat.zero_le _, Below.refl _ _, Marks.nil _ _, fun i hi => absurd hi (Nat.not_lt_zero _)⟩
  · rintro a' wr ⟨k, Ds, u8, u25, u26, u27, u28, u29, u34, rfl, hk, hB, hMk, HN⟩
    by_cases hlt : k < h.ws.length
    · go_wp2_with fail
      refine (below_any g k _).mono ?_
      rintro e w' ⟨rfl, rfl⟩
      go_wp2
      have hbw : Below wr.heap.size wr (((wr.alloc (.cells #[.int .i64 (k : Int)] 3)).alloc (.cells #[.pointer (some ⟨g, 0, none⟩)] 96)).alloc (.cells #[.int .i64 (k : Int)] 3)) := by repeat (first | exact Below.refl _ _ | exact Below.refl _ _ | refine Below.drew ?_ | refine below_drewN ?_ _ | refine Below.setCell ?_ (by first | assumption | omega | (simp; done) | (simp; omega) | (simp at *; omega)) _ | refine Below.alloc ?_ (by first | assumption | omega | (simp; done) | (simp; omega) | (simp at *; omega)) _ | refine Below.trans ?_ (Below.mono Below.refl _ _ (by first | assumption | omega | (simp; done) | (simp; omega) | (simp at *; omega))))
      have ba : Blk (((wr.alloc (.cells #[.int .i64 (k : Int)] 3)).alloc (.cells #[.pointer (some ⟨g, 0, none⟩)] 96)).alloc (.cells #[.int .i64 (k : Int)] 3)) wr.heap.size 3 #[.int .i64 (k : Int)] := ((Blk.new _ _ _).alloc _).alloc _
      have bp : Blk (((wr.alloc (.cells #[.int .i64 (k : Int)] 3)).alloc (.cells #[.pointer (some ⟨g, 0, none⟩)] 96)).alloc (.cells #[.int .i64 (k : Int)] 3)) (wr.heap.size + 1) 96 #[.pointer (some ⟨g, 0, none⟩)] := by
        have := Blk.new (wr.alloc (.cells #[.int .i64 (k : Int)] 3)) 96 #[.pointer (some ⟨g, 0, none⟩)]
        rw [World.size_alloc] at this
        exact this.alloc _
      have bq : Blk (((wr.alloc (.cells #[.int .i64 (k : Int)] 3)).alloc (.cells #[.pointer (some ⟨g, 0, none⟩)] 96)).alloc (.cells #[.int .i64 (k : Int)] 3)) (wr.heap.size + 1 + 1) 3 #[.int .i64 (k : Int)] := by
        have := Blk.new ((wr.alloc (.cells #[.int .i64 (k : Int)] 3)).alloc (.cells #[.pointer (some ⟨g, 0, none⟩)] 96)) 3 #[.int .i64 (k : Int)]
        rw [World.size_alloc, World.size_alloc] at this
        exact this
      generalize hW1 : ((wr.alloc (.cells #[.int .i64 (k : Int)] 3)).alloc (.cells #[.pointer (some ⟨g, 0, none⟩)] 96)).alloc (.cells #[.int .i64 (k : Int)] 3) = W1 at hbw ba bp bq ⊢
      clear hW1
      have hg1 := (HD2.out.later hB).later hbw
      have hmk1 := hMk.later hbw
      have hB1 : Below w2.heap.size w2 W1 := hB.trans (hbw.mono hB.size)
      have hstops := below_stops (2 - 1) (wr.heap.size + 1) (wr.heap.size + 1 + 1) g h.ws.length c k A _ _ h.clashM W1 bp bq hg1 hlen (by omega)
      have HS := Lib.hid hstops
      have hpl := bp.lt
      have hql := bq.lt
      have hgl1 := hg1.lt
      have hol : w1.heap.size + 1 < w2.heap.size := HO2.out.lt
      have hBz := hB1.size
      clear hstops hMk hB hbw bp bq hg1
      refine (wpIn_wide (n := 2)).1 ?_
      refine wpIn_rangeFunc_ownG rfl (by omega) (gf := 85) rfl trivial (enters_of Try.func85 (by kernel_rfl) rfl) HS.out
        (fun h h' => h.t h') (fun W l o o' hl ho hc hw => KeepB.b (N := W1.heap.size) (by intro b hb; simp at hb; omega) W l o o' hl ho hc hw) (Below.refl _ _) (fun _ => rfl)
        (fun pre W => W1.grownBy W none ∧ pre.length = 0)
        (fun cd pre W => (W1.grownBy W (some (w1.heap.size + 1)) ∧ W.heap[w1.heap.size + 1]? = some (.cells #[.int .i64 k, .int .i64 ((pre.head?.map (·.1)).getD 0 : Nat)] 36 (0, 0))) ∧ (cd = .exit 0 ∧ pre.length = 1))
        (ownFrom_grown.and (ownFrom_pure _ _)) (fun cd => (ownFrom_grown.and ownFrom_blk).and (ownFrom_pure _ _)) ⟨World.grownBy.refl _ _, rfl⟩ ?a1 ?assign ?body ?done ?stop
      case assign =>
        intro l x W K hK
        gi_wp2
        exact hK
      case body =>
        rintro l pre ⟨x, hx⟩ W ⟨hgr, hpre⟩ _
        obtain rfl := List.eq_nil_of_length_eq_zero hpre
        have hbe := below_grown hgr
        have haW := ba.later hbe
        have hoW := (HO2.out.later hB1).later hbe
        have c8 := haW.cell 0
        have o0 := hoW.cell 0
        have o1 := hoW.cell 1
        simp only [List.getElem?_toArray, List.getElem?_cons_zero, List.getElem?_cons_succ] at c8 o0 o1
        have f0 := hoW.frozen 0
        have f1 := hoW.frozen 1
        have HOW := Lib.hid hoW
        have HGR := Lib.hid hgr
        clear haW hbe hoW hgr hpre
        gi_wp2
        refine ⟨((KeepsOthers.setCell _ _ _).trans (KeepsOthers.setCell _ _ _)).from _, ⟨grown_set (grown_set (grown_below (below_grown HGR.out)) _) _, ?_⟩, rfl, rfl⟩
        have := (HOW.out.set_ 0 (.int .i64 (k : Int))).set_ 1 (.int .i64 (x : Int))
        exact this
      case done =>
        rintro D xs W hD rfl ⟨hgr, hpre⟩ hK
        have hbe := below_grown hgr
        have hmk2 : Marks (D :: Ds) w2.heap.size W := hmk1.cons (fun D' hm => hbe.block D' (hmk1.lt hm)) hD hB1.size hK
        go_wp2
        refine ⟨⟨k + 1, D :: Ds, _, _, _, _, _, _, _, rfl, by omega, hB1.trans (hbe.mono hB1.size), hmk2, ?_⟩, by simp [intOf]; omega⟩
        show ∀ i, i < k + 1 → ∀ j, j < h.ws.length → h.clashM i j = false
        intro i hi j hj
        by_cases hik : i = k
        · subst hik
          cases hm : h.clashM i j
          · rfl
          · have := bel_mem h.clashM h.ws.length i ⟨j, hj, hm⟩
            rw [List.eq_nil_of_length_eq_zero hpre] at this
            cases this
        · exact HN.out i (by omega) j hj
      case stop =>
        rintro D cd pre W hD hSp ⟨⟨hgr, hbl⟩, rfl, hlen1⟩ hK
        obtain ⟨b, hb, hbM, hbf, hpre⟩ := first_bel hSp hlen1
        rw [hpre] at hbl
        have hob : Blk W (w1.heap.size + 1) 36 #[.int .i64 k, .int .i64 b] := hbl
        have hodm : w1.heap.size + 1 ∉ Ds := fun hm => by have := hmk1.ge _ hm; omega
        have hmk2 : Marks (D :: Ds) w2.heap.size W := hmk1.cons (fun D' hm => hgr.block D' (hmk1.lt hm) (fun e => by cases e; exact hodm hm)) hD hB1.size hK
        have hnb : Blk W w1.heap.size 36 #[.int .i64 (-1), .int .i64 (-1)] := (hgr.block _ (HN2.out.later hB1).lt (by simp)).trans (HN2.out.later hB1)
        have hrb : Blk W (w.heap.size + 1) 36 #[.int .i64 0, .int .i64 0] := (hgr.block _ (HE2.out.later hB1).lt (by simp; omega)).trans (HE2.out.later hB1)
        have o0 := hob.cell 0
        have o1 := hob.cell 1
        have n0 := hnb.cell 0
        have n1 := hnb.cell 1
        have r0 := hrb.cell 0
        have r1 := hrb.cell 1
        have q0 := hrb.frozen 0
        have q1 := hrb.frozen 1
        simp only [List.getElem?_toArray, List.getElem?_cons_zero, List.getElem?_cons_succ] at o0 o1 n0 n1 r0 r1
        have HRB := Lib.hid hrb
        have HGR := Lib.hid hgr
        have HM2 := Lib.hid hmk2
        clear hob hnb hrb hmk2 hK hgr hbl
        refine wpIn_wide.2 ?_
        go_wp2
        rw [Exit.noGoto_ret]
        have hmk3 : Marks (D :: Ds) w2.heap.size ((W.setCell ⟨w.heap.size + 1, 0, none⟩ (.int .i64 (k : Int))).setCell ⟨w.heap.size + 1, 1, none⟩ (.int .i64 (b : Int))) :=
          ⟨HM2.out.nodup, HM2.out.ge, fun D' hm => by
            have hne : D' ≠ w.heap.size + 1 := by have := HM2.out.ge _ hm; omega
            exact ((Below.heap_setCell _ ⟨w.heap.size + 1, 1, none⟩ _ D' hne).trans (Below.heap_setCell W ⟨w.heap.size + 1, 0, none⟩ _ D' hne)).trans (HM2.out.open_ D' hm)⟩
        refine hmk3.leaves fun w' hw' => ?_
        have hrn : w.heap.size + 1 ∉ D :: Ds := fun hm => by have := HM2.out.ge _ hm; omega
        have hrw : Blk w' (w.heap.size + 1) 36 #[.int .i64 k, .int .i64 b] := (hw'.block _ hrn).trans ((HRB.out.set_ 0 (.int .i64 (k : Int))).set_ 1 (.int .i64 (b : Int)))
        have h0 := hrw.cell 0
        have h1 := hrw.cell 1
        simp only [List.getElem?_toArray, List.getElem?_cons_zero, List.getElem?_cons_succ] at h0 h1
        refine ⟨.tuple #[.agg #[.int .i64 k, .int .i64 b], .int .i64 0], by simp [results, Try.results14, go_sem, h0, h1], .inl ⟨k, b, hlt, hb, hbM, HN.out, hbf, rfl⟩, hw'.below ?_ (fun D' hm => by have := HM2.out.ge _ hm; have := hb2.size; omega)⟩
        refine ((Below.grown_row (hb2.trans (hB1.mono hb2.size)) HGR.out (by omega)).setCell (p := ⟨w.heap.size + 1, 0, none⟩) (by simp) _).setCell (p := ⟨w.heap.size + 1, 1, none⟩) (by simp) _
    · obtain rfl : k = h.ws.length := by omega
      have hol : w1.heap.size + 1 < w2.heap.size := HO2.out.lt
      have hob := HO2.out.later hB
      have hnb := HN2.out.later hB
      have hrb := HE2.out.later hB
      have o0 := hob.cell 0
      have o1 := hob.cell 1
      have n0 := hnb.cell 0
      have n1 := hnb.cell 1
      have r0 := hrb.cell 0
      have r1 := hrb.cell 1
      have q0 := hrb.frozen 0
      have q1 := hrb.frozen 1
      simp only [List.getElem?_toArray, List.getElem?_cons_zero, List.getElem?_cons_succ] at o0 o1 n0 n1 r0 r1
      have HRB := Lib.hid hrb
      have HM2 := Lib.hid hMk
      clear hob hnb hrb hMk
      go_wp2
      rw [Exit.noGoto_ret]
      have hmk3 : Marks Ds w2.heap.size ((wr.setCell ⟨w.heap.size + 1, 0, none⟩ (.int .i64 0)).setCell ⟨w.heap.size + 1, 1, none⟩ (.int .i64 0)) :=
        ⟨HM2.out.nodup, HM2.out.ge, fun D' hm => by
          have hne : D' ≠ w.heap.size + 1 := by have := HM2.out.ge _ hm; omega
          exact ((Below.heap_setCell _ ⟨w.heap.size + 1, 1, none⟩ _ D' hne).trans (Below.heap_setCell wr ⟨w.heap.size + 1, 0, none⟩ _ D' hne)).trans (HM2.out.open_ D' hm)⟩
      refine hmk3.leaves fun w' hw' => ?_
      have hrn : w.heap.size + 1 ∉ Ds := fun hm => by have := HM2.out.ge _ hm; omega
      have hrw : Blk w' (w.heap.size + 1) 36 #[.int .i64 0, .int .i64 0] := (hw'.block _ hrn).trans ((HRB.out.set_ 0 (.int .i64 0)).set_ 1 (.int .i64 0))
      have h0 := hrw.cell 0
      have h1 := hrw.cell 1
      simp only [List.getElem?_toArray, List.getElem?_cons_zero, List.getElem?_cons_succ] at h0 h1
      refine ⟨.tuple #[.agg #[.int .i64 0, .int .i64 0], .int .i64 6], by simp [results, Try.results14, go_sem, h0, h1], .inr ⟨HN.out, rfl⟩, hw'.below ?_ (fun D' hm => by have := HM2.out.ge _ hm; have := hb2.size; omega)⟩
      refine ((hb2.trans (hB.mono hb2.size)).setCell (p := ⟨w.heap.size + 1, 0, none⟩) (by simp) _).setCell (p := ⟨w.heap.size + 1, 1, none⟩) (by simp) _
end Go.Proofs.Ytjihnnbpfdhceaa

/- boil.lowers, boil.greatest, slices.MinFunc of ratios. Conditions: none beyond those that each theorem names. -/
set_option linter.unusedSimpArgs false
set_option linter.unusedVariables false
namespace Go.Proofs.Ytjihnnbpfdhceaa
open Go.RowKit Go.Shelf
attribute [local go_sem] Oper.semAt_some

theorem flat_get {α : Type} (enc : α → List Value) (k : Nat) (hk : ∀ x, (enc x).length = k) (l : List α) : ∀ (i : Nat) (hi : i < l.length) (j : Nat), j < k → (l.flatMap enc)[i * k + j]? = (enc l[i])[j]? := by
  induction l with
  | nil => intro i hi; simp at hi
  | cons x l ih =>
    intro i hi j hj
    rw [List.flatMap_cons]
    cases i with
    | zero =>
      rw [Nat.zero_mul, Nat.zero_add, List.getElem?_append_left (by rw [hk]; exact hj)]
      rfl
    | succ i =>
      rw [List.getElem?_append_right (by rw [hk, Nat.succ_mul]; omega), hk, show (i + 1) * k + j - k = i * k + j by rw [Nat.succ_mul]; omega]
      exact ih i (by simpa using hi) j hj
theorem flat_len {α : Type} (enc : α → List Value) (k : Nat) (hk : ∀ x, (enc x).length = k) (l : List α) : (l.flatMap enc).length = l.length * k := by
  induction l with
  | nil => simp
  | cons x l ih => rw [List.flatMap_cons, List.length_append, hk, ih, List.length_cons, Nat.succ_mul]; omega
/-- A row of one's own reads as a list. -/
theorem row_of_own {α : Type} (enc : α → List Value) (k : Nat) (hk : ∀ x, (enc x).length = k) {W : World} {base : Nat} {e : TypeId} {v : Value} {l : List α} (h : W.ownsRow base e k v l.length (l.flatMap enc)) :
    ∃ (ao : Option Addr) (cap : Nat), v = .slice ao l.length cap ∧ RowIn enc k W W.heap.size ao l ∧ l.length ≤ cap ∧ ∀ a, ao = some a → base ≤ a.block := by
  rcases h.2 with ⟨rfl, hn⟩ | ⟨g, cap, cur, rfl, hg, hh, r⟩
  · have : l = [] := List.eq_nil_of_length_eq_zero hn
    subst this
    exact ⟨none, 0, rfl, RowIn.nil, Nat.le_refl _, fun _ h => by cases h⟩
  · refine ⟨_, _, rfl, fun i hi => ⟨g, 0, rfl, (Array.getElem?_eq_some_iff.1 hh).1, fun j u hu => ?_⟩, r.1, fun a ha => by cases ha; exact hg⟩
    have hj : j < k := by
      have := (List.getElem?_eq_some_iff.1 hu).1
      rwa [hk] at this
    have := h.cells (g := g) rfl (i * k + j) u (by rw [flat_get enc k hk l i hi j hj]; exact hu)
    rw [addr_add0] at this
    rw [Nat.zero_add]
    exact this
theorem RowIn.tail_ {α : Type} {enc : α → List Value} {k B b o : Nat} {w : World} {a : α} {l : List α} (h : RowIn enc k w B (some ⟨b, o, none⟩) (a :: l)) : RowIn enc k w B (some ⟨b, o + k, none⟩) l := fun i hi => by
  obtain ⟨b', o', hA, hb, hc⟩ := h (i + 1) (by simpa using hi)
  injection hA with hA
  injection hA with h1 h2
  subst h1
  subst h2
  refine ⟨b, o + k, rfl, hb, fun j v hv => ?_⟩
  have := hc j v (by simpa using hv)
  rw [show o + (i + 1) * k + j = o + k + i * k + j by rw [Nat.succ_mul]; omega] at this
  exact this
theorem rat_len (r : Rat2) : r.enc.length = 2 := rfl
theorem wg_len (x : Wg) : x.enc.length = 5 := rfl
theorem info_ratio : (Try.prog.info? 43).map (fun i => (i.zero, i.size, i.bytes)) = some (some (.agg #[.int .i64 0, .int .i64 0]), 2, 16) := by kernel_rfl

/-- The least ratios of the weighings of months that lie under one, of the first k weighings. -/
def Hs.lowersTo (h : Hs) (m : Int) (k : Nat) : List Rat2 := ((h.ws.take k).filter fun x => h.under x.month m).map Wg.least
def Hs.lowers (h : Hs) (m : Int) : List Rat2 := (h.ws.filter fun x => h.under x.month m).map Wg.least
theorem Hs.lowersTo_all (h : Hs) (m : Int) : h.lowersTo m h.ws.length = h.lowers m := by unfold Hs.lowersTo Hs.lowers; rw [List.take_length]
theorem Hs.lowersTo_yes (h : Hs) (m : Int) (k : Nat) (hk : k < h.ws.length) (x : Wg) (hx : h.ws[k] = x) (hu : h.under x.month m = true) : h.lowersTo m (k + 1) = h.lowersTo m k ++ [x.least] := by
  unfold Hs.lowersTo
  rw [List.take_succ_eq_append_getElem hk, List.filter_append, List.map_append, hx]
  simp [hu]
theorem Hs.lowersTo_no (h : Hs) (m : Int) (k : Nat) (hk : k < h.ws.length) (x : Wg) (hx : h.ws[k] = x) (hu : h.under x.month m = false) : h.lowersTo m (k + 1) = h.lowersTo m k := by
  unfold Hs.lowersTo
  rw [List.take_succ_eq_append_getElem hk, List.filter_append, List.map_append, hx]
  simp [hu]
theorem Hs.lowersTo_len (h : Hs) (m : Int) (k : Nat) : (h.lowersTo m k).length ≤ k := by
  unfold Hs.lowersTo
  rw [List.length_map]
  have := List.length_filter_le (fun x => h.under x.month m) (h.ws.take k)
  rw [List.length_take] at this
  omega
def flatR (l : List Rat2) : List Value := l.flatMap Rat2.enc
theorem flatR_snoc (l : List Rat2) (r : Rat2) : flatR (l ++ [r]) = flatR l ++ [.int .i64 r.num, .int .i64 r.den] := by unfold flatR; rw [List.flatMap_append]; rfl

set_option maxRecDepth 100000 in
set_option maxHeartbeats 1000000 in
theorem lowers_any (h : Hs) (A : Option Addr) (c : Nat) (m : Int) (w : World) (hr : RowIn Wg.enc 5 w w.heap.size A h.ws) (hk : h.check = 0) :
    Calls Try.prog 53 #[h.val A c, .int .i64 m] w fun e w' => ∃ v, e = .returned v ∧ w'.ownsRow w.heap.size 43 2 v (h.lowers m).length (flatR (h.lowers m)) ∧ Below w.heap.size w w' := by
  obtain ⟨i0, hi0, hz0, hz1, hz2⟩ := info_parts info_ratio
  have hlen := check_len hk
  have HOK := Lib.hid (check_ok hk)
  have HR := Lib.hid hr
  clear hr hk
  unfold Hs.val
  go_enter Try.func53, Try.ntmps53
  go_wp2
  have hb1 : Below w.heap.size w (w.alloc (.cells #[.int .i64 h.months, .int .i64 h.peak, .slice A h.ws.length c] 25)) := by repeat (first | exact Below.refl _ _ | exact Below.refl _ _ | refine Below.drew ?_ | refine below_drewN ?_ _ | refine Below.setCell ?_ (by first | assumption | omega | (simp; done) | (simp; omega) | (simp at *; omega)) _ | refine Below.alloc ?_ (by first | assumption | omega | (simp; done) | (simp; omega) | (simp at *; omega)) _ | refine Below.trans ?_ (Below.mono Below.refl _ _ (by first | assumption | omega | (simp; done) | (simp; omega) | (simp at *; omega))))
  have hho : Blk (w.alloc (.cells #[.int .i64 h.months, .int .i64 h.peak, .slice A h.ws.length c] 25)) w.heap.size 25 #[.int .i64 h.months, .int .i64 h.peak, .slice A h.ws.length c] := Blk.new _ _ _
  have hzw : (w.alloc (.cells #[.int .i64 h.months, .int .i64 h.peak, .slice A h.ws.length c] 25)).heap.size = w.heap.size + 1 := by simp
  generalize w.alloc (.cells #[.int .i64 h.months, .int .i64 h.peak, .slice A h.ws.length c] 25) = w1 at hb1 hho hzw ⊢
  have HH := Lib.hid hho
  have hb0 : Below w1.heap.size w1 w1 := Below.refl _ _
  clear hho
  go_loopw [5, 11] (fun v i wr => ∃ k : Nat, k ≤ h.ws.length ∧ i = .int .i64 k ∧ Below w1.heap.size w1 wr ∧ wr.ownsRow w1.heap.size 43 2 v (h.lowersTo m k).length (flatR (h.lowersTo m k))) (fun _ i _ => h.ws.length - (intOf i).toNat)
  case atStart => exact ⟨0, by omega, rfl, hb0, World.ownsRow_nil _ _ _ 2⟩
  case round =>
    clear hb0
    obtain ⟨k, hk, rfl, hB, hOw⟩ := hrel
    by_cases hlt : k < h.ws.length
    · have hB' : Below w.heap.size w wr := hb1.trans (hB.mono (by omega))
      obtain ⟨b0, o0, x, rfl, hB0, hx, x0, x1, x2, x3, x4⟩ := (HR.out.below hB').wg k hlt
      have hB1 : b0 < wr.heap.size := Nat.lt_of_lt_of_le hB0 hB'.size
      have HX := Lib.hid hx
      have hho := HH.out.later hB
      have c0 := hho.cell 0
      have c1 := hho.cell 1
      have c2 := hho.cell 2
      simp only [List.getElem?_toArray, List.getElem?_cons_zero, List.getElem?_cons_succ] at c0 c1 c2
      have hlk := h.lowersTo_len m k
      have HZ := hB.size
      have hwl := hho.lt
      have HU := Lib.hid (fun V => under_any h (some ⟨b0, o0, none⟩) c x.month m V)
      have HLE := Lib.hid (fun V => least_any x (by rw [← HX.out]; exact HOK.out _ (List.getElem_mem _)) V)
      clear hx hho hB'
      go_wp2_with fail
      refine (HU.out _).mono ?_
      rintro e w4 ⟨rfl, hb4⟩
      have hz4 := hb4.size
      simp only [World.size_alloc] at hz4
      have hB5 : Below wr.heap.size wr w4 := ((Below.refl _ _).alloc (Nat.le_refl _) _).trans (hb4.mono (by simp))
      have hB4 : Below w1.heap.size w1 w4 := hB.trans (hB5.mono HZ)
      have hv4 : Blk w4 wr.heap.size 55 #[.int .i64 x.month, .int .i64 x.slo, .int .i64 x.shi, .int .i64 x.mlo, .int .i64 x.mhi] := (Blk.new wr 55 _).later hb4
      have v0 := hv4.cell 0
      have v1 := hv4.cell 1
      have v2 := hv4.cell 2
      have v3 := hv4.cell 3
      have v4 := hv4.cell 4
      simp only [List.getElem?_toArray, List.getElem?_cons_zero, List.getElem?_cons_succ] at v0 v1 v2 v3 v4
      have hOw4 := ownsRow_keep hOw hB5
      have HZ4 := hB4.size
      clear hOw hv4 x0 x1 x2 x3 x4 c0 c1 c2 hb4
      cases hu : h.under x.month m
      · have HP := Lib.hid (h.lowersTo_no m k hlt x HX.out hu)
        have HOw := Lib.hid hOw4
        clear hu hOw4
        go_wp2
        go_roundw
        case rel => exact ⟨k + 1, by omega, by go_num, hB4, by rw [HP.out]; exact HOw.out⟩
        case measure => simp [intOf]; omega
      · have HP := Lib.hid (h.lowersTo_yes m k hlt x HX.out hu)
        have HOw := Lib.hid hOw4
        clear hu hOw4
        go_wp2_with fail
        refine (HLE.out _).mono ?_
        rintro e w5 ⟨rfl, hb5⟩
        have hB6 : Below w1.heap.size w1 w5 := hB4.trans (hb5.mono HZ4)
        have hOw5 := ownsRow_keep HOw.out hb5
        have HZ5 := hB6.size
        clear v0 v1 v2 v3 v4 hb5 HOw
        unfold Rat2.val
        go_wp2_with (at_builtin; refine wpList_append_own _ rfl _ _ 26 rfl w1.heap.size 43 i0 _ 2 16 Try.underlying26 hi0 hz0 hz1 hz2 rfl (by decide) _ _ _ rfl (hOw5.alloc _) ⟨w5.heap.size, 0, none⟩ 1 1 [.int .i64 x.least.num, .int .i64 x.least.den] rfl rfl ?c1 ?c2 ?c3 ?c4 ?c5 ?_)
        case c1 => exact World.news_of_block (cs := #[.int .i64 x.least.num, .int .i64 x.least.den]) (t := 43) (fr := (0, 0)) (heap_alloc_new w5 _)
        case c2 => simp [Value.oneCell']
        case c3 => unfold maxLen; omega
        case c4 => omega
        case c5 => simp; omega
        intro v' wn hown' hgrow _
        have hBn : Below w1.heap.size w1 wn := (hB6.alloc HZ5 _).grown hgrow (by simp; omega) (fun g hg => (hOw5.lt g hg).1)
        have HOw := Lib.hid hown'
        clear hown' hgrow hOw5
        go_wp2
        go_roundw
        case rel => exact ⟨k + 1, by omega, by go_num, hBn, by rw [HP.out, flatR_snoc, List.length_append, hzw]; exact HOw.out⟩
        case measure => simp [intOf]; omega
    · obtain rfl : k = h.ws.length := by omega
      rw [Hs.lowersTo_all] at hOw
      have HOw := Lib.hid hOw
      clear hOw
      go_wp2
      go_ret
      exact ⟨_, rfl, ownsRow_base' HOw.out (by omega), hb1.trans (hB.mono (by omega))⟩
end Go.Proofs.Ytjihnnbpfdhceaa

/- boil.greatest, slices.MinFunc of ratios. Conditions: none beyond those that each theorem names. -/
set_option linter.unusedSimpArgs false
set_option linter.unusedVariables false
namespace Go.Proofs.Ytjihnnbpfdhceaa
open Go.RowKit Go.Shelf
attribute [local go_sem] Oper.semAt_some

theorem RowIn.rat {B : Nat} {w : World} {A : Option Addr} {l : List Rat2} (h : RowIn Rat2.enc 2 w B A l) (i : Nat) (hi : i < l.length) :
    ∃ b o x, A = some ⟨b, o, none⟩ ∧ b < B ∧ l[i] = x ∧ w.cell? ⟨b, o + i * 2, none⟩ = some (.int .i64 x.num) ∧ w.cell? ⟨b, o + i * 2 + 1, none⟩ = some (.int .i64 x.den) := by
  obtain ⟨b, o, hA, hb, hc⟩ := h i hi
  exact ⟨b, o, l[i], hA, hb, rfl, hc 0 _ rfl, hc 1 _ rfl⟩

def grStep (r q : Rat2) : Rat2 := if aboveB q r then q else r
def gr (r : Rat2) (l : List Rat2) : Rat2 := l.foldl grStep r
theorem gr_snoc (r : Rat2) (l : List Rat2) (k : Nat) (hk : k < l.length) (x : Rat2) (hx : l[k] = x) : gr r (l.take (k + 1)) = grStep (gr r (l.take k)) x := by
  unfold gr; rw [List.take_succ_eq_append_getElem hk, List.foldl_append, hx]; rfl
theorem gr_bd (r : Rat2) (l : List Rat2) (hr : r.Bd) (hl : ∀ q ∈ l, q.Bd) : (gr r l).Bd := by
  unfold gr
  induction l generalizing r with
  | nil => exact hr
  | cons q l ih =>
    rw [List.foldl_cons]
    refine ih _ ?_ (fun x hx => hl x (List.mem_cons_of_mem _ hx))
    unfold grStep
    split
    · exact hl q List.mem_cons_self
    · exact hr

set_option maxRecDepth 100000 in
set_option maxHeartbeats 1000000 in
theorem greatest_any (r : Rat2) (A : Option Addr) (l : List Rat2) (c : Nat) (w : World) (hR : RowIn Rat2.enc 2 w w.heap.size A l) (hr : r.Bd) (hl : ∀ q ∈ l, q.Bd) (hn : l.length ≤ 1000000) :
    Calls Try.prog 57 #[r.val, .slice A l.length c] w fun e w' => e = .returned (gr r l).val ∧ Below w.heap.size w w' := by
  have HR := Lib.hid hR
  have HL := Lib.hid hl
  have HB := Lib.hid hr
  clear hR hl hr
  unfold Rat2.val
  go_enter Try.func57, Try.ntmps57
  go_wp2
  have hb1 : Below w.heap.size w ((w.alloc (.cells #[.int .i64 r.num, .int .i64 r.den] 43)).alloc (.cells #[.int .i64 0, .int .i64 0] 43)) := by repeat (first | exact Below.refl _ _ | exact Below.refl _ _ | refine Below.drew ?_ | refine below_drewN ?_ _ | refine Below.setCell ?_ (by first | assumption | omega | (simp; done) | (simp; omega) | (simp at *; omega)) _ | refine Below.alloc ?_ (by first | assumption | omega | (simp; done) | (simp; omega) | (simp at *; omega)) _ | refine Below.trans ?_ (Below.mono Below.refl _ _ (by first | assumption | omega | (simp; done) | (simp; omega) | (simp at *; omega))))
  have hx1 : Blk ((w.alloc (.cells #[.int .i64 r.num, .int .i64 r.den] 43)).alloc (.cells #[.int .i64 0, .int .i64 0] 43)) w.heap.size 43 #[.int .i64 r.num, .int .i64 r.den] := (Blk.new _ _ _).alloc _
  have hy1 : Blk ((w.alloc (.cells #[.int .i64 r.num, .int .i64 r.den] 43)).alloc (.cells #[.int .i64 0, .int .i64 0] 43)) (w.heap.size + 1) 43 #[.int .i64 0, .int .i64 0] := by
    have := Blk.new (w.alloc (.cells #[.int .i64 r.num, .int .i64 r.den] 43)) 43 #[.int .i64 0, .int .i64 0]
    rwa [World.size_alloc] at this
  generalize (w.alloc (.cells #[.int .i64 r.num, .int .i64 r.den] 43)).alloc (.cells #[.int .i64 0, .int .i64 0] 43) = w1 at hb1 hx1 hy1 ⊢
  go_loopw [9] (fun i wr => ∃ k : Nat, k ≤ l.length ∧ i = .int .i64 k ∧ Below w.heap.size w wr ∧ Blk wr w.heap.size 43 #[.int .i64 (gr r (l.take k)).num, .int .i64 (gr r (l.take k)).den] ∧ Blk wr (w.heap.size + 1) 43 #[.int .i64 0, .int .i64 0]) (fun i _ => l.length - (intOf i).toNat)
  case atStart => exact ⟨0, by omega, rfl, hb1, by rw [List.take_zero]; exact hx1, hy1⟩
  case round =>
    clear hb1 hx1 hy1
    obtain ⟨k, hk, rfl, hB, hX, hY⟩ := hrel
    by_cases hlt : k < l.length
    · obtain ⟨b0, o0, x, rfl, hB0, hx, x0, x1⟩ := (HR.out.below hB).rat k hlt
      have hB1 : b0 < wr.heap.size := Nat.lt_of_lt_of_le hB0 hB.size
      have hxb : x.Bd := by rw [← hx]; exact HL.out _ (List.getElem_mem _)
      have hgb : (gr r (l.take k)).Bd := gr_bd _ _ HB.out (fun q hq => HL.out q (List.mem_of_mem_take hq))
      have HS := Lib.hid (gr_snoc r l k hlt x hx)
      have HAB := Lib.hid (fun V => above_any x (gr r (l.take k)) V (prod_bd hxb hgb) (prod_bd hgb hxb))
      generalize hgk : gr r (l.take k) = q at hX HS HAB
      have c0 := hX.cell 0
      have c1 := hX.cell 1
      simp only [List.getElem?_toArray, List.getElem?_cons_zero, List.getElem?_cons_succ] at c0 c1
      have hwl := hX.lt
      have hyl := hY.lt
      have HX := Lib.hid hX
      have HY := Lib.hid hY
      have HZ := hB.size
      clear hx hX hY hxb hgb hgk
      go_wp2_with fail
      refine (HAB.out _).mono ?_
      rintro e w4 ⟨rfl, hb4⟩
      have hB5 : Below wr.heap.size wr w4 := ((Below.refl _ _).alloc (Nat.le_refl _) _).trans (hb4.mono (by simp))
      have hB4 : Below w.heap.size w w4 := hB.trans (hB5.mono HZ)
      have hX4 := HX.out.later hB5
      have hY4 := HY.out.later hB5
      have hv4 : Blk w4 wr.heap.size 43 #[.int .i64 x.num, .int .i64 x.den] := (Blk.new wr 43 _).later hb4
      have v0 := hv4.cell 0
      have v1 := hv4.cell 1
      have d0 := hX4.cell 0
      have d1 := hX4.cell 1
      have f0 := hX4.frozen 0
      have f1 := hX4.frozen 1
      simp only [List.getElem?_toArray, List.getElem?_cons_zero, List.getElem?_cons_succ] at v0 v1 d0 d1
      have HX4 := Lib.hid hX4
      have HY4 := Lib.hid hY4
      clear hX4 hY4 hv4 x0 x1 c0 c1 hb4 HX HY HAB
      cases hab : aboveB x q
      · have hs : gr r (l.take (k + 1)) = q := by rw [HS.out]; unfold grStep; rw [hab]; rfl
        have HSS := Lib.hid hs
        clear hab hs HS
        go_wp2
        go_roundw
        case rel => exact ⟨k + 1, by omega, by go_num, hB4, by rw [HSS.out]; exact HX4.out, HY4.out⟩
        case measure => simp [intOf]; omega
      · have hs : gr r (l.take (k + 1)) = x := by rw [HS.out]; unfold grStep; rw [hab]; rfl
        have HSS := Lib.hid hs
        clear hab hs HS
        go_wp2
        go_roundw
        case rel =>
          refine ⟨k + 1, by omega, by go_num, ((hB4.setCell (p := ⟨w.heap.size, 0, none⟩) (by simp) _).setCell (p := ⟨w.heap.size, 1, none⟩) (by simp) _), ?_, (HY4.out.far (p := ⟨w.heap.size, 0, none⟩) (by simp) _).far (p := ⟨w.heap.size, 1, none⟩) (by simp) _⟩
          rw [HSS.out]
          exact (HX4.out.set_ 0 _).set_ 1 _
        case measure => simp [intOf]; omega
    · obtain rfl : k = l.length := by omega
      rw [List.take_length] at hX
      have c0 := hX.cell 0
      have c1 := hX.cell 1
      have d0 := hY.cell 0
      have d1 := hY.cell 1
      have f0 := hY.frozen 0
      have f1 := hY.frozen 1
      simp only [List.getElem?_toArray, List.getElem?_cons_zero, List.getElem?_cons_succ] at c0 c1 d0 d1
      have HY := Lib.hid hY
      have HX := Lib.hid hX
      clear hX hY
      go_wp2
      refine bodyPost_ret (v := (gr r l).val) ?_ rfl ⟨rfl, (hB.setCell (p := ⟨w.heap.size + 1, 0, none⟩) (by simp) _).setCell (p := ⟨w.heap.size + 1, 1, none⟩) (by simp) _⟩
      have hY2 := (HY.out.set_ 0 (.int .i64 (gr r l).num)).set_ 1 (.int .i64 (gr r l).den)
      have e0 := hY2.cell 0
      have e1 := hY2.cell 1
      simp only [List.setIfInBounds_toArray, List.set_cons_zero, List.set_cons_succ, List.getElem?_toArray, List.getElem?_cons_zero, List.getElem?_cons_succ] at e0 e1
      unfold Rat2.val
      simp [results, Try.results57, go_sem, e0, e1]
end Go.Proofs.Ytjihnnbpfdhceaa

/- slices.MinFunc of ratios. Conditions: none beyond those that each theorem names. -/
set_option linter.unusedSimpArgs false
set_option linter.unusedVariables false
namespace Go.Proofs.Ytjihnnbpfdhceaa
open Go.RowKit Go.Shelf
attribute [local go_sem] Oper.semAt_some

def cmpR (a b : Rat2) : Int := a.num * b.den - b.num * a.den
set_option maxHeartbeats 400000 in
theorem bounds1_any (a b : Rat2) (w : World) (h1 : 0 ≤ a.num * b.den ∧ a.num * b.den ≤ 1000000000000) (h2 : 0 ≤ b.num * a.den ∧ b.num * a.den ≤ 1000000000000) :
    Calls Try.prog 56 #[a.val, b.val] w fun e w' => e = .returned (.int .i64 (cmpR a b)) ∧ Below w.heap.size w w' := by
  unfold Rat2.val
  obtain ⟨an, ad⟩ := a
  obtain ⟨bn, bd⟩ := b
  obtain ⟨h1, h1'⟩ := h1
  obtain ⟨h2, h2'⟩ := h2
  simp only at h1 h1' h2 h2'
  go_enter Try.func56, Try.ntmps56
  go_wp2
  go_ret
  exact ⟨rfl, by repeat (first | exact Below.refl _ _ | exact Below.refl _ _ | refine Below.drew ?_ | refine below_drewN ?_ _ | refine Below.setCell ?_ (by first | assumption | omega | (simp; done) | (simp; omega) | (simp at *; omega)) _ | refine Below.alloc ?_ (by first | assumption | omega | (simp; done) | (simp; omega) | (simp at *; omega)) _ | refine Below.trans ?_ (Below.mono Below.refl _ _ (by first | assumption | omega | (simp; done) | (simp; omega) | (simp at *; omega))))⟩

def mnStep (m q : Rat2) : Rat2 := if aboveB m q then q else m
def mn (m : Rat2) (l : List Rat2) : Rat2 := l.foldl mnStep m
theorem mn_snoc (m : Rat2) (l : List Rat2) (k : Nat) (hk : k < l.length) (x : Rat2) (hx : l[k] = x) : mn m (l.take (k + 1)) = mnStep (mn m (l.take k)) x := by
  unfold mn; rw [List.take_succ_eq_append_getElem hk, List.foldl_append, hx]; rfl
theorem mn_bd (r : Rat2) (l : List Rat2) (hr : r.Bd) (hl : ∀ q ∈ l, q.Bd) : (mn r l).Bd := by
  unfold mn
  induction l generalizing r with
  | nil => exact hr
  | cons q l ih =>
    rw [List.foldl_cons]
    refine ih _ ?_ (fun x hx => hl x (List.mem_cons_of_mem _ hx))
    unfold mnStep
    split
    · exact hl q List.mem_cons_self
    · exact hr
theorem cmp_lt (x q : Rat2) : (decide (cmpR x q < 0)) = aboveB q x := by
  unfold cmpR aboveB
  exact decide_eq_decide.2 (by omega)

set_option maxRecDepth 100000 in
set_option maxHeartbeats 1000000 in
theorem minfunc_any (A : Option Addr) (r : Rat2) (l : List Rat2) (c : Nat) (w : World) (hR : RowIn Rat2.enc 2 w w.heap.size A (r :: l)) (hl : ∀ q ∈ r :: l, q.Bd) (hn : (r :: l).length ≤ 1000000) :
    Calls Try.prog 55 #[.slice A (r :: l).length c, .func (.func 56) #[] #[]] w fun e w' => e = .returned (mn r l).val ∧ Below w.heap.size w w' := by
  have HR := Lib.hid hR
  have HL := Lib.hid hl
  have hz : (l.length : Int) + 1 ≤ 1000000 := by simp at hn; omega
  obtain ⟨b0, o0, x0, rfl, hB0, hx0, p0, p1⟩ := hR.rat 0 (by simp)
  obtain rfl : r = x0 := hx0
  simp only [Nat.zero_mul, Nat.add_zero] at p0 p1
  clear hR hl hn
  simp only [List.length_cons]
  obtain ⟨n, hnn⟩ : ∃ n : Nat, n = l.length + 1 := ⟨_, rfl⟩
  rw [← hnn]
  have hn1 : (1 : Int) ≤ (n : Int) := by omega
  have hn0 : (0 : Int) < (n : Int) := by omega
  have hn2 : (n : Int) ≤ 1000000 := by omega
  have HNN := Lib.hid hnn
  have hB0w : b0 < w.heap.size := hB0
  clear hnn hz
  go_enter Try.func55, Try.ntmps55
  go_wp2
  have hb1 : Below w.heap.size w ((w.alloc (.cells #[.int .i64 0, .int .i64 0] 43)).alloc (.cells #[.int .i64 r.num, .int .i64 r.den] 43)) := by repeat (first | exact Below.refl _ _ | exact Below.refl _ _ | refine Below.drew ?_ | refine below_drewN ?_ _ | refine Below.setCell ?_ (by first | assumption | omega | (simp; done) | (simp; omega) | (simp at *; omega)) _ | refine Below.alloc ?_ (by first | assumption | omega | (simp; done) | (simp; omega) | (simp at *; omega)) _ | refine Below.trans ?_ (Below.mono Below.refl _ _ (by first | assumption | omega | (simp; done) | (simp; omega) | (simp at *; omega))))
  have hy1 : Blk ((w.alloc (.cells #[.int .i64 0, .int .i64 0] 43)).alloc (.cells #[.int .i64 r.num, .int .i64 r.den] 43)) w.heap.size 43 #[.int .i64 0, .int .i64 0] := (Blk.new _ _ _).alloc _
  have hx1 : Blk ((w.alloc (.cells #[.int .i64 0, .int .i64 0] 43)).alloc (.cells #[.int .i64 r.num, .int .i64 r.den] 43)) (w.heap.size + 1) 43 #[.int .i64 r.num, .int .i64 r.den] := by
    have := Blk.new (w.alloc (.cells #[.int .i64 0, .int .i64 0] 43)) 43 #[.int .i64 r.num, .int .i64 r.den]
    rwa [World.size_alloc] at this
  generalize (w.alloc (.cells #[.int .i64 0, .int .i64 0] 43)).alloc (.cells #[.int .i64 r.num, .int .i64 r.den] 43) = w1 at hb1 hx1 hy1 ⊢
  clear p0 p1
  go_loopw [6] (fun i wr => ∃ k : Nat, k ≤ l.length ∧ i = .int .i64 ((k : Int) + 1) ∧ Below w.heap.size w wr ∧ Blk wr (w.heap.size + 1) 43 #[.int .i64 (mn r (l.take k)).num, .int .i64 (mn r (l.take k)).den] ∧ Blk wr w.heap.size 43 #[.int .i64 0, .int .i64 0]) (fun i _ => n - (intOf i).toNat)
  case atStart => exact ⟨0, by omega, rfl, hb1, by rw [List.take_zero]; exact hx1, hy1⟩
  case round =>
    clear hb1 hx1 hy1
    obtain ⟨k, hk, rfl, hB, hX, hY⟩ := hrel
    have hNN := HNN.out
    by_cases hlt : k < l.length
    · obtain ⟨b1, o1, x, hA, hB1, hx, x0, x1⟩ := (HR.out.below hB).rat (k + 1) (by simp; omega)
      injection hA with hA
      injection hA with hA1 hA2
      subst hA1
      subst hA2
      have hx' : l[k] = x := by simpa using hx
      have hB1 : b0 < wr.heap.size := Nat.lt_of_lt_of_le hB0w hB.size
      have hxb : x.Bd := by rw [← hx']; exact HL.out _ (List.mem_cons_of_mem _ (List.getElem_mem _))
      have hgb : (mn r (l.take k)).Bd := mn_bd _ _ (HL.out _ List.mem_cons_self) (fun q hq => HL.out q (List.mem_cons_of_mem _ (List.mem_of_mem_take hq)))
      have HS := Lib.hid (mn_snoc r l k hlt x hx')
      have HAB := Lib.hid (fun V => bounds1_any x (mn r (l.take k)) V (prod_bd hxb hgb) (prod_bd hgb hxb))
      generalize hgk : mn r (l.take k) = q at hX HS HAB
      have c0 := hX.cell 0
      have c1 := hX.cell 1
      simp only [List.getElem?_toArray, List.getElem?_cons_zero, List.getElem?_cons_succ] at c0 c1
      have hwl := hX.lt
      have hyl := hY.lt
      have HX := Lib.hid hX
      have HY := Lib.hid hY
      have HZ := hB.size
      have hkn : (k : Int) + 1 < (n : Int) := by omega
      have HX0 := Lib.hid x0
      have HX1 := Lib.hid x1
      have e0 : o0 + (k + 1) * 2 = o0 + ((k : Int) + 1).toNat * 2 := by omega
      have Fc0 := fun u => Later.cell c0 u
      have Fc1 := fun u => Later.cell c1 u
      have Fx0 := fun u => Later.cell x0 u
      have Fx1 := fun u => Later.cell x1 u
      clear hx hX hY hxb hgb hgk hx' x0 x1 c0 c1 hNN e0
      go_wp2
      refine wp_region_later (by kernel_rfl) (by kernel_rfl) ?_
      repeat (go_big_quiet_step ((go_at_call 56; exact Later.call (HAB.out _))))
      refine wpQuiet_nil ?_
      intro u
      have hub := u.below
      have hB5 : Below w.heap.size w u.w := hB.trans (hub.mono HZ)
      have hX5 := HX.out.later hub
      have hY5 := HY.out.later hub
      have f0 := hX5.frozen 0
      have f1 := hX5.frozen 1
      have d0 := hX5.cell 0
      have d1 := hX5.cell 1
      simp only [List.getElem?_toArray, List.getElem?_cons_zero, List.getElem?_cons_succ] at d0 d1
      have y0 := Later.cell HX0.out u
      have y1 := Later.cell HX1.out u
      have HX5 := Lib.hid hX5
      have HY5 := Lib.hid hY5
      clear hX5 hY5 HAB HX HY HX0 HX1
      by_cases hc : cmpR x q < 0
      · have hs : mn r (l.take (k + 1)) = x := by rw [HS.out]; unfold mnStep; rw [← cmp_lt, decide_eq_true hc]; rfl
        have HSS := Lib.hid hs
        clear hs HS
        go_wp2
        go_roundw
        case rel =>
          refine ⟨k + 1, by omega, by go_num, ((hB5.setCell (p := ⟨w.heap.size + 1, 0, none⟩) (by simp) _).setCell (p := ⟨w.heap.size + 1, 1, none⟩) (by simp) _), ?_, (HY5.out.far (p := ⟨w.heap.size + 1, 0, none⟩) (by simp) _).far (p := ⟨w.heap.size + 1, 1, none⟩) (by simp) _⟩
          rw [HSS.out]
          exact (HX5.out.set_ 0 _).set_ 1 _
        case measure => simp [intOf]; omega
      · have hs : mn r (l.take (k + 1)) = q := by rw [HS.out]; unfold mnStep; rw [← cmp_lt, decide_eq_false hc]; rfl
        have HSS := Lib.hid hs
        clear hs HS
        go_wp2
        go_roundw
        case rel => exact ⟨k + 1, by omega, by go_num, hB5, by rw [HSS.out]; exact HX5.out, HY5.out⟩
        case measure => simp [intOf]; omega
    · obtain rfl : k = l.length := by omega
      rw [List.take_length] at hX
      have c0 := hX.cell 0
      have c1 := hX.cell 1
      have d0 := hY.cell 0
      have d1 := hY.cell 1
      have f0 := hY.frozen 0
      have f1 := hY.frozen 1
      simp only [List.getElem?_toArray, List.getElem?_cons_zero, List.getElem?_cons_succ] at c0 c1 d0 d1
      have HY := Lib.hid hY
      have HX := Lib.hid hX
      have hkn : ¬ (l.length : Int) + 1 < (n : Int) := by omega
      clear hX hY hNN
      go_wp2
      refine bodyPost_ret (v := (mn r l).val) ?_ rfl ⟨rfl, (hB.setCell (p := ⟨w.heap.size, 0, none⟩) (by simp) _).setCell (p := ⟨w.heap.size, 1, none⟩) (by simp) _⟩
      have hY2 := (HY.out.set_ 0 (.int .i64 (mn r l).num)).set_ 1 (.int .i64 (mn r l).den)
      have e0 := hY2.cell 0
      have e1 := hY2.cell 1
      simp only [List.setIfInBounds_toArray, List.set_cons_zero, List.set_cons_succ, List.getElem?_toArray, List.getElem?_cons_zero, List.getElem?_cons_succ] at e0 e1
      unfold Rat2.val
      simp [results, Try.results55, go_sem, e0, e1]
end Go.Proofs.Ytjihnnbpfdhceaa
