/- boil.Clash. Conditions: none beyond those that each theorem names. -/
import Derived.Test.YtjihnnbpfdhceaaA17
import Derived.WalkMore
set_option linter.unusedSimpArgs false
set_option linter.unusedVariables false
namespace Go.Proofs.Ytjihnnbpfdhceaa
open Go.RowKit Go.Shelf
attribute [local go_sem] Oper.semAt_some

/-- The first pair that clashes, or none. -/
def ClashRes (M : Nat → Nat → Bool) (len : Nat) (e : Ending) : Prop :=
  (∃ a b, a < len ∧ b < len ∧ M a b = true ∧ (∀ i, i < a → ∀ j, j < len → M i j = false) ∧ (∀ j, j < b → M a j = false) ∧ e = .returned (.tuple #[.agg #[.int .i64 a, .int .i64 b], .int .i64 0])) ∨
  ((∀ i, i < len → ∀ j, j < len → M i j = false) ∧ e = .returned (.tuple #[.agg #[.int .i64 0, .int .i64 0], .int .i64 6]))

theorem filter_first {p : Nat → Bool} {n x : Nat} {t : List Nat} (h : (List.range n).filter p = x :: t) : x < n ∧ p x = true ∧ ∀ j, j < x → p j = false := by
  have h1 : ((List.range n).filter p).head? = some x := by rw [h]; rfl
  rw [List.head?_filter, List.find?_range_eq_some] at h1
  exact ⟨List.mem_range.1 h1.2.1, h1.1, fun j hj => by simpa using h1.2.2 j hj⟩
theorem first_bel {M : Nat → Nat → Bool} {len k : Nat} {pre : List (Bel M len k)} (h : pre <+: belL M len k) (h1 : pre.length = 1) :
    ∃ b, b < len ∧ M k b = true ∧ (∀ j, j < b → M k j = false) ∧ (pre.head?.map (·.1)).getD 0 = b := by
  obtain ⟨x, rfl⟩ := List.length_eq_one_iff.1 h1
  obtain ⟨t, ht⟩ := h
  have h2 := belL_vals M len k
  rw [← ht] at h2
  simp only [List.singleton_append, List.map_cons] at h2
  unfold bels at h2
  obtain ⟨h3, h4, h5⟩ := filter_first h2.symm
  exact ⟨x.1, h3, h4, h5, rfl⟩

set_option maxRecDepth 100000 in
set_option maxHeartbeats 1000000 in
theorem clash_any (h : Hs) (A : Option Addr) (c : Nat) (w : World) (hr : RowIn Wg.enc 5 w w.heap.size A h.ws) (hk : h.check = 0) :
    Calls Try.prog 14 #[h.val A c] w fun e w' => ClashRes h.clashM h.ws.length e ∧ Below w.heap.size w w' := by
  have hlen := check_len hk
  have HR := Lib.hid hr
  have HK := Lib.hid hk
  clear hr hk
  unfold Hs.val
  refine (callsIn_wide (n := 2)).1 ?_
  refine callsIn_of_wp_marks Try.func14 rfl trivial ?_ rfl
  simp only [Try.ntmps14, List.size_toArray, List.length_cons, List.length_nil, Nat.reduceAdd, Nat.reduceSub, Array.replicate_succ, Array.replicate_zero, List.push_toArray, List.append_toArray, List.nil_append, List.cons_append]
  refine wpIn_wide.2 ?_
  go_wp2
  go_step3
  go_wp2_with fail
  refine (opened_any h A c _ ((HR.out.below (((Below.refl _ _).alloc (Nat.le_refl _) _).alloc (by simp) _)).mono (by simp; omega)) HK.out).mono ?_
  rintro e w1 ⟨g, rfl, hg, hgb, hb1⟩
  have hzg : w.heap.size + 1 + 1 ≤ g := by simpa using hg
  have hbw1 : Below w.heap.size w w1 := by repeat (first | exact Below.refl _ _ | exact hb1 | refine Below.drew ?_ | refine below_drewN ?_ _ | refine Below.setCell ?_ (by first | assumption | omega | (simp; done) | (simp; omega) | (simp at *; omega)) _ | refine Below.alloc ?_ (by first | assumption | omega | (simp; done) | (simp; omega) | (simp at *; omega)) _ | refine Below.trans ?_ (Below.mono hb1 (by first | assumption | omega | (simp; done) | (simp; omega) | (simp at *; omega))))
  have hdk : Blk w1 g 134 (deskCells (.int .i64 h.months) (.int .i64 h.peak) (.slice A h.ws.length c) h.clashM) := hgb
  have hho : Blk w1 w.heap.size 25 #[.int .i64 h.months, .int .i64 h.peak, .slice A h.ws.length c] := ((Blk.new w 25 _).alloc _).later hb1
  have hre : Blk w1 (w.heap.size + 1) 36 #[.int .i64 0, .int .i64 0] := by
    have := Blk.new (w.alloc (.cells #[.int .i64 h.months, .int .i64 h.peak, .slice A h.ws.length c] 25)) 36 #[.int .i64 0, .int .i64 0]
    rw [World.size_alloc] at this
    exact this.later hb1
  have hdl := hdk.lt
  have hhl := hho.lt
  have hzz := hbw1.size
  have c2 := hho.cell 2
  simp only [List.getElem?_toArray, List.getElem?_cons_zero, List.getElem?_cons_succ] at c2
  have HD := Lib.hid hdk
  have HB1 := Lib.hid hbw1
  have HH := Lib.hid hho
  have HE := Lib.hid hre
  clear hgb hg hb1 hdk hbw1 hho hre
  go_wp2
  go_step3
  have hb2 : Below w.heap.size w ((w1.alloc (.cells #[.int .i64 (-1), .int .i64 (-1)] 36)).alloc (.cells #[.int .i64 (-1), .int .i64 (-1)] 36)) := by repeat (first | exact Below.refl _ _ | exact HB1.out | refine Below.drew ?_ | refine below_drewN ?_ _ | refine Below.setCell ?_ (by first | assumption | omega | (simp; done) | (simp; omega) | (simp at *; omega)) _ | refine Below.alloc ?_ (by first | assumption | omega | (simp; done) | (simp; omega) | (simp at *; omega)) _ | refine Below.trans ?_ (Below.mono HB1.out (by first | assumption | omega | (simp; done) | (simp; omega) | (simp at *; omega))))
  have hbb : Below w1.heap.size w1 ((w1.alloc (.cells #[.int .i64 (-1), .int .i64 (-1)] 36)).alloc (.cells #[.int .i64 (-1), .int .i64 (-1)] 36)) := by repeat (first | exact Below.refl _ _ | exact Below.refl _ _ | refine Below.drew ?_ | refine below_drewN ?_ _ | refine Below.setCell ?_ (by first | assumption | omega | (simp; done) | (simp; omega) | (simp at *; omega)) _ | refine Below.alloc ?_ (by first | assumption | omega | (simp; done) | (simp; omega) | (simp at *; omega)) _ | refine Below.trans ?_ (Below.mono Below.refl _ _ (by first | assumption | omega | (simp; done) | (simp; omega) | (simp at *; omega))))
  have hn2 : Blk ((w1.alloc (.cells #[.int .i64 (-1), .int .i64 (-1)] 36)).alloc (.cells #[.int .i64 (-1), .int .i64 (-1)] 36)) w1.heap.size 36 #[.int .i64 (-1), .int .i64 (-1)] := (Blk.new _ _ _).alloc _
  have ho2 : Blk ((w1.alloc (.cells #[.int .i64 (-1), .int .i64 (-1)] 36)).alloc (.cells #[.int .i64 (-1), .int .i64 (-1)] 36)) (w1.heap.size + 1) 36 #[.int .i64 (-1), .int .i64 (-1)] := by
    have := Blk.new (w1.alloc (.cells #[.int .i64 (-1), .int .i64 (-1)] 36)) 36 #[.int .i64 (-1), .int .i64 (-1)]
    rwa [World.size_alloc] at this
  generalize (w1.alloc (.cells #[.int .i64 (-1), .int .i64 (-1)] 36)).alloc (.cells #[.int .i64 (-1), .int .i64 (-1)] 36) = w2 at hb2 hbb hn2 ho2 ⊢
  have HD2 := Lib.hid (HD.out.later hbb)
  have HH2 := Lib.hid (HH.out.later hbb)
  have HE2 := Lib.hid (HE.out.later hbb)
  have HO2 := Lib.hid ho2
  have HN2 := Lib.hid hn2
  have hc2 := (HH.out.later hbb).cell 2
  simp only [List.getElem?_toArray, List.getElem?_cons_zero, List.getElem?_cons_succ] at hc2
  clear c2 hbb
  go_wp2
  refine wp_loop (fun a' W => ∃ (k : Nat) (Ds : List Nat) (u8 u25 u26 u27 u28 u29 u34 : Value), a' = { tmps := #[.agg #[.int .i64 h.months, .int .i64 h.peak, .slice A h.ws.length c], .pointer (some ⟨w.heap.size, 0, none⟩), .pointer (some ⟨w.heap.size + 1, 0, none⟩), .int .i64 0, .pointer (some ⟨g, 0, none⟩), .int .i64 0, .pointer (some ⟨w1.heap.size, 0, none⟩), .pointer (some ⟨w1.heap.size + 1, 0, none⟩), u8, undef,
      .tuple #[.pointer (some ⟨g, 0, none⟩), .int .i64 0], .agg #[.int .i64 h.months, .int .i64 h.peak, .slice A h.ws.length c], .tuple #[.pointer (some ⟨g, 0, none⟩), .int .i64 0], .pointer (some ⟨g, 0, none⟩), .int .i64 0, .int .i64 0, .bool false, undef, undef, .agg #[.int .i64 (-1), .int .i64 (-1)], .agg #[.int .i64 (-1), .int .i64 (-1)],
      .pointer (some ⟨w.heap.size, 2, none⟩), .slice A h.ws.length c, .int .i64 h.ws.length, .int .i64 k, u25, u26, u27, u28, u29, undef, undef, undef, undef, u34, undef, undef, undef, undef, undef], defers := Ds.map mark } ∧
    k ≤ h.ws.length ∧ Below w2.heap.size w2 W ∧ Marks Ds w2.heap.size W ∧ Aside (∀ i, i < k → ∀ j, j < h.ws.length → h.clashM i j = false)) (fun a' _ => h.ws.length - (intOf (a'.tmps.getD 24 undef)).toNat) ?_ ?_
  · exact ⟨0, [], _, _, _, _, _, _, _, rfl, Nat.zero_le _, Below.refl _ _, Marks.nil _ _, fun i hi => absurd hi (Nat.not_lt_zero _)⟩
  · rintro a' wr ⟨k, Ds, u8, u25, u26, u27, u28, u29, u34, rfl, hk, hB, hMk, HN⟩
    by_cases hlt : k < h.ws.length
    · go_wp2_with fail
      refine (below_any g k _).mono ?_
      rintro e w' ⟨rfl, rfl⟩
      go_wp2
      have hbw : Below wr.heap.size wr (((wr.alloc (.cells #[.int .i64 (k : Int)] 3)).alloc (.cells #[.pointer (some ⟨g, 0, none⟩)] 96)).alloc (.cells #[.int .i64 (k : Int)] 3)) := by repeat (first | exact Below.refl _ _ | exact Below.refl _ _ | refine Below.drew ?_ | refine below_drewN ?_ _ | refine Below.setCell ?_ (by first | assumption | omega | (simp; done) | (simp; omega) | (simp at *; omega)) _ | refine Below.alloc ?_ (by first | assumption | omega | (simp; done) | (simp; omega) | (simp at *; omega)) _ | refine Below.trans ?_ (Below.mono Below.refl _ _ (by first | assumption | omega | (simp; done) | (simp; omega) | (simp at *; omega))))
      have ba : Blk (((wr.alloc (.cells #[.int .i64 (k : Int)] 3)).alloc (.cells #[.pointer (some ⟨g, 0, none⟩)] 96)).alloc (.cells #[.int .i64 (k : Int)] 3)) wr.heap.size 3 #[.int .i64 (k : Int)] := ((Blk.new _ _ _).alloc _).alloc _
      have bp : Blk (((wr.alloc (.cells #[.int .i64 (k : Int)] 3)).alloc (.cells #[.pointer (some ⟨g, 0, none⟩)] 96)).alloc (.cells #[.int .i64 (k : Int)] 3)) (wr.heap.size + 1) 96 #[.pointer (some ⟨g, 0, none⟩)] := by
        have := Blk.new (wr.alloc (.cells #[.int .i64 (k : Int)] 3)) 96 #[.pointer (some ⟨g, 0, none⟩)]
        rw [World.size_alloc] at this
        exact this.alloc _
      have bq : Blk (((wr.alloc (.cells #[.int .i64 (k : Int)] 3)).alloc (.cells #[.pointer (some ⟨g, 0, none⟩)] 96)).alloc (.cells #[.int .i64 (k : Int)] 3)) (wr.heap.size + 1 + 1) 3 #[.int .i64 (k : Int)] := by
        have := Blk.new ((wr.alloc (.cells #[.int .i64 (k : Int)] 3)).alloc (.cells #[.pointer (some ⟨g, 0, none⟩)] 96)) 3 #[.int .i64 (k : Int)]
        rw [World.size_alloc, World.size_alloc] at this
        exact this
      generalize hW1 : ((wr.alloc (.cells #[.int .i64 (k : Int)] 3)).alloc (.cells #[.pointer (some ⟨g, 0, none⟩)] 96)).alloc (.cells #[.int .i64 (k : Int)] 3) = W1 at hbw ba bp bq ⊢
      clear hW1
      have hg1 := (HD2.out.later hB).later hbw
      have hmk1 := hMk.later hbw
      have hB1 : Below w2.heap.size w2 W1 := hB.trans (hbw.mono hB.size)
      have hstops := below_stops (2 - 1) (wr.heap.size + 1) (wr.heap.size + 1 + 1) g h.ws.length c k A _ _ h.clashM W1 bp bq hg1 hlen (by omega)
      have HS := Lib.hid hstops
      have hpl := bp.lt
      have hql := bq.lt
      have hgl1 := hg1.lt
      have hol : w1.heap.size + 1 < w2.heap.size := HO2.out.lt
      have hBz := hB1.size
      clear hstops hMk hB hbw bp bq hg1
      refine (wpIn_wide (n := 2)).1 ?_
      refine wpIn_rangeFunc_ownG rfl (by omega) (gf := 85) rfl trivial (enters_of Try.func85 (by kernel_rfl) rfl) HS.out
        (fun h h' => h.t h') (fun W l o o' hl ho hc hw => KeepB.b (N := W1.heap.size) (by intro b hb; simp at hb; omega) W l o o' hl ho hc hw) (Below.refl _ _) (fun _ => rfl)
        (fun pre W => W1.grownBy W none ∧ pre.length = 0)
        (fun cd pre W => (W1.grownBy W (some (w1.heap.size + 1)) ∧ W.heap[w1.heap.size + 1]? = some (.cells #[.int .i64 k, .int .i64 ((pre.head?.map (·.1)).getD 0 : Nat)] 36 (0, 0))) ∧ (cd = .exit 0 ∧ pre.length = 1))
        (ownFrom_grown.and (ownFrom_pure _ _)) (fun cd => (ownFrom_grown.and ownFrom_blk).and (ownFrom_pure _ _)) ⟨World.grownBy.refl _ _, rfl⟩ ?a1 ?assign ?body ?done ?stop
      case assign =>
        intro l x W K hK
        gi_wp2
        exact hK
      case body =>
        rintro l pre ⟨x, hx⟩ W ⟨hgr, hpre⟩ _
        obtain rfl := List.eq_nil_of_length_eq_zero hpre
        have hbe := below_grown hgr
        have haW := ba.later hbe
        have hoW := (HO2.out.later hB1).later hbe
        have c8 := haW.cell 0
        have o0 := hoW.cell 0
        have o1 := hoW.cell 1
        simp only [List.getElem?_toArray, List.getElem?_cons_zero, List.getElem?_cons_succ] at c8 o0 o1
        have f0 := hoW.frozen 0
        have f1 := hoW.frozen 1
        have HOW := Lib.hid hoW
        have HGR := Lib.hid hgr
        clear haW hbe hoW hgr hpre
        gi_wp2
        refine ⟨((KeepsOthers.setCell _ _ _).trans (KeepsOthers.setCell _ _ _)).from _, ⟨grown_set (grown_set (grown_below (below_grown HGR.out)) _) _, ?_⟩, rfl, rfl⟩
        have := (HOW.out.set_ 0 (.int .i64 (k : Int))).set_ 1 (.int .i64 (x : Int))
        exact this
      case done =>
        rintro D xs W hD rfl ⟨hgr, hpre⟩ hK
        have hbe := below_grown hgr
        have hmk2 : Marks (D :: Ds) w2.heap.size W := hmk1.cons (fun D' hm => hbe.block D' (hmk1.lt hm)) hD hB1.size hK
        go_wp2
        refine ⟨⟨k + 1, D :: Ds, _, _, _, _, _, _, _, rfl, by omega, hB1.trans (hbe.mono hB1.size), hmk2, ?_⟩, by simp [intOf]; omega⟩
        show ∀ i, i < k + 1 → ∀ j, j < h.ws.length → h.clashM i j = false
        intro i hi j hj
        by_cases hik : i = k
        · subst hik
          cases hm : h.clashM i j
          · rfl
          · have := bel_mem h.clashM h.ws.length i ⟨j, hj, hm⟩
            rw [List.eq_nil_of_length_eq_zero hpre] at this
            cases this
        · exact HN.out i (by omega) j hj
      case stop =>
        rintro D cd pre W hD hSp ⟨⟨hgr, hbl⟩, rfl, hlen1⟩ hK
        obtain ⟨b, hb, hbM, hbf, hpre⟩ := first_bel hSp hlen1
        rw [hpre] at hbl
        have hob : Blk W (w1.heap.size + 1) 36 #[.int .i64 k, .int .i64 b] := hbl
        have hodm : w1.heap.size + 1 ∉ Ds := fun hm => by have := hmk1.ge _ hm; omega
        have hmk2 : Marks (D :: Ds) w2.heap.size W := hmk1.cons (fun D' hm => hgr.block D' (hmk1.lt hm) (fun e => by cases e; exact hodm hm)) hD hB1.size hK
        have hnb : Blk W w1.heap.size 36 #[.int .i64 (-1), .int .i64 (-1)] := (hgr.block _ (HN2.out.later hB1).lt (by simp)).trans (HN2.out.later hB1)
        have hrb : Blk W (w.heap.size + 1) 36 #[.int .i64 0, .int .i64 0] := (hgr.block _ (HE2.out.later hB1).lt (by simp; omega)).trans (HE2.out.later hB1)
        have o0 := hob.cell 0
        have o1 := hob.cell 1
        have n0 := hnb.cell 0
        have n1 := hnb.cell 1
        have r0 := hrb.cell 0
        have r1 := hrb.cell 1
        have q0 := hrb.frozen 0
        have q1 := hrb.frozen 1
        simp only [List.getElem?_toArray, List.getElem?_cons_zero, List.getElem?_cons_succ] at o0 o1 n0 n1 r0 r1
        have HRB := Lib.hid hrb
        have HGR := Lib.hid hgr
        have HM2 := Lib.hid hmk2
        clear hob hnb hrb hmk2 hK hgr hbl
        refine wpIn_wide.2 ?_
        go_wp2
        rw [Exit.noGoto_ret]
        have hmk3 : Marks (D :: Ds) w2.heap.size ((W.setCell ⟨w.heap.size + 1, 0, none⟩ (.int .i64 (k : Int))).setCell ⟨w.heap.size + 1, 1, none⟩ (.int .i64 (b : Int))) :=
          ⟨HM2.out.nodup, HM2.out.ge, fun D' hm => by
            have hne : D' ≠ w.heap.size + 1 := by have := HM2.out.ge _ hm; omega
            exact ((Below.heap_setCell _ ⟨w.heap.size + 1, 1, none⟩ _ D' hne).trans (Below.heap_setCell W ⟨w.heap.size + 1, 0, none⟩ _ D' hne)).trans (HM2.out.open_ D' hm)⟩
        refine hmk3.leaves fun w' hw' => ?_
        have hrn : w.heap.size + 1 ∉ D :: Ds := fun hm => by have := HM2.out.ge _ hm; omega
        have hrw : Blk w' (w.heap.size + 1) 36 #[.int .i64 k, .int .i64 b] := (hw'.block _ hrn).trans ((HRB.out.set_ 0 (.int .i64 (k : Int))).set_ 1 (.int .i64 (b : Int)))
        have h0 := hrw.cell 0
        have h1 := hrw.cell 1
        simp only [List.getElem?_toArray, List.getElem?_cons_zero, List.getElem?_cons_succ] at h0 h1
        refine ⟨.tuple #[.agg #[.int .i64 k, .int .i64 b], .int .i64 0], by simp [results, Try.results14, go_sem, h0, h1], .inl ⟨k, b, hlt, hb, hbM, HN.out, hbf, rfl⟩, hw'.below ?_ (fun D' hm => by have := HM2.out.ge _ hm; have := hb2.size; omega)⟩
        refine ((Below.grown_row (hb2.trans (hB1.mono hb2.size)) HGR.out (by omega)).setCell (p := ⟨w.heap.size + 1, 0, none⟩) (by simp) _).setCell (p := ⟨w.heap.size + 1, 1, none⟩) (by simp) _
    · obtain rfl : k = h.ws.length := by omega
      have hol : w1.heap.size + 1 < w2.heap.size := HO2.out.lt
      have hob := HO2.out.later hB
      have hnb := HN2.out.later hB
      have hrb := HE2.out.later hB
      have o0 := hob.cell 0
      have o1 := hob.cell 1
      have n0 := hnb.cell 0
      have n1 := hnb.cell 1
      have r0 := hrb.cell 0
      have r1 := hrb.cell 1
      have q0 := hrb.frozen 0
      have q1 := hrb.frozen 1
      simp only [List.getElem?_toArray, List.getElem?_cons_zero, List.getElem?_cons_succ] at o0 o1 n0 n1 r0 r1
      have HRB := Lib.hid hrb
      have HM2 := Lib.hid hMk
      clear hob hnb hrb hMk
      go_wp2
      rw [Exit.noGoto_ret]
      have hmk3 : Marks Ds w2.heap.size ((wr.setCell ⟨w.heap.size + 1, 0, none⟩ (.int .i64 0)).setCell ⟨w.heap.size + 1, 1, none⟩ (.int .i64 0)) :=
        ⟨HM2.out.nodup, HM2.out.ge, fun D' hm => by
          have hne : D' ≠ w.heap.size + 1 := by have := HM2.out.ge _ hm; omega
          exact ((Below.heap_setCell _ ⟨w.heap.size + 1, 1, none⟩ _ D' hne).trans (Below.heap_setCell wr ⟨w.heap.size + 1, 0, none⟩ _ D' hne)).trans (HM2.out.open_ D' hm)⟩
      refine hmk3.leaves fun w' hw' => ?_
      have hrn : w.heap.size + 1 ∉ Ds := fun hm => by have := HM2.out.ge _ hm; omega
      have hrw : Blk w' (w.heap.size + 1) 36 #[.int .i64 0, .int .i64 0] := (hw'.block _ hrn).trans ((HRB.out.set_ 0 (.int .i64 0)).set_ 1 (.int .i64 0))
      have h0 := hrw.cell 0
      have h1 := hrw.cell 1
      simp only [List.getElem?_toArray, List.getElem?_cons_zero, List.getElem?_cons_succ] at h0 h1
      refine ⟨.tuple #[.agg #[.int .i64 0, .int .i64 0], .int .i64 6], by simp [results, Try.results14, go_sem, h0, h1], .inr ⟨HN.out, rfl⟩, hw'.below ?_ (fun D' hm => by have := HM2.out.ge _ hm; have := hb2.size; omega)⟩
      refine ((hb2.trans (hB.mono hb2.size)).setCell (p := ⟨w.heap.size + 1, 0, none⟩) (by simp) _).setCell (p := ⟨w.heap.size + 1, 1, none⟩) (by simp) _
end Go.Proofs.Ytjihnnbpfdhceaa
