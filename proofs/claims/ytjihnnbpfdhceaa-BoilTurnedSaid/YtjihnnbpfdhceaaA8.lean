/- boil.desk.clashes. Conditions: none beyond those that each theorem names. -/
import Derived.Test.YtjihnnbpfdhceaaA7
set_option linter.unusedSimpArgs false
set_option linter.unusedVariables false
namespace Go.Proofs.Ytjihnnbpfdhceaa
open Go.RowKit Go.Shelf
attribute [local go_sem] Oper.semAt_some

/-- Do some weighings clash that are not gone? -/
def hitB (M : Nat → Nat → Bool) (gone : Nat → Bool) (i j : Nat) : Bool := M i j && (!gone i && !gone j)
def clashesB (M : Nat → Nat → Bool) (len : Nat) (gone : Nat → Bool) : Bool := (List.range len).any fun i => (List.range len).any fun j => hitB M gone i j

set_option maxRecDepth 100000 in
set_option maxHeartbeats 1000000 in
theorem clashes_any (g len c : Nat) (A : Option Addr) (x0 x1 : Value) (M : Nat → Nat → Bool) (gone : Nat → Bool) (w : World) (hg : Blk w g 134 (deskCells x0 x1 (.slice A len c) M)) (hlen : len ≤ 14) :
    Calls Try.prog 90 #[.pointer (some ⟨g, 0, none⟩), .agg (row14 gone)] w fun e w' => e = .returned (.bool (clashesB M len gone)) ∧ Below w.heap.size w w' := by
  have HG := Lib.hid hg
  have cg0 := (hg.cell 0).trans (deskCells_0 _ _ _ _)
  have cg2 := (hg.cell 2).trans (deskCells_2 _ _ _ _)
  have hgl := hg.lt
  clear hg
  refine (callsIn_wide (n := 2)).1 ?_
  refine callsIn_of_wp_marks Try.func90 rfl trivial ?_ rfl
  simp only [Try.ntmps90, List.size_toArray, List.length_cons, List.length_nil, Nat.reduceAdd, Nat.reduceSub, Array.replicate_succ, Array.replicate_zero, List.push_toArray, List.append_toArray, List.nil_append, List.cons_append]
  refine wpIn_wide.2 ?_
  go_wp2
  have hI0 : ∃ W0 : World, W0 = (w.alloc (.cells (row14 gone) 121)).alloc (.cells #[.bool false] 4) := ⟨_, rfl⟩
  obtain ⟨W0, hW0⟩ := hI0
  have hb0 : Below w.heap.size w W0 := by rw [hW0]; repeat (first | exact Below.refl _ _ | exact Below.refl _ _ | refine Below.drew ?_ | refine below_drewN ?_ _ | refine Below.setCell ?_ (by first | assumption | omega | (simp; done) | (simp; omega) | (simp at *; omega)) _ | refine Below.alloc ?_ (by first | assumption | omega | (simp; done) | (simp; omega) | (simp at *; omega)) _ | refine Below.trans ?_ (Below.mono Below.refl _ _ (by first | assumption | omega | (simp; done) | (simp; omega) | (simp at *; omega))))
  have hgo : Blk W0 w.heap.size 121 (row14 gone) := by rw [hW0]; exact (Blk.new _ _ _).alloc _
  have hre : Blk W0 (w.heap.size + 1) 4 #[.bool false] := by rw [hW0]; have := Blk.new (w.alloc (.cells (row14 gone) 121)) 4 #[.bool false]; rwa [World.size_alloc] at this
  rw [← hW0]
  clear hW0 cg0 cg2
  refine wp_loop (fun a' W => ∃ (k : Nat) (Ds : List Nat) (u5 u14 u15 u16 u17 u18 u30 : Value), a' = { tmps := #[.pointer (some ⟨g, 0, none⟩), .agg (row14 gone), undef, .pointer (some ⟨w.heap.size, 0, none⟩), .pointer (some ⟨w.heap.size + 1, 0, none⟩), u5, undef, .pointer (some ⟨g, 0, none⟩), .pointer (some ⟨g, 0, none⟩), .pointer (some ⟨g, 0, none⟩), .pointer (some ⟨g, 2, none⟩), .slice A len c, .int .i64 len, .int .i64 k, u14, u15, u16, u17, u18, undef, undef, undef, undef, undef, undef, undef, undef, undef, undef, undef, u30], defers := Ds.map mark } ∧
    k ≤ len ∧ Below w.heap.size w W ∧ Blk W w.heap.size 121 (row14 gone) ∧ Blk W (w.heap.size + 1) 4 #[.bool false] ∧ Marks Ds w.heap.size W ∧ Aside (∀ i, i < k → ∀ j, j < len → hitB M gone i j = false)) (fun a' _ => len - (intOf (a'.tmps.getD 13 undef)).toNat) ?_ ?_
  · exact ⟨0, [], _, _, _, _, _, _, _, rfl, Nat.zero_le _, hb0, hgo, hre, Marks.nil _ _, fun i hi => absurd hi (Nat.not_lt_zero _)⟩
  · clear hb0 hgo hre
    rintro a' wr ⟨k, Ds, u5, u14, u15, u16, u17, u18, u30, rfl, hk, hB, hGo, hRe, hMk, HN⟩
    by_cases hlt : k < len
    · go_wp2_with fail
      refine (below_any g k _).mono ?_
      rintro e w' ⟨rfl, rfl⟩
      go_wp2
      have hbw : Below wr.heap.size wr (((wr.alloc (.cells #[.int .i64 (k : Int)] 3)).alloc (.cells #[.pointer (some ⟨g, 0, none⟩)] 96)).alloc (.cells #[.int .i64 (k : Int)] 3)) := by repeat (first | exact Below.refl _ _ | exact Below.refl _ _ | refine Below.drew ?_ | refine below_drewN ?_ _ | refine Below.setCell ?_ (by first | assumption | omega | (simp; done) | (simp; omega) | (simp at *; omega)) _ | refine Below.alloc ?_ (by first | assumption | omega | (simp; done) | (simp; omega) | (simp at *; omega)) _ | refine Below.trans ?_ (Below.mono Below.refl _ _ (by first | assumption | omega | (simp; done) | (simp; omega) | (simp at *; omega))))
      have ba : Blk (((wr.alloc (.cells #[.int .i64 (k : Int)] 3)).alloc (.cells #[.pointer (some ⟨g, 0, none⟩)] 96)).alloc (.cells #[.int .i64 (k : Int)] 3)) wr.heap.size 3 #[.int .i64 (k : Int)] := ((Blk.new _ _ _).alloc _).alloc _
      have bp : Blk (((wr.alloc (.cells #[.int .i64 (k : Int)] 3)).alloc (.cells #[.pointer (some ⟨g, 0, none⟩)] 96)).alloc (.cells #[.int .i64 (k : Int)] 3)) (wr.heap.size + 1) 96 #[.pointer (some ⟨g, 0, none⟩)] := by
        have := Blk.new (wr.alloc (.cells #[.int .i64 (k : Int)] 3)) 96 #[.pointer (some ⟨g, 0, none⟩)]
        rw [World.size_alloc] at this
        exact this.alloc _
      have bq : Blk (((wr.alloc (.cells #[.int .i64 (k : Int)] 3)).alloc (.cells #[.pointer (some ⟨g, 0, none⟩)] 96)).alloc (.cells #[.int .i64 (k : Int)] 3)) (wr.heap.size + 1 + 1) 3 #[.int .i64 (k : Int)] := by
        have := Blk.new ((wr.alloc (.cells #[.int .i64 (k : Int)] 3)).alloc (.cells #[.pointer (some ⟨g, 0, none⟩)] 96)) 3 #[.int .i64 (k : Int)]
        rw [World.size_alloc, World.size_alloc] at this
        exact this
      generalize hW1 : ((wr.alloc (.cells #[.int .i64 (k : Int)] 3)).alloc (.cells #[.pointer (some ⟨g, 0, none⟩)] 96)).alloc (.cells #[.int .i64 (k : Int)] 3) = W1 at hbw ba bp bq ⊢
      clear hW1
      have hg1 := (HG.out.later hB).later hbw
      have hgo1 := hGo.later hbw
      have hre1 := hRe.later hbw
      have hmk1 := hMk.later hbw
      have hB1 : Below w.heap.size w W1 := hB.trans (hbw.mono hB.size)
      have hstops := below_stops (2 - 1) (wr.heap.size + 1) (wr.heap.size + 1 + 1) g len c k A x0 x1 M W1 bp bq hg1 hlen (by omega)
      have HS := Lib.hid hstops
      have hpl := bp.lt
      have hql := bq.lt
      have hgl1 := hg1.lt
      clear hstops hGo hRe hMk hB hbw bp bq hg1
      refine (wpIn_wide (n := 2)).1 ?_
      refine wpIn_rangeFunc_ownG rfl (by omega) (gf := 85) rfl trivial (enters_of Try.func85 (by kernel_rfl) rfl) HS.out
        (fun h h' => h.t h') (fun W l o o' hl ho hc hw => KeepB.b (N := W1.heap.size) (by intro b hb; simp at hb; omega) W l o o' hl ho hc hw) (Below.refl _ _) (fun _ => rfl)
        (fun pre W => W1.grownBy W none ∧ (∀ b ∈ pre, hitB M gone k b.1 = false))
        (fun cd pre W => (W1.grownBy W (some (w.heap.size + 1)) ∧ W.heap[w.heap.size + 1]? = some (.cells #[.bool true] 4 (0, 0))) ∧ (cd = .ret ∧ ∃ b ∈ pre, hitB M gone k b.1 = true))
        (ownFrom_grown.and (ownFrom_pure _ _)) (fun cd => (ownFrom_grown.and ownFrom_blk).and (ownFrom_pure _ _)) ⟨World.grownBy.refl _ _, fun b hb => by simp at hb⟩ ?a1 ?assign ?body ?done ?stop
      case assign =>
        intro l x W K hK
        gi_wp2
        exact hK
      case body =>
        rintro l pre x W ⟨hgr, hpre⟩ _
        obtain ⟨x, hx⟩ := x
        have hbe := below_grown hgr
        have haW := ba.later hbe
        have hgW := hgo1.later hbe
        have hrW := hre1.later hbe
        have c5 := haW.cell 0
        have cr := hrW.cell 0
        simp only [List.getElem?_toArray, List.getElem?_cons_zero] at c5 cr
        have crf := hrW.frozen 0
        have ck := (hgW.cell k).trans (row14_at _ _ (by omega))
        have cx := (hgW.cell x).trans (row14_at _ _ (by omega))
        have hx14 : (x : Int) < 14 := by omega
        have hk14 : (k : Int) < 14 := by omega
        have HP := Lib.hid hpre
        clear haW hgW hrW hbe hpre
        cases hgk : gone k
        · cases hgx : gone x
          · rw [hgk] at ck
            rw [hgx] at cx
            have HC := Lib.hid (show hitB M gone k x = true by simp [hitB, hgk, hgx, hx.2])
            clear hgk hgx
            gi_wp2
            refine ⟨(KeepsOthers.setCell _ _ _).from _, ⟨grown_set (grown_below (below_grown hgr)) _, ?_⟩, rfl, ⟨x, hx⟩, List.mem_append.2 (.inr (List.mem_singleton.2 rfl)), HC.out⟩
            have := (hre1.later (below_grown hgr)).set_ 0 (.bool true)
            exact this
          · rw [hgk] at ck
            rw [hgx] at cx
            have HC := Lib.hid (show hitB M gone k x = false by simp [hitB, hgx])
            clear hgk hgx
            gi_wp2
            refine ⟨(KeepsOthers.refl _).from _, fun _ _ => rfl, hgr, fun b hb => ?_⟩
            rcases List.mem_append.1 hb with hb | hb
            · exact HP.out b hb
            · rw [List.mem_singleton.1 hb]; exact HC.out
        · rw [hgk] at ck
          have HC := Lib.hid (show hitB M gone k x = false by simp [hitB, hgk])
          clear hgk
          gi_wp2
          refine ⟨(KeepsOthers.refl _).from _, fun _ _ => rfl, hgr, fun b hb => ?_⟩
          rcases List.mem_append.1 hb with hb | hb
          · exact HP.out b hb
          · rw [List.mem_singleton.1 hb]; exact HC.out
      case done =>
        rintro D xs W hD rfl ⟨hgr, hpre⟩ hK
        have hbe := below_grown hgr
        have hmk2 : Marks (D :: Ds) w.heap.size W := hmk1.cons (fun D' hm => hbe.block D' (hmk1.lt hm)) hD hB1.size hK
        go_wp2
        refine ⟨⟨k + 1, D :: Ds, _, _, _, _, _, _, _, rfl, by omega, hB1.trans (hbe.mono hB1.size), hgo1.later hbe, hre1.later hbe, hmk2, ?_⟩, by simp [intOf]; omega⟩
        show ∀ i, i < k + 1 → ∀ j, j < len → hitB M gone i j = false
        intro i hi j hj
        by_cases hik : i = k
        · subst hik
          cases hm : M i j
          · simp [hitB, hm]
          · exact hpre _ (bel_mem M len i ⟨j, hj, hm⟩)
        · exact HN.out i (by omega) j hj
      case stop =>
        rintro D cd pre W hD hSp ⟨⟨hgr, hbl⟩, rfl, b, hb, hex⟩ hK
        have hrne : w.heap.size + 1 ∉ Ds := fun hm => by
          have h1 := hmk1.open_ _ hm
          rw [show W1.heap[w.heap.size + 1]? = _ from hre1] at h1
          cases h1
        have hmk2 : Marks (D :: Ds) w.heap.size W := hmk1.cons (fun D' hm => hgr.block D' (hmk1.lt hm) (fun e => by cases e; exact hrne hm)) hD hB1.size hK
        refine wpIn_wide.2 ?_
        go_wp2
        refine hmk2.leaves fun w' hw' => ?_
        have hrw : Blk w' (w.heap.size + 1) 4 #[.bool true] := (hw'.block _ (fun hm => by have h1 := hmk2.open_ _ hm; rw [hbl] at h1; cases h1)).trans hbl
        have hrc := hrw.cell 0
        simp only [List.getElem?_toArray, List.getElem?_cons_zero] at hrc
        refine ⟨.bool true, by simp [results, Try.results90, go_sem, hrc], ?_, hw'.below (Below.grown_row hB1 hgr (by omega)) hmk2.ge⟩
        apply ret_bool
        symm
        unfold clashesB
        rw [List.any_eq_true]
        refine ⟨k, List.mem_range.2 hlt, ?_⟩
        rw [List.any_eq_true]
        exact ⟨b.1, List.mem_range.2 b.2.1, hex⟩
    · obtain rfl : k = len := by omega
      have cr := hRe.cell 0
      have crf := hRe.frozen 0
      simp only [List.getElem?_toArray, List.getElem?_cons_zero] at cr
      go_wp2
      have hrne : w.heap.size + 1 ∉ Ds := fun hm => by
        have h1 := hMk.open_ _ hm
        rw [show wr.heap[w.heap.size + 1]? = _ from hRe] at h1
        cases h1
      have hs := hRe.set_ 0 (.bool false)
      have hmk2 : Marks Ds w.heap.size (wr.setCell ⟨w.heap.size + 1, 0, none⟩ (.bool false)) :=
        ⟨hMk.nodup, hMk.ge, fun D hm => (Below.heap_setCell wr ⟨w.heap.size + 1, 0, none⟩ _ D (fun e => hrne (by have e : D = w.heap.size + 1 := e; rw [← e]; exact hm))).trans (hMk.open_ D hm)⟩
      refine hmk2.leaves fun w' hw' => ?_
      have hrw : Blk w' (w.heap.size + 1) 4 #[.bool false] := (hw'.block _ hrne).trans hs
      have hrc := hrw.cell 0
      simp only [List.getElem?_toArray, List.getElem?_cons_zero] at hrc
      refine ⟨.bool false, by simp [results, Try.results90, go_sem, hrc], ?_, hw'.below (hB.setCell (p := ⟨w.heap.size + 1, 0, none⟩) (by simp) _) hmk2.ge⟩
      apply ret_bool
      symm
      unfold clashesB
      rw [List.any_eq_false]
      intro i hi
      rw [Bool.not_eq_true, List.any_eq_false]
      intro j hj
      rw [Bool.not_eq_true]
      exact HN.out i (List.mem_range.1 hi) j (List.mem_range.1 hj)
end Go.Proofs.Ytjihnnbpfdhceaa
