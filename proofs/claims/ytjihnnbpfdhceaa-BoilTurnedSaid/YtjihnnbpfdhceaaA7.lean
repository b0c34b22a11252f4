/- boil.desk.below: the iterator over the weighings that clash with one. Conditions: none beyond those that each theorem names. -/
import Derived.Test.YtjihnnbpfdhceaaA6
import Derived.Test.YtjihnnbpfdhceaaR2
import Derived.Test.YtjihnnbpfdhceaaP1
set_option linter.unusedSimpArgs false
set_option linter.unusedVariables false
namespace Go.Proofs.Ytjihnnbpfdhceaa
open Go.RowKit Go.Shelf
attribute [local go_sem] Oper.semAt_some

theorem below_any (g : Nat) (a : Int) (w : World) :
    Calls Try.prog 49 #[.pointer (some ⟨g, 0, none⟩), .int .i64 a] w fun e w' => e = .returned (.func (.func 85) #[] #[.pointer (some ⟨w.heap.size, 0, none⟩), .pointer (some ⟨w.heap.size + 1, 0, none⟩)]) ∧
      (w.alloc (.cells #[.pointer (some ⟨g, 0, none⟩)] 96)).alloc (.cells #[.int .i64 a] 3) = w' := by
  go_enter Try.func49, Try.ntmps49
  go_wp2
  go_ret
  exact ⟨rfl, rfl⟩

def row14I (r : Nat → Int) : Array Value := Array.ofFn (n := 14) fun i => .int .i64 (r i.val)
theorem row14I_at (r : Nat → Int) (i : Nat) (hi : i < 14) : (row14I r)[i]? = some (.int .i64 (r i)) := by
  unfold row14I; rw [Array.getElem?_ofFn, dif_pos hi]
theorem row14I_congr {r s : Nat → Int} (h : ∀ i, i < 14 → r i = s i) : row14I r = row14I s := by
  unfold row14I
  congr 1
  funext i
  rw [h i.val i.isLt]
theorem row14_congr {r s : Nat → Bool} (h : ∀ i, i < 14 → r i = s i) : row14 r = row14 s := by
  unfold row14
  congr 1
  funext i
  rw [h i.val i.isLt]
theorem row14_set (r : Nat → Bool) (i : Nat) (v : Bool) : (row14 r).setIfInBounds i (.bool v) = row14 (updB r i v) := by
  apply Array.ext_getElem?
  intro k
  rw [Array.getElem?_setIfInBounds]
  by_cases hk : k < 14
  · rw [row14_at _ _ hk, row14_at _ _ hk]
    by_cases h : i = k
    · subst h; simp [updB, row14, hk]
    · rw [if_neg h]; simp [updB, Ne.symm h]
  · rw [Array.getElem?_eq_none (by simp [row14]; omega), Array.getElem?_eq_none (by simp [row14]; omega)]
    split
    · rename_i h; rw [if_neg (by simp [row14]; omega)]
    · rfl
theorem row14I_set (r : Nat → Int) (i : Nat) (v : Int) : (row14I r).setIfInBounds i (.int .i64 v) = row14I (updI r i v) := by
  apply Array.ext_getElem?
  intro k
  rw [Array.getElem?_setIfInBounds]
  by_cases hk : k < 14
  · rw [row14I_at _ _ hk, row14I_at _ _ hk]
    by_cases h : i = k
    · subst h; simp [updI, row14I, hk]
    · rw [if_neg h]; simp [updI, Ne.symm h]
  · rw [Array.getElem?_eq_none (by simp [row14I]; omega), Array.getElem?_eq_none (by simp [row14I]; omega)]
    split
    · rename_i h; rw [if_neg (by simp [row14I]; omega)]
    · rfl

/-- The weighings that a clashes with. -/
def Bel (M : Nat → Nat → Bool) (len a : Nat) : Type := { b : Nat // b < len ∧ M a b = true }
def belTo (M : Nat → Nat → Bool) (len a : Nat) (k : Nat) : List (Bel M len a) := (List.range k).filterMap fun b => if h : b < len ∧ M a b = true then some ⟨b, h⟩ else none
def belL (M : Nat → Nat → Bool) (len a : Nat) : List (Bel M len a) := belTo M len a len
theorem belTo_yes (M : Nat → Nat → Bool) (len a k : Nat) (h : k < len ∧ M a k = true) : belTo M len a (k + 1) = belTo M len a k ++ [⟨k, h⟩] := by
  unfold belTo
  rw [List.range_succ, List.filterMap_append, List.filterMap_cons, List.filterMap_nil, dif_pos h]
theorem belTo_no (M : Nat → Nat → Bool) (len a k : Nat) (h : ¬ (k < len ∧ M a k = true)) : belTo M len a (k + 1) = belTo M len a k := by
  unfold belTo
  rw [List.range_succ, List.filterMap_append, List.filterMap_cons, List.filterMap_nil, dif_neg h, List.append_nil]
theorem belTo_pre (M : Nat → Nat → Bool) (len a k d : Nat) : belTo M len a k <+: belTo M len a (k + d) := by
  induction d with
  | zero => exact List.prefix_refl _
  | succ d ih =>
    by_cases h : k + d < len ∧ M a (k + d) = true
    · rw [show k + (d + 1) = (k + d) + 1 from rfl, belTo_yes _ _ _ _ h]
      exact ih.trans (List.prefix_append _ _)
    · rw [show k + (d + 1) = (k + d) + 1 from rfl, belTo_no _ _ _ _ h]
      exact ih
theorem belTo_belL (M : Nat → Nat → Bool) (len a k : Nat) (hk : k ≤ len) : belTo M len a k <+: belL M len a := by
  obtain ⟨d, rfl⟩ : ∃ d, len = k + d := ⟨len - k, by omega⟩
  exact belTo_pre _ _ _ _ _
theorem belTo_lt (M : Nat → Nat → Bool) (len a k : Nat) (h : k < len ∧ M a k = true) : (belTo M len a k).length < (belL M len a).length := by
  have h1 := (belTo_belL M len a (k + 1) (by omega)).length_le
  rw [belTo_yes _ _ _ _ h, List.length_append] at h1
  exact h1

theorem bel_mem (M : Nat → Nat → Bool) (len a : Nat) (b : Bel M len a) : b ∈ belL M len a := by
  unfold belL belTo
  rw [List.mem_filterMap]
  exact ⟨b.1, List.mem_range.2 b.2.1, by rw [dif_pos b.2]; rfl⟩
theorem belL_vals (M : Nat → Nat → Bool) (len a : Nat) : (belL M len a).map (·.1) = bels M len a := by
  unfold belL bels
  have key : ∀ k, k ≤ len → (belTo M len a k).map (·.1) = (List.range k).filter fun b => M a b := by
    intro k
    induction k with
    | zero => intro _; simp [belTo]
    | succ k ih =>
      intro hk
      rw [List.range_succ, List.filter_append]
      by_cases h : M a k = true
      · rw [belTo_yes _ _ _ _ ⟨by omega, h⟩, List.map_append, ih (by omega)]
        simp [h]
        exact ⟨_, rfl, rfl⟩
      · rw [belTo_no _ _ _ _ (fun h' => h h'.2), ih (by omega)]
        simp [h]
  exact key len (Nat.le_refl _)
theorem abides_later {α : Type} {B : Nat} {J : List α → World → Prop} (hJ : AbidesFrom B J) {s : List α} {w w' : World} (h : J s w) (hb : Below w.heap.size w w') : J s w' :=
  hJ s w w' none h ⟨hb.os, hb.tape, hb.output, hb.size, fun i hi _ => hb.block i hi⟩ (fun r e => by cases e)

set_option maxRecDepth 100000 in
set_option maxHeartbeats 1000000 in
theorem below_stops (n p q g len c a : Nat) (A : Option Addr) (x0 x1 : Value) (M : Nat → Nat → Bool) (W0 : World) (hp : Blk W0 p 96 #[.pointer (some ⟨g, 0, none⟩)]) (hq : Blk W0 q 3 #[.int .i64 a]) (hg : Blk W0 g 134 (deskCells x0 x1 (.slice A len c) M))
    (hlen : len ≤ 14) (ha : a < 14) :
    SeqStopsK Fence.wide n Try.prog 85 #[.pointer (some ⟨p, 0, none⟩), .pointer (some ⟨q, 0, none⟩)] (fun b : Bel M len a => #[.int .i64 b.1]) (KeepB [p, q, g]) (fun xs => xs = belL M len a) (fun pre => pre <+: belL M len a) (belL M len a).length W0 := fun l J Jx W hW hJ hJx hY h0 => by
  have hp1 := hp.later hW
  have hq1 := hq.later hW
  have hg1 := hg.later hW
  have HP := Lib.hid hp1
  have HQ := Lib.hid hq1
  have HG := Lib.hid hg1
  have cp := hp1.cell 0
  have cg := (hg1.cell 2).trans (deskCells_2 _ _ _ _)
  have cg0 := (hg1.cell 0).trans (deskCells_0 _ _ _ _)
  clear hp hq hg hp1 hq1 hg1 hW
  simp only [List.getElem?_toArray, List.getElem?_cons_zero] at cp
  refine callsIn_of_wp Try.func85 rfl trivial ?_ rfl
  simp only [Try.ntmps85, List.size_toArray, List.length_cons, List.length_nil, Nat.reduceAdd, Nat.reduceSub, Array.replicate_succ, Array.replicate_zero, List.push_toArray, List.append_toArray, List.nil_append, List.cons_append]
  gi_wp2
  gi_loopw [11] (fun i wr => ∃ k : Nat, k ≤ len ∧ i = .int .i64 k ∧ J (belTo M len a k) wr ∧ KeepB [p, q, g] W wr) (fun i _ => len - (intOf i).toNat)
  case atStart => exact ⟨0, Nat.zero_le _, rfl, h0, fun _ _ => rfl⟩
  case round =>
    obtain ⟨k, hk, rfl, hJk, hK⟩ := hrel
    have HK := Lib.hid hK
    clear hK h0 cp cg cg0
    by_cases hlt : k < len
    · have bp : Blk wr p 96 #[.pointer (some ⟨g, 0, none⟩)] := (HK.out p (by simp)).trans HP.out
      have bq : Blk wr q 3 #[.int .i64 a] := (HK.out q (by simp)).trans HQ.out
      have bg : Blk wr g 134 (deskCells x0 x1 (.slice A len c) M) := (HK.out g (by simp)).trans HG.out
      have cp := bp.cell 0
      have cq := bq.cell 0
      have cm := (bg.cell (3 + a * 14 + k)).trans (deskCells_at _ _ _ _ a k (by omega) (by omega))
      have cg0 := (bg.cell 0).trans (deskCells_0 _ _ _ _)
      simp only [List.getElem?_toArray, List.getElem?_cons_zero] at cp cq
      have hkb : ∀ u : Later wr, KeepB [p, q, g] wr u.w := fun u b hb => u.below.block b (by simp at hb; rcases hb with rfl | rfl | rfl <;> first | exact bp.lt | exact bq.lt | exact bg.lt)
      clear bp bq bg
      have Fcp := fun u => Later.cell cp u
      have Fcq := fun u => Later.cell cq u
      have Fcm := fun u => Later.cell cm u
      have Fcg0 := fun u => Later.cell cg0 u
      clear cp cq cm cg0
      have ha' : (a : Int) < 14 := by omega
      have hk14 : (k : Int) < 14 := by omega
      cases hm : M a k
      · rw [hm] at Fcm
        gi_wp2
        refine wpIn_region_later (open_wide _) (by kernel_rfl) (by kernel_rfl) (by kernel_rfl) ?_
        repeat (go_big_quiet_step ((fail)))
        refine wpQuiet_nil ?_
        intro u
        gi_wp2
        refine ⟨⟨k + 1, by omega, by go_num, ?_, HK.out.t (hkb u)⟩, by simp [intOf]; omega⟩
        rw [belTo_no _ _ _ _ (by rw [hm]; simp)]
        exact abides_later hJ hJk u.below
      · rw [hm] at Fcm
        have hx : k < len ∧ M a k = true := ⟨hlt, hm⟩
        have HX := Lib.hid hx
        clear hx hm
        gi_wp2
        refine wpIn_region_later_tail (open_wide _) 11 (by kernel_rfl) (by kernel_rfl) (by kernel_rfl) ?_
        simp only [List.take_succ_cons, List.take_zero, List.drop_succ_cons, List.drop_zero]
        repeat (go_big_quiet_step ((fail)))
        refine wpQuiet_nil ?_
        intro u
        obtain ⟨fn, tmps, assign, body, hy, hR⟩ := hY (belTo M len a k) ⟨k, HX.out⟩ u.w (abides_later hJ hJk u.below) (belTo_lt _ _ _ _ HX.out)
        have HR := Lib.hid hR
        clear hR
        dsimp only at hy
        gi_wp2
        refine ⟨(fun h => by cases h), HR.out.mono ?_⟩
        rintro e W' (⟨rfl, hJ', hk'⟩ | ⟨rfl, hJx'⟩)
        · gi_wp2
          refine ⟨⟨k + 1, by omega, by go_num, ?_, (HK.out.t (hkb u)).t hk'⟩, by simp [intOf]; omega⟩
          rw [belTo_yes _ _ _ _ HX.out]
          exact hJ'
        · gi_wp2
          refine bodyPost_ret (results_none rfl _ _ _) rfl ?_
          refine ⟨⟨_, rfl⟩, .inr ⟨_, ?_, hJx'⟩⟩
          rw [← belTo_yes _ _ _ _ HX.out]
          exact belTo_belL _ _ _ _ hlt
    · obtain rfl : k = len := by omega
      gi_wp2
      go_end0
      exact ⟨⟨_, rfl⟩, .inl ⟨_, rfl, hJk⟩⟩
end Go.Proofs.Ytjihnnbpfdhceaa
