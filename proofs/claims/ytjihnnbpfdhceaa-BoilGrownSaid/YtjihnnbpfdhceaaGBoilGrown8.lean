/- boil.desk.below: the iterator over the weighings that clash with one. Conditions: none beyond those that each theorem names. -/
import Derived.Test.YtjihnnbpfdhceaaGBoilGrown5
import Derived.Test.YtjihnnbpfdhceaaGBoilGrown6
import Derived.Test.YtjihnnbpfdhceaaGBoilGrown7
set_option linter.unusedSimpArgs false
set_option linter.unusedVariables false
namespace Go.Proofs.Ytjihnnbpfdhceaa
open Go.RowKit Go.Shelf
attribute [local go_sem] Oper.semAt_some

theorem below_any (g : Nat) (a : Int) (w : World) :
    Calls Try.prog 49 #[.pointer (some ⟨g, 0, none⟩), .int .i64 a] w fun e w' => e = .returned (.func (.func 85) #[] #[.pointer (some ⟨w.heap.size, 0, none⟩), .pointer (some ⟨w.heap.size + 1, 0, none⟩)]) ∧
      (w.alloc (.cells #[.pointer (some ⟨g, 0, none⟩)] 96)).alloc (.cells #[.int .i64 a] 3) = w' := by
  go_enter Try.func49, Try.ntmps49
  go_wp2
  go_ret
  exact ⟨rfl, rfl⟩

def row14I (r : Nat → Int) : Array Value := Array.ofFn (n := 14) fun i => .int .i64 (r i.val)
theorem row14I_at (r : Nat → Int) (i : Nat) (hi : i < 14) : (row14I r)[i]? = some (.int .i64 (r i)) := by
  unfold row14I; rw [Array.getElem?_ofFn, dif_pos hi]
theorem row14I_congr {r s : Nat → Int} (h : ∀ i, i < 14 → r i = s i) : row14I r = row14I s := by
  unfold row14I
  congr 1
  funext i
  rw [h i.val i.isLt]
theorem row14_congr {r s : Nat → Bool} (h : ∀ i, i < 14 → r i = s i) : row14 r = row14 s := by
  unfold row14
  congr 1
  funext i
  rw [h i.val i.isLt]
theorem row14_set (r : Nat → Bool) (i : Nat) (v : Bool) : (row14 r).setIfInBounds i (.bool v) = row14 (updB r i v) := by
  apply Array.ext_getElem?
  intro k
  rw [Array.getElem?_setIfInBounds]
  by_cases hk : k < 14
  · rw [row14_at _ _ hk, row14_at _ _ hk]
    by_cases h : i = k
    · subst h; simp [updB, row14, hk]
    · rw [if_neg h]; simp [updB, Ne.symm h]
  · rw [Array.getElem?_eq_none (by simp [row14]; omega), Array.getElem?_eq_none (by simp [row14]; omega)]
    split
    · rename_i h; rw [if_neg (by simp [row14]; omega)]
    · rfl
theorem row14I_set (r : Nat → Int) (i : Nat) (v : Int) : (row14I r).setIfInBounds i (.int .i64 v) = row14I (updI r i v) := by
  apply Array.ext_getElem?
  intro k
  rw [Array.getElem?_setIfInBounds]
  by_cases hk : k < 14
  · rw [row14I_at _ _ hk, row14I_at _ _ hk]
    by_cases h : i = k
    · subst h; simp [updI, row14I, hk]
    · rw [if_neg h]; simp [updI, Ne.symm h]
  · rw [Array.getElem?_eq_none (by simp [row14I]; omega), Array.getElem?_eq_none (by simp [row14I]; omega)]
    split
    · rename_i h; rw [if_neg (by simp [row14I]; omega)]
    · rfl

/-- The weighings that a clashes with. -/
def Bel (M : Nat → Nat → Bool) (len a : Nat) : Type := { b : Nat // b < len ∧ M a b = true }
def belTo (M : Nat → Nat → Bool) (len a : Nat) (k : Nat) : List (Bel M len a) := (List.range k).filterMap fun b => if h : b < len ∧ M a b = true then some ⟨b, h⟩ else none
def belL (M : Nat → Nat → Bool) (len a : Nat) : List (Bel M len a) := belTo M len a len
theorem belTo_yes (M : Nat → Nat → Bool) (len a k : Nat) (h : k < len ∧ M a k = true) : belTo M len a (k + 1) = belTo M len a k ++ [⟨k, h⟩] := by
  unfold belTo
  rw [List.range_succ, List.filterMap_append, List.filterMap_cons, List.filterMap_nil, dif_pos h]
theorem belTo_no (M : Nat → Nat → Bool) (len a k : Nat) (h : ¬ (k < len ∧ M a k = true)) : belTo M len a (k + 1) = belTo M len a k := by
  unfold belTo
  rw [List.range_succ, List.filterMap_append, List.filterMap_cons, List.filterMap_nil, dif_neg h, List.append_nil]
theorem belTo_pre (M : Nat → Nat → Bool) (len a k d : Nat) : belTo M len a k <+: belTo M len a (k + d) := by
  induction d with
  | zero => exact List.prefix_refl _
  | succ d ih =>
    by_cases h : k + d < len ∧ M a (k + d) = true
    · rw [show k + (d + 1) = (k + d) + 1 from rfl, belTo_yes _ _ _ _ h]
      exact ih.trans (List.prefix_append _ _)
    · rw [show k + (d + 1) = (k + d) + 1 from rfl, belTo_no _ _ _ _ h]
      exact ih
theorem belTo_belL (M : Nat → Nat → Bool) (len a k : Nat) (hk : k ≤ len) : belTo M len a k <+: belL M len a := by
  obtain ⟨d, rfl⟩ : ∃ d, len = k + d := ⟨len - k, by omega⟩
  exact belTo_pre _ _ _ _ _
theorem belTo_lt (M : Nat → Nat → Bool) (len a k : Nat) (h : k < len ∧ M a k = true) : (belTo M len a k).length < (belL M len a).length := by
  have h1 := (belTo_belL M len a (k + 1) (by omega)).length_le
  rw [belTo_yes _ _ _ _ h, List.length_append] at h1
  exact h1

theorem bel_mem (M : Nat → Nat → Bool) (len a : Nat) (b : Bel M len a) : b ∈ belL M len a := by
  unfold belL belTo
  rw [List.mem_filterMap]
  exact ⟨b.1, List.mem_range.2 b.2.1, by rw [dif_pos b.2]; rfl⟩
theorem belL_vals (M : Nat → Nat → Bool) (len a : Nat) : (belL M len a).map (·.1) = bels M len a := by
  unfold belL bels
  have key : ∀ k, k ≤ len → (belTo M len a k).map (·.1) = (List.range k).filter fun b => M a b := by
    intro k
    induction k with
    | zero => intro _; simp [belTo]
    | succ k ih =>
      intro hk
      rw [List.range_succ, List.filter_append]
      by_cases h : M a k = true
      · rw [belTo_yes _ _ _ _ ⟨by omega, h⟩, List.map_append, ih (by omega)]
        simp [h]
        exact ⟨_, rfl, rfl⟩
      · rw [belTo_no _ _ _ _ (fun h' => h h'.2), ih (by omega)]
        simp [h]
  exact key len (Nat.le_refl _)
theorem abides_later {α : Type} {B : Nat} {J : List α → World → Prop} (hJ : AbidesFrom B J) {s : List α} {w w' : World} (h : J s w) (hb : Below w.heap.size w w') : J s w' :=
  hJ s w w' none h ⟨hb.os, hb.tape, hb.output, hb.size, fun i hi _ => hb.block i hi⟩ (fun r e => by cases e)

set_option maxRecDepth 100000 in
set_option maxHeartbeats 1000000 in
theorem below_stops (n p q g len c a : Nat) (A : Option Addr) (x0 x1 : Value) (M : Nat → Nat → Bool) (W0 : World) (hp : Blk W0 p 96 #[.pointer (some ⟨g, 0, none⟩)]) (hq : Blk W0 q 3 #[.int .i64 a]) (hg : Blk W0 g 134 (deskCells x0 x1 (.slice A len c) M))
    (hlen : len ≤ 14) (ha : a < 14) :
    SeqStopsK Fence.wide n Try.prog 85 #[.pointer (some ⟨p, 0, none⟩), .pointer (some ⟨q, 0, none⟩)] (fun b : Bel M len a => #[.int .i64 b.1]) (KeepB [p, q, g]) (fun xs => xs = belL M len a) (fun pre => pre <+: belL M len a) (belL M len a).length W0 := fun l J Jx W hW hJ hJx hY h0 => by
  have hp1 := hp.later hW
  have hq1 := hq.later hW
  have hg1 := hg.later hW
  have HP := Lib.hid hp1
  have HQ := Lib.hid hq1
  have HG := Lib.hid hg1
  have cp := hp1.cell 0
  have cg := (hg1.cell 2).trans (deskCells_2 _ _ _ _)
  have cg0 := (hg1.cell 0).trans (deskCells_0 _ _ _ _)
  clear hp hq hg hp1 hq1 hg1 hW
  simp only [List.getElem?_toArray, List.getElem?_cons_zero] at cp
  refine callsIn_of_wp Try.func85 rfl trivial ?_ rfl
  simp only [Try.ntmps85, List.size_toArray, List.length_cons, List.length_nil, Nat.reduceAdd, Nat.reduceSub, Array.replicate_succ, Array.replicate_zero, List.push_toArray, List.append_toArray, List.nil_append, List.cons_append]
  gi_wp2
  gi_loopw [11] (fun i wr => ∃ k : Nat, k ≤ len ∧ i = .int .i64 k ∧ J (belTo M len a k) wr ∧ KeepB [p, q, g] W wr) (fun i _ => len - (intOf i).toNat)
  case atStart => exact ⟨0, Nat.zero_le _, rfl, h0, fun _ _ => rfl⟩
  case round =>
    obtain ⟨k, hk, rfl, hJk, hK⟩ := hrel
    have HK := Lib.hid hK
    clear hK h0 cp cg cg0
    by_cases hlt : k < len
    · have bp : Blk wr p 96 #[.pointer (some ⟨g, 0, none⟩)] := (HK.out p (by simp)).trans HP.out
      have bq : Blk wr q 3 #[.int .i64 a] := (HK.out q (by simp)).trans HQ.out
      have bg : Blk wr g 134 (deskCells x0 x1 (.slice A len c) M) := (HK.out g (by simp)).trans HG.out
      have cp := bp.cell 0
      have cq := bq.cell 0
      have cm := (bg.cell (3 + a * 14 + k)).trans (deskCells_at _ _ _ _ a k (by omega) (by omega))
      have cg0 := (bg.cell 0).trans (deskCells_0 _ _ _ _)
      simp only [List.getElem?_toArray, List.getElem?_cons_zero] at cp cq
      have hkb : ∀ u : Later wr, KeepB [p, q, g] wr u.w := fun u b hb => u.below.block b (by simp at hb; rcases hb with rfl | rfl | rfl <;> first | exact bp.lt | exact bq.lt | exact bg.lt)
      clear bp bq bg
      have Fcp := fun u => Later.cell cp u
      have Fcq := fun u => Later.cell cq u
      have Fcm := fun u => Later.cell cm u
      have Fcg0 := fun u => Later.cell cg0 u
      clear cp cq cm cg0
      have ha' : (a : Int) < 14 := by omega
      have hk14 : (k : Int) < 14 := by omega
      cases hm : M a k
      · rw [hm] at Fcm
        gi_wp2
        refine wpIn_region_later (open_wide _) (by kernel_rfl) (by kernel_rfl) (by kernel_rfl) ?_
        repeat (go_big_quiet_step ((fail)))
        refine wpQuiet_nil ?_
        intro u
        gi_wp2
        refine ⟨⟨k + 1, by omega, by go_num, ?_, HK.out.t (hkb u)⟩, by simp [intOf]; omega⟩
        rw [belTo_no _ _ _ _ (by rw [hm]; simp)]
        exact abides_later hJ hJk u.below
      · rw [hm] at Fcm
        have hx : k < len ∧ M a k = true := ⟨hlt, hm⟩
        have HX := Lib.hid hx
        clear hx hm
        gi_wp2
        refine wpIn_region_later_tail (open_wide _) 11 (by kernel_rfl) (by kernel_rfl) (by kernel_rfl) ?_
        simp only [List.take_succ_cons, List.take_zero, List.drop_succ_cons, List.drop_zero]
        repeat (go_big_quiet_step ((fail)))
        refine wpQuiet_nil ?_
        intro u
        obtain ⟨fn, tmps, assign, body, hy, hR⟩ := hY (belTo M len a k) ⟨k, HX.out⟩ u.w (abides_later hJ hJk u.below) (belTo_lt _ _ _ _ HX.out)
        have HR := Lib.hid hR
        clear hR
        dsimp only at hy
        gi_wp2
        refine ⟨(fun h => by cases h), HR.out.mono ?_⟩
        rintro e W' (⟨rfl, hJ', hk'⟩ | ⟨rfl, hJx'⟩)
        · gi_wp2
          refine ⟨⟨k + 1, by omega, by go_num, ?_, (HK.out.t (hkb u)).t hk'⟩, by simp [intOf]; omega⟩
          rw [belTo_yes _ _ _ _ HX.out]
          exact hJ'
        · gi_wp2
          refine bodyPost_ret (results_none rfl _ _ _) rfl ?_
          refine ⟨⟨_, rfl⟩, .inr ⟨_, ?_, hJx'⟩⟩
          rw [← belTo_yes _ _ _ _ HX.out]
          exact belTo_belL _ _ _ _ hlt
    · obtain rfl : k = len := by omega
      gi_wp2
      go_end0
      exact ⟨⟨_, rfl⟩, .inl ⟨_, rfl, hJk⟩⟩
end Go.Proofs.Ytjihnnbpfdhceaa

/- boil.desk.clashes. Conditions: none beyond those that each theorem names. -/
set_option linter.unusedSimpArgs false
set_option linter.unusedVariables false
namespace Go.Proofs.Ytjihnnbpfdhceaa
open Go.RowKit Go.Shelf
attribute [local go_sem] Oper.semAt_some

/-- Do some weighings clash that are not gone? -/
def hitB (M : Nat → Nat → Bool) (gone : Nat → Bool) (i j : Nat) : Bool := M i j && (!gone i && !gone j)
def clashesB (M : Nat → Nat → Bool) (len : Nat) (gone : Nat → Bool) : Bool := (List.range len).any fun i => (List.range len).any fun j => hitB M gone i j

set_option maxRecDepth 100000 in
set_option maxHeartbeats 1000000 in
theorem clashes_any (g len c : Nat) (A : Option Addr) (x0 x1 : Value) (M : Nat → Nat → Bool) (gone : Nat → Bool) (w : World) (hg : Blk w g 134 (deskCells x0 x1 (.slice A len c) M)) (hlen : len ≤ 14) :
    Calls Try.prog 90 #[.pointer (some ⟨g, 0, none⟩), .agg (row14 gone)] w fun e w' => e = .returned (.bool (clashesB M len gone)) ∧ Below w.heap.size w w' := by
  have HG := Lib.hid hg
  have cg0 := (hg.cell 0).trans (deskCells_0 _ _ _ _)
  have cg2 := (hg.cell 2).trans (deskCells_2 _ _ _ _)
  have hgl := hg.lt
  clear hg
  refine (callsIn_wide (n := 2)).1 ?_
  refine callsIn_of_wp_marks Try.func90 rfl trivial ?_ rfl
  simp only [Try.ntmps90, List.size_toArray, List.length_cons, List.length_nil, Nat.reduceAdd, Nat.reduceSub, Array.replicate_succ, Array.replicate_zero, List.push_toArray, List.append_toArray, List.nil_append, List.cons_append]
  refine wpIn_wide.2 ?_
  go_wp2
  have hI0 : ∃ W0 : World, W0 = (w.alloc (.cells (row14 gone) 121)).alloc (.cells #[.bool false] 4) := ⟨_, rfl⟩
  obtain ⟨W0, hW0⟩ := hI0
  have hb0 : Below w.heap.size w W0 := by rw [hW0]; repeat (first | exact Below.refl _ _ | exact Below.refl _ _ | refine Below.drew ?_ | refine below_drewN ?_ _ | refine Below.setCell ?_ (by first | assumption | omega | (simp; done) | (simp; omega) | (simp at *; omega)) _ | refine Below.alloc ?_ (by first | assumption | omega | (simp; done) | (simp; omega) | (simp at *; omega)) _ | refine Below.trans ?_ (Below.mono Below.refl _ _ (by first | assumption | omega | (simp; done) | (simp; omega) | (simp at *; omega))))
  have hgo : Blk W0 w.heap.size 121 (row14 gone) := by rw [hW0]; exact (Blk.new _ _ _).alloc _
  have hre : Blk W0 (w.heap.size + 1) 4 #[.bool false] := by rw [hW0]; have := Blk.new (w.alloc (.cells (row14 gone) 121)) 4 #[.bool false]; rwa [World.size_alloc] at this
  rw [← hW0]
  clear hW0 cg0 cg2
  refine wp_loop (fun a' W => ∃ (k : Nat) (Ds : List Nat) (u5 u14 u15 u16 u17 u18 u30 : Value), a' = { tmps := #[.pointer (some ⟨g, 0, none⟩), .agg (row14 gone), undef, .pointer (some ⟨w.heap.size, 0, none⟩), .pointer (some ⟨w.heap.size + 1, 0, none⟩), u5, undef, .pointer (some ⟨g, 0, none⟩), .pointer (some ⟨g, 0, none⟩), .pointer (some ⟨g, 0, none⟩), .pointer (some ⟨g, 2, none⟩), .slice A len c, .int .i64 len, .int .i64 k, u14, u15, u16, u17, u18, undef, undef, undef, undef, undef, undef, undef, undef, undef, undef, undef, u30], defers := Ds.map mark } ∧
    k ≤ len ∧ Below w.heap.size w W ∧ Blk W w.heap.size 121 (row14 gone) ∧ Blk W (w.heap.size + 1) 4 #[.bool false] ∧ Marks Ds w.heap.size W ∧ Aside (∀ i, i < k → ∀ j, j < len → hitB M gone i j = false)) (fun a' _ => len - (intOf (a'.tmps.getD 13 undef)).toNat) ?_ ?_
  · exact ⟨0, [], _, _, _, _, _, _, _, rfl, Nat.zero_le _, hb0, hgo, hre, Marks.nil _ _, fun i hi => absurd hi (Nat.not_lt_zero _)⟩
  · clear hb0 hgo hre
    rintro a' wr ⟨k, Ds, u5, u14, u15, u16, u17, u18, u30, rfl, hk, hB, hGo, hRe, hMk, HN⟩
    by_cases hlt : k < len
    · go_wp2_with fail
      refine (below_any g k _).mono ?_
      rintro e w' ⟨rfl, rfl⟩
      go_wp2
      have hbw : Below wr.heap.size wr (((wr.alloc (.cells #[.int .i64 (k : Int)] 3)).alloc (.cells #[.pointer (some ⟨g, 0, none⟩)] 96)).alloc (.cells #[.int .i64 (k : Int)] 3)) := by repeat (first | exact Below.refl _ _ | exact Below.refl _ _ | refine Below.drew ?_ | refine below_drewN ?_ _ | refine Below.setCell ?_ (by first | assumption | omega | (simp; done) | (simp; omega) | (simp at *; omega)) _ | refine Below.alloc ?_ (by first | assumption | omega | (simp; done) | (simp; omega) | (simp at *; omega)) _ | refine Below.trans ?_ (Below.mono Below.refl _ _ (by first | assumption | omega | (simp; done) | (simp; omega) | (simp at *; omega))))
      have ba : Blk (((wr.alloc (.cells #[.int .i64 (k : Int)] 3)).alloc (.cells #[.pointer (some ⟨g, 0, none⟩)] 96)).alloc (.cells #[.int .i64 (k : Int)] 3)) wr.heap.size 3 #[.int .i64 (k : Int)] := ((Blk.new _ _ _).alloc _).alloc _
      have bp : Blk (((wr.alloc (.cells #[.int .i64 (k : Int)] 3)).alloc (.cells #[.pointer (some ⟨g, 0, none⟩)] 96)).alloc (.cells #[.int .i64 (k : Int)] 3)) (wr.heap.size + 1) 96 #[.pointer (some ⟨g, 0, none⟩)] := by
        have := Blk.new (wr.alloc (.cells #[.int .i64 (k : Int)] 3)) 96 #[.pointer (some ⟨g, 0, none⟩)]
        rw [World.size_alloc] at this
        exact this.alloc _
      have bq : Blk (((wr.alloc (.cells #[.int .i64 (k : Int)] 3)).alloc (.cells #[.pointer (some ⟨g, 0, none⟩)] 96)).alloc (.cells #[.int .i64 (k : Int)] 3)) (wr.heap.size + 1 + 1) 3 #[.int .i64 (k : Int)] := by
        have := Blk.new ((wr.alloc (.cells #[.int .i64 (k : Int)] 3)).alloc (.cells #[.pointer (some ⟨g, 0, none⟩)] 96)) 3 #[.int .i64 (k : Int)]
        rw [World.size_alloc, World.size_alloc] at this
        exact this
      generalize hW1 : ((wr.alloc (.cells #[.int .i64 (k : Int)] 3)).alloc (.cells #[.pointer (some ⟨g, 0, none⟩)] 96)).alloc (.cells #[.int .i64 (k : Int)] 3) = W1 at hbw ba bp bq ⊢
      clear hW1
      have hg1 := (HG.out.later hB).later hbw
      have hgo1 := hGo.later hbw
      have hre1 := hRe.later hbw
      have hmk1 := hMk.later hbw
      have hB1 : Below w.heap.size w W1 := hB.trans (hbw.mono hB.size)
      have hstops := below_stops (2 - 1) (wr.heap.size + 1) (wr.heap.size + 1 + 1) g len c k A x0 x1 M W1 bp bq hg1 hlen (by omega)
      have HS := Lib.hid hstops
      have hpl := bp.lt
      have hql := bq.lt
      have hgl1 := hg1.lt
      clear hstops hGo hRe hMk hB hbw bp bq hg1
      refine (wpIn_wide (n := 2)).1 ?_
      refine wpIn_rangeFunc_ownG rfl (by omega) (gf := 85) rfl trivial (enters_of Try.func85 (by kernel_rfl) rfl) HS.out
        (fun h h' => h.t h') (fun W l o o' hl ho hc hw => KeepB.b (N := W1.heap.size) (by intro b hb; simp at hb; omega) W l o o' hl ho hc hw) (Below.refl _ _) (fun _ => rfl)
        (fun pre W => W1.grownBy W none ∧ (∀ b ∈ pre, hitB M gone k b.1 = false))
        (fun cd pre W => (W1.grownBy W (some (w.heap.size + 1)) ∧ W.heap[w.heap.size + 1]? = some (.cells #[.bool true] 4 (0, 0))) ∧ (cd = .ret ∧ ∃ b ∈ pre, hitB M gone k b.1 = true))
        (ownFrom_grown.and (ownFrom_pure _ _)) (fun cd => (ownFrom_grown.and ownFrom_blk).and (ownFrom_pure _ _)) ⟨World.grownBy.refl _ _, fun b hb => by simp at hb⟩ ?a1 ?assign ?body ?done ?stop
      case assign =>
        intro l x W K hK
        gi_wp2
        exact hK
      case body =>
        rintro l pre x W ⟨hgr, hpre⟩ _
        obtain ⟨x, hx⟩ := x
        have hbe := below_grown hgr
        have haW := ba.later hbe
        have hgW := hgo1.later hbe
        have hrW := hre1.later hbe
        have c5 := haW.cell 0
        have cr := hrW.cell 0
        simp only [List.getElem?_toArray, List.getElem?_cons_zero] at c5 cr
        have crf := hrW.frozen 0
        have ck := (hgW.cell k).trans (row14_at _ _ (by omega))
        have cx := (hgW.cell x).trans (row14_at _ _ (by omega))
        have hx14 : (x : Int) < 14 := by omega
        have hk14 : (k : Int) < 14 := by omega
        have HP := Lib.hid hpre
        clear haW hgW hrW hbe hpre
        cases hgk : gone k
        · cases hgx : gone x
          · rw [hgk] at ck
            rw [hgx] at cx
            have HC := Lib.hid (show hitB M gone k x = true by simp [hitB, hgk, hgx, hx.2])
            clear hgk hgx
            gi_wp2
            refine ⟨(KeepsOthers.setCell _ _ _).from _, ⟨grown_set (grown_below (below_grown hgr)) _, ?_⟩, rfl, ⟨x, hx⟩, List.mem_append.2 (.inr (List.mem_singleton.2 rfl)), HC.out⟩
            have := (hre1.later (below_grown hgr)).set_ 0 (.bool true)
            exact this
          · rw [hgk] at ck
            rw [hgx] at cx
            have HC := Lib.hid (show hitB M gone k x = false by simp [hitB, hgx])
            clear hgk hgx
            gi_wp2
            refine ⟨(KeepsOthers.refl _).from _, fun _ _ => rfl, hgr, fun b hb => ?_⟩
            rcases List.mem_append.1 hb with hb | hb
            · exact HP.out b hb
            · rw [List.mem_singleton.1 hb]; exact HC.out
        · rw [hgk] at ck
          have HC := Lib.hid (show hitB M gone k x = false by simp [hitB, hgk])
          clear hgk
          gi_wp2
          refine ⟨(KeepsOthers.refl _).from _, fun _ _ => rfl, hgr, fun b hb => ?_⟩
          rcases List.mem_append.1 hb with hb | hb
          · exact HP.out b hb
          · rw [List.mem_singleton.1 hb]; exact HC.out
      case done =>
        rintro D xs W hD rfl ⟨hgr, hpre⟩ hK
        have hbe := below_grown hgr
        have hmk2 : Marks (D :: Ds) w.heap.size W := hmk1.cons (fun D' hm => hbe.block D' (hmk1.lt hm)) hD hB1.size hK
        go_wp2
        refine ⟨⟨k + 1, D :: Ds, _, _, _, _, _, _, _, rfl, by omega, hB1.trans (hbe.mono hB1.size), hgo1.later hbe, hre1.later hbe, hmk2, ?_⟩, by simp [intOf]; omega⟩
        show ∀ i, i < k + 1 → ∀ j, j < len → hitB M gone i j = false
        intro i hi j hj
        by_cases hik : i = k
        · subst hik
          cases hm : M i j
          · simp [hitB, hm]
          · exact hpre _ (bel_mem M len i ⟨j, hj, hm⟩)
        · exact HN.out i (by omega) j hj
      case stop =>
        rintro D cd pre W hD hSp ⟨⟨hgr, hbl⟩, rfl, b, hb, hex⟩ hK
        have hrne : w.heap.size + 1 ∉ Ds := fun hm => by
          have h1 := hmk1.open_ _ hm
          rw [show W1.heap[w.heap.size + 1]? = _ from hre1] at h1
          cases h1
        have hmk2 : Marks (D :: Ds) w.heap.size W := hmk1.cons (fun D' hm => hgr.block D' (hmk1.lt hm) (fun e => by cases e; exact hrne hm)) hD hB1.size hK
        refine wpIn_wide.2 ?_
        go_wp2
        refine hmk2.leaves fun w' hw' => ?_
        have hrw : Blk w' (w.heap.size + 1) 4 #[.bool true] := (hw'.block _ (fun hm => by have h1 := hmk2.open_ _ hm; rw [hbl] at h1; cases h1)).trans hbl
        have hrc := hrw.cell 0
        simp only [List.getElem?_toArray, List.getElem?_cons_zero] at hrc
        refine ⟨.bool true, by simp [results, Try.results90, go_sem, hrc], ?_, hw'.below (Below.grown_row hB1 hgr (by omega)) hmk2.ge⟩
        apply ret_bool
        symm
        unfold clashesB
        rw [List.any_eq_true]
        refine ⟨k, List.mem_range.2 hlt, ?_⟩
        rw [List.any_eq_true]
        exact ⟨b.1, List.mem_range.2 b.2.1, hex⟩
    · obtain rfl : k = len := by omega
      have cr := hRe.cell 0
      have crf := hRe.frozen 0
      simp only [List.getElem?_toArray, List.getElem?_cons_zero] at cr
      go_wp2
      have hrne : w.heap.size + 1 ∉ Ds := fun hm => by
        have h1 := hMk.open_ _ hm
        rw [show wr.heap[w.heap.size + 1]? = _ from hRe] at h1
        cases h1
      have hs := hRe.set_ 0 (.bool false)
      have hmk2 : Marks Ds w.heap.size (wr.setCell ⟨w.heap.size + 1, 0, none⟩ (.bool false)) :=
        ⟨hMk.nodup, hMk.ge, fun D hm => (Below.heap_setCell wr ⟨w.heap.size + 1, 0, none⟩ _ D (fun e => hrne (by have e : D = w.heap.size + 1 := e; rw [← e]; exact hm))).trans (hMk.open_ D hm)⟩
      refine hmk2.leaves fun w' hw' => ?_
      have hrw : Blk w' (w.heap.size + 1) 4 #[.bool false] := (hw'.block _ hrne).trans hs
      have hrc := hrw.cell 0
      simp only [List.getElem?_toArray, List.getElem?_cons_zero] at hrc
      refine ⟨.bool false, by simp [results, Try.results90, go_sem, hrc], ?_, hw'.below (hB.setCell (p := ⟨w.heap.size + 1, 0, none⟩) (by simp) _) hmk2.ge⟩
      apply ret_bool
      symm
      unfold clashesB
      rw [List.any_eq_false]
      intro i hi
      rw [Bool.not_eq_true, List.any_eq_false]
      intro j hj
      rw [Bool.not_eq_true]
      exact HN.out i (List.mem_range.1 hi) j (List.mem_range.1 hj)
end Go.Proofs.Ytjihnnbpfdhceaa

/- The closure of boil.desk.proof that places a weighing above another one. Conditions: none beyond those that each theorem names. -/
set_option linter.unusedSimpArgs false
set_option linter.unusedVariables false
namespace Go.Proofs.Ytjihnnbpfdhceaa
open Go.RowKit Go.Shelf
attribute [local go_sem] Oper.semAt_some

def placeFn (pd pm po pp : Nat) : Value := .func (.func 98) #[] #[.pointer (some ⟨pd, 0, none⟩), .pointer (some ⟨pm, 0, none⟩), .pointer (some ⟨po, 0, none⟩), .pointer (some ⟨pp, 0, none⟩)]
/-- What the closure reads and writes. -/
structure PlAt (g len c : Nat) (A : Option Addr) (x0 x1 : Value) (M : Nat → Nat → Bool) (pd pm po pp : Nat) (s : Pst) (W : World) : Prop where
  desk : Blk W g 134 (deskCells x0 x1 (.slice A len c) M)
  d : Blk W pd 96 #[.pointer (some ⟨g, 0, none⟩)]
  m : Blk W pm 121 (row14 s.met)
  o : Blk W po 144 (row14I s.over)
  p : Blk W pp 74 #[placeFn pd pm po pp]
def Ov (len : Nat) (s : Pst) : Prop := ∀ b, s.over b = -1 ∨ (0 ≤ s.over b ∧ s.over b < len)

section
variable {g len c : Nat} {A : Option Addr} {x0 x1 : Value} {M : Nat → Nat → Bool} {pd pm po pp : Nat} {s s' : Pst} {W W' : World}
theorem PlAt.chg (h : PlAt g len c A x0 x1 M pd pm po pp s W) (hc : Chg [pm, po] W W') (hm : Blk W' pm 121 (row14 s'.met)) (ho : Blk W' po 144 (row14I s'.over)) : PlAt g len c A x0 x1 M pd pm po pp s' W' := by
  have n1 := h.desk.ne_ h.m (by decide)
  have n2 := h.desk.ne_ h.o (by decide)
  have n3 := h.d.ne_ h.m (by decide)
  have n4 := h.d.ne_ h.o (by decide)
  have n5 := h.p.ne_ h.m (by decide)
  have n6 := h.p.ne_ h.o (by decide)
  exact ⟨(hc.block g h.desk.lt (by simp [n1, n2])).trans h.desk, (hc.block pd h.d.lt (by simp [n3, n4])).trans h.d, hm, ho, (hc.block pp h.p.lt (by simp [n5, n6])).trans h.p⟩
theorem PlAt.later (h : PlAt g len c A x0 x1 M pd pm po pp s W) (hb : Below W.heap.size W W') : PlAt g len c A x0 x1 M pd pm po pp s W' :=
  ⟨h.desk.later hb, h.d.later hb, h.m.later hb, h.o.later hb, h.p.later hb⟩
end

theorem keeps_below {W W' : World} (h : Below W.heap.size W W') : KeepsOthers W W' :=
  ⟨h.size, fun k o hk _ => (h.block k (Array.getElem?_eq_some_iff.1 hk).1).trans hk⟩
theorem keeps_chg {p q : Nat} {t t' : TypeId} {cs cs' : Array Value} {W W' : World} (h : Chg [p, q] W W') (hp : Blk W p t cs) (hq : Blk W q t' cs') : KeepsOthers W W' :=
  ⟨h.size, fun k o hk ho => (h.block k (Array.getElem?_eq_some_iff.1 hk).1 (by
    intro hm
    simp only [List.mem_cons, List.not_mem_nil, or_false] at hm
    rcases hm with rfl | rfl
    · rw [show W.heap[k]? = _ from hp] at hk; cases hk; simp [Obj.isCells] at ho
    · rw [show W.heap[k]? = _ from hq] at hk; cases hk; simp [Obj.isCells] at ho)).trans hk⟩

def Lp (M : Nat → Nat → Bool) (len f a : Nat) (s : Pst) (pre : List (Bel M len a)) : Bool × Pst := loopF (stepP M len f a) (pre.map (·.1)) s
theorem Lp_snoc (M : Nat → Nat → Bool) (len f a : Nat) (s : Pst) (pre : List (Bel M len a)) (x : Bel M len a) (h : (Lp M len f a s pre).1 = false) : Lp M len f a s (pre ++ [x]) = stepP M len f a x.1 (Lp M len f a s pre).2 := by
  unfold Lp at h ⊢
  rw [List.map_append]
  exact loopF_snoc _ _ _ _ h
theorem Lp_le (M : Nat → Nat → Bool) (len f a : Nat) (s : Pst) (pre : List (Bel M len a)) (ha : a < len) (hov : Ov len s) : PstLe len s (Lp M len f a s pre).2 := loopP_le M len f a _ s ha hov
theorem Lp_all (M : Nat → Nat → Bool) (len f a : Nat) (s : Pst) : Lp M len f a s (belL M len a) = tryP M len (f + 1) a s := by
  unfold Lp; rw [belL_vals]; rfl
theorem Lp_found (M : Nat → Nat → Bool) (len f a : Nat) (s : Pst) (pre : List (Bel M len a)) (hp : pre <+: belL M len a) (h : (Lp M len f a s pre).1 = true) : tryP M len (f + 1) a s = Lp M len f a s pre := by
  rw [← Lp_all]
  obtain ⟨t, ht⟩ := hp
  rw [← ht]
  unfold Lp at h ⊢
  rw [List.map_append]
  exact loopF_found _ _ _ _ h

theorem place_end {W W1 W2 w' : World} {D pm po : Nat} {t t' : TypeId} {cs cs' cm co cr : Array Value} {tr : TypeId} (hw : ButAt [D] W2 w') (hbw : Below W.heap.size W W1) (hch : Chg [pm, po, W.heap.size + 1] W1 W2) (hmk : Marks [D] W.heap.size W2)
    (hm0 : Blk W pm t cs) (ho0 : Blk W po t' cs') (hm : Blk W2 pm t cm) (ho : Blk W2 po t' co) (hr : Blk W2 (W.heap.size + 1) tr cr) :
    Chg [pm, po] W w' ∧ Blk w' pm t cm ∧ Blk w' po t' co ∧ Blk w' (W.heap.size + 1) tr cr := by
  have hD := hmk.open_ D (by simp)
  have ne : ∀ {g : Nat} {t : TypeId} {cs : Array Value}, Blk W2 g t cs → g ∉ [D] := fun {g t cs} h hm => by
    rw [List.mem_singleton.1 hm] at h
    rw [show W2.heap[D]? = _ from h] at hD
    cases hD
  have hDge := hmk.ge D (by simp)
  refine ⟨⟨hw.os.trans (hch.os.trans hbw.os), hw.tape.trans (hch.tape.trans hbw.tape), hw.output.trans (hch.output.trans hbw.output), ?_, fun k hk hn => ?_⟩, (hw.block _ (ne hm)).trans hm, (hw.block _ (ne ho)).trans ho, (hw.block _ (ne hr)).trans hr⟩
  · rw [hw.size]; exact Nat.le_trans hbw.size hch.size
  · rw [hw.block k (by simp; omega), hch.block k (Nat.lt_of_lt_of_le hk hbw.size) (by simp at hn ⊢; exact ⟨hn.1, hn.2, by omega⟩), hbw.block k hk]

set_option maxRecDepth 100000 in
set_option maxHeartbeats 2000000 in
theorem place_any (g len c : Nat) (A : Option Addr) (x0 x1 : Value) (M : Nat → Nat → Bool) (pd pm po pp : Nat) (hlen : len ≤ 14) (f : Nat) : ∀ (a : Nat) (s : Pst) (W : World), a < len → Ov len s → unmet s.met < f → PlAt g len c A x0 x1 M pd pm po pp s W →
    Calls Try.prog 98 #[.int .i64 a, .pointer (some ⟨pd, 0, none⟩), .pointer (some ⟨pm, 0, none⟩), .pointer (some ⟨po, 0, none⟩), .pointer (some ⟨pp, 0, none⟩)] W fun e W' =>
      e = .returned (.bool (tryP M len f a s).1) ∧ Chg [pm, po] W W' ∧ Blk W' pm 121 (row14 (tryP M len f a s).2.met) ∧ Blk W' po 144 (row14I (tryP M len f a s).2.over) := by
  induction f with
  | zero => intro a s W _ _ h; exact absurd h (Nat.not_lt_zero _)
  | succ f ih =>
    intro a s W ha hov hun hP
    have IH := Lib.hid ih
    clear ih
    have HP := Lib.hid hP
    have cd := hP.d.cell 0
    simp only [List.getElem?_toArray, List.getElem?_cons_zero] at cd
    have hpdl := hP.d.lt
    have HU := Lib.hid hun
    have HV := Lib.hid hov
    clear hP hun hov
    refine (callsIn_wide (n := 2)).1 ?_
    refine callsIn_of_wp_marks Try.func98 rfl trivial ?_ rfl
    simp only [Try.ntmps98, List.size_toArray, List.length_cons, List.length_nil, Nat.reduceAdd, Nat.reduceSub, Array.replicate_succ, Array.replicate_zero, List.push_toArray, List.append_toArray, List.nil_append, List.cons_append]
    refine wpIn_wide.2 ?_
    go_wp2_with fail
    refine (below_any g a _).mono ?_
    rintro e w' ⟨rfl, rfl⟩
    go_wp2
    have hw1 : ∃ W1 : World, W1 = (((W.alloc (.cells #[.int .i64 (a : Int)] 3)).alloc (.cells #[.bool false] 4)).alloc (.cells #[.pointer (some ⟨g, 0, none⟩)] 96)).alloc (.cells #[.int .i64 (a : Int)] 3) := ⟨_, rfl⟩
    obtain ⟨W1, hW1⟩ := hw1
    have hbw : Below W.heap.size W W1 := by rw [hW1]; repeat (first | exact Below.refl _ _ | exact Below.refl _ _ | refine Below.drew ?_ | refine below_drewN ?_ _ | refine Below.setCell ?_ (by first | assumption | omega | (simp; done) | (simp; omega) | (simp at *; omega)) _ | refine Below.alloc ?_ (by first | assumption | omega | (simp; done) | (simp; omega) | (simp at *; omega)) _ | refine Below.trans ?_ (Below.mono Below.refl _ _ (by first | assumption | omega | (simp; done) | (simp; omega) | (simp at *; omega))))
    have ba : Blk W1 W.heap.size 3 #[.int .i64 (a : Int)] := by rw [hW1]; exact (((Blk.new _ _ _).alloc _).alloc _).alloc _
    have br : Blk W1 (W.heap.size + 1) 4 #[.bool false] := by
      have := Blk.new (W.alloc (.cells #[.int .i64 (a : Int)] 3)) 4 #[.bool false]
      rw [World.size_alloc] at this
      rw [hW1]; exact (this.alloc _).alloc _
    have bp : Blk W1 (W.heap.size + 1 + 1) 96 #[.pointer (some ⟨g, 0, none⟩)] := by
      have := Blk.new ((W.alloc (.cells #[.int .i64 (a : Int)] 3)).alloc (.cells #[.bool false] 4)) 96 #[.pointer (some ⟨g, 0, none⟩)]
      rw [World.size_alloc, World.size_alloc] at this
      rw [hW1]; exact this.alloc _
    have bq : Blk W1 (W.heap.size + 1 + 1 + 1) 3 #[.int .i64 (a : Int)] := by
      have := Blk.new (((W.alloc (.cells #[.int .i64 (a : Int)] 3)).alloc (.cells #[.bool false] 4)).alloc (.cells #[.pointer (some ⟨g, 0, none⟩)] 96)) 3 #[.int .i64 (a : Int)]
      rw [World.size_alloc, World.size_alloc, World.size_alloc] at this
      rw [hW1]; exact this
    rw [← hW1]
    clear hW1 cd
    have hP1 := HP.out.later hbw
    have HP1 := Lib.hid hP1
    have hpml := hP1.m.lt
    have hpol := hP1.o.lt
    have npp : pm ≠ po := hP1.m.ne_ hP1.o (by decide)
    have nap : W.heap.size ≠ pm := ba.ne_ hP1.m (by decide)
    have nao : W.heap.size ≠ po := ba.ne_ hP1.o (by decide)
    have nrp : W.heap.size + 1 ≠ pm := br.ne_ hP1.m (by decide)
    have nro : W.heap.size + 1 ≠ po := br.ne_ hP1.o (by decide)
    have nra : W.heap.size + 1 ≠ W.heap.size := by omega
    have hql := bq.lt
    have HS := Lib.hid (below_stops (2 - 1) (W.heap.size + 1 + 1) (W.heap.size + 1 + 1 + 1) g len c a A x0 x1 M W1 bp bq hP1.desk hlen (by omega))
    have HKK : Hid (∀ k ∈ [W.heap.size + 1 + 1, W.heap.size + 1 + 1 + 1, g], k < W1.heap.size ∧ k ∉ [pm, po]) := Lib.hid (by
      have e1 := bp.ne_ hP1.m (by decide)
      have e2 := bp.ne_ hP1.o (by decide)
      have e3 := bq.ne_ hP1.m (by decide)
      have e4 := bq.ne_ hP1.o (by decide)
      have e5 := hP1.desk.ne_ hP1.m (by decide)
      have e6 := hP1.desk.ne_ hP1.o (by decide)
      intro k hk
      simp only [List.mem_cons, List.not_mem_nil, or_false] at hk ⊢
      rcases hk with rfl | rfl | rfl
      · exact ⟨bp.lt, by simp [e1, e2]⟩
      · exact ⟨bq.lt, by simp [e3, e4]⟩
      · exact ⟨hP1.desk.lt, by simp [e5, e6]⟩)
    have HBA := Lib.hid ba
    have HBR := Lib.hid br
    clear hP1 bp bq ba br
    refine (wpIn_wide (n := 2)).1 ?_
    refine wpIn_rangeFunc_ownG rfl (by omega) (gf := 85) rfl trivial (enters_of Try.func85 (by kernel_rfl) rfl) HS.out
      (fun h h' => h.t h') (fun W l o o' hl ho hc hw => KeepB.b (N := W1.heap.size) (fun b hb => (HKK.out b hb).1) W l o o' hl ho hc hw) (Below.refl _ _) (fun _ => rfl)
      (fun pre W => (Chg [pm, po] W1 W ∧ (W.heap[pm]? = some (.cells (row14 (Lp M len f a s pre).2.met) 121 (0, 0)) ∧ W.heap[po]? = some (.cells (row14I (Lp M len f a s pre).2.over) 144 (0, 0)))) ∧ (Lp M len f a s pre).1 = false)
      (fun cd pre W' => (Chg [pm, po, W.heap.size + 1] W1 W' ∧ (W'.heap[pm]? = some (.cells (row14 (Lp M len f a s pre).2.met) 121 (0, 0)) ∧ (W'.heap[po]? = some (.cells (row14I (Lp M len f a s pre).2.over) 144 (0, 0)) ∧ W'.heap[W.heap.size + 1]? = some (.cells #[.bool true] 4 (0, 0))))) ∧ (cd = .ret ∧ (Lp M len f a s pre).1 = true))
      ((ownFrom_chg.and (ownFrom_blk.and ownFrom_blk)).and (ownFrom_pure _ _)) (fun cd => (ownFrom_chg.and (ownFrom_blk.and (ownFrom_blk.and ownFrom_blk))).and (ownFrom_pure _ _))
      ⟨⟨Chg.refl _ _, HP1.out.m, HP1.out.o⟩, rfl⟩ ?a1 ?assign ?body ?done ?stop
    case assign =>
      intro l x W K hK
      gi_wp2
      exact hK
    case body =>
      rintro l pre ⟨x, hx⟩ W2 ⟨⟨hch, hm, ho⟩, hno⟩ hpl
      have hx14 : (x : Int) < 14 := by omega
      have hst := Lp_snoc M len f a s pre ⟨x, hx⟩ hno
      have hle := Lp_le M len f a s pre ha HV.out
      generalize hLp : (Lp M len f a s pre).2 = st at hm ho hst hle
      have HST := Lib.hid hst
      have HLE := Lib.hid hle
      have HNO := Lib.hid hno
      have HLP := Lib.hid hLp
      clear hst hle hno hLp
      have hm' : Blk W2 pm 121 (row14 st.met) := hm
      have ho' : Blk W2 po 144 (row14I st.over) := ho
      have hba : Blk W2 W.heap.size 3 #[.int .i64 (a : Int)] := (hch.block _ HBA.out.lt (by simp [nap, nao])).trans HBA.out
      have hbr : Blk W2 (W.heap.size + 1) 4 #[.bool false] := (hch.block _ HBR.out.lt (by simp [nrp, nro])).trans HBR.out
      have cm := (hm'.cell x).trans (row14_at _ _ (by omega))
      have cmf := hm'.frozen x
      cases hmx : st.met x
      · have HMX := Lib.hid hmx
        rw [hmx] at cm
        clear hmx hm ho
        gi_wp2
        have hch3 : Chg [pm, po] W1 (W2.setCell ⟨pm, x, none⟩ (.bool true)) := hch.set_ (.inl (by simp)) _
        have hm3 : Blk (W2.setCell ⟨pm, x, none⟩ (.bool true)) pm 121 (row14 (updB st.met x true)) := by rw [← row14_set]; exact hm'.set_ x _
        have ho3 : Blk (W2.setCell ⟨pm, x, none⟩ (.bool true)) po 144 (row14I st.over) := ho'.far (Ne.symm npp) _
        have hba3 := hba.far (p := ⟨pm, x, none⟩) nap (.bool true)
        have hbr3 := hbr.far (p := ⟨pm, x, none⟩) nrp (.bool true)
        have hk3 := KeepsOthers.setCell W2 ⟨pm, x, none⟩ (.bool true)
        have hP3 : PlAt g len c A x0 x1 M pd pm po pp { st with met := updB st.met x true } (W2.setCell ⟨pm, x, none⟩ (.bool true)) := HP1.out.chg hch3 hm3 ho3
        have hkb3 : KeepB [W.heap.size + 1 + 1, W.heap.size + 1 + 1 + 1, g] W2 (W2.setCell ⟨pm, x, none⟩ (.bool true)) := ((Chg.refl [pm, po] W2).set_ (p := ⟨pm, x, none⟩) (.inl (by simp)) (.bool true)).keepB (fun k hk => ⟨Nat.lt_of_lt_of_le (HKK.out k hk).1 hch.size, (HKK.out k hk).2⟩)
        have HK2 := Lib.hid hch.size
        clear cm cmf hm' ho' hba hbr hch
        generalize W2.setCell ⟨pm, x, none⟩ (.bool true) = W3 at hch3 hm3 ho3 hba3 hbr3 hk3 hP3 hkb3 ⊢
        have co := (ho3.cell x).trans (row14I_at _ _ (by omega))
        have cof := ho3.frozen x
        have ca := hba3.cell 0
        have cr := hbr3.cell 0
        have crf := hbr3.frozen 0
        have cp := hP3.p.cell 0
        simp only [List.getElem?_toArray, List.getElem?_cons_zero, placeFn] at ca cr cp
        have HP3 := Lib.hid hP3
        have HC3 := Lib.hid hch3
        have HM3 := Lib.hid hm3
        have HO3 := Lib.hid ho3
        have HR3 := Lib.hid hbr3
        have HA3 := Lib.hid hba3
        have HK3 := Lib.hid hk3
        have HB3 := Lib.hid hkb3
        clear hP3 hch3 hm3 ho3 hbr3 hba3 hk3 hkb3
        have hove := (HLE.out.over HV.out) x
        generalize hov : st.over x = ov at co hove
        have HOV := Lib.hid hov
        clear hov
        have Fco := fun u => Later.cell co u
        have Fca := fun u => Later.cell ca u
        have Fcr := fun u => Later.cell cr u
        have Fcp := fun u => Later.cell cp u
        have Fcof := fun u => Later.frozen co cof u
        have Fcrf := fun u => Later.frozen cr crf u
        clear co cof ca cr crf cp
        by_cases h1 : ov = -1
        · subst h1
          have hq : ((-1 : Int) == -1) = true := rfl
          refine wpIn_region_later (open_round _ _) (by kernel_rfl) (by kernel_rfl) (by kernel_rfl) ?_
          repeat (go_big_quiet_step ((fail)))
          refine wpQuiet_nil ?_
          intro u
          clear hq
          gi_wp2
          have e : Lp M len f a s (pre ++ [⟨x, hx⟩]) = (true, { met := updB st.met x true, over := updI st.over x a }) := by rw [HST.out]; simp [stepP, stepW, HMX.out, HOV.out]
          have hu := u.below
          refine ⟨((HK3.out.trans (keeps_below hu)).trans ((KeepsOthers.setCell _ _ _).trans (KeepsOthers.setCell _ _ _))).from _, ⟨?_, ?_, ?_, ?_⟩, rfl, by rw [e]⟩
          · exact (((HC3.out.mono (S' := [pm, po, W.heap.size + 1]) (by simp)).later hu).set_ (.inl (by simp)) _).set_ (.inl (by simp)) _
          · rw [e]; exact ((HM3.out.later hu).far (p := ⟨po, x, none⟩) npp _).far (p := ⟨W.heap.size + 1, 0, none⟩) (Ne.symm nrp) _
          · rw [e]; have := (HO3.out.later hu).set_ x (.int .i64 a); rw [row14I_set] at this; exact this.far (p := ⟨W.heap.size + 1, 0, none⟩) (Ne.symm nro) _
          · have := ((HR3.out.later hu).far (p := ⟨po, x, none⟩) nro (.int .i64 a)).set_ 0 (.bool true); exact this
        · have hq : (ov == -1) = false := beq_eq_false_iff_ne.2 h1
          obtain ⟨m, rfl⟩ := Int.eq_ofNat_of_zero_le (show 0 ≤ ov by omega)
          have hmu : unmet (updB st.met x true) < f := by
            have h1 := unmet_upd (m := st.met) (b := x) (by omega) HMX.out
            have h2 := unmet_mono HLE.out.met
            have h3 := HU.out
            omega
          have HMU := Lib.hid hmu
          clear hmu
          refine wpIn_region_later_tail (open_round _ _) 9 (by kernel_rfl) (by kernel_rfl) (by kernel_rfl) ?_
          simp only [List.take_succ_cons, List.take_zero, List.drop_succ_cons, List.drop_zero]
          repeat (go_big_quiet_step ((fail)))
          refine wpQuiet_nil ?_
          intro u
          clear hq
          have hu := u.below
          have HUU := Lib.hid hu
          clear hu
          gi_wp2_with fail
          refine ⟨trivial, rfl, CallsIn.inRound l (callsIn_wide.2 ((IH.out m { st with met := updB st.met x true } u.w (by omega) (HLE.out.over HV.out) HMU.out (HP3.out.later HUU.out)).mono ?_))⟩
          rintro e W4 ⟨rfl, hch4, hm4, ho4⟩
          generalize hres : tryP M len f m { st with met := updB st.met x true } = res at hm4 ho4 ⊢
          obtain ⟨fd, st4⟩ := res
          have ca := ((HA3.out.later HUU.out).cell 0)
          simp only [List.getElem?_toArray, List.getElem?_cons_zero] at ca
          have nalt : W.heap.size < u.w.heap.size := ((HA3.out.later HUU.out)).lt
          have ca4 : W4.cell? ⟨W.heap.size, 0, none⟩ = some (.int .i64 a) := (World.cell?_of_block (a := ⟨W.heap.size, 0, none⟩) (hch4.block _ nalt (by simp [nap, nao]))).trans ca
          have hr4 : Blk W4 (W.heap.size + 1) 4 #[.bool false] := (hch4.block _ (HR3.out.later HUU.out).lt (by simp [nrp, nro])).trans (HR3.out.later HUU.out)
          have cr4 := hr4.cell 0
          have crf4 := hr4.frozen 0
          have co4 := (ho4.cell x).trans (row14I_at _ _ (by omega))
          have cof4 := ho4.frozen x
          simp only [List.getElem?_toArray, List.getElem?_cons_zero] at cr4
          clear ca
          have HRES := Lib.hid hres
          have HM4 := Lib.hid hm4
          have HO4 := Lib.hid ho4
          have HC4 := Lib.hid hch4
          have HR4 := Lib.hid hr4
          clear hres hm4 ho4 hch4 hr4
          cases fd
          · gi_wp2
            have e : Lp M len f a s (pre ++ [⟨x, hx⟩]) = (false, st4) := by rw [HST.out]; simp [stepP, stepW, HMX.out, HOV.out, h1, HRES.out]
            refine ⟨((HK3.out.trans (keeps_below HUU.out)).trans (keeps_chg HC4.out ((HP3.out.later HUU.out)).m ((HP3.out.later HUU.out)).o)).from _, (HB3.out.t ((Chg.of_below (S := []) HUU.out).keepB (fun k hk => ⟨Nat.lt_of_lt_of_le (HKK.out k hk).1 HC3.out.size, by simp⟩))).t (HC4.out.keepB (fun k hk => ⟨Nat.lt_of_lt_of_le (Nat.lt_of_lt_of_le (HKK.out k hk).1 HC3.out.size) HUU.out.size, (HKK.out k hk).2⟩)), ⟨?_, ?_, ?_⟩, by rw [e]⟩
            · exact (HC3.out.later HUU.out).trans HC4.out
            · rw [e]; exact HM4.out
            · rw [e]; exact HO4.out
          · gi_wp2
            have e : Lp M len f a s (pre ++ [⟨x, hx⟩]) = (true, { st4 with over := updI st4.over x a }) := by rw [HST.out]; simp [stepP, stepW, HMX.out, HOV.out, h1, HRES.out]
            refine ⟨(((HK3.out.trans (keeps_below HUU.out)).trans (keeps_chg HC4.out ((HP3.out.later HUU.out)).m ((HP3.out.later HUU.out)).o)).trans ((KeepsOthers.setCell _ _ _).trans (KeepsOthers.setCell _ _ _))).from _, ⟨?_, ?_, ?_, ?_⟩, rfl, by rw [e]⟩
            · exact ((((HC3.out.later HUU.out).trans HC4.out).mono (S' := [pm, po, W.heap.size + 1]) (by simp)).set_ (.inl (by simp)) _).set_ (.inl (by simp)) _
            · rw [e]; exact (HM4.out.far (p := ⟨po, x, none⟩) npp _).far (p := ⟨W.heap.size + 1, 0, none⟩) (Ne.symm nrp) _
            · rw [e]; have := HO4.out.set_ x (.int .i64 a); rw [row14I_set] at this; exact this.far (p := ⟨W.heap.size + 1, 0, none⟩) (Ne.symm nro) _
            · have := (HR4.out.far (p := ⟨po, x, none⟩) nro (.int .i64 a)).set_ 0 (.bool true); exact this
      · have HMX := Lib.hid hmx
        rw [hmx] at cm
        clear hmx hm ho
        have HM := Lib.hid hm'
        have HO := Lib.hid ho'
        gi_wp2
        have e : Lp M len f a s (pre ++ [⟨x, hx⟩]) = (false, st) := by rw [HST.out]; simp [stepP, stepW, HMX.out]
        refine ⟨(KeepsOthers.refl _).from _, fun _ _ => rfl, ⟨hch, ?_, ?_⟩, ?_⟩
        · rw [e]; exact HM.out
        · rw [e]; exact HO.out
        · rw [e]
    case done =>
      rintro D xs W2 hD rfl ⟨⟨hch, hm, ho⟩, hno⟩ hK
      have hbr : Blk W2 (W.heap.size + 1) 4 #[.bool false] := (hch.block _ HBR.out.lt (by simp [nrp, nro])).trans HBR.out
      have cr := hbr.cell 0
      have crf := hbr.frozen 0
      simp only [List.getElem?_toArray, List.getElem?_cons_zero] at cr
      have hnD : W.heap.size + 1 ≠ D := by have := HBR.out.lt; omega
      have hmk : Marks [D] W.heap.size (W2.setCell ⟨W.heap.size + 1, 0, none⟩ (.bool false)) :=
        ⟨by simp, fun D' h => by rw [List.mem_singleton.1 h]; have := hbw.size; omega, fun D' h => by rw [List.mem_singleton.1 h]; exact (Below.heap_setCell W2 ⟨W.heap.size + 1, 0, none⟩ _ D (Ne.symm hnD)).trans hK⟩
      have hr2 := hbr.set_ 0 (.bool false)
      have hm2 : Blk (W2.setCell ⟨W.heap.size + 1, 0, none⟩ (.bool false)) pm 121 _ := Blk.far (p := ⟨W.heap.size + 1, 0, none⟩) hm (Ne.symm nrp) _
      have ho2 : Blk (W2.setCell ⟨W.heap.size + 1, 0, none⟩ (.bool false)) po 144 _ := Blk.far (p := ⟨W.heap.size + 1, 0, none⟩) ho (Ne.symm nro) _
      rw [Lp_all] at hm2 ho2 hno
      have hcf : Chg [pm, po, W.heap.size + 1] W1 (W2.setCell ⟨W.heap.size + 1, 0, none⟩ (.bool false)) := (hch.mono (S' := [pm, po, W.heap.size + 1]) (by simp)).set_ (.inl (by simp)) _
      have HM2 := Lib.hid hm2
      have HO2 := Lib.hid ho2
      have HNO := Lib.hid hno
      have HR2 := Lib.hid hr2
      have HMK := Lib.hid hmk
      have HCF := Lib.hid hcf
      clear hm2 ho2 hno hr2 hmk hm ho hch hbr hcf hK
      go_wp2
      refine HMK.out.leaves (Ds := [D]) fun w' hw' => ?_
      have fin := place_end hw' hbw HCF.out HMK.out HP.out.m HP.out.o HM2.out HO2.out HR2.out
      have hrc := fin.2.2.2.cell 0
      simp only [List.getElem?_toArray, List.setIfInBounds_toArray, List.set_cons_zero, List.getElem?_cons_zero] at hrc
      refine ⟨.bool false, by simp [results, Try.results98, go_sem, hrc], by rw [HNO.out], fin.1, fin.2.1, fin.2.2.1⟩
    case stop =>
      rintro D cd pre W2 hD hSp ⟨⟨hch, hm, ho, hr⟩, rfl, hyes⟩ hK
      have hmk : Marks [D] W.heap.size W2 := ⟨by simp, fun D' h => by rw [List.mem_singleton.1 h]; have := hbw.size; omega, fun D' h => by rw [List.mem_singleton.1 h]; exact hK⟩
      have e := Lp_found M len f a s pre hSp hyes
      refine wpIn_wide.2 ?_
      have HM2 : Hid (Blk W2 pm 121 (row14 (tryP M len (f + 1) a s).2.met)) := Lib.hid (by rw [e]; exact hm)
      have HO2 : Hid (Blk W2 po 144 (row14I (tryP M len (f + 1) a s).2.over)) := Lib.hid (by rw [e]; exact ho)
      have HYES : Hid ((tryP M len (f + 1) a s).1 = true) := Lib.hid (by rw [e]; exact hyes)
      have HR2 : Hid (Blk W2 (W.heap.size + 1) 4 #[.bool true]) := Lib.hid hr
      have HMK := Lib.hid hmk
      have HCF := Lib.hid hch
      clear hm ho hr hyes hmk hch hK e
      go_wp2
      refine HMK.out.leaves (Ds := [D]) fun w' hw' => ?_
      have fin := place_end hw' hbw HCF.out HMK.out HP.out.m HP.out.o HM2.out HO2.out HR2.out
      have hrc := fin.2.2.2.cell 0
      simp only [List.getElem?_toArray, List.getElem?_cons_zero] at hrc
      refine ⟨.bool true, by simp [results, Try.results98, go_sem, hrc], by rw [HYES.out], fin.1, fin.2.1, fin.2.2.1⟩
end Go.Proofs.Ytjihnnbpfdhceaa
