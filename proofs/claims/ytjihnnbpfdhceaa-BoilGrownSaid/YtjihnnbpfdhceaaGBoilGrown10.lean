/- slices.SortFunc of pairs by their A. Conditions: at most 1000 pairs, of small numbers. -/
import Derived.Test.YtjihnnbpfdhceaaGBoilGrown8
import Derived.Test.YtjihnnbpfdhceaaGBoilGrown9
set_option linter.unusedSimpArgs false
set_option linter.unusedVariables false
namespace Go.Proofs.Ytjihnnbpfdhceaa
open Go.RowKit Go.Shelf Go.Sort

/-- Pairs of small numbers. -/
structure SP where
  a : Int
  b : Int
  lo : 0 ≤ a
  hi : a ≤ 1000
instance : Inhabited SP := ⟨⟨0, 0, by decide, by decide⟩⟩
def SP.enc (x : SP) : List Value := [.int .i64 x.a, .int .i64 x.b]
def SP.cmp (x y : SP) : Int := x.a - y.a

theorem lt_cmp (x y : SP) : ltOf SP.cmp x y = decide (x.a < y.a) := by
  unfold ltOf SP.cmp
  rw [Bool.eq_iff_iff, decide_eq_true_iff, decide_eq_true_iff]
  omega
theorem cmp_swo : SWO (ltOf SP.cmp) where
  irrefl x := by rw [lt_cmp]; simp
  trans x y z h1 h2 := by rw [lt_cmp] at *; simp only [decide_eq_true_iff] at *; omega
  ntrans x y z h1 h2 := by rw [lt_cmp] at *; simp only [decide_eq_false_iff_not] at *; omega

set_option maxHeartbeats 400000 in
theorem cmp_any (x y : SP) (W : World) : Calls Try.prog 100 #[.agg #[.int .i64 x.a, .int .i64 x.b], .agg #[.int .i64 y.a, .int .i64 y.b]] W fun e w' => e = .returned (.int .i64 (SP.cmp x y)) ∧ ∃ q os', w' = grow (W.drewN q) os' := by
  obtain ⟨a, b, h1, h2⟩ := x
  obtain ⟨c, d, h3, h4⟩ := y
  go_enter Try.func100, Try.ntmps100
  go_wp2
  go_ret
  exact ⟨rfl, 0, _, by rw [alloc_eq_grow, alloc_eq_grow, grow_grow]; rfl⟩

theorem sortWorld_chg {enc : SP → List Value} {k : Nat} {w : World} {g m : Nat} {d : Array SP} {os : Array Obj} : Chg [g] w (sortWorldK enc k w g 0 m d os) := by
  refine ⟨rfl, rfl, rfl, ?_, fun k' hk hn => ?_⟩
  · unfold sortWorldK; rw [size_grow, size_putRowK]; show w.heap.size ≤ w.heap.size + os.size; omega
  · unfold sortWorldK grow putRowK putRow mapBlock
    show ((Sort.ahead w m).heap.modify g _ ++ os)[k']? = w.heap[k']?
    rw [Array.getElem?_append_left (by simp; exact hk), Array.getElem?_modify, if_neg (by intro e; exact hn (by simp [e]))]
    rfl

set_option maxHeartbeats 1000000 in
theorem sortPairs_any (g cap : Nat) (d : Array SP) (w : World) (hg : g < w.heap.size) (hH : HoldsK SP.enc 2 w g 0 d) (hsz : d.size ≤ 1000) :
    Calls Try.prog 99 #[.slice (some ⟨g, 0, none⟩) d.size cap, .func (.func 100) #[] #[]] w fun e w' => e = .returned (.tuple #[]) ∧ ∃ d' : Array SP, d'.size = d.size ∧ d'.toList.Perm d.toList ∧
      (∀ i j, i < j → j < d'.size → d'[i]!.a ≤ d'[j]!.a) ∧ Chg [g] w w' ∧ HoldsK SP.enc 2 w' g 0 d' := by
  have eg := enters_of Try.func100 (by kernel_rfl) rfl
  have hcon := AnyQ.slices_SortFunc sortPairs 2 Try.isAgg36 Try.sizeOf36 SP.enc (fun _ => rfl) (fun x v hv => by simp [SP.enc] at hv; rcases hv with rfl | rfl <;> rfl) SP.cmp cmp_swo 100 #[] g 0 cap d w eg
    (fun m os dk _ x y => cmp_any x y _) hH hg (by omega)
  change Calls Try.prog 99 _ _ _ at hcon
  refine hcon.mono fun e w' ⟨he, d', m, os, ⟨hs, _, hperm⟩, hsort, hw⟩ => ⟨he, d', hs, ?_, ?_, ?_, ?_⟩
  · have e1 : d'.extract 0 d.size = d' := by rw [← hs]; simp
    have e2 : d.extract 0 d.size = d := by simp
    rw [e1, e2] at hperm
    exact hperm
  · intro i j hij hj
    have := hsort i j (Nat.zero_le _) hij (by omega)
    rw [lt_cmp] at this
    simp only [decide_eq_false_iff_not] at this
    omega
  · rw [hw]; exact sortWorld_chg
  · rw [hw]; exact holdsK_sortWorldK_c SP.enc 2 w g 0 d d' m os hH hg hs

def pairEnc (p : Int × Int) : List Value := [.int .i64 p.1, .int .i64 p.2]
def flatP (l : List (Int × Int)) : List Value := l.flatMap fun p => [.int .i64 p.1, .int .i64 p.2]
def toSP (p : Int × Int) : SP := if h : 0 ≤ p.1 ∧ p.1 ≤ 1000 then ⟨p.1, p.2, h.1, h.2⟩ else default
theorem toSP_of {p : Int × Int} (h : 0 ≤ p.1 ∧ p.1 ≤ 1000) : ((toSP p).a, (toSP p).b) = p := by unfold toSP; rw [dif_pos h]
theorem flatP_get (l : List (Int × Int)) : ∀ (i : Nat) (h : i < l.length), (flatP l)[i * 2]? = some (.int .i64 l[i].1) ∧ (flatP l)[i * 2 + 1]? = some (.int .i64 l[i].2) := by
  induction l with
  | nil => intro i h; simp at h
  | cons p l ih =>
    intro i h
    cases i with
    | zero => exact ⟨rfl, rfl⟩
    | succ i =>
      have := ih i (by simpa using h)
      have e : flatP (p :: l) = .int .i64 p.1 :: .int .i64 p.2 :: flatP l := rfl
      rw [e, show (i + 1) * 2 = (i * 2 + 1) + 1 by omega]
      simp only [List.getElem?_cons_succ, List.getElem_cons_succ]
      exact this
theorem holds_of_own {w : World} {base g n cap : Nat} {e : TypeId} {l : List (Int × Int)} (h : w.ownsRow base e 2 (.slice (some ⟨g, 0, none⟩) n cap) n (flatP l)) (hn : n = l.length) (hl : ∀ p ∈ l, 0 ≤ p.1 ∧ p.1 ≤ 1000) : HoldsK SP.enc 2 w g 0 (l.map toSP).toArray := by
  intro j hj
  rw [size_flatK] at hj
  have hj' : j < l.length * 2 := by simpa using hj
  rw [get_flatK _ _ _ _ hj, Nat.zero_add]
  refine ⟨?_, h.frozenAt j⟩
  have hc := h.cellAt j (by omega)
  rw [hc]
  have hi : j / 2 < l.length := by omega
  obtain ⟨h0, h1⟩ := flatP_get l (j / 2) hi
  have ed : ((l.map toSP).toArray)[j / 2]! = toSP l[j / 2] := by
    rw [getElem!_pos _ _ (by simpa using hi)]; simp
  rw [ed]
  have ep := toSP_of (hl _ (List.getElem_mem hi))
  have e1 : (toSP l[j / 2]).a = l[j / 2].1 := by rw [← congrArg Prod.fst ep]
  have e2 : (toSP l[j / 2]).b = l[j / 2].2 := by rw [← congrArg Prod.snd ep]
  generalize toSP l[j / 2] = y at e1 e2 ⊢
  generalize l[j / 2] = z at e1 e2 h0 h1
  rcases Nat.mod_two_eq_zero_or_one j with hm | hm
  · have ej : j / 2 * 2 = j := by omega
    rw [ej] at h0
    rw [hm, h0]
    simp [SP.enc, e1]
  · have ej : j / 2 * 2 + 1 = j := by omega
    rw [ej] at h1
    rw [hm, h1]
    simp [SP.enc, e2]
theorem row_of_holds {w : World} {g : Nat} {d : Array SP} (h : HoldsK SP.enc 2 w g 0 d) (hg : g < w.heap.size) : RowIn pairEnc 2 w w.heap.size (some ⟨g, 0, none⟩) (d.toList.map fun x => (x.a, x.b)) := by
  intro i hi
  have hi' : i < d.size := by simpa using hi
  refine ⟨g, 0, rfl, hg, fun j v hv => ?_⟩
  have hlt : j < 2 := by
    have := (List.getElem?_eq_some_iff.1 hv).1
    exact this
  have hc := (HoldsK.cell h hi' hlt).1
  rw [getElem!_pos d i hi'] at hc
  rw [hc, ← hv]
  rcases (show j = 0 ∨ j = 1 by omega) with rfl | rfl <;> simp [pairEnc, SP.enc]
end Go.Proofs.Ytjihnnbpfdhceaa
