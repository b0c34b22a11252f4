/- boil.lowers, boil.greatest, slices.MinFunc of ratios. Conditions: none beyond those that each theorem names. -/
import Derived.Test.YtjihnnbpfdhceaaA18
set_option linter.unusedSimpArgs false
set_option linter.unusedVariables false
namespace Go.Proofs.Ytjihnnbpfdhceaa
open Go.RowKit Go.Shelf
attribute [local go_sem] Oper.semAt_some

theorem flat_get {α : Type} (enc : α → List Value) (k : Nat) (hk : ∀ x, (enc x).length = k) (l : List α) : ∀ (i : Nat) (hi : i < l.length) (j : Nat), j < k → (l.flatMap enc)[i * k + j]? = (enc l[i])[j]? := by
  induction l with
  | nil => intro i hi; simp at hi
  | cons x l ih =>
    intro i hi j hj
    rw [List.flatMap_cons]
    cases i with
    | zero =>
      rw [Nat.zero_mul, Nat.zero_add, List.getElem?_append_left (by rw [hk]; exact hj)]
      rfl
    | succ i =>
      rw [List.getElem?_append_right (by rw [hk, Nat.succ_mul]; omega), hk, show (i + 1) * k + j - k = i * k + j by rw [Nat.succ_mul]; omega]
      exact ih i (by simpa using hi) j hj
theorem flat_len {α : Type} (enc : α → List Value) (k : Nat) (hk : ∀ x, (enc x).length = k) (l : List α) : (l.flatMap enc).length = l.length * k := by
  induction l with
  | nil => simp
  | cons x l ih => rw [List.flatMap_cons, List.length_append, hk, ih, List.length_cons, Nat.succ_mul]; omega
/-- A row of one's own reads as a list. -/
theorem row_of_own {α : Type} (enc : α → List Value) (k : Nat) (hk : ∀ x, (enc x).length = k) {W : World} {base : Nat} {e : TypeId} {v : Value} {l : List α} (h : W.ownsRow base e k v l.length (l.flatMap enc)) :
    ∃ (ao : Option Addr) (cap : Nat), v = .slice ao l.length cap ∧ RowIn enc k W W.heap.size ao l ∧ l.length ≤ cap ∧ ∀ a, ao = some a → base ≤ a.block := by
  rcases h.2 with ⟨rfl, hn⟩ | ⟨g, cap, cur, rfl, hg, hh, r⟩
  · have : l = [] := List.eq_nil_of_length_eq_zero hn
    subst this
    exact ⟨none, 0, rfl, RowIn.nil, Nat.le_refl _, fun _ h => by cases h⟩
  · refine ⟨_, _, rfl, fun i hi => ⟨g, 0, rfl, (Array.getElem?_eq_some_iff.1 hh).1, fun j u hu => ?_⟩, r.1, fun a ha => by cases ha; exact hg⟩
    have hj : j < k := by
      have := (List.getElem?_eq_some_iff.1 hu).1
      rwa [hk] at this
    have := h.cells (g := g) rfl (i * k + j) u (by rw [flat_get enc k hk l i hi j hj]; exact hu)
    rw [addr_add0] at this
    rw [Nat.zero_add]
    exact this
theorem RowIn.tail_ {α : Type} {enc : α → List Value} {k B b o : Nat} {w : World} {a : α} {l : List α} (h : RowIn enc k w B (some ⟨b, o, none⟩) (a :: l)) : RowIn enc k w B (some ⟨b, o + k, none⟩) l := fun i hi => by
  obtain ⟨b', o', hA, hb, hc⟩ := h (i + 1) (by simpa using hi)
  injection hA with hA
  injection hA with h1 h2
  subst h1
  subst h2
  refine ⟨b, o + k, rfl, hb, fun j v hv => ?_⟩
  have := hc j v (by simpa using hv)
  rw [show o + (i + 1) * k + j = o + k + i * k + j by rw [Nat.succ_mul]; omega] at this
  exact this
theorem rat_len (r : Rat2) : r.enc.length = 2 := rfl
theorem wg_len (x : Wg) : x.enc.length = 5 := rfl
theorem info_ratio : (Try.prog.info? 43).map (fun i => (i.zero, i.size, i.bytes)) = some (some (.agg #[.int .i64 0, .int .i64 0]), 2, 16) := by kernel_rfl

/-- The least ratios of the weighings of months that lie under one, of the first k weighings. -/
def Hs.lowersTo (h : Hs) (m : Int) (k : Nat) : List Rat2 := ((h.ws.take k).filter fun x => h.under x.month m).map Wg.least
def Hs.lowers (h : Hs) (m : Int) : List Rat2 := (h.ws.filter fun x => h.under x.month m).map Wg.least
theorem Hs.lowersTo_all (h : Hs) (m : Int) : h.lowersTo m h.ws.length = h.lowers m := by unfold Hs.lowersTo Hs.lowers; rw [List.take_length]
theorem Hs.lowersTo_yes (h : Hs) (m : Int) (k : Nat) (hk : k < h.ws.length) (x : Wg) (hx : h.ws[k] = x) (hu : h.under x.month m = true) : h.lowersTo m (k + 1) = h.lowersTo m k ++ [x.least] := by
  unfold Hs.lowersTo
  rw [List.take_succ_eq_append_getElem hk, List.filter_append, List.map_append, hx]
  simp [hu]
theorem Hs.lowersTo_no (h : Hs) (m : Int) (k : Nat) (hk : k < h.ws.length) (x : Wg) (hx : h.ws[k] = x) (hu : h.under x.month m = false) : h.lowersTo m (k + 1) = h.lowersTo m k := by
  unfold Hs.lowersTo
  rw [List.take_succ_eq_append_getElem hk, List.filter_append, List.map_append, hx]
  simp [hu]
theorem Hs.lowersTo_len (h : Hs) (m : Int) (k : Nat) : (h.lowersTo m k).length ≤ k := by
  unfold Hs.lowersTo
  rw [List.length_map]
  have := List.length_filter_le (fun x => h.under x.month m) (h.ws.take k)
  rw [List.length_take] at this
  omega
def flatR (l : List Rat2) : List Value := l.flatMap Rat2.enc
theorem flatR_snoc (l : List Rat2) (r : Rat2) : flatR (l ++ [r]) = flatR l ++ [.int .i64 r.num, .int .i64 r.den] := by unfold flatR; rw [List.flatMap_append]; rfl

set_option maxRecDepth 100000 in
set_option maxHeartbeats 1000000 in
theorem lowers_any (h : Hs) (A : Option Addr) (c : Nat) (m : Int) (w : World) (hr : RowIn Wg.enc 5 w w.heap.size A h.ws) (hk : h.check = 0) :
    Calls Try.prog 53 #[h.val A c, .int .i64 m] w fun e w' => ∃ v, e = .returned v ∧ w'.ownsRow w.heap.size 43 2 v (h.lowers m).length (flatR (h.lowers m)) ∧ Below w.heap.size w w' := by
  obtain ⟨i0, hi0, hz0, hz1, hz2⟩ := info_parts info_ratio
  have hlen := check_len hk
  have HOK := Lib.hid (check_ok hk)
  have HR := Lib.hid hr
  clear hr hk
  unfold Hs.val
  go_enter Try.func53, Try.ntmps53
  go_wp2
  have hb1 : Below w.heap.size w (w.alloc (.cells #[.int .i64 h.months, .int .i64 h.peak, .slice A h.ws.length c] 25)) := by repeat (first | exact Below.refl _ _ | exact Below.refl _ _ | refine Below.drew ?_ | refine below_drewN ?_ _ | refine Below.setCell ?_ (by first | assumption | omega | (simp; done) | (simp; omega) | (simp at *; omega)) _ | refine Below.alloc ?_ (by first | assumption | omega | (simp; done) | (simp; omega) | (simp at *; omega)) _ | refine Below.trans ?_ (Below.mono Below.refl _ _ (by first | assumption | omega | (simp; done) | (simp; omega) | (simp at *; omega))))
  have hho : Blk (w.alloc (.cells #[.int .i64 h.months, .int .i64 h.peak, .slice A h.ws.length c] 25)) w.heap.size 25 #[.int .i64 h.months, .int .i64 h.peak, .slice A h.ws.length c] := Blk.new _ _ _
  have hzw : (w.alloc (.cells #[.int .i64 h.months, .int .i64 h.peak, .slice A h.ws.length c] 25)).heap.size = w.heap.size + 1 := by simp
  generalize w.alloc (.cells #[.int .i64 h.months, .int .i64 h.peak, .slice A h.ws.length c] 25) = w1 at hb1 hho hzw ⊢
  have HH := Lib.hid hho
  have hb0 : Below w1.heap.size w1 w1 := Below.refl _ _
  clear hho
  go_loopw [5, 11] (fun v i wr => ∃ k : Nat, k ≤ h.ws.length ∧ i = .int .i64 k ∧ Below w1.heap.size w1 wr ∧ wr.ownsRow w1.heap.size 43 2 v (h.lowersTo m k).length (flatR (h.lowersTo m k))) (fun _ i _ => h.ws.length - (intOf i).toNat)
  case atStart => exact ⟨0, by omega, rfl, hb0, World.ownsRow_nil _ _ _ 2⟩
  case round =>
    clear hb0
    obtain ⟨k, hk, rfl, hB, hOw⟩ := hrel
    by_cases hlt : k < h.ws.length
    · have hB' : Below w.heap.size w wr := hb1.trans (hB.mono (by omega))
      obtain ⟨b0, o0, x, rfl, hB0, hx, x0, x1, x2, x3, x4⟩ := (HR.out.below hB').wg k hlt
      have hB1 : b0 < wr.heap.size := Nat.lt_of_lt_of_le hB0 hB'.size
      have HX := Lib.hid hx
      have hho := HH.out.later hB
      have c0 := hho.cell 0
      have c1 := hho.cell 1
      have c2 := hho.cell 2
      simp only [List.getElem?_toArray, List.getElem?_cons_zero, List.getElem?_cons_succ] at c0 c1 c2
      have hlk := h.lowersTo_len m k
      have HZ := hB.size
      have hwl := hho.lt
      have HU := Lib.hid (fun V => under_any h (some ⟨b0, o0, none⟩) c x.month m V)
      have HLE := Lib.hid (fun V => least_any x (by rw [← HX.out]; exact HOK.out _ (List.getElem_mem _)) V)
      clear hx hho hB'
      go_wp2_with fail
      refine (HU.out _).mono ?_
      rintro e w4 ⟨rfl, hb4⟩
      have hz4 := hb4.size
      simp only [World.size_alloc] at hz4
      have hB5 : Below wr.heap.size wr w4 := ((Below.refl _ _).alloc (Nat.le_refl _) _).trans (hb4.mono (by simp))
      have hB4 : Below w1.heap.size w1 w4 := hB.trans (hB5.mono HZ)
      have hv4 : Blk w4 wr.heap.size 55 #[.int .i64 x.month, .int .i64 x.slo, .int .i64 x.shi, .int .i64 x.mlo, .int .i64 x.mhi] := (Blk.new wr 55 _).later hb4
      have v0 := hv4.cell 0
      have v1 := hv4.cell 1
      have v2 := hv4.cell 2
      have v3 := hv4.cell 3
      have v4 := hv4.cell 4
      simp only [List.getElem?_toArray, List.getElem?_cons_zero, List.getElem?_cons_succ] at v0 v1 v2 v3 v4
      have hOw4 := ownsRow_keep hOw hB5
      have HZ4 := hB4.size
      clear hOw hv4 x0 x1 x2 x3 x4 c0 c1 c2 hb4
      cases hu : h.under x.month m
      · have HP := Lib.hid (h.lowersTo_no m k hlt x HX.out hu)
        have HOw := Lib.hid hOw4
        clear hu hOw4
        go_wp2
        go_roundw
        case rel => exact ⟨k + 1, by omega, by go_num, hB4, by rw [HP.out]; exact HOw.out⟩
        case measure => simp [intOf]; omega
      · have HP := Lib.hid (h.lowersTo_yes m k hlt x HX.out hu)
        have HOw := Lib.hid hOw4
        clear hu hOw4
        go_wp2_with fail
        refine (HLE.out _).mono ?_
        rintro e w5 ⟨rfl, hb5⟩
        have hB6 : Below w1.heap.size w1 w5 := hB4.trans (hb5.mono HZ4)
        have hOw5 := ownsRow_keep HOw.out hb5
        have HZ5 := hB6.size
        clear v0 v1 v2 v3 v4 hb5 HOw
        unfold Rat2.val
        go_wp2_with (at_builtin; refine wpList_append_own _ rfl _ _ 26 rfl w1.heap.size 43 i0 _ 2 16 Try.underlying26 hi0 hz0 hz1 hz2 rfl (by decide) _ _ _ rfl (hOw5.alloc _) ⟨w5.heap.size, 0, none⟩ 1 1 [.int .i64 x.least.num, .int .i64 x.least.den] rfl rfl ?c1 ?c2 ?c3 ?c4 ?c5 ?_)
        case c1 => exact World.news_of_block (cs := #[.int .i64 x.least.num, .int .i64 x.least.den]) (t := 43) (fr := (0, 0)) (heap_alloc_new w5 _)
        case c2 => simp [Value.oneCell']
        case c3 => unfold maxLen; omega
        case c4 => omega
        case c5 => simp; omega
        intro v' wn hown' hgrow _
        have hBn : Below w1.heap.size w1 wn := (hB6.alloc HZ5 _).grown hgrow (by simp; omega) (fun g hg => (hOw5.lt g hg).1)
        have HOw := Lib.hid hown'
        clear hown' hgrow hOw5
        go_wp2
        go_roundw
        case rel => exact ⟨k + 1, by omega, by go_num, hBn, by rw [HP.out, flatR_snoc, List.length_append, hzw]; exact HOw.out⟩
        case measure => simp [intOf]; omega
    · obtain rfl : k = h.ws.length := by omega
      rw [Hs.lowersTo_all] at hOw
      have HOw := Lib.hid hOw
      clear hOw
      go_wp2
      go_ret
      exact ⟨_, rfl, ownsRow_base' HOw.out (by omega), hb1.trans (hB.mono (by omega))⟩
end Go.Proofs.Ytjihnnbpfdhceaa
