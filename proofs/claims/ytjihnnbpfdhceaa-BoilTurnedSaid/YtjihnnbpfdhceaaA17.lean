/- boil.Trusted. Conditions: none beyond those that each theorem names. -/
import Derived.Test.YtjihnnbpfdhceaaA16
set_option linter.unusedSimpArgs false
set_option linter.unusedVariables false
namespace Go.Proofs.Ytjihnnbpfdhceaa
open Go.RowKit Go.Shelf
attribute [local go_sem] Oper.semAt_some
attribute [local go_sem ↓] Go.wp_at_zero Go.wp_at_succ

/-- The watch of boil.Trusted marks each weighing of each set, and goes on. -/
def orL (s : Nat → Bool) (l : List Nat) : Nat → Bool := fun n => s n || decide (n ∈ l)
def stepT (l : List Nat) (s : Nat → Bool) : Bool × (Nat → Bool) := (true, orL s l)
theorem orL_snoc (s : Nat → Bool) (l : List Nat) (i : Nat) (hi : i < l.length) : updB (orL s (l.take i)) l[i] true = orL s (l.take (i + 1)) := by
  have hm : ∀ n, n ∈ l.take (i + 1) ↔ (n ∈ l.take i ∨ n = l[i]) := by
    intro n
    rw [List.take_succ_eq_append_getElem hi, List.mem_append, List.mem_singleton]
  funext n
  unfold updB orL
  by_cases h : n = l[i]
  · rw [if_pos h, decide_eq_true ((hm n).2 (.inr h)), Bool.or_true]
  · rw [if_neg h]
    congr 1
    exact decide_eq_decide.2 ⟨fun x => (hm n).2 (.inl x), fun x => ((hm n).1 x).resolve_right h⟩
theorem orL_nil (s : Nat → Bool) : orL s [] = s := by funext n; simp [orL]
theorem addr_add0 (g i : Nat) : (⟨g, 0, none⟩ : Addr).add i = ⟨g, i, none⟩ := by unfold Addr.add; split <;> simp_all

theorem ownsRow_nth {W : World} {B : Nat} {e : TypeId} {v : Value} {l : List Nat} (h : W.ownsRow B e 1 v l.length (intsV l)) :
    ∃ (ao : Option Addr) (cap : Nat), v = .slice ao l.length cap ∧ ∀ i (hi : i < l.length), ∃ g, ao = some ⟨g, 0, none⟩ ∧ B ≤ g ∧ g < W.heap.size ∧ W.cell? ⟨g, i, none⟩ = some (.int .i64 (l[i] : Nat)) := by
  rcases h.2 with ⟨rfl, hn⟩ | ⟨g, cap, cur, rfl, hg, hh, r⟩
  · exact ⟨none, 0, by rw [hn], fun i hi => by omega⟩
  · refine ⟨_, _, rfl, fun i hi => ⟨g, rfl, hg, (Array.getElem?_eq_some_iff.1 hh).1, ?_⟩⟩
    have := h.cells (g := g) rfl i (.int .i64 (l[i] : Nat)) (by simp [intsV, hi])
    rwa [addr_add0] at this

set_option maxRecDepth 100000 in
set_option maxHeartbeats 1000000 in
theorem watch_trusted (wb B : Nat) (hwB : wb < B) : WatchOk 68 #[.pointer (some ⟨wb, 0, none⟩)] wb B 121 row14 stepT (fun _ _ => True) := by
  intro l s v W hl hx hwb hown hBW
  obtain ⟨ao, cap, rfl, hc⟩ := ownsRow_nth hown
  have HW := Lib.hid hwb
  have HC := Lib.hid hc
  rw [show ∀ a b : Value, (#[a] ++ #[b] : Array Value) = #[a, b] from fun _ _ => rfl]
  clear hwb hown hc
  go_enter Try.func68, Try.ntmps68
  go_wp2
  go_loopw [8] (fun i wr => ∃ k : Nat, k ≤ l.length ∧ i = .int .i64 k ∧ Chg [wb] W wr ∧ Blk wr wb 121 (row14 (orL s (l.take k)))) (fun i _ => l.length - (intOf i).toNat)
  case atStart => exact ⟨0, Nat.zero_le _, rfl, Chg.refl _ _, by rw [List.take_zero, orL_nil]; exact HW.out⟩
  case round =>
    obtain ⟨k, hk, rfl, hch, hb⟩ := hrel
    by_cases hlt : k < l.length
    · obtain ⟨g, rfl, hg, hgl, ck⟩ := HC.out k hlt
      have hgw : g ≠ wb := by omega
      have hx14 : l[k] < 14 := hx _ (List.getElem_mem hlt)
      have ck2 : wr.cell? ⟨g, k, none⟩ = some (.int .i64 (l[k] : Nat)) := (World.cell?_of_block (a := ⟨g, k, none⟩) (hch.block g hgl (by simp [hgw]))).trans ck
      have HS := Lib.hid (orL_snoc s l k hlt)
      generalize l[k] = x at hx14 ck2 HS
      have hx14' : (x : Int) < 14 := by omega
      have cx := (hb.cell x).trans (row14_at _ _ (by omega))
      have fx := hb.frozen x
      have HB := Lib.hid hb
      have HCH := Lib.hid hch
      clear hb hch ck
      go_wp2
      go_roundw
      case rel =>
        refine ⟨k + 1, by omega, by go_num, HCH.out.set_ (.inl (by simp)) _, ?_⟩
        have := HB.out.set_ x (.bool true)
        rw [row14_set, HS.out] at this
        exact this
      case measure => simp [intOf]; omega
    · obtain rfl : k = l.length := by omega
      rw [List.take_length] at hb
      have HB := Lib.hid hb
      have HCH := Lib.hid hch
      clear hb hch
      go_wp2
      go_ret
      exact ⟨rfl, HCH.out, fun _ => HB.out, fun _ => trivial⟩

theorem runW_true {σ : Type} (M : Nat → Nat → Bool) (len : Nat) (step : List Nat → σ → Bool × σ) (h : ∀ l s, (step l s).1 = true) (L : List (List Nat)) (s : σ) : (runW (leafW M len step) L s).1 = true := by
  induction L generalizing s with
  | nil => rfl
  | cons l L ih =>
    unfold runW
    have : (leafW M len step l s).1 = true := by
      unfold leafW
      cases clashesB M len (inL l)
      · exact h l s
      · rfl
    rw [this]
    exact ih _
/-- Which weighings are in some smallest set. -/
def doubtB (M : Nat → Nat → Bool) (len : Nat) : Nat → Bool := (seen M len stepT (fun _ => false)).2
def keepTo (d : Nat → Bool) (n : Nat) : List Nat := (List.range n).filter fun i => !d i
theorem keepTo_no (d : Nat → Bool) (n : Nat) (h : d n = true) : keepTo d (n + 1) = keepTo d n := by
  unfold keepTo; rw [List.range_succ, List.filter_append]; simp [h]
theorem keepTo_yes (d : Nat → Bool) (n : Nat) (h : d n = false) : keepTo d (n + 1) = keepTo d n ++ [n] := by
  unfold keepTo; rw [List.range_succ, List.filter_append]; simp [h]
theorem keepTo_len (d : Nat → Bool) (n : Nat) : (keepTo d n).length ≤ n := by
  unfold keepTo
  have := List.length_filter_le (fun i => !d i) (List.range n)
  simpa using this
/-- boil.Trusted's answer. -/
def trustL (M : Nat → Nat → Bool) (len : Nat) : List Nat := keepTo (doubtB M len) len

set_option maxRecDepth 100000 in
set_option maxHeartbeats 1000000 in
theorem trusted_any (h : Hs) (A : Option Addr) (c : Nat) (w : World) (hr : RowIn Wg.enc 5 w w.heap.size A h.ws) (hk : h.check = 0) :
    Calls Try.prog 28 #[h.val A c] w fun e w' => ∃ v, e = .returned (.tuple #[v, .int .i64 0]) ∧ w'.ownsRow w.heap.size 3 1 v (trustL h.clashM h.ws.length).length (intsV (trustL h.clashM h.ws.length)) ∧ Below w.heap.size w w' := by
  obtain ⟨i0, hi0, hz0, hz1, hz2⟩ := info_parts info_int
  have hlen := check_len hk
  have HR := Lib.hid hr
  have HK := Lib.hid hk
  clear hr hk
  have eF := enters_of Try.func68 (by kernel_rfl) rfl
  have hz14 := zero_row14
  unfold Hs.val
  go_enter Try.func28, Try.ntmps28
  go_wp2_with fail
  refine (opened_any h A c _ ((HR.out.below ((Below.refl _ _).alloc (Nat.le_refl _) _)).mono (by simp)) HK.out).mono ?_
  rintro e w1 ⟨g, rfl, hg, hgb, hb1⟩
  have hzg : w.heap.size + 1 ≤ g := by simpa using hg
  have hbw1 : Below w.heap.size w w1 := by repeat (first | exact Below.refl _ _ | exact hb1 | refine Below.drew ?_ | refine below_drewN ?_ _ | refine Below.setCell ?_ (by first | assumption | omega | (simp; done) | (simp; omega) | (simp at *; omega)) _ | refine Below.alloc ?_ (by first | assumption | omega | (simp; done) | (simp; omega) | (simp at *; omega)) _ | refine Below.trans ?_ (Below.mono hb1 (by first | assumption | omega | (simp; done) | (simp; omega) | (simp at *; omega))))
  have hdk : Blk w1 g 134 (deskCells (.int .i64 h.months) (.int .i64 h.peak) (.slice A h.ws.length c) h.clashM) := hgb
  have hho : Blk w1 w.heap.size 25 #[.int .i64 h.months, .int .i64 h.peak, .slice A h.ws.length c] := (Blk.new w 25 _).later hb1
  have hdl := hdk.lt
  have hzz := hbw1.size
  have HD := Lib.hid hdk
  have HB1 := Lib.hid hbw1
  have HH := Lib.hid hho
  clear hgb hg hb1 hdk hbw1 hho
  go_wp2_with fail
  refine (smallest_any g h.ws.length c A _ _ h.clashM hlen 68 _ eF w1.heap.size 121 row14 stepT (fun _ _ => True) (fun _ => false) _
    (fun B hB => watch_trusted _ _ (by simp at hB; omega)) (HD.out.alloc _) (Blk.new _ _ _) (by omega)).mono ?_
  rintro e w3 ⟨rfl, hch, hgo, _⟩
  have hz3 := hch.size
  rw [World.size_alloc] at hz3
  have hb3 : Below w.heap.size w w3 := Chg.below hch (HB1.out.trans (((Below.refl _ _).alloc (Nat.le_refl _) _).mono hzz)) (by simp; omega) (by simp; omega)
  have hv : Blk w3 w1.heap.size 121 (row14 (doubtB h.clashM h.ws.length)) := hgo (runW_true _ _ _ (fun _ _ => rfl) _ _)
  have hho3 : Blk w3 w.heap.size 25 #[.int .i64 h.months, .int .i64 h.peak, .slice A h.ws.length c] := (hch.block w.heap.size (by simp; have := HH.out.lt; omega) (by simp; have := HH.out.lt; omega)).trans (HH.out.alloc _)
  have c2 := hho3.cell 2
  simp only [List.getElem?_toArray, List.getElem?_cons_zero, List.getElem?_cons_succ] at c2
  have HV := Lib.hid hv
  have hb0 : Below w3.heap.size w3 w3 := Below.refl _ _
  have HB3 := Lib.hid hb3
  have hwl : w1.heap.size < w3.heap.size := hv.lt
  clear hch hgo hv hho3 hz14 hb3
  go_wp2
  go_loopw [7, 24] (fun v i wr => ∃ n : Nat, n ≤ h.ws.length ∧ i = .int .i64 n ∧ Below w3.heap.size w3 wr ∧ wr.ownsRow w3.heap.size 3 1 v (keepTo (doubtB h.clashM h.ws.length) n).length (intsV (keepTo (doubtB h.clashM h.ws.length) n))) (fun _ i _ => h.ws.length - (intOf i).toNat)
  case atStart => exact ⟨0, by omega, rfl, hb0, World.ownsRow_nil _ _ _ 1⟩
  case round =>
    clear hb0 c2
    obtain ⟨n, hn, rfl, hB, hOw⟩ := hrel
    by_cases hlt : n < h.ws.length
    · have hlt' : (n : Int) < 14 := by omega
      have hlt2 : (n : Int) < (h.ws.length : Int) := by omega
      have hvw := HV.out.later hB
      have cn := (hvw.cell n).trans (row14_at _ _ (by omega))
      have hlk := keepTo_len (doubtB h.clashM h.ws.length) n
      have HZ := hB.size
      clear hvw
      cases hd : doubtB h.clashM h.ws.length n
      · rw [hd] at cn
        have HP := Lib.hid (keepTo_yes _ _ hd)
        clear hd
        go_wp2_with (at_builtin; refine wpList_append_own _ rfl _ _ 64 rfl w3.heap.size 3 i0 _ 1 8 Try.underlying64 hi0 hz0 hz1 hz2 rfl (by decide) _ _ _ rfl (hOw.alloc _) ⟨wr.heap.size, 0, none⟩ 1 1 [.int .i64 n] rfl rfl ?c1 ?c2 ?c3 ?c4 ?c5 ?_)
        case c1 => exact World.news_of_block (cs := #[.int .i64 n]) (t := 3) (fr := (0, 0)) (heap_alloc_new wr _)
        case c2 => simp [Value.oneCell']
        case c3 => unfold maxLen; omega
        case c4 => omega
        case c5 => simp; omega
        intro v' wn hown' hgrow _
        have hBn : Below w3.heap.size w3 wn := (hB.alloc HZ _).grown hgrow (by simp; omega) (fun g hg => (hOw.lt g hg).1)
        have HOw := Lib.hid hown'
        clear hown' hgrow hOw cn
        go_wp2
        go_roundw
        case rel => exact ⟨n + 1, by omega, by go_num, hBn, by rw [HP.out, intsV_snoc, List.length_append]; exact HOw.out⟩
        case measure => simp [intOf]; omega
      · rw [hd] at cn
        have HP := Lib.hid (keepTo_no _ _ hd)
        have HOw := Lib.hid hOw
        clear hd hOw
        go_wp2
        go_roundw
        case rel => exact ⟨n + 1, by omega, by go_num, hB, by rw [HP.out]; exact HOw.out⟩
        case measure => simp [intOf]; omega
    · obtain rfl : n = h.ws.length := by omega
      have HOw := Lib.hid hOw
      clear hOw
      go_wp2
      go_ret2
      exact ⟨_, rfl, ownsRow_base' HOw.out (HB3.out.size), HB3.out.trans (hB.mono HB3.out.size)⟩
end Go.Proofs.Ytjihnnbpfdhceaa
