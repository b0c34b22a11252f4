/- boil.Fewest, boil.Trusted; errors of houses. Conditions: none beyond those that each theorem names. -/
import Derived.Test.YtjihnnbpfdhceaaA15
set_option linter.unusedSimpArgs false
set_option linter.unusedVariables false
namespace Go.Proofs.Ytjihnnbpfdhceaa
open Go.RowKit Go.Shelf
attribute [local go_sem] Oper.semAt_some
attribute [local go_sem ↓] Go.wp_at_zero Go.wp_at_succ

set_option maxHeartbeats 400000 in
theorem opened_err (h : Hs) (A : Option Addr) (c : Nat) (w : World) (hr : RowIn Wg.enc 5 w w.heap.size A h.ws) (hl : h.ws.length ≤ 1000000) (hk : h.check ≠ 0) :
    Calls Try.prog 48 #[h.val A c] w fun e w' => e = .returned (.tuple #[.pointer none, .int .i64 h.check]) ∧ Below w.heap.size w w' := by
  have HR := Lib.hid hr
  have hq : (h.check != 0) = true := by simpa using hk
  clear hr hk
  unfold Hs.val
  go_enter Try.func48, Try.ntmps48
  go_wp2_with fail
  refine (check_any h A c _ ((HR.out.below ((Below.refl _ _).alloc (Nat.le_refl _) _)).mono (by simp)) (by omega)).mono ?_
  rintro e w1 ⟨rfl, hb1⟩
  have zhb1 := hb1.size
  try simp only [World.size_alloc, World.size_setCell, World.size_drew] at zhb1
  go_wp2
  go_ret2
  exact ⟨rfl, by repeat (first | exact Below.refl _ _ | exact hb1 | refine Below.drew ?_ | refine below_drewN ?_ _ | refine Below.setCell ?_ (by first | assumption | omega | (simp; done) | (simp; omega) | (simp at *; omega)) _ | refine Below.alloc ?_ (by first | assumption | omega | (simp; done) | (simp; omega) | (simp at *; omega)) _ | refine Below.trans ?_ (Below.mono hb1 (by first | assumption | omega | (simp; done) | (simp; omega) | (simp at *; omega))))⟩

/-- The watch of boil.Fewest keeps the first set, and lets no more. -/
def stepF (l : List Nat) (_ : List Nat) : Bool × List Nat := (false, l)
set_option maxHeartbeats 400000 in
theorem watch_fewest (wb B0 B : Nat) (hB : B0 ≤ B) (hwB : wb < B) : WatchOk 67 #[.pointer (some ⟨wb, 0, none⟩)] wb B 64 (fun (_ : List Nat) => #[.slice none 0 0]) stepF
    (fun s W => ∃ v, Blk W wb 64 #[v] ∧ W.ownsRow B0 3 1 v s.length (intsV s)) := by
  intro l s v W hl hx hwb hown hBW
  have HW := Lib.hid hwb
  have HO := Lib.hid hown
  have c0 := hwb.cell 0
  have f0 := hwb.frozen 0
  simp only [List.getElem?_toArray, List.getElem?_cons_zero] at c0
  rw [show ∀ a b : Value, (#[a] ++ #[b] : Array Value) = #[a, b] from fun _ _ => rfl]
  obtain ⟨ao, n, cap, rfl⟩ : ∃ (ao : Option Addr) (n cap : Nat), v = .slice ao n cap := by
    rcases hown.2 with ⟨rfl, _⟩ | ⟨g, cap, cur, rfl, _⟩
    · exact ⟨_, _, _, rfl⟩
    · exact ⟨_, _, _, rfl⟩
  clear hwb hown
  go_enter Try.func67, Try.ntmps67
  go_wp2
  go_ret
  refine ⟨rfl, (Chg.refl _ _).set_ (.inl (by simp)) _, (fun h => (by cases h)), fun _ => ⟨_, HW.out.set_ 0 _, ?_⟩⟩
  exact ownsRow_base' (ownsRow_at HO.out (fun k hk hB' _ => Below.heap_setCell W ⟨wb, 0, none⟩ _ k (by simp; omega))) hB
/-- boil.Fewest's answer. -/
def fewL (M : Nat → Nat → Bool) (len : Nat) : List Nat := bif (seen M len stepF []).1 then [] else (seen M len stepF []).2

set_option maxRecDepth 100000 in
set_option maxHeartbeats 1000000 in
theorem fewest_any (h : Hs) (A : Option Addr) (c : Nat) (w : World) (hr : RowIn Wg.enc 5 w w.heap.size A h.ws) (hk : h.check = 0) :
    Calls Try.prog 27 #[h.val A c] w fun e w' => ∃ v, e = .returned (.tuple #[v, .int .i64 0]) ∧ w'.ownsRow w.heap.size 3 1 v (fewL h.clashM h.ws.length).length (intsV (fewL h.clashM h.ws.length)) ∧ Below w.heap.size w w' := by
  have hlen := check_len hk
  have HR := Lib.hid hr
  have HK := Lib.hid hk
  clear hr hk
  have eF := enters_of Try.func67 (by kernel_rfl) rfl
  unfold Hs.val
  go_enter Try.func27, Try.ntmps27
  go_wp2_with fail
  refine (opened_any h A c _ ((HR.out.below ((Below.refl _ _).alloc (Nat.le_refl _) _)).mono (by simp)) HK.out).mono ?_
  rintro e w1 ⟨g, rfl, hg, hgb, hb1⟩
  have hz1 : w.heap.size + 1 ≤ g := by simpa using hg
  have hbw1 : Below w.heap.size w w1 := by repeat (first | exact Below.refl _ _ | exact hb1 | refine Below.drew ?_ | refine below_drewN ?_ _ | refine Below.setCell ?_ (by first | assumption | omega | (simp; done) | (simp; omega) | (simp at *; omega)) _ | refine Below.alloc ?_ (by first | assumption | omega | (simp; done) | (simp; omega) | (simp at *; omega)) _ | refine Below.trans ?_ (Below.mono hb1 (by first | assumption | omega | (simp; done) | (simp; omega) | (simp at *; omega))))
  have hdk : Blk w1 g 134 (deskCells (.int .i64 h.months) (.int .i64 h.peak) (.slice A h.ws.length c) h.clashM) := hgb
  have hdl := hdk.lt
  have hzz := hbw1.size
  have HD := Lib.hid hdk
  have HB1 := Lib.hid hbw1
  clear hgb hg hb1 hdk hbw1
  go_wp2_with fail
  refine (smallest_any g h.ws.length c A _ _ h.clashM hlen 67 _ eF w1.heap.size 64 (fun (_ : List Nat) => #[.slice none 0 0]) stepF (fun s W => ∃ v, Blk W w1.heap.size 64 #[v] ∧ W.ownsRow w.heap.size 3 1 v s.length (intsV s)) [] _
    (fun B hB => watch_fewest _ _ _ (by simp at hB; omega) (by simp at hB; omega)) (HD.out.alloc _) (Blk.new _ _ _) (by omega)).mono ?_
  rintro e w3 ⟨rfl, hch, hgo, hfin⟩
  have hz3 := hch.size
  rw [World.size_alloc] at hz3
  have hb3 : Below w.heap.size w w3 := Chg.below hch (HB1.out.trans (((Below.refl _ _).alloc (Nat.le_refl _) _).mono hzz)) (by simp; omega) (by simp; omega)
  have hout : ∃ v, Blk w3 w1.heap.size 64 #[v] ∧ w3.ownsRow w.heap.size 3 1 v (fewL h.clashM h.ws.length).length (intsV (fewL h.clashM h.ws.length)) := by
    unfold fewL
    cases hs : (seen h.clashM h.ws.length stepF []).1
    · exact hfin hs
    · exact ⟨_, hgo hs, World.ownsRow_nil _ _ _ 1⟩
  obtain ⟨v, hv, hown⟩ := hout
  have c0 := hv.cell 0
  simp only [List.getElem?_toArray, List.getElem?_cons_zero] at c0
  have HO := Lib.hid hown
  have HB3 := Lib.hid hb3
  clear hch hgo hfin hv hown hb3
  go_wp2
  go_ret2
  exact ⟨_, rfl, HO.out, HB3.out⟩
end Go.Proofs.Ytjihnnbpfdhceaa
