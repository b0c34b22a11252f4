/- boil.desk.smallest. Conditions: none beyond those that each theorem names. -/
import Derived.Test.YtjihnnbpfdhceaaA14
set_option linter.unusedSimpArgs false
set_option linter.unusedVariables false
namespace Go.Proofs.Ytjihnnbpfdhceaa
open Go.RowKit Go.Shelf
attribute [local go_sem] Oper.semAt_some
attribute [local go_sem ↓] Go.wp_at_zero Go.wp_at_succ

/-- How many pairs the proof has. -/
def pfLen (M : Nat → Nat → Bool) (len : Nat) : Nat := (pairsTo (proofSt M len len) 14).length
theorem pfLen_le (M : Nat → Nat → Bool) (len : Nat) : pfLen M len ≤ 14 := pairsTo_len _ _
/-- What a watch has seen when all smallest sets were told, or it let no more. -/
def seen {σ : Type} (M : Nat → Nat → Bool) (len : Nat) (step : List Nat → σ → Bool × σ) (s : σ) : Bool × σ := runW (leafW M len step) (subsL len (pfLen M len) [] 0) s

set_option maxRecDepth 100000 in
set_option maxHeartbeats 2000000 in
theorem smallest_any {σ : Type} (g len c : Nat) (A : Option Addr) (x0 x1 : Value) (M : Nat → Nat → Bool) (hlen : len ≤ 14) (F : FuncId) (cap : Array Value) (eF : ∀ args w, (callFunc F args).run Try.prog w = .ok (.enter F args) w) (wb : Nat) (wt : TypeId) (cs : σ → Array Value) (step : List Nat → σ → Bool × σ) (Fin : σ → World → Prop) (s : σ)
    (W : World) (hW : ∀ B, W.heap.size ≤ B → WatchOk F cap wb B wt cs step Fin) (hg : Blk W g 134 (deskCells x0 x1 (.slice A len c) M)) (hwb : Blk W wb wt (cs s)) (hne : wb ≠ g) :
    Calls Try.prog 66 #[.pointer (some ⟨g, 0, none⟩), .agg #[.func (.func F) #[] cap]] W fun e W' => e = .returned (.tuple #[]) ∧ Chg [wb] W W' ∧
      ((seen M len step s).1 = true → Blk W' wb wt (cs (seen M len step s).2)) ∧ ((seen M len step s).1 = false → Fin (seen M len step s).2 W') := by
  have HG := Lib.hid hg
  have HW := Lib.hid hwb
  have HK := Lib.hid hW
  have hgl := hg.lt
  have hwl := hwb.lt
  have hz1 := zero_row14
  rw [row14_empty] at hz1
  clear hg hwb hW
  go_enter Try.func66, Try.ntmps66
  go_wp2
  have hw1 : ∃ W1 : World, W1 = ((W.alloc (.cells #[.pointer (some ⟨g, 0, none⟩)] 96)).alloc (.cells #[.func (.func F) #[] cap] 119)).alloc (.cells #[moreFn W.heap.size (W.heap.size + 1) (W.heap.size + 1 + 1)] 137) := ⟨_, rfl⟩
  obtain ⟨W1, hW1⟩ := hw1
  have hbw : Below W.heap.size W W1 := by rw [hW1]; repeat (first | exact Below.refl _ _ | exact Below.refl _ _ | refine Below.drew ?_ | refine below_drewN ?_ _ | refine Below.setCell ?_ (by first | assumption | omega | (simp; done) | (simp; omega) | (simp at *; omega)) _ | refine Below.alloc ?_ (by first | assumption | omega | (simp; done) | (simp; omega) | (simp at *; omega)) _ | refine Below.trans ?_ (Below.mono Below.refl _ _ (by first | assumption | omega | (simp; done) | (simp; omega) | (simp at *; omega))))
  have b1 : Blk W1 W.heap.size 96 #[.pointer (some ⟨g, 0, none⟩)] := by rw [hW1]; exact ((Blk.new _ _ _).alloc _).alloc _
  have b2 : Blk W1 (W.heap.size + 1) 119 #[.func (.func F) #[] cap] := by
    have := Blk.new (W.alloc (.cells #[.pointer (some ⟨g, 0, none⟩)] 96)) 119 #[.func (.func F) #[] cap]
    rw [World.size_alloc] at this
    rw [hW1]; exact this.alloc _
  have b3 : Blk W1 (W.heap.size + 1 + 1) 137 #[moreFn W.heap.size (W.heap.size + 1) (W.heap.size + 1 + 1)] := by
    have := Blk.new ((W.alloc (.cells #[.pointer (some ⟨g, 0, none⟩)] 96)).alloc (.cells #[.func (.func F) #[] cap] 119)) 137 #[moreFn W.heap.size (W.heap.size + 1) (W.heap.size + 1 + 1)]
    rw [World.size_alloc, World.size_alloc] at this
    rw [hW1]; exact this
  have hz3 : W1.heap.size = W.heap.size + 1 + 1 + 1 := by rw [hW1]; simp
  unfold moreFn at hW1
  rw [← hW1]
  clear hW1
  have hP1 : MoreAt g len c A x0 x1 M W.heap.size (W.heap.size + 1) (W.heap.size + 1 + 1) (.func (.func F) #[] cap) W1 := ⟨HG.out.later hbw, b1, b2, b3⟩
  have HP := Lib.hid hP1
  have HWB := Lib.hid (HW.out.later hbw)
  have c1 := b1.cell 0
  have c3 := b3.cell 0
  simp only [List.getElem?_toArray, List.getElem?_cons_zero, moreFn] at c1 c3
  have HBW := Lib.hid hbw
  clear b1 b2 b3 hP1 hbw
  have hpf := pfLen_le M len
  refine wp_region_plan (fun w' => True ∧ w'.cell? ⟨W.heap.size, 0, none⟩ = some (.pointer (some ⟨g, 0, none⟩)) ∧ w'.cell? ⟨W.heap.size + 1 + 1, 0, none⟩ = some (.func (.func 89) #[] #[.pointer (some ⟨W.heap.size, 0, none⟩), .pointer (some ⟨W.heap.size + 1, 0, none⟩), .pointer (some ⟨W.heap.size + 1 + 1, 0, none⟩)]))
    [(0, true), (1, true), (2, true), (3, false), (4, false), (5, false)] (by kernel_rfl) (by kernel_rfl) (fun _ _ _ _ _ h => h) ⟨trivial, by simpa using c1, by simpa using c3⟩ (fun hS => ?_)
  apply wpPlan_take
  case hi => (simp only [List.getElem?_toArray, List.getElem?_cons_succ, List.getElem?_cons_zero]; exact rfl)
  case hw => rfl
  case hr => (intro w' hSw; (try dsimp only at hSw); go_split_ands; go_simp; try with_reducible rfl)
  (simp only [Act.put, List.setIfInBounds_toArray, List.set_cons_zero, List.set_cons_succ])
  apply wpPlan_take
  case hi => (simp only [List.getElem?_toArray, List.getElem?_cons_succ, List.getElem?_cons_zero]; exact rfl)
  case hw => rfl
  case hr => (intro w' hSw; (try dsimp only at hSw); go_split_ands; go_simp; try with_reducible rfl)
  (simp only [Act.put, List.setIfInBounds_toArray, List.set_cons_zero, List.set_cons_succ])
  apply wpPlan_take
  case hi => (simp only [List.getElem?_toArray, List.getElem?_cons_succ, List.getElem?_cons_zero]; exact rfl)
  case hw => rfl
  case hr => (intro w' hSw; (try dsimp only at hSw); go_split_ands; go_simp; try with_reducible rfl)
  (simp only [Act.put, List.setIfInBounds_toArray, List.set_cons_zero, List.set_cons_succ])
  apply wpPlan_step
  case ho => (simp only [List.getElem?_toArray, List.getElem?_cons_succ, List.getElem?_cons_zero]; exact rfl)
  intro K hK
  rw [if_pos (by rfl)]
  go_wp2_with fail
  refine (proof_any g len c A x0 x1 M hlen _ (HP.out.later (Below.refl _ _).drew).desk).mono ?_
  rintro e W2 ⟨ps, A', c', rfl, hps, hperm, _, hb2⟩
  have hb2' : Below W1.heap.size W1 W2 := ((Below.refl _ _).drew).trans hb2
  have hpl : ps.length = pfLen M len := hperm.length_eq
  have hps14 : ps.length ≤ 14 := by omega
  have hS2 : True ∧ W2.cell? ⟨W.heap.size, 0, none⟩ = some (.pointer (some ⟨g, 0, none⟩)) ∧ W2.cell? ⟨W.heap.size + 1 + 1, 0, none⟩ = some (.func (.func 89) #[] #[.pointer (some ⟨W.heap.size, 0, none⟩), .pointer (some ⟨W.heap.size + 1, 0, none⟩), .pointer (some ⟨W.heap.size + 1 + 1, 0, none⟩)]) :=
    ⟨trivial, (hb2'.cell (p := ⟨W.heap.size, 0, none⟩) (by simp; omega)).trans c1, (hb2'.cell (p := ⟨W.heap.size + 1 + 1, 0, none⟩) (by simp; omega)).trans c3⟩
  have HB2 := Lib.hid hb2'
  have HPL := Lib.hid hpl
  clear hps hperm hb2 hb2' hpl hS
  refine hK.out _ _ (hS2) (fun hS => ?_)
  clear hK
  clear K
  try (simp only [Act.put, List.setIfInBounds_toArray, List.set_cons_zero, List.set_cons_succ])
  clear hS2
  apply wpPlan_step
  case ho => (simp only [List.getElem?_toArray, List.getElem?_cons_succ, List.getElem?_cons_zero]; exact rfl)
  intro K hK
  rw [if_pos (by rfl)]
  go_simp
  refine hK.out _ _ (hS) (fun hS => ?_)
  clear hK
  clear K
  try (simp only [Act.put, List.setIfInBounds_toArray, List.set_cons_zero, List.set_cons_succ])
  apply wpPlan_step
  case ho => (simp only [List.getElem?_toArray, List.getElem?_cons_succ, List.getElem?_cons_zero]; exact rfl)
  intro K hK
  rw [if_pos (by rfl)]
  go_wp2_with fail
  have hB : Hid (W1.heap.size ≤ W2.heap.size) := Lib.hid HB2.out.size
  refine (more_any g len c A x0 x1 M W.heap.size (W.heap.size + 1) (W.heap.size + 1 + 1) hlen F cap eF wb (W.heap.size + 1 + 1 + 1) wt cs step Fin (HK.out _ (by omega)) ⟨hne, by omega, by omega, by omega⟩ ⟨by omega, by omega, by omega, by omega, by omega⟩ (pfLen M len)
    [] 0 s (.slice none 0 0) W2 _ _ _ rfl rfl (by rw [HPL.out]) (by simp; omega) (by simp) (by omega) (HP.out.later HB2.out) (HWB.out.later HB2.out) (World.ownsRow_nil W2 _ _ 1) (by have := hB.out; omega)).mono ?_
  rintro e W3 ⟨rfl, hout⟩
  have hc3 : Chg [wb] W2 W3 := hout.chg
  have hS3 : True ∧ W3.cell? ⟨W.heap.size, 0, none⟩ = some (.pointer (some ⟨g, 0, none⟩)) ∧ W3.cell? ⟨W.heap.size + 1 + 1, 0, none⟩ = some (.func (.func 89) #[] #[.pointer (some ⟨W.heap.size, 0, none⟩), .pointer (some ⟨W.heap.size + 1, 0, none⟩), .pointer (some ⟨W.heap.size + 1 + 1, 0, none⟩)]) := by
    have := hB.out
    exact ⟨trivial, (World.cell?_of_block (a := ⟨W.heap.size, 0, none⟩) (hc3.block _ (by simp; omega) (by simp; omega))).trans hS.2.1, (World.cell?_of_block (a := ⟨W.heap.size + 1 + 1, 0, none⟩) (hc3.block _ (by simp; omega) (by simp; omega))).trans hS.2.2⟩
  have HOUT := Lib.hid hout
  have HC3 := Lib.hid hc3
  clear hout hc3 hS
  refine hK.out _ _ (hS3) (fun hS => ?_)
  clear hK
  clear K
  try (simp only [Act.put, List.setIfInBounds_toArray, List.set_cons_zero, List.set_cons_succ])
  clear hS3
  refine wpPlan_end ?_
  clear hS
  refine bodyPost_end (results_none rfl _ _ _) rfl ?_
  have hb3 : Below W.heap.size W W2 := HBW.out.trans (HB2.out.mono (by omega))
  exact ⟨rfl, (Chg.of_below hb3).trans HC3.out, HOUT.out.go, HOUT.out.fin⟩
end Go.Proofs.Ytjihnnbpfdhceaa
