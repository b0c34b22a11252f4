/- copy of a whole row of elements of several cells. Conditions: none beyond those that each theorem names. -/
import Derived.Test.YtjihnnbpfdhceaaGBoilGrown17
import Derived.Laws.IdiomCopy
import Derived.Laws.CopyOwn
import Derived.Laws.MakeOwn
set_option linter.unusedSimpArgs false
set_option linter.unusedVariables false
namespace Go.Proofs.Ytjihnnbpfdhceaa
open Go.RowKit Go.Shelf

theorem run_copy_full {P : Program} (w : World) (dT sT ty elem : TypeId) (k n : Nat) (g : Nat) (A : Option Addr) (dCap sCap : Nat) (cs : List Value) (cur : Array Value) (t : TypeId)
    (hu : P.underlying dT = some (.slice elem)) (hs : (P.info? elem).map (·.size) = some k) (hn : cs.length = n * k)
    (hsrc : n ≠ 0 → ∃ a, A = some a ∧ ∀ j v, cs[j]? = some v → w.cell? (a.add j) = some v) (hg : w.heap[g]? = some (.cells cur t (0, 0))) (hcur : cur.size = n * k) (h1 : ∀ v ∈ cs, v.oneCell' = true) :
    (Builtin.copy_ #[dT, sT] ty #[.slice (some ⟨g, 0, none⟩) n dCap, .slice A n sCap]).run P w = .ok (goInt n) (w.setRow g cs.toArray) := by
  have hst := run_storeCells_from (P := P) g t cs 0 cur w hg (by omega) h1
  simp only [List.take_zero, List.nil_append] at hst
  cases hq : P.info? elem with
  | none => simp [hq] at hs
  | some i =>
    have hi : i.size = k := by simpa [hq] using hs
    by_cases h0 : n = 0
    · subst h0
      have hcs : cs = [] := List.eq_nil_of_length_eq_zero (by simpa using hn)
      subst hcs
      have hl : ∀ (x : Addr), (loadCells x 0).run P w = .ok #[] w := fun x => by simpa using run_loadCells_list (P := P) w x [] (by simp)
      simp only [storeCells, Sem.run_pure] at hst
      have hw : w.setRow g ([] : List Value).toArray = w := by injection hst with _ e; exact e.symm
      rw [hw]
      cases A <;> simp [Builtin.copy_, run_underlying hu, Builtin.lenOf, Builtin.firstCells, sizeOf, typeInfo, hq, hi, storeCells, hl]
    · obtain ⟨a, rfl, ha⟩ := hsrc h0
      have hl := run_loadCells_list (P := P) w a cs ha
      rw [hn] at hl
      simp [Builtin.copy_, run_underlying hu, Builtin.lenOf, Builtin.firstCells, sizeOf, typeInfo, hq, hi, hl, hst]
theorem wpList_copy_full {P : Program} {w : World} {ops : Array Oper} {rest : List Oper} {o : Oper} {a : Act} {Q : Exit → Act → World → Prop} (hgd : o.guard = none) (d s : Operand) (dT sT : TypeId)
    (ho : o.op = .call { callee := .builtin .copy, args := #[d, s], argTypes := #[dT, sT] }) (elem : TypeId) (k n : Nat) (g : Nat) (A : Option Addr) (dCap sCap : Nat) (cs : List Value) (cur : Array Value) (t : TypeId)
    (hu : P.underlying dT = some (.slice elem)) (hs : (P.info? elem).map (·.size) = some k) (hd : a.eval d = .slice (some ⟨g, 0, none⟩) n dCap) (hs' : a.eval s = .slice A n sCap) (hn : cs.length = n * k)
    (hsrc : n ≠ 0 → ∃ a, A = some a ∧ ∀ j v, cs[j]? = some v → w.cell? (a.add j) = some v) (hg : w.heap[g]? = some (.cells cur t (0, 0))) (hcur : cur.size = n * k) (h1 : ∀ v ∈ cs, v.oneCell' = true)
    (h : wpList P ops Q rest (a.put o.dst (goInt n)) (w.setRow g cs.toArray)) : wpList P ops Q (o :: rest) a w := by
  refine wpList_plain hgd fun K hK => ?_
  have hrun := run_copy_full (P := P) w dT sT o.type elem k n g A dCap sCap cs cur t hu hs hn hsrc hg hcur h1
  unfold Oper.wp
  simp [execOp, ho, resolve, invoke, builtin, hd, hs', hrun, Result.andThen]
  exact hK _ _ h
/-- make of n elements, as the walk takes it. -/
theorem run_make_n {P : Program} (t e : TypeId) (i : TypeInfo) (z : Value) (k : Nat) (ht : P.underlying t = some (.slice e)) (hi : P.info? e = some i) (hz : i.zero = some z) (hk : i.size = k) (n : Nat) (hn : n ≤ 1000000) (hb : i.bytes ≤ 1000) (W : World) :
    (Instr.makeSlice t (.int .i64 (n : Int)) (.int .i64 (n : Int))).run P W = .ok (.slice (some ⟨W.heap.size, 0, none⟩) n n) (W.alloc (.cells (madeCells z.cells (n * k)) e)) := by
  have := run_make (P := P) W t e i z ht hi hz .i64 .i64 n n (by omega) (Int.le_refl _) (by
    have h1 : (i.bytes : Int) * n ≤ 1000 * 1000000 := Int.mul_le_mul (by omega) (by omega) (by omega) (by omega)
    omega) (by omega)
  simpa [hk] using this
end Go.Proofs.Ytjihnnbpfdhceaa

/- boil.Without. Conditions: none beyond those that each theorem names. -/
set_option linter.unusedSimpArgs false
set_option linter.unusedVariables false
namespace Go.Proofs.Ytjihnnbpfdhceaa
open Go.RowKit Go.Shelf
attribute [local go_sem] Oper.semAt_some

theorem RowIn.nat {B : Nat} {w : World} {A : Option Addr} {l : List Int} (h : RowIn intEnc 1 w B A l) (i : Nat) (hi : i < l.length) :
    ∃ b o x, A = some ⟨b, o, none⟩ ∧ b < B ∧ l[i] = x ∧ w.cell? ⟨b, o + i, none⟩ = some (.int .i64 x) := by
  obtain ⟨b, o, hA, hb, hc⟩ := h i hi
  have := hc 0 _ rfl
  rw [Nat.mul_one, Nat.add_zero] at this
  exact ⟨b, o, l[i], hA, hb, rfl, this⟩

def addI (f : Int → Bool) (n : Int) : Int → Bool := fun j => decide (j = n) || f j
/-- The error of a list of weighings, and which are gone. -/
def goneL (h : Hs) : (Int → Bool) → List Int → Int × (Int → Bool)
  | f, [] => (0, f)
  | f, n :: ns => if h.weighing n = false then (1, f) else if f n = true then (5, f) else goneL h (addI f n) ns
def Hs.goneR (h : Hs) (ns : List Int) : Int × (Int → Bool) := goneL h (fun _ => false) ns
def keepW (f : Int → Bool) (ws : List Wg) (k : Nat) : List Wg := (List.range k).filterMap fun (i : Nat) => if f (i : Int) then none else ws[(i : Nat)]?
/-- boil.Without's answer. -/
def Hs.without (h : Hs) (ns : List Int) : Hs := if (h.goneR ns).1 = 0 then { months := h.months, peak := h.peak, ws := keepW (h.goneR ns).2 h.ws h.ws.length } else { months := 0, peak := 0, ws := [] }
theorem keepW_no (f : Int → Bool) (ws : List Wg) (j : Nat) (h : f j = true) : keepW f ws (j + 1) = keepW f ws j := by
  unfold keepW; rw [List.range_succ, List.filterMap_append]; simp [h]
theorem keepW_yes (f : Int → Bool) (ws : List Wg) (j : Nat) (hj : j < ws.length) (h : f j = false) : keepW f ws (j + 1) = keepW f ws j ++ [ws[j]] := by
  unfold keepW; rw [List.range_succ, List.filterMap_append]; simp [h, hj]
theorem keepW_len (f : Int → Bool) (ws : List Wg) (j : Nat) : (keepW f ws j).length ≤ j := by
  unfold keepW
  have := List.length_filterMap_le (fun (i : Nat) => if f (i : Int) then none else ws[(i : Nat)]?) (List.range j)
  simpa using this
theorem addr_addO (b o j : Nat) : (⟨b, o, none⟩ : Addr).add j = ⟨b, o + j, none⟩ := by unfold Addr.add; split <;> simp_all
theorem without_err {h : Hs} {ns : List Int} (hq : (h.goneR ns).1 ≠ 0) : h.without ns = { months := 0, peak := 0, ws := [] } := by unfold Hs.without; rw [if_neg hq]
theorem info_wg : (Try.prog.info? 55).map (fun i => (i.zero, i.size, i.bytes)) = some (some (.agg #[.int .i64 0, .int .i64 0, .int .i64 0, .int .i64 0, .int .i64 0]), 5, 40) := by kernel_rfl

set_option maxRecDepth 100000 in
set_option maxHeartbeats 1000000 in
theorem without_any (h : Hs) (A : Option Addr) (c : Nat) (A2 : Option Addr) (ns : List Int) (c2 : Nat) (w : World) (hr : RowIn Wg.enc 5 w w.heap.size A h.ws) (hk : h.check = 0) (hp : RowIn intEnc 1 w w.heap.size A2 ns) (hn : ns.length ≤ 1000000) (hns : ∀ n ∈ ns, -9223372036854775808 ≤ n ∧ n ≤ 9223372036854775807) :
    Calls Try.prog 30 #[h.val A c, .slice A2 ns.length c2] w fun e w' => ∃ A3 c3, e = .returned (.tuple #[(h.without ns).val A3 c3, .int .i64 (h.goneR ns).1]) ∧ RowIn Wg.enc 5 w' w'.heap.size A3 (h.without ns).ws ∧ Below w.heap.size w w' := by
  obtain ⟨i0, hi0, hz0, hz1, hz2⟩ := info_parts info_wg
  have hlen := check_len hk
  have HR := Lib.hid hr
  have HP := Lib.hid hp
  have HK := Lib.hid hk
  have HNS := Lib.hid hns
  have hmm := @run_makeMap Try.prog
  clear hr hk hp hns
  unfold Hs.val
  go_enter Try.func30, Try.ntmps30
  go_wp2_with fail
  refine (check_any h A c _ ((HR.out.below (((Below.refl _ _).alloc (Nat.le_refl _) _).alloc (by simp) _)).mono (by simp; omega)) (by omega)).mono ?_
  rintro e w1 ⟨rfl, hb1⟩
  rw [HK.out]
  have hbw1 : Below w.heap.size w w1 := (((Below.refl _ _).alloc (Nat.le_refl _) _).alloc (by simp) _).trans (hb1.mono (by simp; omega))
  have hho : Blk w1 w.heap.size 25 #[.int .i64 h.months, .int .i64 h.peak, .slice A h.ws.length c] := ((Blk.new w 25 _).alloc _).later hb1
  have hre : Blk w1 (w.heap.size + 1) 25 #[.int .i64 0, .int .i64 0, .slice none 0 0] := by
    have := Blk.new (w.alloc (.cells #[.int .i64 h.months, .int .i64 h.peak, .slice A h.ws.length c] 25)) 25 #[.int .i64 0, .int .i64 0, .slice none 0 0]
    rw [World.size_alloc] at this
    exact this.later hb1
  clear hb1
  go_wp2
  have hb2 : Below w1.heap.size w1 (w1.alloc (.map #[] 0)) := (Below.refl _ _).alloc (Nat.le_refl _) _
  have hmb : MapB (w1.alloc (.map #[] 0)) w1.heap.size 0 (fun _ => false) := MapB.made w1
  generalize w1.alloc (.map #[] 0) = w2 at hb2 hmb ⊢
  have hzz := hbw1.size
  have HHO := Lib.hid hho
  have HRE := Lib.hid hre
  clear hmm hho hre
  go_loopw [22] (fun i wr => ∃ (k : Nat) (f : Int → Bool), k ≤ ns.length ∧ i = .int .i64 k ∧ Below w1.heap.size w1 wr ∧ MapB wr w1.heap.size k f ∧ Aside (goneL h f (ns.drop k) = h.goneR ns)) (fun i _ => ns.length - (intOf i).toNat)
  case atStart => exact ⟨0, fun _ => false, by omega, rfl, hb2, hmb, rfl⟩
  case round =>
    clear hb2 hmb
    obtain ⟨k, f, hk, rfl, hB, hM, HN⟩ := hrel
    have hBw : Below w.heap.size w wr := hbw1.trans (hB.mono hzz)
    by_cases hlt : k < ns.length
    · obtain ⟨b0, o0, x, rfl, hB0, hx, x0⟩ := (HP.out.below hBw).nat k hlt
      have hdrop : ns.drop k = x :: ns.drop (k + 1) := by rw [← hx]; exact List.drop_eq_getElem_cons hlt
      have hxb := HNS.out x (by rw [← hx]; exact List.getElem_mem _)
      have HNN : Hid (goneL h f (x :: ns.drop (k + 1)) = h.goneR ns) := Lib.hid (by rw [← hdrop]; exact HN)
      have hB1 : b0 < wr.heap.size := by have := hBw.size; omega
      have HW1 := Lib.hid (fun V => weighing_any h A c x V (by omega))
      have hho := HHO.out.later hB
      have hc0 := hho.cell 0
      have hc1 := hho.cell 1
      have hc2 := hho.cell 2
      simp only [List.getElem?_toArray, List.getElem?_cons_zero, List.getElem?_cons_succ] at hc0 hc1 hc2
      have HM := Lib.hid hM
      clear hx hdrop hho hM HN
      go_wp2_with fail
      refine (HW1.out _).mono ?_
      rintro e w4 ⟨rfl, hb4⟩
      have hB4 : Below w1.heap.size w1 w4 := hB.trans (hb4.mono hB.size)
      have hBw4 : Below w.heap.size w w4 := hbw1.trans (hB4.mono hzz)
      have hre4 := HRE.out.later hB4
      have hM4 := HM.out.later hb4
      have hrf := fun i => hre4.frozen i
      have hr0 := hre4.cell 0
      have hr1 := hre4.cell 1
      have hr2 := hre4.cell 2
      have hrf0 := hre4.frozen 0
      have hrf1 := hre4.frozen 1
      have hrf2 := hre4.frozen 2
      simp only [List.getElem?_toArray, List.getElem?_cons_zero, List.getElem?_cons_succ] at hr0 hr1 hr2
      have HRE4 := Lib.hid hre4
      have hzr := hre4.lt
      clear hb4 hc0 hc1 hc2 HM hre4 hrf
      cases hw1 : h.weighing x
      · have hres : h.goneR ns = (1, f) := by rw [← HNN.out]; unfold goneL; rw [if_pos hw1]
        have HRS := Lib.hid hres
        clear hres hw1
        go_wp2
        refine bodyPost_ret (v := .tuple #[.agg #[.int .i64 0, .int .i64 0, .slice none 0 0], .int .i64 1]) ?_ rfl ⟨none, 0, ?_, ?_, ((hBw4.setCell (p := ⟨w.heap.size + 1, 0, none⟩) (by simp) _).setCell (p := ⟨w.heap.size + 1, 1, none⟩) (by simp) _).setCell (p := ⟨w.heap.size + 1, 2, none⟩) (by simp) _⟩
        · have hY2 := ((HRE4.out.set_ 0 (.int .i64 0)).set_ 1 (.int .i64 0)).set_ 2 (.slice none 0 0)
          have e0 := hY2.cell 0
          have e1 := hY2.cell 1
          have e2 := hY2.cell 2
          simp only [List.setIfInBounds_toArray, List.set_cons_zero, List.set_cons_succ, List.getElem?_toArray, List.getElem?_cons_zero, List.getElem?_cons_succ] at e0 e1 e2
          simp [results, Try.results30, go_sem, e0, e1, e2]
        · rw [without_err (by rw [HRS.out]; simp), HRS.out]; rfl
        · rw [without_err (by rw [HRS.out]; simp)]; exact RowIn.nil
      · have hlk := hM4.look x hxb.1 hxb.2
        have HWA := Lib.hid hw1
        clear hw1
        cases hf : f x
        · rw [hf] at hlk
          have HF := Lib.hid hf
          clear hf
          go_wp2_with (at_mapUpdate; refine wpList_upd_b rfl _ _ _ rfl hM4 (by unfold maxLen; omega) x hxb.1 hxb.2 true rfl rfl rfl ?_)
          intro w5 hM5 hg5
          have hnx : goneL h (addI f x) (ns.drop (k + 1)) = h.goneR ns := by
            rw [← HNN.out]
            conv => rhs; unfold goneL
            rw [if_neg (by rw [HWA.out]; exact Bool.noConfusion), if_neg (by rw [HF.out]; exact Bool.noConfusion)]
          have HNX := Lib.hid hnx
          have hB5 : Below w1.heap.size w1 w5 := Below.grown hB4 hg5 hB4.size (fun j hj => by cases hj; exact Nat.le_refl _)
          have HM5 := Lib.hid hM5
          clear hnx hM5 hg5 hlk hr0 hr1 hr2 hrf0 hrf1 hrf2 hM4
          go_wp2
          go_roundw
          case rel => exact ⟨k + 1, addI f x, by omega, by go_num, hB5, HM5.out, HNX.out⟩
          case measure => simp [intOf]; omega
        · rw [hf] at hlk
          have hres : h.goneR ns = (5, f) := by rw [← HNN.out]; unfold goneL; rw [if_neg (by rw [HWA.out]; exact Bool.noConfusion), if_pos hf]
          have HRS := Lib.hid hres
          clear hres hf
          go_wp2
          refine bodyPost_ret (v := .tuple #[.agg #[.int .i64 0, .int .i64 0, .slice none 0 0], .int .i64 5]) ?_ rfl ⟨none, 0, ?_, ?_, ((hBw4.setCell (p := ⟨w.heap.size + 1, 0, none⟩) (by simp) _).setCell (p := ⟨w.heap.size + 1, 1, none⟩) (by simp) _).setCell (p := ⟨w.heap.size + 1, 2, none⟩) (by simp) _⟩
          · have hY2 := ((HRE4.out.set_ 0 (.int .i64 0)).set_ 1 (.int .i64 0)).set_ 2 (.slice none 0 0)
            have e0 := hY2.cell 0
            have e1 := hY2.cell 1
            have e2 := hY2.cell 2
            simp only [List.setIfInBounds_toArray, List.set_cons_zero, List.set_cons_succ, List.getElem?_toArray, List.getElem?_cons_zero, List.getElem?_cons_succ] at e0 e1 e2
            simp [results, Try.results30, go_sem, e0, e1, e2]
          · rw [without_err (by rw [HRS.out]; simp), HRS.out]; rfl
          · rw [without_err (by rw [HRS.out]; simp)]; exact RowIn.nil
    · obtain rfl : k = ns.length := by omega
      have hres : h.goneR ns = (0, f) := by
        have h1 : goneL h f (ns.drop ns.length) = h.goneR ns := HN
        rw [List.drop_length] at h1
        rw [← h1]
        rfl
      have HRS := Lib.hid hres
      have hmk := run_make_n (P := Try.prog) 23 55 i0 _ 5 Try.underlying23 hi0 hz0 hz1 h.ws.length (by omega) (by omega)
      have hho := HHO.out.later hB
      have hc2 := hho.cell 2
      simp only [List.getElem?_toArray, List.getElem?_cons_zero, List.getElem?_cons_succ] at hc2
      have hhl := hho.lt
      have hsz : (Try.prog.info? 55).map (·.size) = some 5 := by rw [hi0]; simp [hz1]
      have hrr := HR.out.below hBw
      have HRR := Lib.hid hrr
      have HMM := Lib.hid hM
      clear hres HN hho hrr hM
      have hcp := run_copy_full (P := Try.prog) (wr.alloc (.cells (madeCells #[.int .i64 0, .int .i64 0, .int .i64 0, .int .i64 0, .int .i64 0] (h.ws.length * 5)) 55)) 23 23 3 55 5 h.ws.length wr.heap.size A h.ws.length c (h.ws.flatMap Wg.enc) _ 55
        Try.underlying23 hsz (flat_len Wg.enc 5 wg_len h.ws) ?k1 (heap_alloc_new wr _) (size_madeCells _ _) ?k3
      case k1 =>
        intro h0
        obtain ⟨b, o, hA, hb, _⟩ := HRR.out 0 (by omega)
        refine ⟨⟨b, o, none⟩, hA, fun j v hv => ?_⟩
        have hj : j < h.ws.length * 5 := by
          have := (List.getElem?_eq_some_iff.1 hv).1
          rwa [flat_len Wg.enc 5 wg_len] at this
        have hi : j / 5 < h.ws.length := by omega
        have hjj : j = j / 5 * 5 + j % 5 := by omega
        rw [hjj, flat_get Wg.enc 5 wg_len h.ws (j / 5) hi (j % 5) (by omega)] at hv
        obtain ⟨b', o', hA', hb', hc'⟩ := HRR.out (j / 5) hi
        rw [hA] at hA'
        injection hA' with hA'
        injection hA' with h1 h2
        subst h1
        subst h2
        have hcell := hc' (j % 5) v hv
        rw [addr_addO, show o + j = o + j / 5 * 5 + j % 5 by omega]
        exact (((Below.refl _ _).alloc (Nat.le_refl _) _).cell (p := ⟨b, _, none⟩) (by have := hBw.size; simp; omega)).trans hcell
      case k3 =>
        intro v hv
        obtain ⟨x, _, hx⟩ := List.mem_flatMap.1 hv
        simp only [Wg.enc, List.mem_cons, List.not_mem_nil, or_false] at hx
        rcases hx with rfl | rfl | rfl | rfl | rfl <;> rfl
      have b1 : Below wr.heap.size wr ((wr.alloc (.cells (madeCells #[.int .i64 0, .int .i64 0, .int .i64 0, .int .i64 0, .int .i64 0] (h.ws.length * 5)) 55)).setRow wr.heap.size (h.ws.flatMap Wg.enc).toArray) := below_setRow ((Below.refl _ _).alloc (Nat.le_refl _) _) (Nat.le_refl _) _
      have b2 : Blk ((wr.alloc (.cells (madeCells #[.int .i64 0, .int .i64 0, .int .i64 0, .int .i64 0, .int .i64 0] (h.ws.length * 5)) 55)).setRow wr.heap.size (h.ws.flatMap Wg.enc).toArray) wr.heap.size 55 (h.ws.flatMap Wg.enc).toArray := setRow_heap _ _ _ _ _ _ (heap_alloc_new wr _)
      generalize (wr.alloc (.cells (madeCells #[.int .i64 0, .int .i64 0, .int .i64 0, .int .i64 0, .int .i64 0] (h.ws.length * 5)) 55)).setRow wr.heap.size (h.ws.flatMap Wg.enc).toArray = w6 at hcp b1 b2
      have hho6 := (HHO.out.later hB).later b1
      have hd0 := hho6.cell 0
      have hd1 := hho6.cell 1
      have hd2 := hho6.cell 2
      have hdf2 := hho6.frozen 2
      simp only [List.getElem?_toArray, List.getElem?_cons_zero, List.getElem?_cons_succ] at hd0 hd1 hd2
      have hre6 := (HRE.out.later hB).later b1
      have hM6 := HMM.out.later b1
      have hB6 : Below w1.heap.size w1 w6 := hB.trans (b1.mono hB.size)
      have HHO6 := Lib.hid hho6
      have HRE6 := Lib.hid hre6
      have HM6 := Lib.hid hM6
      have hhl6 := hho6.lt
      clear hho6 hre6 hM6
      go_wp2
      have hwl1 : w.heap.size < w1.heap.size := HHO.out.lt
      have hwl2 : w.heap.size + 1 < w1.heap.size := HRE.out.lt
      have hB7 : Below w.heap.size w (w6.setCell ⟨w.heap.size, 2, none⟩ (.slice none 0 0)) := (hBw.trans (b1.mono hBw.size)).setCell (p := ⟨w.heap.size, 2, none⟩) (Nat.le_refl _) _
      have hH7 : Blk (w6.setCell ⟨w.heap.size, 2, none⟩ (.slice none 0 0)) w.heap.size 25 #[.int .i64 h.months, .int .i64 h.peak, .slice none 0 0] := HHO6.out.set_ 2 _
      have hR7 : Blk (w6.setCell ⟨w.heap.size, 2, none⟩ (.slice none 0 0)) (w.heap.size + 1) 25 #[.int .i64 0, .int .i64 0, .slice none 0 0] := HRE6.out.far (p := ⟨w.heap.size, 2, none⟩) (by simp) _
      have hM7 : MapB (w6.setCell ⟨w.heap.size, 2, none⟩ (.slice none 0 0)) w1.heap.size ns.length f := HM6.out.kept (grown_set (grown_below (Below.refl _ _)) _) (by simp; omega)
      have hW7 : Blk (w6.setCell ⟨w.heap.size, 2, none⟩ (.slice none 0 0)) wr.heap.size 55 (h.ws.flatMap Wg.enc).toArray := b2.far (p := ⟨w.heap.size, 2, none⟩) (by have := hhl; simp; omega) _
      generalize w6.setCell ⟨w.heap.size, 2, none⟩ (.slice none 0 0) = w7 at hB7 hH7 hR7 hM7 hW7 ⊢
      have hm1 := hM7.lt
      have hw1 := hW7.lt
      have hh1 := hH7.lt
      clear hcp b1 b2 hd0 hd1 hd2 hdf2 hmk hc2
      obtain ⟨wq, rfl⟩ : ∃ wq : World, wq = wr := ⟨_, rfl⟩
      go_loopw [51] (fun i wr' => ∃ (j : Nat) (v : Value), j ≤ h.ws.length ∧ i = .int .i64 j ∧ Below w.heap.size w wr' ∧ Chg [w.heap.size] w7 wr' ∧ Blk wr' w.heap.size 25 #[.int .i64 h.months, .int .i64 h.peak, v] ∧ wr'.ownsRow w7.heap.size 55 5 v (keepW f h.ws j).length ((keepW f h.ws j).flatMap Wg.enc)) (fun i _ => h.ws.length - (intOf i).toNat)
      case atStart => exact ⟨0, .slice none 0 0, by omega, rfl, hB7, Chg.refl _ _, hH7, World.ownsRow_nil _ _ _ 5⟩
      case round =>
        have HB7 := Lib.hid hB7
        clear hB7
        obtain ⟨j, v, hj, rfl, hBj, hCj, hHj, hOw⟩ := hrel
        have hWj : Blk wr wq.heap.size 55 (h.ws.flatMap Wg.enc).toArray := (hCj.block wq.heap.size hw1 (by simp; omega)).trans hW7
        have hMj : MapB wr w1.heap.size ns.length f := hM7.kept (row := some w.heap.size) ⟨hCj.os, hCj.tape, hCj.output, hCj.size, fun k hk hne => hCj.block k hk (by simp; exact fun e => hne (by rw [e]))⟩ (by simp; omega)
        have hRj : Blk wr (w.heap.size + 1) 25 #[.int .i64 0, .int .i64 0, .slice none 0 0] := (hCj.block _ hR7.lt (by simp)).trans hR7
        have HRJ := Lib.hid hRj
        have HMJ := Lib.hid hMj
        have HWJ := Lib.hid hWj
        have HHJ := Lib.hid hHj
        by_cases hlt : j < h.ws.length
        · obtain ⟨x, hx⟩ : ∃ x, x = h.ws[j] := ⟨_, rfl⟩
          have hgx : ∀ q, q < 5 → wr.cell? ⟨wq.heap.size, j * 5 + q, none⟩ = x.enc[q]? := fun q hq => by
            rw [hWj.cell, List.getElem?_toArray, flat_get Wg.enc 5 wg_len h.ws j hlt q hq, ← hx]
          have y0 := hgx 0 (by omega)
          have y1 := hgx 1 (by omega)
          have y2 := hgx 2 (by omega)
          have y3 := hgx 3 (by omega)
          have y4 := hgx 4 (by omega)
          unfold Wg.enc at y0 y1 y2 y3 y4
          simp only [Nat.add_zero, List.getElem?_cons_zero, List.getElem?_cons_succ] at y0 y1 y2 y3 y4
          have hlk := (hMj.later ((Below.refl _ _).alloc (Nat.le_refl _) (.cells #[.int .i64 x.month, .int .i64 x.slo, .int .i64 x.shi, .int .i64 x.mlo, .int .i64 x.mhi] 55))).look j (by omega) (by omega)
          have hc2 := hHj.cell 2
          have hcf2 := hHj.frozen 2
          simp only [List.getElem?_toArray, List.getElem?_cons_zero, List.getElem?_cons_succ] at hc2
          have hhl := hHj.lt
          have hwl := hWj.lt
          have HX := Lib.hid hx
          have hkl := keepW_len f h.ws j
          have HZ := hCj.size
          clear hgx hx hRj hMj hWj hHj
          cases hf : f j
          · rw [hf] at hlk
            have HP := Lib.hid (keepW_yes f h.ws j hlt hf)
            clear hf
            have hOw2 := (ownsRow_keep hOw ((Below.refl _ _).alloc (Nat.le_refl _) (.cells #[.int .i64 x.month, .int .i64 x.slo, .int .i64 x.shi, .int .i64 x.mlo, .int .i64 x.mhi] 55))).alloc (.cells #[.int .i64 x.month, .int .i64 x.slo, .int .i64 x.shi, .int .i64 x.mlo, .int .i64 x.mhi] 55)
            go_wp2_with (at_builtin; refine wpList_append_own _ rfl _ _ 23 rfl w7.heap.size 55 i0 _ 5 40 Try.underlying23 hi0 hz0 hz1 hz2 rfl (by decide) v _ _ rfl hOw2 ⟨wr.heap.size + 1, 0, none⟩ 1 1 x.enc rfl rfl ?c1 ?c2 ?c3 ?c4 ?c5 ?_)
            case c1 =>
              have := Blk.new (wr.alloc (.cells #[.int .i64 x.month, .int .i64 x.slo, .int .i64 x.shi, .int .i64 x.mlo, .int .i64 x.mhi] 55)) 55 #[.int .i64 x.month, .int .i64 x.slo, .int .i64 x.shi, .int .i64 x.mlo, .int .i64 x.mhi]
              rw [World.size_alloc] at this
              exact World.news_of_block (cs := #[.int .i64 x.month, .int .i64 x.slo, .int .i64 x.shi, .int .i64 x.mlo, .int .i64 x.mhi]) (t := 55) (fr := (0, 0)) this
            case c2 => simp [Wg.enc, Value.oneCell']
            case c3 => unfold maxLen; omega
            case c4 => omega
            case c5 => simp; omega
            intro v' w8 hown' hgrow _
            obtain ⟨g', cap', rfl⟩ := ownsRow_succ hown'
            have hvb : ∀ k, v.ownBlock = some k → w7.heap.size ≤ k := fun k hk => (hOw.lt k hk).1
            have hz8 := hgrow.size
            simp only [World.size_alloc] at hz8
            have hb8 : ∀ k, k < wr.heap.size → v.ownBlock ≠ some k → w8.heap[k]? = wr.heap[k]? := fun k hk hne => (hgrow.block k (by simp; omega) (Ne.symm hne)).trans ((((Below.refl _ _).alloc (Nat.le_refl _) _).alloc (by simp) _).block k hk)
            have hC8 : Chg [w.heap.size] w7 w8 := ⟨hgrow.os.trans hCj.os, hgrow.tape.trans hCj.tape, hgrow.output.trans hCj.output, by omega, fun k hk hne => (hb8 k (by omega) (fun e => by have := hvb k e; omega)).trans (hCj.block k hk hne)⟩
            have hB8 : Below w.heap.size w w8 := Chg.below hC8 HB7.out (by omega) (by simp)
            have hH8 : Blk w8 w.heap.size 25 #[.int .i64 h.months, .int .i64 h.peak, v] := (hb8 _ (by omega) (fun e => by have := hvb _ e; omega)).trans HHJ.out
            have hd2 := hH8.cell 2
            have hdf2 := hH8.frozen 2
            simp only [List.getElem?_toArray, List.getElem?_cons_zero, List.getElem?_cons_succ] at hd2
            have hgne : w7.heap.size ≤ g' := (hown'.lt g' rfl).1
            have HOw := Lib.hid hown'
            have HH8 := Lib.hid hH8
            clear hown' hgrow hOw hOw2 hlk y0 y1 y2 y3 y4 hc2 hcf2 hH8 hb8
            go_wp2
            go_roundw
            case rel =>
              refine ⟨j + 1, _, by omega, by go_num, hB8.setCell (p := ⟨w.heap.size, 2, none⟩) (Nat.le_refl _) _, hC8.set_ (p := ⟨w.heap.size, 2, none⟩) (.inl (by simp)) _, HH8.out.set_ 2 _, ?_⟩
              rw [HP.out, ← HX.out, List.length_append, List.flatMap_append]
              have := ownsRow_at HOw.out (w' := w8.setCell ⟨w.heap.size, 2, none⟩ (.slice (some ⟨g', 0, none⟩) ((keepW f h.ws j).length + 1) cap')) (fun k hk hk1 hk2 => Below.heap_setCell w8 ⟨w.heap.size, 2, none⟩ _ k (by simp; omega))
              simpa using this
            case measure => simp [intOf]; omega
          · rw [hf] at hlk
            have HP := Lib.hid (keepW_no f h.ws j hf)
            have HOw := Lib.hid hOw
            clear hf hOw
            go_wp2
            go_roundw
            case rel => exact ⟨j + 1, v, by omega, by go_num, hBj.alloc hBj.size _, hCj.alloc _, HHJ.out.alloc _, by rw [HP.out]; exact ownsRow_keep HOw.out ((Below.refl _ _).alloc (Nat.le_refl _) _)⟩
            case measure => simp [intOf]; omega
        · obtain rfl : j = h.ws.length := by omega
          have hwo : h.without ns = { months := h.months, peak := h.peak, ws := keepW f h.ws h.ws.length } := by unfold Hs.without; rw [HRS.out]; rfl
          have HWO := Lib.hid hwo
          obtain ⟨ao, cap, rfl, hrow, _, hbl⟩ := row_of_own Wg.enc 5 wg_len hOw
          have HRj := Lib.hid hRj
          have HROW := Lib.hid hrow
          have HBL := Lib.hid hbl
          have d0 := hHj.cell 0
          have d1 := hHj.cell 1
          have d2 := hHj.cell 2
          have r0 := hRj.cell 0
          have r1 := hRj.cell 1
          have r2 := hRj.cell 2
          have rf0 := hRj.frozen 0
          have rf1 := hRj.frozen 1
          have rf2 := hRj.frozen 2
          simp only [List.getElem?_toArray, List.getElem?_cons_zero, List.getElem?_cons_succ] at d0 d1 d2 r0 r1 r2
          have hrl := hRj.lt
          clear hRj hMj hWj hHj hOw hwo hrow hbl
          go_wp2
          have hY2 := ((HRj.out.set_ 0 (.int .i64 h.months)).set_ 1 (.int .i64 h.peak)).set_ 2 (.slice ao (keepW f h.ws h.ws.length).length cap)
          refine bodyPost_ret (v := .tuple #[.agg #[.int .i64 h.months, .int .i64 h.peak, .slice ao (keepW f h.ws h.ws.length).length cap], .int .i64 0]) ?_ rfl ⟨ao, cap, ?_, ?_, ((hBj.setCell (p := ⟨w.heap.size + 1, 0, none⟩) (by simp) _).setCell (p := ⟨w.heap.size + 1, 1, none⟩) (by simp) _).setCell (p := ⟨w.heap.size + 1, 2, none⟩) (by simp) _⟩
          · have e0 := hY2.cell 0
            have e1 := hY2.cell 1
            have e2 := hY2.cell 2
            simp only [List.setIfInBounds_toArray, List.set_cons_zero, List.set_cons_succ, List.getElem?_toArray, List.getElem?_cons_zero, List.getElem?_cons_succ] at e0 e1 e2
            simp [results, Try.results30, go_sem, e0, e1, e2]
          · rw [HWO.out, HRS.out]
          · rw [HWO.out]
            intro i hi
            obtain ⟨b, o, hA, hb, hc⟩ := HROW.out i hi
            have hbb : w7.heap.size ≤ b := HBL.out _ hA
            refine ⟨b, o, hA, by simpa using hb, fun q u hu => ?_⟩
            have hne : w.heap.size + 1 ≠ b := by have := hR7.lt; omega
            exact (((World.cell?_setCell_far _ ⟨w.heap.size + 1, 2, none⟩ ⟨b, _, none⟩ _ hne).trans (World.cell?_setCell_far _ ⟨w.heap.size + 1, 1, none⟩ ⟨b, _, none⟩ _ hne)).trans (World.cell?_setCell_far _ ⟨w.heap.size + 1, 0, none⟩ ⟨b, _, none⟩ _ hne)).trans (hc q u hu)
end Go.Proofs.Ytjihnnbpfdhceaa
