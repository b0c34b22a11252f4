/- boil.desk.proof. Conditions: none beyond those that each theorem names. -/
import Derived.Test.YtjihnnbpfdhceaaGBoilGrown10
import Derived.Deep.AppendLies
import Derived.Shelf.SlSortCmp.NoneTotal
set_option linter.unusedSimpArgs false
set_option linter.unusedVariables false
namespace Go.Proofs.Ytjihnnbpfdhceaa
open Go.RowKit Go.Shelf

theorem zero_row14 : (#[.bool false, .bool false, .bool false, .bool false, .bool false, .bool false, .bool false, .bool false, .bool false, .bool false, .bool false, .bool false, .bool false, .bool false] : Array Value) = row14 (fun _ => false) := by kernel_rfl
theorem zero_row14I : (#[.int .i64 0, .int .i64 0, .int .i64 0, .int .i64 0, .int .i64 0, .int .i64 0, .int .i64 0, .int .i64 0, .int .i64 0, .int .i64 0, .int .i64 0, .int .i64 0, .int .i64 0, .int .i64 0] : Array Value) = row14I (fun _ => 0) := by kernel_rfl

/-- What stands above what, when the first k weighings have been placed. -/
def proofSt (M : Nat → Nat → Bool) (len : Nat) : Nat → Nat → Int
  | 0 => fun _ => -1
  | k + 1 => (tryP M len 15 k { met := fun _ => false, over := proofSt M len k }).2.over

theorem row14I_size (r : Nat → Int) : (row14I r).size = 14 := Array.size_ofFn
theorem run_index_row14I (r : Nat → Int) (j : Nat) (hj : j < 14) (W : World) : (Instr.index 144 (.agg (row14I r)) (.int .i64 j)).run Try.prog W = .ok (.int .i64 (r j)) W := by
  have h1 : (0 : Int) ≤ (j : Int) ∧ (j : Int) < 14 := by omega
  simp only [Instr.index, asIntOf, Sem.run_bind, Sem.run_pure, Result.andThen_ok, run_underlying Try.underlying144]
  simp [go_sem, h1, part, row14I_at _ _ hj]
/-- The pairs among the first k weighings. -/
def pairsTo (ov : Nat → Int) (k : Nat) : List (Int × Int) := (List.range k).filterMap fun b => if ov b = -1 then none else some (ov b, (b : Int))
theorem pairsTo_no (ov : Nat → Int) (k : Nat) (h : ov k = -1) : pairsTo ov (k + 1) = pairsTo ov k := by
  unfold pairsTo; rw [List.range_succ, List.filterMap_append]; simp [h]
theorem pairsTo_yes (ov : Nat → Int) (k : Nat) (h : ov k ≠ -1) : pairsTo ov (k + 1) = pairsTo ov k ++ [(ov k, (k : Int))] := by
  unfold pairsTo; rw [List.range_succ, List.filterMap_append]; simp [h]
theorem flatP_snoc (l : List (Int × Int)) (p : Int × Int) : flatP (l ++ [p]) = flatP l ++ [.int .i64 p.1, .int .i64 p.2] := by simp [flatP]
theorem pairsTo_len (ov : Nat → Int) (k : Nat) : (pairsTo ov k).length ≤ k := by
  unfold pairsTo
  have := List.length_filterMap_le (fun b => if ov b = -1 then none else some (ov b, (b : Int))) (List.range k)
  simpa using this

theorem info_pair : (Try.prog.info? 36).map (fun i => (i.zero, i.size, i.bytes)) = some (some (.agg #[.int .i64 0, .int .i64 0]), 2, 16) := by kernel_rfl
theorem unmet_15 (m : Nat → Bool) : unmet m < 15 := by
  unfold unmet
  have := List.length_filter_le (fun b => !m b) (List.range 14)
  simp at this
  omega
theorem proofSt_ov (M : Nat → Nat → Bool) (len k : Nat) (hk : k ≤ len) : ∀ b, proofSt M len k b = -1 ∨ (0 ≤ proofSt M len k b ∧ proofSt M len k b < len) := by
  induction k with
  | zero => intro b; exact .inl rfl
  | succ k ih =>
    exact (tryP_le M len 15 k { met := fun _ => false, over := proofSt M len k } (by omega) (ih (by omega))).over (ih (by omega))

set_option maxRecDepth 100000 in
set_option maxHeartbeats 1000000 in
theorem proof_any (g len c : Nat) (A : Option Addr) (x0 x1 : Value) (M : Nat → Nat → Bool) (hlen : len ≤ 14) (w : World) (hg : Blk w g 134 (deskCells x0 x1 (.slice A len c) M)) :
    Calls Try.prog 92 #[.pointer (some ⟨g, 0, none⟩)] w fun e w' => ∃ (ps : List (Int × Int)) (A' : Option Addr) (c' : Nat), e = .returned (.slice A' ps.length c') ∧ RowIn pairEnc 2 w' w'.heap.size A' ps ∧
      ps.Perm (pairsTo (proofSt M len len) 14) ∧ ps.Pairwise (fun p q => p.1 ≤ q.1) ∧ Below w.heap.size w w' := by
  obtain ⟨i0, hi0, hz0, hz1', hz2'⟩ := info_parts info_pair
  have hz1 := zero_row14
  have hz2 := zero_row14I
  go_enter Try.func92, Try.ntmps92
  go_wp2
  have hb0 : Below w.heap.size w ((w.alloc (.cells #[.pointer (some ⟨g, 0, none⟩)] 96)).alloc (.cells (row14I fun _ => 0) 144)) := by repeat (first | exact Below.refl _ _ | exact Below.refl _ _ | refine Below.drew ?_ | refine below_drewN ?_ _ | refine Below.setCell ?_ (by first | assumption | omega | (simp; done) | (simp; omega) | (simp at *; omega)) _ | refine Below.alloc ?_ (by first | assumption | omega | (simp; done) | (simp; omega) | (simp at *; omega)) _ | refine Below.trans ?_ (Below.mono Below.refl _ _ (by first | assumption | omega | (simp; done) | (simp; omega) | (simp at *; omega))))
  have hd0 : Blk ((w.alloc (.cells #[.pointer (some ⟨g, 0, none⟩)] 96)).alloc (.cells (row14I fun _ => 0) 144)) w.heap.size 96 #[.pointer (some ⟨g, 0, none⟩)] := (Blk.new _ _ _).alloc _
  have ho0 : Blk ((w.alloc (.cells #[.pointer (some ⟨g, 0, none⟩)] 96)).alloc (.cells (row14I fun _ => 0) 144)) (w.heap.size + 1) 144 (row14I fun _ => 0) := by
    have := Blk.new (w.alloc (.cells #[.pointer (some ⟨g, 0, none⟩)] 96)) 144 (row14I fun _ => 0)
    rwa [World.size_alloc] at this
  generalize (w.alloc (.cells #[.pointer (some ⟨g, 0, none⟩)] 96)).alloc (.cells (row14I fun _ => 0) 144) = W0 at hb0 hd0 ho0 ⊢
  go_loopw [11] (fun i wr => ∃ k : Nat, k ≤ 14 ∧ i = .int .i64 k ∧ Below w.heap.size w wr ∧ Blk wr w.heap.size 96 #[.pointer (some ⟨g, 0, none⟩)] ∧ Blk wr (w.heap.size + 1) 144 (row14I fun b => if b < k then -1 else 0)) (fun i _ => 14 - (intOf i).toNat)
  case atStart => exact ⟨0, by omega, rfl, hb0, hd0, by simpa using ho0⟩
  case round =>
    clear hb0 hd0 ho0
    obtain ⟨k, hk, rfl, hB, hD, hO⟩ := hrel
    by_cases hlt : k < 14
    · have hlt' : (k : Int) < 14 := by omega
      have co := (hO.cell k).trans (row14I_at _ _ hlt)
      have cof := hO.frozen k
      have HO := Lib.hid hO
      have HD := Lib.hid hD
      clear hO hD
      go_wp2
      go_roundw
      case rel =>
        refine ⟨k + 1, by omega, by go_num, hB.setCell (p := ⟨w.heap.size + 1, k, none⟩) (by simp) _, HD.out.far (p := ⟨w.heap.size + 1, k, none⟩) (by simp) _, ?_⟩
        have := HO.out.set_ k (.int .i64 (-1))
        rw [row14I_set] at this
        have e : updI (fun b => if b < k then (-1 : Int) else 0) k (-1) = fun b => if b < k + 1 then -1 else 0 := by
          funext b
          unfold updI
          by_cases h1 : b = k
          · subst h1; simp
          · rw [if_neg h1]
            show (if b < k then (-1 : Int) else 0) = _
            by_cases h2 : b < k
            · rw [if_pos h2, if_pos (by omega)]
            · rw [if_neg h2, if_neg (by omega)]
        rw [e] at this
        exact this
      case measure => simp [intOf]; omega
    · have hk14 : k = 14 := by omega
      have hO1 : Blk wr (w.heap.size + 1) 144 (row14I (proofSt M len 0)) := by
        have e : row14I (fun b => if b < k then (-1 : Int) else 0) = row14I (proofSt M len 0) := by
          rw [hk14]
          apply row14I_congr
          intro b hb
          simp [proofSt, hb]
        rw [← e]; exact hO
      clear hk14
      have hg1 := hg.later hB
      have cd := hD.cell 0
      have cg0 := (hg1.cell 0).trans (deskCells_0 _ _ _ _)
      have cg2 := (hg1.cell 2).trans (deskCells_2 _ _ _ _)
      simp only [List.getElem?_toArray, List.getElem?_cons_zero] at cd
      have HG := Lib.hid hg
      clear hO hg hg1
      have HO1 := Lib.hid hO1
      have HD1 := Lib.hid hD
      clear hO1 hD
      go_wp2
      obtain ⟨wa, rfl⟩ : ∃ wa : World, wa = wr := ⟨_, rfl⟩
      go_loopw [23] (fun i wr => ∃ k : Nat, k ≤ len ∧ i = .int .i64 k ∧ Below w.heap.size w wr ∧ Blk wr w.heap.size 96 #[.pointer (some ⟨g, 0, none⟩)] ∧ Blk wr (w.heap.size + 1) 144 (row14I (proofSt M len k))) (fun i _ => len - (intOf i).toNat)
      case atStart => exact ⟨0, Nat.zero_le _, rfl, hB, HD1.out, HO1.out⟩
      case round =>
        clear hB cd cg0 cg2 HD1 HO1
        obtain ⟨k, hk, rfl, hB, hD, hO⟩ := hrel
        by_cases hlt : k < len
        · have hg1 := HG.out.later hB
          have hb2 : Below wr.heap.size wr ((wr.alloc (.cells (row14 fun _ => false) 121)).alloc (.cells #[placeFn w.heap.size wr.heap.size (w.heap.size + 1) (wr.heap.size + 1)] 74)) := by repeat (first | exact Below.refl _ _ | exact Below.refl _ _ | refine Below.drew ?_ | refine below_drewN ?_ _ | refine Below.setCell ?_ (by first | assumption | omega | (simp; done) | (simp; omega) | (simp at *; omega)) _ | refine Below.alloc ?_ (by first | assumption | omega | (simp; done) | (simp; omega) | (simp at *; omega)) _ | refine Below.trans ?_ (Below.mono Below.refl _ _ (by first | assumption | omega | (simp; done) | (simp; omega) | (simp at *; omega))))
          have hP : PlAt g len c A x0 x1 M w.heap.size wr.heap.size (w.heap.size + 1) (wr.heap.size + 1) { met := fun _ => false, over := proofSt M len k } ((wr.alloc (.cells (row14 fun _ => false) 121)).alloc (.cells #[placeFn w.heap.size wr.heap.size (w.heap.size + 1) (wr.heap.size + 1)] 74)) := by
            refine ⟨hg1.later hb2, hD.later hb2, (Blk.new _ _ _).alloc _, hO.later hb2, ?_⟩
            have := Blk.new (wr.alloc (.cells (row14 fun _ => false) 121)) 74 #[placeFn w.heap.size wr.heap.size (w.heap.size + 1) (wr.heap.size + 1)]
            rwa [World.size_alloc] at this
          have HP := Lib.hid hP
          have HB2 := Lib.hid hb2
          have HZ := hB.size
          clear hg1 hP hb2 hD hO
          go_wp2_with fail
          refine (place_any g len c A x0 x1 M w.heap.size wr.heap.size (w.heap.size + 1) (wr.heap.size + 1) hlen 15 k { met := fun _ => false, over := proofSt M len k } _ hlt (proofSt_ov M len k (by omega)) (unmet_15 _) HP.out).mono ?_
          rintro e w4 ⟨rfl, hch, hm, ho⟩
          have hP4 := HP.out.chg hch hm ho
          have hB4 : Below w.heap.size w w4 := hch.below (hB.trans (HB2.out.mono HZ)) (Nat.le_trans HZ HB2.out.size) (by simp; omega)
          have HP4 := Lib.hid hP4
          clear hm ho hP4 hch
          go_wp2
          go_roundw
          case rel => exact ⟨k + 1, by omega, by go_num, hB4, HP4.out.d, HP4.out.o⟩
          case measure => simp [intOf]; omega
        · obtain rfl : k = len := by omega
          iterate 27 go_step
          refine wpList_load_row rfl 144 (.tmp 3) rfl (w.heap.size + 1) rfl 144 (row14I (proofSt M k k)) (0, 0) _ hO Try.underlying144 rfl (by rw [row14I_size]; kernel_rfl) ?_
          have HD2 := Lib.hid hD
          have HO2 := Lib.hid hO
          clear hD hO
          go_wp2
          obtain ⟨wb, rfl⟩ : ∃ wb : World, wb = wr := ⟨_, rfl⟩
          go_loopw [8, 32] (fun v i wr => ∃ j : Nat, j ≤ 14 ∧ i = .int .i64 j ∧ Below w.heap.size w wr ∧ wr.ownsRow w.heap.size 36 2 v (pairsTo (proofSt M k k) j).length (flatP (pairsTo (proofSt M k k) j))) (fun _ i _ => 14 - (intOf i).toNat)
          case atStart => exact ⟨0, by omega, rfl, hB, by rw [show pairsTo (proofSt M k k) 0 = [] from rfl]; exact ⟨rfl, .inl ⟨rfl, rfl⟩⟩⟩
          case round =>
            clear hB
            obtain ⟨j, hj, rfl, hB, hOw⟩ := hrel
            by_cases hj14 : j < 14
            · have hj' : (j : Int) < 14 := by omega
              have hix := fun W => run_index_row14I (proofSt M k k) j hj14 W
              have hpl := pairsTo_len (proofSt M k k) j
              by_cases hov : proofSt M k k j = -1
              · have HP := Lib.hid (pairsTo_no _ _ hov)
                have hq : (proofSt M k k j != -1) = false := by rw [hov]; rfl
                clear hov
                have HOw := Lib.hid hOw
                clear hOw
                go_wp2
                go_roundw
                case rel => exact ⟨j + 1, by omega, by go_num, hB, by rw [HP.out]; exact HOw.out⟩
                case measure => simp [intOf]; omega
              · have HP := Lib.hid (pairsTo_yes _ _ hov)
                have hq : (proofSt M k k j != -1) = true := by rw [bne_iff_ne]; exact hov
                clear hov
                have HZ := hB.size
                go_wp2_with (at_builtin; refine wpList_append_own _ rfl _ _ 104 rfl w.heap.size 36 i0 _ 2 16 Try.underlying104 hi0 hz0 hz1' hz2' rfl (by decide) _ _ _ rfl (hOw.alloc _) ⟨wr.heap.size, 0, none⟩ 1 1 [.int .i64 (proofSt M k k j), .int .i64 j] rfl rfl ?c1 ?c2 ?c3 ?c4 ?c5 ?_)
                case c1 => exact World.news_of_block (cs := #[.int .i64 (proofSt M k k j), .int .i64 j]) (t := 36) (fr := (0, 0)) (heap_alloc_new wr _)
                case c2 => simp [Value.oneCell']
                case c3 => unfold maxLen; omega
                case c4 => omega
                case c5 => simp; omega
                intro v' w1 hown' hgrow _
                have hB1 : Below w.heap.size w w1 := (hB.alloc HZ _).grown hgrow (by simp; omega) (fun g hg => (hOw.lt g hg).1)
                have HOw := Lib.hid hown'
                clear hown' hgrow hOw
                go_wp2
                go_roundw
                case rel => exact ⟨j + 1, by omega, by go_num, hB1, by rw [HP.out, flatP_snoc, List.length_append]; exact HOw.out⟩
                case measure => simp [intOf]; omega
            · have hj14' : j = 14 := by omega
              have HJ := Lib.hid hj14'
              clear hj14'
              have hbd : ∀ p ∈ pairsTo (proofSt M k k) j, 0 ≤ p.1 ∧ p.1 ≤ 1000 := by
                intro p hp
                unfold pairsTo at hp
                obtain ⟨b, _, hb⟩ := List.mem_filterMap.1 hp
                split at hb
                · cases hb
                · injection hb with hb
                  subst hb
                  have := proofSt_ov M k k (Nat.le_refl _) b
                  simp only
                  omega
              have HBD := Lib.hid hbd
              have hplen := pairsTo_len (proofSt M k k) j
              clear hbd
              rcases hOw.2 with ⟨rfl, hn0⟩ | ⟨g', cap', cur, rfl, hg', hrow, _⟩
              · have hnil : pairsTo (proofSt M k k) j = [] := List.eq_nil_of_length_eq_zero hn0
                have HNIL := Lib.hid hnil
                clear hnil hn0 hOw
                go_wp2_with fail
                refine (AnyF.slices_SortFunc_none sortPairs none 0 _ _).mono ?_
                rintro e w' ⟨rfl, rfl⟩
                go_wp2
                go_ret
                exact ⟨[], none, 0, rfl, RowIn.nil, by rw [← HJ.out, HNIL.out], List.Pairwise.nil, hB⟩
              · have hgl : g' < wr.heap.size := (Array.getElem?_eq_some_iff.1 hrow).1
                have hH := holds_of_own hOw rfl HBD.out
                have hcon := sortPairs_any g' cap' _ wr hgl hH (by simp; omega)
                have HC := Lib.hid hcon
                clear hcon hH hOw
                go_wp2_with fail
                have hsz : ((pairsTo (proofSt M k k) j).map toSP).toArray.size = (pairsTo (proofSt M k k) j).length := by simp
                have HCC := HC.out
                rw [hsz] at HCC
                refine HCC.mono ?_
                rintro e w' ⟨rfl, d', hd1, hd2, hd3, hd4, hd5⟩
                have HSZ := Lib.hid hsz
                clear hsz HCC
                have H1 := Lib.hid hd1
                have H2 := Lib.hid hd2
                have H3 := Lib.hid hd3
                have H4 := Lib.hid hd4
                have H5 := Lib.hid hd5
                clear hd1 hd2 hd3 hd4 hd5
                go_wp2
                go_ret
                have hlen' : (d'.toList.map fun x => (x.a, x.b)).length = (pairsTo (proofSt M k k) j).length := by rw [List.length_map, Array.length_toList, H1.out]
                refine ⟨d'.toList.map fun x => (x.a, x.b), some ⟨g', 0, none⟩, cap', by rw [hlen']; rfl, row_of_holds H5.out (Nat.lt_of_lt_of_le hgl H4.out.size), ?_, ?_, H4.out.below hB hB.size (by simp [hg'])⟩
                · rw [← HJ.out]
                  have h1 := H2.out.map (fun x : SP => (x.a, x.b))
                  refine h1.trans ?_
                  simp only [List.map_map]
                  have e : ((pairsTo (proofSt M k k) j).map ((fun x : SP => (x.a, x.b)) ∘ toSP)) = pairsTo (proofSt M k k) j := by
                    conv => rhs; rw [← List.map_id (pairsTo (proofSt M k k) j)]
                    exact List.map_congr_left fun p hp => toSP_of (HBD.out p hp)
                  rw [e]
                · rw [List.pairwise_map, List.pairwise_iff_getElem]
                  intro i i' hi hi' hlt
                  have := H3.out i i' hlt (by simpa using hi')
                  rw [getElem!_pos d' i (by simpa using hi), getElem!_pos d' i' (by simpa using hi')] at this
                  simpa using this
end Go.Proofs.Ytjihnnbpfdhceaa
