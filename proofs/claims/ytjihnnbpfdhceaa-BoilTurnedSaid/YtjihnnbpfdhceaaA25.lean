/- boil.Proves. Conditions: none beyond those that each theorem names. -/
import Derived.Test.YtjihnnbpfdhceaaA24
set_option linter.unusedSimpArgs false
set_option linter.unusedVariables false
namespace Go.Proofs.Ytjihnnbpfdhceaa
open Go.RowKit Go.Shelf
attribute [local go_sem] Oper.semAt_some
attribute [local go_sem ↓] Go.wp_at_zero Go.wp_at_succ

theorem RowIn.pr {B : Nat} {w : World} {A : Option Addr} {l : List (Int × Int)} (h : RowIn pairEnc 2 w B A l) (i : Nat) (hi : i < l.length) :
    ∃ b o x, A = some ⟨b, o, none⟩ ∧ b < B ∧ l[i] = x ∧ w.cell? ⟨b, o + i * 2, none⟩ = some (.int .i64 x.1) ∧ w.cell? ⟨b, o + i * 2 + 1, none⟩ = some (.int .i64 x.2) := by
  obtain ⟨b, o, hA, hb, hc⟩ := h i hi
  exact ⟨b, o, l[i], hA, hb, rfl, hc 0 _ rfl, hc 1 _ rfl⟩

/-- The error of pairs, those above and those below being taken. -/
def provesL (h : Hs) : (Nat → Bool) → (Nat → Bool) → List (Int × Int) → Int
  | _, _, [] => 0
  | up, lo, p :: ps => if (h.weighing p.1 && h.weighing p.2) = false then 1 else if h.clashM p.1.toNat p.2.toNat = false then 8 else if (up p.1.toNat || lo p.2.toNat) = true then 5 else provesL h (updB up p.1.toNat true) (updB lo p.2.toNat true) ps
/-- boil.Proves's answer. -/
def Hs.proves (h : Hs) (ps : List (Int × Int)) : Int := provesL h (fun _ => false) (fun _ => false) ps
def Hs.provesN (h : Hs) (ps : List (Int × Int)) : Int := if h.proves ps = 0 then ps.length else 0

theorem weighing_nat {h : Hs} {n : Int} (hw : h.weighing n = true) : ∃ a : Nat, n = a ∧ a < h.ws.length := by
  unfold Hs.weighing inB at hw
  simp at hw
  obtain ⟨a, rfl⟩ := Int.eq_ofNat_of_zero_le hw.1
  exact ⟨a, rfl, by omega⟩
set_option maxRecDepth 100000 in
set_option maxHeartbeats 1000000 in
theorem proves_any (h : Hs) (A : Option Addr) (c : Nat) (A2 : Option Addr) (ps : List (Int × Int)) (c2 : Nat) (w : World) (hr : RowIn Wg.enc 5 w w.heap.size A h.ws) (hk : h.check = 0) (hp : RowIn pairEnc 2 w w.heap.size A2 ps) (hn : ps.length ≤ 1000000) :
    Calls Try.prog 51 #[h.val A c, .slice A2 ps.length c2] w fun e w' => e = .returned (.tuple #[.int .i64 (h.provesN ps), .int .i64 (h.proves ps)]) ∧ Below w.heap.size w w' := by
  have hlen := check_len hk
  have HR := Lib.hid hr
  have HP := Lib.hid hp
  have HK := Lib.hid hk
  have hz14 := zero_row14
  clear hr hk hp
  unfold Hs.val
  go_enter Try.func51, Try.ntmps51
  go_wp2_with fail
  refine (opened_any h A c _ ((HR.out.below ((Below.refl _ _).alloc (Nat.le_refl _) _)).mono (by simp)) HK.out).mono ?_
  rintro e w1 ⟨g, rfl, hg, hgb, hb1⟩
  have hzg : w.heap.size + 1 ≤ g := by simpa using hg
  have hbw1 : Below w.heap.size w w1 := ((Below.refl _ _).alloc (Nat.le_refl _) _).trans (hb1.mono (by simp))
  have hdk : Blk w1 g 134 (desk h A c h.clashM) := hgb
  have hho : Blk w1 w.heap.size 25 #[.int .i64 h.months, .int .i64 h.peak, .slice A h.ws.length c] := (Blk.new w 25 _).later hb1
  clear hgb hg hb1
  go_wp2
  have hbw2 : Below w1.heap.size w1 ((w1.alloc (.cells (row14 fun _ => false) 121)).alloc (.cells (row14 fun _ => false) 121)) := by repeat (first | exact Below.refl _ _ | exact Below.refl _ _ | refine Below.drew ?_ | refine below_drewN ?_ _ | refine Below.setCell ?_ (by first | assumption | omega | (simp; done) | (simp; omega) | (simp at *; omega)) _ | refine Below.alloc ?_ (by first | assumption | omega | (simp; done) | (simp; omega) | (simp at *; omega)) _ | refine Below.trans ?_ (Below.mono Below.refl _ _ (by first | assumption | omega | (simp; done) | (simp; omega) | (simp at *; omega))))
  have hup : Blk ((w1.alloc (.cells (row14 fun _ => false) 121)).alloc (.cells (row14 fun _ => false) 121)) w1.heap.size 121 (row14 fun _ => false) := (Blk.new _ _ _).alloc _
  have hlw : Blk ((w1.alloc (.cells (row14 fun _ => false) 121)).alloc (.cells (row14 fun _ => false) 121)) (w1.heap.size + 1) 121 (row14 fun _ => false) := by
    have := Blk.new (w1.alloc (.cells (row14 fun _ => false) 121)) 121 (row14 fun _ => false)
    rwa [World.size_alloc] at this
  generalize (w1.alloc (.cells (row14 fun _ => false) 121)).alloc (.cells (row14 fun _ => false) 121) = w2 at hbw2 hup hlw ⊢
  have hzz := hbw1.size
  have hdl := hdk.lt
  have hhl := hho.lt
  have HD := Lib.hid (hdk.later hbw2)
  have HH := Lib.hid (hho.later hbw2)
  have HB2 := Lib.hid (hbw1.trans (hbw2.mono hzz))
  have hlwl := hlw.lt
  clear hbw1 hbw2 hdk hho hz14
  go_loopw [22] (fun i wr => ∃ (k : Nat) (up lo : Nat → Bool), k ≤ ps.length ∧ i = .int .i64 k ∧ Chg [w1.heap.size, w1.heap.size + 1] w2 wr ∧ Blk wr w1.heap.size 121 (row14 up) ∧ Blk wr (w1.heap.size + 1) 121 (row14 lo) ∧ Aside (provesL h up lo (ps.drop k) = h.proves ps)) (fun i _ => ps.length - (intOf i).toNat)
  case atStart => exact ⟨0, fun _ => false, fun _ => false, by omega, rfl, Chg.refl _ _, hup, hlw, rfl⟩
  case round =>
    clear hup hlw
    obtain ⟨k, up, lo, hk, rfl, hC, hU, hL, HN⟩ := hrel
    have hz2 := hC.size
    have hdk : Blk wr g 134 (desk h A c h.clashM) := (hC.block g (by have := HD.out.lt; omega) (by simp; omega)).trans HD.out
    have hho : Blk wr w.heap.size 25 #[.int .i64 h.months, .int .i64 h.peak, .slice A h.ws.length c] := (hC.block w.heap.size (by have := HH.out.lt; omega) (by simp; omega)).trans HH.out
    have hBw : Below w.heap.size w wr := Chg.below hC HB2.out (by omega) (by simp; omega)
    by_cases hlt : k < ps.length
    · obtain ⟨b0, o0, x, rfl, hB0, hx, x0, x1⟩ := (HP.out.below hBw).pr k hlt
      obtain ⟨xa, xb⟩ := x
      simp only at x0 x1
      have hdrop : ps.drop k = (xa, xb) :: ps.drop (k + 1) := by rw [← hx]; exact List.drop_eq_getElem_cons hlt
      have HX := Lib.hid hdrop
      have hB1 : b0 < wr.heap.size := by have := hBw.size; omega
      have HW1 := Lib.hid (fun V => weighing_any h A c xa V (by omega))
      have HW2 := Lib.hid (fun V => weighing_any h A c xb V (by omega))
      have hc0 := hho.cell 0
      have hc1 := hho.cell 1
      have hc2 := hho.cell 2
      simp only [List.getElem?_toArray, List.getElem?_cons_zero, List.getElem?_cons_succ] at hc0 hc1 hc2
      have hwl := hho.lt
      have HHO := Lib.hid hho
      have HDK := Lib.hid hdk
      have HU := Lib.hid hU
      have HL := Lib.hid hL
      have HC := Lib.hid hC
      clear hx hdrop hho hdk hU hL hC
      go_wp2_with fail
      refine (HW1.out _).mono ?_
      rintro e w4 ⟨rfl, hb4⟩
      have hb4' : Below wr.heap.size wr w4 := ((Below.refl _ _).alloc (Nat.le_refl _) _).trans (hb4.mono (by simp))
      have hv4 : Blk w4 wr.heap.size 36 #[.int .i64 xa, .int .i64 xb] := (Blk.new wr 36 _).later hb4
      have hBw4 : Below w.heap.size w w4 := hBw.trans (hb4'.mono hBw.size)
      have HNN : Hid (provesL h up lo ((xa, xb) :: ps.drop (k + 1)) = h.proves ps) := Lib.hid (by rw [← HX.out]; exact HN)
      clear HN x0 x1 hb4 hc0 hc1 hc2
      cases hw1 : h.weighing xa
      · have hres : h.proves ps = 1 := by rw [← HNN.out]; unfold provesL; simp [hw1]
        have HRS := Lib.hid hres
        clear hres hw1
        go_wp2
        go_ret2
        exact ⟨by unfold Hs.provesN; rw [HRS.out]; rfl, hBw4⟩
      · have HWA := Lib.hid hw1
        have hho4 := HHO.out.later hb4'
        have hc0 := hho4.cell 0
        have hc1 := hho4.cell 1
        have hc2 := hho4.cell 2
        simp only [List.getElem?_toArray, List.getElem?_cons_zero, List.getElem?_cons_succ] at hc0 hc1 hc2
        have v0 := Blk.cell hv4 0
        have v1 := Blk.cell hv4 1
        have vf0 := Blk.frozen hv4 0
        have vf1 := Blk.frozen hv4 1
        simp only [List.getElem?_toArray, List.getElem?_cons_zero, List.getElem?_cons_succ] at v0 v1
        clear hw1
        go_wp2_with fail
        refine (HW2.out _).mono ?_
        rintro e w5 ⟨rfl, hb5⟩
        have hb5' : Below wr.heap.size wr w5 := hb4'.trans (hb5.mono hb4'.size)
        have hv5 := hv4.later hb5
        have hBw5 : Below w.heap.size w w5 := hBw.trans (hb5'.mono hBw.size)
        clear v0 v1 vf0 vf1 hc0 hc1 hc2 hb5 hho4 hv4 hBw4 hb4'
        cases hw2 : h.weighing xb
        · have hres : h.proves ps = 1 := by rw [← HNN.out]; unfold provesL; simp [HWA.out, hw2]
          have HRS := Lib.hid hres
          clear hres hw2
          go_wp2
          go_ret2
          exact ⟨by unfold Hs.provesN; rw [HRS.out]; rfl, hBw5⟩
        · have ha := weighing_nat HWA.out
          have hb := weighing_nat hw2
          have HWB := Lib.hid hw2
          obtain ⟨a, rfl, ha⟩ := ha
          obtain ⟨b, rfl, hb⟩ := hb
          have ha14 : a < 14 := by omega
          have hb14 : b < 14 := by omega
          have hai : (a : Int) < 14 := by omega
          have hbi : (b : Int) < 14 := by omega
          have hdk5 := HDK.out.later hb5'
          have d0 := hdk5.cell (3 + a * 14 + b)
          rw [desk, deskCells_at _ _ _ _ _ _ ha14 hb14] at d0
          have hdl5 := hdk5.lt
          have v0 := Blk.cell hv5 0
          have v1 := Blk.cell hv5 1
          have vf0 := Blk.frozen hv5 0
          have vf1 := Blk.frozen hv5 1
          simp only [List.getElem?_toArray, List.getElem?_cons_zero, List.getElem?_cons_succ] at v0 v1
          clear hw2
          go_wp2
          have Fv0 := fun u => Later.cell v0 u
          have Fv1 := fun u => Later.cell v1 u
          have Fd0 := fun u => Later.cell d0 u
          clear v0 v1 vf0 vf1 d0
          cases hcl : h.clashM a b
          · have hres : h.proves ps = 8 := by rw [← HNN.out]; unfold provesL; simp [HWA.out, HWB.out, hcl]
            have HRS := Lib.hid hres
            rw [hcl] at Fd0
            clear hres hcl
            refine wp_region_later (by kernel_rfl) (by kernel_rfl) ?_
            repeat (go_big_quiet_step ((fail)))
            refine wpQuiet_nil ?_
            intro u
            have hub := u.below
            go_wp2
            go_ret2
            exact ⟨by unfold Hs.provesN; rw [HRS.out]; rfl, hBw5.trans (hub.mono hBw5.size)⟩
          · have HCL := Lib.hid hcl
            rw [hcl] at Fd0
            clear hcl
            refine wp_region_later (by kernel_rfl) (by kernel_rfl) ?_
            repeat (go_big_quiet_step ((fail)))
            refine wpQuiet_nil ?_
            intro u
            have hub := u.below
            have hBw6 : Below w.heap.size w u.w := hBw5.trans (hub.mono hBw5.size)
            have hwr6 : Below wr.heap.size wr u.w := hb5'.trans (hub.mono hb5'.size)
            have hv6 := hv5.later hub
            have hU6 := HU.out.later hwr6
            have hL6 := HL.out.later hwr6
            clear Fd0 Fv0 Fv1
            generalize u.w = w6 at hub hBw6 hwr6 hv6 hU6 hL6 ⊢
            have v0 := Blk.cell hv6 0
            have v1 := Blk.cell hv6 1
            have vf0 := Blk.frozen hv6 0
            have vf1 := Blk.frozen hv6 1
            simp only [List.getElem?_toArray, List.getElem?_cons_zero, List.getElem?_cons_succ] at v0 v1
            have ua := (hU6.cell a).trans (row14_at _ _ ha14)
            have lb := (hL6.cell b).trans (row14_at _ _ hb14)
            have huu := hU6.lt
            have hll := hL6.lt
            have hvl := hv6.lt
            cases hup : up a
            · rw [hup] at ua
              cases hlo : lo b
              · rw [hlo] at lb
                have HUP := Lib.hid hup
                have HLO := Lib.hid hlo
                clear hup hlo
                go_wp2
                have uf := hU6.frozen a
                have lf := hL6.frozen b
                have hC6 : Chg [w1.heap.size, w1.heap.size + 1] w2 w6 := HC.out.later hwr6
                refine wp_region_plan (fun w' => w'.cell? ⟨wr.heap.size, 0, none⟩ = some (.int .i64 (a : Int)) ∧ w'.cell? ⟨wr.heap.size, 1, none⟩ = some (.int .i64 (b : Int)))
                  [(0, true), (1, true), (2, true), (3, true), (4, true), (5, false), (6, true), (7, false)] (by kernel_rfl) (by kernel_rfl) (fun _ _ _ _ _ h => h) ⟨by simpa using v0, by simpa using v1⟩ (fun hS => ?_)
                apply wpPlan_take
                case hi => (simp only [List.getElem?_toArray, List.getElem?_cons_succ, List.getElem?_cons_zero]; exact rfl)
                case hw => rfl
                case hr => (intro w' hSw; (try dsimp only at hSw); go_split_ands; go_simp; try with_reducible rfl)
                (simp only [Act.put, List.setIfInBounds_toArray, List.set_cons_zero, List.set_cons_succ])
                apply wpPlan_take
                case hi => (simp only [List.getElem?_toArray, List.getElem?_cons_succ, List.getElem?_cons_zero]; exact rfl)
                case hw => rfl
                case hr => (intro w' hSw; (try dsimp only at hSw); go_split_ands; go_simp; try with_reducible rfl)
                (simp only [Act.put, List.setIfInBounds_toArray, List.set_cons_zero, List.set_cons_succ])
                apply wpPlan_take
                case hi => (simp only [List.getElem?_toArray, List.getElem?_cons_succ, List.getElem?_cons_zero]; exact rfl)
                case hw => rfl
                case hr => (intro w' hSw; (try dsimp only at hSw); go_split_ands; go_simp; try with_reducible rfl)
                (simp only [Act.put, List.setIfInBounds_toArray, List.set_cons_zero, List.set_cons_succ])
                apply wpPlan_take
                case hi => (simp only [List.getElem?_toArray, List.getElem?_cons_succ, List.getElem?_cons_zero]; exact rfl)
                case hw => rfl
                case hr => (intro w' hSw; (try dsimp only at hSw); go_split_ands; go_simp; try with_reducible rfl)
                (simp only [Act.put, List.setIfInBounds_toArray, List.set_cons_zero, List.set_cons_succ])
                apply wpPlan_take
                case hi => (simp only [List.getElem?_toArray, List.getElem?_cons_succ, List.getElem?_cons_zero]; exact rfl)
                case hw => rfl
                case hr => (intro w' hSw; (try dsimp only at hSw); go_split_ands; go_simp; try with_reducible rfl)
                (simp only [Act.put, List.setIfInBounds_toArray, List.set_cons_zero, List.set_cons_succ])
                apply wpPlan_step
                case ho => (simp only [List.getElem?_toArray, List.getElem?_cons_succ, List.getElem?_cons_zero]; exact rfl)
                intro K hK
                rw [if_pos (by rfl)]
                go_simp
                have q1 : Chg [w1.heap.size, w1.heap.size + 1] w2 ((w6.setCell ⟨w1.heap.size, a, none⟩ (.bool true)).drew) := ((hC6.set_ (p := ⟨w1.heap.size, a, none⟩) (.inl (by simp)) _).later (Below.refl _ _).drew)
                have q2 : Blk ((w6.setCell ⟨w1.heap.size, a, none⟩ (.bool true)).drew) w1.heap.size 121 (row14 (updB up a true)) := by
                  have := hU6.set_ a (.bool true)
                  rw [row14_set] at this
                  exact this
                have q3 : Blk ((w6.setCell ⟨w1.heap.size, a, none⟩ (.bool true)).drew) (w1.heap.size + 1) 121 (row14 lo) := hL6.far (p := ⟨w1.heap.size, a, none⟩) (by simp) _
                have q4 : Blk ((w6.setCell ⟨w1.heap.size, a, none⟩ (.bool true)).drew) wr.heap.size 36 #[.int .i64 (a : Int), .int .i64 (b : Int)] := hv6.far (p := ⟨w1.heap.size, a, none⟩) (by simp; omega) _
                generalize (w6.setCell ⟨w1.heap.size, a, none⟩ (.bool true)).drew = w7 at q1 q2 q3 q4 ⊢
                clear hS v0 v1 vf0 vf1 ua lb uf lf hC6 hub hwr6 hBw6 hv6 hU6 hL6
                have v0 := Blk.cell q4 0
                have v1 := Blk.cell q4 1
                have vf0 := Blk.frozen q4 0
                have vf1 := Blk.frozen q4 1
                simp only [List.getElem?_toArray, List.getElem?_cons_zero, List.getElem?_cons_succ] at v0 v1
                have hS7 := And.intro v0 v1
                refine hK.out _ _ (hS7) (fun hS => ?_)
                clear hK
                clear K
                try (simp only [Act.put, List.setIfInBounds_toArray, List.set_cons_zero, List.set_cons_succ])
                clear hS7
                apply wpPlan_take
                case hi => (simp only [List.getElem?_toArray, List.getElem?_cons_succ, List.getElem?_cons_zero]; exact rfl)
                case hw => rfl
                case hr => (intro w' hSw; (try dsimp only at hSw); go_split_ands; go_simp; try with_reducible rfl)
                (simp only [Act.put, List.setIfInBounds_toArray, List.set_cons_zero, List.set_cons_succ])
                have lb := (q3.cell b).trans (row14_at _ _ hb14)
                have lf := q3.frozen b
                apply wpPlan_step
                case ho => (simp only [List.getElem?_toArray, List.getElem?_cons_succ, List.getElem?_cons_zero]; exact rfl)
                intro K hK
                rw [if_pos (by rfl)]
                go_simp
                have r1 : Chg [w1.heap.size, w1.heap.size + 1] w2 (w7.setCell ⟨w1.heap.size + 1, b, none⟩ (.bool true)) := q1.set_ (p := ⟨w1.heap.size + 1, b, none⟩) (.inl (by simp)) _
                have r2 : Blk (w7.setCell ⟨w1.heap.size + 1, b, none⟩ (.bool true)) w1.heap.size 121 (row14 (updB up a true)) := q2.far (p := ⟨w1.heap.size + 1, b, none⟩) (by simp) _
                have r3 : Blk (w7.setCell ⟨w1.heap.size + 1, b, none⟩ (.bool true)) (w1.heap.size + 1) 121 (row14 (updB lo b true)) := by
                  have := q3.set_ b (.bool true)
                  rw [row14_set] at this
                  exact this
                have r4 : Blk (w7.setCell ⟨w1.heap.size + 1, b, none⟩ (.bool true)) wr.heap.size 36 #[.int .i64 (a : Int), .int .i64 (b : Int)] := q4.far (p := ⟨w1.heap.size + 1, b, none⟩) (by simp; omega) _
                generalize w7.setCell ⟨w1.heap.size + 1, b, none⟩ (.bool true) = w8 at r1 r2 r3 r4 ⊢
                clear hS v0 v1 vf0 vf1 q1 q2 q3 q4 lb lf
                have v0 := Blk.cell r4 0
                have v1 := Blk.cell r4 1
                have vf0 := Blk.frozen r4 0
                have vf1 := Blk.frozen r4 1
                simp only [List.getElem?_toArray, List.getElem?_cons_zero, List.getElem?_cons_succ] at v0 v1
                have hS8 := And.intro v0 v1
                refine hK.out _ _ (hS8) (fun hS => ?_)
                clear hK
                clear K
                try (simp only [Act.put, List.setIfInBounds_toArray, List.set_cons_zero, List.set_cons_succ])
                clear hS8 hS v0 v1 vf0 vf1
                refine wpPlan_end ?_
                have hnx : provesL h (updB up a true) (updB lo b true) (ps.drop (k + 1)) = h.proves ps := by
                  rw [← HNN.out]
                  conv => rhs; unfold provesL
                  simp [HWA.out, HWB.out, HCL.out, HUP.out, HLO.out]
                have HNX := Lib.hid hnx
                clear hnx
                go_wp2
                exact ⟨⟨k + 1, updB up a true, updB lo b true, by omega, rfl, r1, r2, r3, HNX.out⟩, by simp [intOf]; omega⟩
              · rw [hlo] at lb
                have hres : h.proves ps = 5 := by rw [← HNN.out]; unfold provesL; simp [HWA.out, HWB.out, HCL.out, hup, hlo]
                have HRS := Lib.hid hres
                clear hres
                go_wp2
                go_ret2
                exact ⟨by unfold Hs.provesN; rw [HRS.out]; rfl, hBw6⟩
            · rw [hup] at ua
              have hres : h.proves ps = 5 := by rw [← HNN.out]; unfold provesL; simp [HWA.out, HWB.out, HCL.out, hup]
              have HRS := Lib.hid hres
              clear hres
              go_wp2
              go_ret2
              exact ⟨by unfold Hs.provesN; rw [HRS.out]; rfl, hBw6⟩
    · obtain rfl : k = ps.length := by omega
      have hres : h.proves ps = 0 := by
        have h1 : provesL h up lo (ps.drop ps.length) = h.proves ps := HN
        rw [List.drop_length] at h1
        rw [← h1]
        rfl
      have HRS := Lib.hid hres
      clear hres hdk hho hU hL
      go_wp2
      go_ret2
      exact ⟨by unfold Hs.provesN; rw [HRS.out]; rfl, hBw⟩
end Go.Proofs.Ytjihnnbpfdhceaa
