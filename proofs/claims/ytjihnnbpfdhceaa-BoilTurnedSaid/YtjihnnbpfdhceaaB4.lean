/- laurellaw08.awake: the examples of the chapter hold. Conditions: none beyond those that each theorem names. -/
import Derived.Test.YtjihnnbpfdhceaaB3
set_option linter.unusedSimpArgs false
set_option linter.unusedVariables false
namespace Go.Proofs.Ytjihnnbpfdhceaa
open Go.RowKit Go.Shelf
attribute [local go_sem] Oper.semAt_some
attribute [local go_sem ↓] Go.wp_at_zero Go.wp_at_succ

def less4 : Hs := ⟨5, 2, [⟨1, 100, 100, 8, 9⟩, ⟨4, 80, 80, 20, 22⟩]⟩
theorem four_few : fewL four.clashM four.ws.length = [0, 2] := by decide +kernel
theorem four_proves : four.proves [(3, 2), (0, 1)] = 0 := by decide +kernel
theorem four_provesN : four.provesN [(3, 2), (0, 1)] = 2 := by decide +kernel
theorem four_goneR : (four.goneR [0, 2]).1 = 0 := by decide +kernel
theorem four_without : four.without [0, 2] = less4 := by decide +kernel
theorem less4_check : less4.check = 0 := by decide +kernel
theorem less4_meat : less4.meat 4 90 = (23, 24, 0) := by decide +kernel
theorem less4_bounds : less4.bounds 4 = (⟨1, 4⟩, ⟨11, 40⟩, 0) := by decide +kernel
theorem less4_bounds2 : less4.bounds 2 = (⟨0, 0⟩, ⟨0, 0⟩, 6) := by decide +kernel
theorem less4_m4 : less4.month 4 = true := by decide +kernel
theorem less4_m2 : less4.month 2 = true := by decide +kernel
theorem four_clash {e : Ending} (h : ClashRes four.clashM four.ws.length e) : e = .returned (.tuple #[.agg #[.int .i64 0, .int .i64 1], .int .i64 0]) := by
  have h01 : four.clashM 0 1 = true := by decide +kernel
  have h00 : four.clashM 0 0 = false := by decide +kernel
  rcases h with ⟨a, b, ha, hb, hM, h1, h2, rfl⟩ | ⟨h1, _⟩
  · have ha0 : a = 0 := by
      rcases Nat.eq_zero_or_pos a with h | h
      · exact h
      · have := h1 0 h 1 (by decide)
        rw [h01] at this; cases this
    subst ha0
    have hb1 : b = 1 := by
      rcases Nat.lt_trichotomy b 1 with h | h | h
      · have : b = 0 := by omega
        subst this
        rw [h00] at hM; cases hM
      · exact h
      · have := h2 1 h
        rw [h01] at this; cases this
    subst hb1
    rfl
  · have := h1 0 (by decide) 1 (by decide)
    rw [h01] at this; cases this
theorem ints_flat (l : List Nat) : (l.map fun (n : Nat) => (n : Int)).flatMap intEnc = intsV l := by
  unfold intsV intEnc
  induction l with
  | nil => rfl
  | cons a l ih => rw [List.map_cons, List.flatMap_cons, ih]; rfl
theorem int_len (x : Int) : (intEnc x).length = 1 := rfl
theorem row_of_ints {W : World} {base : Nat} {v : Value} {l : List Nat} (h : W.ownsRow base 3 1 v l.length (intsV l)) :
    ∃ (ao : Option Addr) (cap : Nat), v = .slice ao l.length cap ∧ RowIn intEnc 1 W W.heap.size ao (l.map fun (n : Nat) => (n : Int)) := by
  rw [← ints_flat] at h
  obtain ⟨ao, cap, hv, hr, _, _⟩ := row_of_own (l := l.map fun (n : Nat) => (n : Int)) intEnc 1 int_len (by rw [List.length_map]; exact h)
  exact ⟨ao, cap, by rw [hv, List.length_map], hr⟩
theorem row_of_new {α : Type} (enc : α → List Value) (k : Nat) (hk : ∀ x, (enc x).length = k) (W : World) (t : TypeId) (cs : Array Value) (l : List α) (hl : (l.flatMap enc).toArray = cs) : RowIn enc k (W.alloc (.cells cs t)) (W.alloc (.cells cs t)).heap.size (some ⟨W.heap.size, 0, none⟩) l :=
  row_of_blk enc k hk (t := t) (hl ▸ Blk.new W t cs) (by simp)
theorem RowIn.later {α : Type} {enc : α → List Value} {k : Nat} {w w' : World} {A : Option Addr} {xs : List α} (h : RowIn enc k w w.heap.size A xs) (hb : Below w.heap.size w w') : RowIn enc k w' w'.heap.size A xs := (h.below hb).mono hb.size
theorem alc (w : World) (o : Obj) : Below w.heap.size w (w.alloc o) := (Below.refl _ _).alloc (Nat.le_refl _) _

set_option maxRecDepth 100000 in
set_option maxHeartbeats 2000000 in
theorem awake_any (w : World) : Calls Try.prog 15 #[] w fun e w' => e = .returned (.bool true) ∧ Below w.heap.size w w' := by
  have hqp := fun W => eq_pair W 0 1 0 1
  have hqs := fun W => eq_span W 9998 23 24 23 24
  have hq1 := fun W => eq_rat W 1 4 1 4
  have hq2 := fun W => eq_rat W 11 40 11 40
  simp only [beq_self_eq_true, Bool.and_self, Nat.reduceAdd] at hqp hqs hq1 hq2
  have HQP := Lib.hid hqp
  have HQS := Lib.hid hqs
  have HQ1 := Lib.hid hq1
  have HQ2 := Lib.hid hq2
  clear hqp hqs hq1 hq2
  go_enter Try.func15, Try.ntmps15
  go_wp2_with fail
  refine (four_any _).mono ?_
  rintro e w1 ⟨A1, rfl, hr1, hb1⟩
  go_wp2_with fail
  refine (fewest_any four A1 4 _ hr1 four_check).mono ?_
  rintro e w2 ⟨v, rfl, hown, hb2⟩
  rw [four_few] at hown
  obtain ⟨ao, cp, rfl, hrow⟩ := row_of_ints hown
  have hB : Below w.heap.size w w2 := Below.step hb1 hb2
  have HROW := Lib.hid hrow
  clear hr1 hb1 hb2 hown hrow
  go_wp2_with fail
  refine (four_any _).mono ?_
  rintro e w3 ⟨A2, rfl, hr2, hb3⟩
  go_wp2_with fail
  refine (clash_any four A2 4 _ hr2 four_check).mono ?_
  rintro e w4 ⟨he, hb4⟩
  have he := four_clash he
  subst he
  have hb5 := Below.step hb3 hb4
  have ehb5 := Below.step hB hb5
  clear hB
  have hB := ehb5
  clear ehb5
  have ehb5 := Lib.hid (RowIn.later HROW.out hb5)
  clear HROW
  have HROW := ehb5
  clear ehb5
  clear hr2 hb3 hb4 hb5
  go_wp2_with fail
  have hb5 := alc w4 (.cells #[.int .i64 0, .int .i64 1] 36)
  have HP := Lib.hid (Blk.new w4 36 #[.int .i64 0, .int .i64 1])
  have ehb5 := Below.step hB hb5
  clear hB
  have hB := ehb5
  clear ehb5
  have ehb5 := Lib.hid (RowIn.later HROW.out hb5)
  clear HROW
  have HROW := ehb5
  clear ehb5
  generalize w4.alloc (.cells #[.int .i64 0, .int .i64 1] 36) = w5 at HP hB HROW ⊢
  clear hb5
  generalize w4.heap.size = g3 at HP ⊢
  refine (four_any _).mono ?_
  rintro e w6 ⟨A3, rfl, hr3, hb6⟩
  have ehb6 := Below.step hB hb6
  clear hB
  have hB := ehb6
  clear ehb6
  have ehb6 := Lib.hid (RowIn.later HROW.out hb6)
  clear HROW
  have HROW := ehb6
  clear ehb6
  have ehb6 := Lib.hid (Blk.later HP.out hb6)
  clear HP
  have HP := ehb6
  clear ehb6
  have HR3 := Lib.hid hr3
  clear hb6 hr3
  go_wp2_with fail
  have hb7 := alc w6 (.cells #[.int .i64 3, .int .i64 2, .int .i64 0, .int .i64 1] 36)
  have hp7 := row_of_new pairEnc 2 (fun _ => rfl) w6 36 #[.int .i64 3, .int .i64 2, .int .i64 0, .int .i64 1] [((3 : Int), (2 : Int)), (0, 1)] rfl
  have ehb7 := Below.step hB hb7
  clear hB
  have hB := ehb7
  clear ehb7
  have ehb7 := Lib.hid (RowIn.later HROW.out hb7)
  clear HROW
  have HROW := ehb7
  clear ehb7
  have ehb7 := Lib.hid (RowIn.later HR3.out hb7)
  clear HR3
  have HR3 := ehb7
  clear ehb7
  have ehb7 := Lib.hid (Blk.later HP.out hb7)
  clear HP
  have HP := ehb7
  clear ehb7
  generalize w6.alloc (.cells #[.int .i64 3, .int .i64 2, .int .i64 0, .int .i64 1] 36) = w7 at *
  refine (proves_any four A3 4 _ [((3 : Int), (2 : Int)), (0, 1)] 2 _ HR3.out four_check hp7 (by decide)).mono ?_
  rintro e w8 ⟨rfl, hb8⟩
  rw [four_proves, four_provesN]
  have ehb8 := Below.step hB hb8
  clear hB
  have hB := ehb8
  clear ehb8
  have ehb8 := Lib.hid (RowIn.later HROW.out hb8)
  clear HROW
  have HROW := ehb8
  clear ehb8
  have ehb8 := Lib.hid (Blk.later HP.out hb8)
  clear HP
  have HP := ehb8
  clear ehb8
  clear hb7 hp7 hb8 HR3
  go_wp2_with fail
  refine (four_any _).mono ?_
  rintro e w9 ⟨A4, rfl, hr4, hb9⟩
  have ehb9 := Below.step hB hb9
  clear hB
  have hB := ehb9
  clear ehb9
  have ehb9 := Lib.hid (RowIn.later HROW.out hb9)
  clear HROW
  have HROW := ehb9
  clear ehb9
  have ehb9 := Lib.hid (Blk.later HP.out hb9)
  clear HP
  have HP := ehb9
  clear ehb9
  have HR4 := Lib.hid hr4
  clear hb9 hr4
  go_wp2_with fail
  have hb7 := alc w9 (.cells #[.int .i64 0, .int .i64 2] 3)
  have hp7 := row_of_new intEnc 1 int_len w9 3 #[.int .i64 0, .int .i64 2] [(0 : Int), 2] rfl
  have ehb7 := Below.step hB hb7
  clear hB
  have hB := ehb7
  clear ehb7
  have ehb7 := Lib.hid (RowIn.later HROW.out hb7)
  clear HROW
  have HROW := ehb7
  clear ehb7
  have ehb7 := Lib.hid (RowIn.later HR4.out hb7)
  clear HR4
  have HR4 := ehb7
  clear ehb7
  have ehb7 := Lib.hid (Blk.later HP.out hb7)
  clear HP
  have HP := ehb7
  clear ehb7
  generalize w9.alloc (.cells #[.int .i64 0, .int .i64 2] 3) = w10 at *
  refine (without_any four A4 4 _ [(0 : Int), 2] 2 _ HR4.out four_check hp7 (by decide) (by decide)).mono ?_
  rintro e w11 ⟨A5, c5, rfl, hr5, hb8⟩
  rw [four_goneR, four_without]
  rw [four_without] at hr5
  have ehb8 := Below.step hB hb8
  clear hB
  have hB := ehb8
  clear ehb8
  have ehb8 := Lib.hid (RowIn.later HROW.out hb8)
  clear HROW
  have HROW := ehb8
  clear ehb8
  have ehb8 := Lib.hid (Blk.later HP.out hb8)
  clear HP
  have HP := ehb8
  clear ehb8
  have HR5 := Lib.hid hr5
  clear hb7 hp7 hb8 HR4 hr5
  unfold Hs.val
  have HMT := Lib.hid (fun V hr => meat_any less4 A5 c5 4 90 V hr less4_check less4_m4 (by decide) (by decide))
  rw [less4_meat] at HMT
  have HB4 := Lib.hid (fun V hr => bounds_any less4 A5 c5 4 V hr less4_check less4_m4)
  rw [less4_bounds] at HB4
  have HB2 := Lib.hid (fun V hr => bounds_any less4 A5 c5 2 V hr less4_check less4_m2)
  rw [less4_bounds2] at HB2
  go_wp2_with fail
  have hb5 := alc w11 (.cells #[.int .i64 less4.months, .int .i64 less4.peak, .slice A5 less4.ws.length c5] 25)
  have HH := Lib.hid (Blk.new w11 25 #[.int .i64 less4.months, .int .i64 less4.peak, .slice A5 less4.ws.length c5])
  have ehb5 := Below.step hB hb5
  clear hB
  have hB := ehb5
  clear ehb5
  have ehb5 := Lib.hid (RowIn.later HROW.out hb5)
  clear HROW
  have HROW := ehb5
  clear ehb5
  have ehb5 := Lib.hid (RowIn.later HR5.out hb5)
  clear HR5
  have HR5 := ehb5
  clear ehb5
  have ehb5 := Lib.hid (Blk.later HP.out hb5)
  clear HP
  have HP := ehb5
  clear ehb5
  generalize w11.alloc (.cells #[.int .i64 less4.months, .int .i64 less4.peak, .slice A5 less4.ws.length c5] 25) = w12 at HP hB HROW HR5 HH ⊢
  generalize w11.heap.size = g7 at HH ⊢
  clear hb5
  refine (HMT.out _ HR5.out).mono ?_
  rintro e w13 ⟨rfl, hb8⟩
  unfold spVal
  have ehb8 := Below.step hB hb8
  clear hB
  have hB := ehb8
  clear ehb8
  have ehb8 := Lib.hid (RowIn.later HROW.out hb8)
  clear HROW
  have HROW := ehb8
  clear ehb8
  have ehb8 := Lib.hid (RowIn.later HR5.out hb8)
  clear HR5
  have HR5 := ehb8
  clear ehb8
  have ehb8 := Lib.hid (Blk.later HP.out hb8)
  clear HP
  have HP := ehb8
  clear ehb8
  have ehb8 := Lib.hid (Blk.later HH.out hb8)
  clear HH
  have HH := ehb8
  clear ehb8
  clear hb8
  have h0 := Blk.cell HH.out 0
  have h1 := Blk.cell HH.out 1
  have h2 := Blk.cell HH.out 2
  have hf0 := Blk.frozen HH.out 0
  have hf1 := Blk.frozen HH.out 1
  have hf2 := Blk.frozen HH.out 2
  have hl := Blk.lt HH.out
  simp only [List.getElem?_toArray, List.getElem?_cons_zero, List.getElem?_cons_succ] at h0 h1 h2
  go_wp2_with fail
  have hb5 := alc w13 (.cells #[.int .i64 23, .int .i64 24] 47)
  have HS := Lib.hid (Blk.new w13 47 #[.int .i64 23, .int .i64 24])
  have ehb5 := Below.step hB hb5
  clear hB
  have hB := ehb5
  clear ehb5
  have ehb5 := Lib.hid (RowIn.later HROW.out hb5)
  clear HROW
  have HROW := ehb5
  clear ehb5
  have ehb5 := Lib.hid (RowIn.later HR5.out hb5)
  clear HR5
  have HR5 := ehb5
  clear ehb5
  have ehb5 := Lib.hid (Blk.later HP.out hb5)
  clear HP
  have HP := ehb5
  clear ehb5
  have ehb5 := Lib.hid (Blk.later HH.out hb5)
  clear HH
  have HH := ehb5
  clear ehb5
  generalize w13.alloc (.cells #[.int .i64 23, .int .i64 24] 47) = w14 at HP hB HROW HR5 HH HS ⊢
  generalize w13.heap.size = g9 at HS ⊢
  clear h0 h1 h2 hf0 hf1 hf2 hl
  clear hb5
  refine (HB4.out _ HR5.out).mono ?_
  rintro e w15 ⟨rfl, hb8⟩
  unfold bdVal Rat2.val
  have ehb8 := Below.step hB hb8
  clear hB
  have hB := ehb8
  clear ehb8
  have ehb8 := Lib.hid (RowIn.later HROW.out hb8)
  clear HROW
  have HROW := ehb8
  clear ehb8
  have ehb8 := Lib.hid (RowIn.later HR5.out hb8)
  clear HR5
  have HR5 := ehb8
  clear ehb8
  have ehb8 := Lib.hid (Blk.later HP.out hb8)
  clear HP
  have HP := ehb8
  clear ehb8
  have ehb8 := Lib.hid (Blk.later HH.out hb8)
  clear HH
  have HH := ehb8
  clear ehb8
  have ehb8 := Lib.hid (Blk.later HS.out hb8)
  clear HS
  have HS := ehb8
  clear ehb8
  clear hb8
  have h0 := Blk.cell HH.out 0
  have h1 := Blk.cell HH.out 1
  have h2 := Blk.cell HH.out 2
  have hf0 := Blk.frozen HH.out 0
  have hf1 := Blk.frozen HH.out 1
  have hf2 := Blk.frozen HH.out 2
  have hl := Blk.lt HH.out
  simp only [List.getElem?_toArray, List.getElem?_cons_zero, List.getElem?_cons_succ] at h0 h1 h2
  go_wp2_with fail
  have hb5 := alc w15 (.cells #[.int .i64 1, .int .i64 4] 43)
  have HL := Lib.hid (Blk.new w15 43 #[.int .i64 1, .int .i64 4])
  have ehb5 := Below.step hB hb5
  clear hB
  have hB := ehb5
  clear ehb5
  have ehb5 := Lib.hid (RowIn.later HROW.out hb5)
  clear HROW
  have HROW := ehb5
  clear ehb5
  have ehb5 := Lib.hid (RowIn.later HR5.out hb5)
  clear HR5
  have HR5 := ehb5
  clear ehb5
  have ehb5 := Lib.hid (Blk.later HP.out hb5)
  clear HP
  have HP := ehb5
  clear ehb5
  have ehb5 := Lib.hid (Blk.later HH.out hb5)
  clear HH
  have HH := ehb5
  clear ehb5
  have ehb5 := Lib.hid (Blk.later HS.out hb5)
  clear HS
  have HS := ehb5
  clear ehb5
  have hz : (w15.alloc (.cells #[.int .i64 1, .int .i64 4] 43)).heap.size = w15.heap.size + 1 := by simp
  generalize w15.alloc (.cells #[.int .i64 1, .int .i64 4] 43) = w16 at HP hB HROW HR5 HH HS HL hz ⊢
  generalize w15.heap.size = g11 at HL hz ⊢
  clear h0 h1 h2 hf0 hf1 hf2 hl
  clear hb5
  have hb5 := alc w16 (.cells #[.int .i64 11, .int .i64 40] 43)
  have HU := Lib.hid (Blk.new w16 43 #[.int .i64 11, .int .i64 40])
  rw [hz] at HU
  clear hz
  have ehb5 := Below.step hB hb5
  clear hB
  have hB := ehb5
  clear ehb5
  have ehb5 := Lib.hid (RowIn.later HROW.out hb5)
  clear HROW
  have HROW := ehb5
  clear ehb5
  have ehb5 := Lib.hid (RowIn.later HR5.out hb5)
  clear HR5
  have HR5 := ehb5
  clear ehb5
  have ehb5 := Lib.hid (Blk.later HP.out hb5)
  clear HP
  have HP := ehb5
  clear ehb5
  have ehb5 := Lib.hid (Blk.later HH.out hb5)
  clear HH
  have HH := ehb5
  clear ehb5
  have ehb5 := Lib.hid (Blk.later HS.out hb5)
  clear HS
  have HS := ehb5
  clear ehb5
  have ehb5 := Lib.hid (Blk.later HL.out hb5)
  clear HL
  have HL := ehb5
  clear ehb5
  generalize hw17 : w16.alloc (.cells #[.int .i64 11, .int .i64 40] 43) = w17 at HP hB HROW HR5 HH HS HL HU ⊢
  clear hb5 hw17
  refine (HB2.out _ HR5.out).mono ?_
  rintro e w18 ⟨rfl, hb8⟩
  unfold bdVal Rat2.val
  have ehb8 := Below.step hB hb8
  clear hB
  have hB := ehb8
  clear ehb8
  have ehb8 := Lib.hid (RowIn.later HROW.out hb8)
  clear HROW
  have HROW := ehb8
  clear ehb8
  have ehb8 := Lib.hid (Blk.later HP.out hb8)
  clear HP
  have HP := ehb8
  clear ehb8
  have ehb8 := Lib.hid (Blk.later HS.out hb8)
  clear HS
  have HS := ehb8
  clear ehb8
  have ehb8 := Lib.hid (Blk.later HL.out hb8)
  clear HL
  have HL := ehb8
  clear ehb8
  have ehb8 := Lib.hid (Blk.later HU.out hb8)
  clear HU
  have HU := ehb8
  clear ehb8
  clear hb8 HR5 HH
  go_wp2_with fail
  have hp7 := row_of_new intEnc 1 int_len ((w18.alloc (.cells #[.int .i64 0, .int .i64 0] 43)).alloc (.cells #[.int .i64 0, .int .i64 0] 43)) 3 #[.int .i64 0, .int .i64 2] [(0 : Int), 2] rfl
  have hb5 : Below w18.heap.size w18 (((w18.alloc (.cells #[.int .i64 0, .int .i64 0] 43)).alloc (.cells #[.int .i64 0, .int .i64 0] 43)).alloc (.cells #[.int .i64 0, .int .i64 2] 3)) := Below.step (Below.step (alc _ _) (alc _ _)) (alc _ _)
  have hz : ((w18.alloc (.cells #[.int .i64 0, .int .i64 0] 43)).alloc (.cells #[.int .i64 0, .int .i64 0] 43)).heap.size = w18.heap.size + 1 + 1 := by simp
  rw [hz] at hp7
  clear hz
  have ehb5 := Below.step hB hb5
  clear hB
  have hB := ehb5
  clear ehb5
  have ehb5 := Lib.hid (RowIn.later HROW.out hb5)
  clear HROW
  have HROW := ehb5
  clear ehb5
  have ehb5 := Lib.hid (Blk.later HP.out hb5)
  clear HP
  have HP := ehb5
  clear ehb5
  have ehb5 := Lib.hid (Blk.later HS.out hb5)
  clear HS
  have HS := ehb5
  clear ehb5
  have ehb5 := Lib.hid (Blk.later HL.out hb5)
  clear HL
  have HL := ehb5
  clear ehb5
  have ehb5 := Lib.hid (Blk.later HU.out hb5)
  clear HU
  have HU := ehb5
  clear ehb5
  generalize ((w18.alloc (.cells #[.int .i64 0, .int .i64 0] 43)).alloc (.cells #[.int .i64 0, .int .i64 0] 43)).alloc (.cells #[.int .i64 0, .int .i64 2] 3) = w19 at HP hB HROW HS HL HU hp7 ⊢
  clear hb5
  refine (eqI_any ao _ (([0, 2] : List Nat).map fun (n : Nat) => (n : Int)) [(0 : Int), 2] cp 2 _ HROW.out hp7 (by decide) (by decide)).mono ?_
  rintro e w20 ⟨rfl, hb8⟩
  have ehb8 := Below.step hB hb8
  clear hB
  have hB := ehb8
  clear ehb8
  have ehb8 := Lib.hid (Blk.later HP.out hb8)
  clear HP
  have HP := ehb8
  clear ehb8
  have ehb8 := Lib.hid (Blk.later HS.out hb8)
  clear HS
  have HS := ehb8
  clear ehb8
  have ehb8 := Lib.hid (Blk.later HL.out hb8)
  clear HL
  have HL := ehb8
  clear ehb8
  have ehb8 := Lib.hid (Blk.later HU.out hb8)
  clear HU
  have HU := ehb8
  clear ehb8
  rw [show decide ((([0, 2] : List Nat).map fun (n : Nat) => (n : Int)) = [(0 : Int), 2]) = true by decide]
  clear hb8 hp7 HROW
  have a0 := Blk.cell HP.out 0
  have a1 := Blk.cell HP.out 1
  have af0 := Blk.frozen HP.out 0
  have af1 := Blk.frozen HP.out 1
  have al := Blk.lt HP.out
  simp only [List.getElem?_toArray, List.getElem?_cons_zero, List.getElem?_cons_succ] at a0 a1
  have b0 := Blk.cell HS.out 0
  have b1 := Blk.cell HS.out 1
  have bf0 := Blk.frozen HS.out 0
  have bf1 := Blk.frozen HS.out 1
  have bl := Blk.lt HS.out
  simp only [List.getElem?_toArray, List.getElem?_cons_zero, List.getElem?_cons_succ] at b0 b1
  have c0 := Blk.cell HL.out 0
  have c1 := Blk.cell HL.out 1
  have cf0 := Blk.frozen HL.out 0
  have cf1 := Blk.frozen HL.out 1
  have cl := Blk.lt HL.out
  simp only [List.getElem?_toArray, List.getElem?_cons_zero, List.getElem?_cons_succ] at c0 c1
  have d0 := Blk.cell HU.out 0
  have d1 := Blk.cell HU.out 1
  have df0 := Blk.frozen HU.out 0
  have df1 := Blk.frozen HU.out 1
  have dl := Blk.lt HU.out
  simp only [List.getElem?_toArray, List.getElem?_cons_zero, List.getElem?_cons_succ] at d0 d1
  have hqp := HQP.out
  have hqs := HQS.out
  have hq1 := HQ1.out
  have hq2 := HQ2.out
  go_wp2
  go_ret
  exact ⟨rfl, hB⟩
end Go.Proofs.Ytjihnnbpfdhceaa
