/- laurelkit.Dup, laurellaw08.Own: copies. Conditions: none beyond those that each theorem names. -/
import Derived.Test.YtjihnnbpfdhceaaB8
set_option linter.unusedSimpArgs false
set_option linter.unusedVariables false
namespace Go.Proofs.Ytjihnnbpfdhceaa
open Go.RowKit Go.Shelf
attribute [local go_sem] Oper.semAt_some
attribute [local go_sem ↓] Go.wp_at_zero Go.wp_at_succ

/-- append of a slice without elements that has no address leaves a row of one's own as it is. -/
theorem wpList_append_empty {P : Program} {w : World} {ops : Array Oper} {rest : List Oper} {o : Oper} {a : Act} {Q : Exit → Act → World → Prop} (hgd : o.guard = none) (s x : Operand) (t : TypeId)
    (ho : o.op = .call { callee := .builtin .append, args := #[s, x], argTypes := #[t, t] }) (base : Nat) (e : TypeId) (i : TypeInfo) (size c : Nat) (ht : P.underlying t = some (.slice e)) (hi : P.info? e = some i)
    (v : Value) (n : Nat) (xs : List Value) (hs : a.eval s = v) (hown : w.ownsRow base e size v n xs) (hx : a.eval x = .slice none 0 c) (h : wpList P ops Q rest (a.put o.dst v) w) : wpList P ops Q (o :: rest) a w := by
  refine wpList_plain hgd fun K hK => ?_
  have hrun : (Builtin.append_ #[t, t] o.type #[v, .slice none 0 c]).run P w = .ok v w := by
    rcases hown.2 with ⟨rfl, rfl⟩ | ⟨g, cap, cur, rfl, _, _, hnc, _⟩ <;>
      simp [Builtin.append_, run_underlying ht, sizeOf, typeInfo, hi, Builtin.lenOf, Builtin.firstCells, storeCells, *]
  unfold Oper.wp
  simp [execOp, ho, resolve, invoke, builtin, hs, hx, hrun, Result.andThen]
  exact hK _ _ h
theorem own_made {w : World} {e : TypeId} {size n cap : Nat} (cur : Array Value) (hs : cur.size = cap * size) (hc : cap ≤ maxLen) : (w.alloc (.cells cur e)).ownsRow w.heap.size e size (.slice (some ⟨w.heap.size, 0, none⟩) 0 cap) 0 [] :=
  ⟨by simp, .inr ⟨w.heap.size, cap, cur, rfl, Nat.le_refl _, heap_alloc_new w _, Nat.zero_le _, hc, hs, by simp⟩⟩
theorem flat_one {α : Type} (enc : α → List Value) (h : ∀ x, ∀ v ∈ enc x, v.oneCell' = true) (l : List α) : ∀ v ∈ l.flatMap enc, v.oneCell' = true := by
  intro v hv
  obtain ⟨x, _, hx⟩ := List.mem_flatMap.1 hv
  exact h x v hx
theorem wg_one (x : Wg) : ∀ v ∈ x.enc, v.oneCell' = true := by
  intro v hv
  simp only [Wg.enc, List.mem_cons, List.not_mem_nil, or_false] at hv
  rcases hv with rfl | rfl | rfl | rfl | rfl <;> rfl
theorem rat_one (x : Rat2) : ∀ v ∈ x.enc, v.oneCell' = true := by
  intro v hv
  simp only [Rat2.enc, List.mem_cons, List.not_mem_nil, or_false] at hv
  rcases hv with rfl | rfl <;> rfl
/-- The cells of a row, from its address on. -/
theorem RowIn.flat {α : Type} {enc : α → List Value} {k B : Nat} {w : World} {a : Addr} {xs : List α} (hk : ∀ x, (enc x).length = k) (hk0 : 0 < k) (h : RowIn enc k w B (some a) xs) (j : Nat) (v : Value) (hv : (xs.flatMap enc)[j]? = some v) : w.cell? (a.add j) = some v := by
  have hj : j < xs.length * k := by
    have := (List.getElem?_eq_some_iff.1 hv).1
    rwa [flat_len enc k hk] at this
  have hi : j / k < xs.length := Nat.div_lt_of_lt_mul (by rwa [Nat.mul_comm])
  have hm : j % k < k := Nat.mod_lt _ hk0
  have hjj : j = j / k * k + j % k := by rw [Nat.mul_comm]; exact (Nat.div_add_mod j k).symm
  obtain ⟨b, o, hA, hb, hc⟩ := h (j / k) hi
  injection hA with hA
  subst hA
  rw [hjj, flat_get enc k hk xs (j / k) hi (j % k) hm] at hv
  have := hc (j % k) v hv
  rw [addr_addO]
  conv => lhs; rw [hjj]
  rw [← Nat.add_assoc]
  exact this
theorem make_0n (n : Nat) (hn : n ≤ 1000000) (t e : TypeId) (i : TypeInfo) (z : Value) (k : Nat) (ht : Try.prog.underlying t = some (.slice e)) (hi : Try.prog.info? e = some i) (hz : i.zero = some z) (hk : i.size = k) (hb : i.bytes ≤ 1000) :
    ∃ mc : Array Value, mc.size = n * k ∧ ∀ W : World, (Instr.makeSlice t (.int .i64 0) (.int .i64 (n : Int))).run Try.prog W = .ok (.slice (some ⟨W.heap.size, 0, none⟩) 0 n) (W.alloc (.cells mc e)) := by
  refine ⟨madeCells z.cells (n * k), size_madeCells _ _, fun W => ?_⟩
  have := run_make (P := Try.prog) W t e i z ht hi hz .i64 .i64 0 n (by omega) (by omega) (by
    have h1 : (i.bytes : Int) * n ≤ 1000 * 1000000 := Int.mul_le_mul (by omega) (by omega) (by omega) (by omega)
    omega) (by omega)
  simpa [hk] using this

set_option maxRecDepth 100000 in
set_option maxHeartbeats 1000000 in
theorem dupW_any (A : Option Addr) (xs : List Wg) (c : Nat) (w : World) (hr : RowIn Wg.enc 5 w w.heap.size A xs) (hl : xs.length ≤ 1000000) :
    Calls Try.prog 59 #[.slice A xs.length c] w fun e w' => ∃ g cap, e = .returned (.slice (some ⟨g, 0, none⟩) xs.length cap) ∧ w'.ownsRow w.heap.size 55 5 (.slice (some ⟨g, 0, none⟩) xs.length cap) xs.length (xs.flatMap Wg.enc) ∧ Below w.heap.size w w' := by
  obtain ⟨i0, hi0, hz0, hz1, hz2⟩ := info_parts info_wg
  obtain ⟨mc, hms, hmk⟩ := make_0n xs.length hl 23 55 i0 _ 5 Try.underlying23 hi0 hz0 hz1 (by omega)
  have HMS := Lib.hid hms
  clear hms
  have HR := Lib.hid hr
  clear hr
  have hfl := flat_len Wg.enc 5 wg_len xs
  have HFL := Lib.hid hfl
  clear hfl
  cases A with
  | none =>
    have hx0 : xs.length = 0 := by
      rcases Nat.eq_zero_or_pos xs.length with h | h
      · exact h
      · obtain ⟨b, o, hA, _⟩ := HR.out 0 h
        cases hA
    have hxn : xs = [] := List.eq_nil_of_length_eq_zero hx0
    subst hxn
    go_enter Try.func59, Try.ntmps59
    have hown := own_made (w := w) (e := 55) (size := 5) (n := 0) (cap := 0) mc HMS.out (Nat.zero_le _)
    rw [show (((([] : List Wg).length : Nat)) : Int) = 0 from rfl] at hmk
    simp only [List.length_nil] at hmk
    go_wp2_with (at_builtin; refine wpList_append_empty rfl _ _ 23 rfl w.heap.size 55 i0 5 c Try.underlying23 hi0 _ 0 [] rfl hown rfl ?_)
    go_wp2
    go_ret
    exact ⟨w.heap.size, 0, rfl, hown, alc _ _⟩
  | some a =>
    go_enter Try.func59, Try.ntmps59
    have hown := own_made (w := w) (e := 55) (size := 5) (n := 0) (cap := xs.length) mc HMS.out (by unfold maxLen; omega)
    have hb0 := alc w (.cells mc 55)
    have hcl := RowIn.flat wg_len (by decide) (HR.out.below hb0)
    have HC := Lib.hid hcl
    clear hcl
    go_wp2_with (at_builtin; refine wpList_append_own _ rfl _ _ 23 rfl w.heap.size 55 i0 _ 5 40 Try.underlying23 hi0 hz0 hz1 hz2 rfl (by decide) _ 0 [] rfl hown a xs.length c (xs.flatMap Wg.enc) rfl HFL.out HC.out (flat_one Wg.enc wg_one xs) ?c3 ?c4 ?c5 ?_)
    case c3 => unfold maxLen; omega
    case c4 => omega
    case c5 => simp
    intro v' wn hown' hgrow hnil
    try rw [Nat.zero_add] at hown'
    try rw [List.nil_append] at hown'
    have hz := hgrow.size
    rcases hown'.2 with ⟨rfl, _⟩ | ⟨g, cap, cur, rfl, r1, r2⟩
    · exact (hnil rfl).elim
    · have HO := Lib.hid hown'
      have hB : Below w.heap.size w wn := hb0.grown hgrow (by simp) (fun g hg => by simp [Value.ownBlock] at hg; omega)
      clear hown' hgrow hnil r2
      go_wp2
      go_ret
      exact ⟨g, cap, rfl, HO.out, hB⟩
set_option maxRecDepth 100000 in
set_option maxHeartbeats 1000000 in
theorem dupR_any (A : Option Addr) (xs : List Rat2) (c : Nat) (w : World) (hr : RowIn Rat2.enc 2 w w.heap.size A xs) (hl : xs.length ≤ 1000000) :
    Calls Try.prog 35 #[.slice A xs.length c] w fun e w' => ∃ g cap, e = .returned (.slice (some ⟨g, 0, none⟩) xs.length cap) ∧ w'.ownsRow w.heap.size 43 2 (.slice (some ⟨g, 0, none⟩) xs.length cap) xs.length (xs.flatMap Rat2.enc) ∧ Below w.heap.size w w' := by
  obtain ⟨i0, hi0, hz0, hz1, hz2⟩ := info_parts info_ratio
  obtain ⟨mc, hms, hmk⟩ := make_0n xs.length hl 26 43 i0 _ 2 Try.underlying26 hi0 hz0 hz1 (by omega)
  have HMS := Lib.hid hms
  clear hms
  have HR := Lib.hid hr
  clear hr
  have hfl := flat_len Rat2.enc 2 rat_len xs
  have HFL := Lib.hid hfl
  clear hfl
  cases A with
  | none =>
    have hx0 : xs.length = 0 := by
      rcases Nat.eq_zero_or_pos xs.length with h | h
      · exact h
      · obtain ⟨b, o, hA, _⟩ := HR.out 0 h
        cases hA
    have hxn : xs = [] := List.eq_nil_of_length_eq_zero hx0
    subst hxn
    go_enter Try.func35, Try.ntmps35
    have hown := own_made (w := w) (e := 43) (size := 2) (n := 0) (cap := 0) mc HMS.out (Nat.zero_le _)
    rw [show (((([] : List Rat2).length : Nat)) : Int) = 0 from rfl] at hmk
    simp only [List.length_nil] at hmk
    go_wp2_with (at_builtin; refine wpList_append_empty rfl _ _ 26 rfl w.heap.size 43 i0 2 c Try.underlying26 hi0 _ 0 [] rfl hown rfl ?_)
    go_wp2
    go_ret
    exact ⟨w.heap.size, 0, rfl, hown, alc _ _⟩
  | some a =>
    go_enter Try.func35, Try.ntmps35
    have hown := own_made (w := w) (e := 43) (size := 2) (n := 0) (cap := xs.length) mc HMS.out (by unfold maxLen; omega)
    have hb0 := alc w (.cells mc 43)
    have hcl := RowIn.flat rat_len (by decide) (HR.out.below hb0)
    have HC := Lib.hid hcl
    clear hcl
    go_wp2_with (at_builtin; refine wpList_append_own _ rfl _ _ 26 rfl w.heap.size 43 i0 _ 2 16 Try.underlying26 hi0 hz0 hz1 hz2 rfl (by decide) _ 0 [] rfl hown a xs.length c (xs.flatMap Rat2.enc) rfl HFL.out HC.out (flat_one Rat2.enc rat_one xs) ?c3 ?c4 ?c5 ?_)
    case c3 => unfold maxLen; omega
    case c4 => omega
    case c5 => simp
    intro v' wn hown' hgrow hnil
    try rw [Nat.zero_add] at hown'
    try rw [List.nil_append] at hown'
    have hz := hgrow.size
    rcases hown'.2 with ⟨rfl, _⟩ | ⟨g, cap, cur, rfl, r1, r2⟩
    · exact (hnil rfl).elim
    · have HO := Lib.hid hown'
      have hB : Below w.heap.size w wn := hb0.grown hgrow (by simp) (fun g hg => by simp [Value.ownBlock] at hg; omega)
      clear hown' hgrow hnil r2
      go_wp2
      go_ret
      exact ⟨g, cap, rfl, HO.out, hB⟩

set_option maxHeartbeats 1000000 in
theorem own_any (h : Hs) (A : Option Addr) (c : Nat) (w : World) (hr : RowIn Wg.enc 5 w w.heap.size A h.ws) (hl : h.ws.length ≤ 1000000) :
    Calls Try.prog 21 #[h.val A c] w fun e w' => ∃ g cap, e = .returned (h.val (some ⟨g, 0, none⟩) cap) ∧ w'.ownsRow w.heap.size 55 5 (.slice (some ⟨g, 0, none⟩) h.ws.length cap) h.ws.length (h.ws.flatMap Wg.enc) ∧ Below w.heap.size w w' := by
  have HD := Lib.hid (fun V hr => dupW_any A h.ws c V hr hl)
  have HR := Lib.hid hr
  clear hr
  unfold Hs.val
  go_enter Try.func21, Try.ntmps21
  go_wp2_with fail
  have hr0 := ((Blk.new w 25 #[.int .i64 h.months, .int .i64 h.peak, .slice A h.ws.length c]).alloc (.cells #[.int .i64 0, .int .i64 0, .slice none 0 0] 25))
  have hr1 := Blk.new (w.alloc (.cells #[.int .i64 h.months, .int .i64 h.peak, .slice A h.ws.length c] 25)) 25 #[.int .i64 0, .int .i64 0, .slice none 0 0]
  rw [World.size_alloc] at hr1
  have hB : Below w.heap.size w ((w.alloc (.cells #[.int .i64 h.months, .int .i64 h.peak, .slice A h.ws.length c] 25)).alloc (.cells #[.int .i64 0, .int .i64 0, .slice none 0 0] 25)) := Below.step (alc _ _) (alc _ _)
  have hsz : ((w.alloc (.cells #[.int .i64 h.months, .int .i64 h.peak, .slice A h.ws.length c] 25)).alloc (.cells #[.int .i64 0, .int .i64 0, .slice none 0 0] 25)).heap.size = w.heap.size + 1 + 1 := by simp
  generalize (w.alloc (.cells #[.int .i64 h.months, .int .i64 h.peak, .slice A h.ws.length c] 25)).alloc (.cells #[.int .i64 0, .int .i64 0, .slice none 0 0] 25) = w1 at hr0 hr1 hB hsz ⊢
  have H1 := Lib.hid (HD.out w1 (HR.out.later hB))
  have HA := Lib.hid hr0
  have HB := Lib.hid hr1
  have HSZ := Lib.hid hsz
  clear hr0 hr1 hsz
  refine H1.out.mono ?_
  rintro e w2 ⟨g, cap, rfl, hown, hb2⟩
  have ehb2 := Below.step hB hb2
  clear hB
  have hB := ehb2
  clear ehb2
  have ehb2 := Lib.hid (Blk.later HA.out hb2)
  clear HA
  have HA := ehb2
  clear ehb2
  have ehb2 := Lib.hid (Blk.later HB.out hb2)
  clear HB
  have HB := ehb2
  clear ehb2
  have HO := Lib.hid hown
  have hg : w.heap.size + 1 + 1 ≤ g := by have := (hown.lt g rfl).1; have := HSZ.out; omega
  clear hown hb2 H1
  have p0 := Blk.cell HA.out 0
  have p1 := Blk.cell HA.out 1
  have p2 := Blk.cell HA.out 2
  have pf0 := Blk.frozen HA.out 0
  have pf1 := Blk.frozen HA.out 1
  have pf2 := Blk.frozen HA.out 2
  have pl := Blk.lt HA.out
  simp only [List.getElem?_toArray, List.getElem?_cons_zero, List.getElem?_cons_succ] at p0 p1 p2
  have q0 := Blk.cell HB.out 0
  have q1 := Blk.cell HB.out 1
  have q2 := Blk.cell HB.out 2
  have qf0 := Blk.frozen HB.out 0
  have qf1 := Blk.frozen HB.out 1
  have qf2 := Blk.frozen HB.out 2
  have ql := Blk.lt HB.out
  simp only [List.getElem?_toArray, List.getElem?_cons_zero, List.getElem?_cons_succ] at q0 q1 q2
  go_wp2
  refine bodyPost_ret (v := .agg #[.int .i64 h.months, .int .i64 h.peak, .slice (some ⟨g, 0, none⟩) h.ws.length cap]) ?_ rfl ⟨g, cap, rfl, ?_, ?_⟩
  · have hY2 := (((HB.out.far (p := ⟨w.heap.size, 2, none⟩) (by simp) (.slice (some ⟨g, 0, none⟩) h.ws.length cap)).set_ 0 (.int .i64 h.months)).set_ 1 (.int .i64 h.peak)).set_ 2 (.slice (some ⟨g, 0, none⟩) h.ws.length cap)
    simp only [List.setIfInBounds_toArray, List.set_cons_zero, List.set_cons_succ] at hY2
    have e0 := Blk.cell hY2 0
    have e1 := Blk.cell hY2 1
    have e2 := Blk.cell hY2 2
    have ef0 := Blk.frozen hY2 0
    have ef1 := Blk.frozen hY2 1
    have ef2 := Blk.frozen hY2 2
    have el := Blk.lt hY2
    simp only [List.getElem?_toArray, List.getElem?_cons_zero, List.getElem?_cons_succ] at e0 e1 e2
    simp [results, Try.results21, go_sem, e0, e1, e2]
  · refine ownsRow_base' (ownsRow_at HO.out (fun k hk h1 h2 => ?_)) (base := w1.heap.size) (by have := HSZ.out; omega)
    have hkg : g = k := by simpa [Value.ownBlock] using hk
    subst hkg
    exact (((Below.heap_setCell _ ⟨w.heap.size + 1, 2, none⟩ _ g (by simp; omega)).trans (Below.heap_setCell _ ⟨w.heap.size + 1, 1, none⟩ _ g (by simp; omega))).trans (Below.heap_setCell _ ⟨w.heap.size + 1, 0, none⟩ _ g (by simp; omega))).trans (Below.heap_setCell _ ⟨w.heap.size, 2, none⟩ _ g (by simp; omega))
  · exact (((hB.setCell (p := ⟨w.heap.size, 2, none⟩) (Nat.le_refl _) _).setCell (p := ⟨w.heap.size + 1, 0, none⟩) (by simp) _).setCell (p := ⟨w.heap.size + 1, 1, none⟩) (by simp) _).setCell (p := ⟨w.heap.size + 1, 2, none⟩) (by simp) _
end Go.Proofs.Ytjihnnbpfdhceaa
