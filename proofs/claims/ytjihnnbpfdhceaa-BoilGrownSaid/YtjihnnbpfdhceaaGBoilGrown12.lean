/- slices.Clone of ints; append onto a row of the call's own. Conditions: none beyond those that each theorem names. -/
import Derived.Test.YtjihnnbpfdhceaaGBoilGrown11
import Derived.Maps.AppendAt
import Derived.ArgAppend
set_option linter.unusedSimpArgs false
set_option linter.unusedVariables false
namespace Go.Proofs.Ytjihnnbpfdhceaa
open Go.RowKit Go.Shelf

def intsV (l : List Nat) : List Value := l.map fun (n : Nat) => .int .i64 (n : Int)
theorem intsV_snoc (l : List Nat) (n : Nat) : intsV (l ++ [n]) = intsV l ++ [.int .i64 (n : Int)] := by simp [intsV]
theorem intsV_len (l : List Nat) : (intsV l).length = l.length := by simp [intsV]
theorem info_int : (Try.prog.info? 3).map (fun i => (i.zero, i.size, i.bytes)) = some (some (.int .i64 0), 1, 8) := by kernel_rfl

theorem ownsRow_drop {W : World} {base : Nat} {e : TypeId} {g n cap : Nat} {xs : List Value} {x : Value} (h : W.ownsRow base e 1 (.slice (some ⟨g, 0, none⟩) (n + 1) cap) (n + 1) (xs ++ [x])) (hx : xs.length = n) : W.ownsRow base e 1 (.slice (some ⟨g, 0, none⟩) n cap) n xs := by
  obtain ⟨h1, h2⟩ := h
  refine ⟨by omega, ?_⟩
  rcases h2 with ⟨h2, _⟩ | ⟨g', cap', cur, hv, hg, hh, hn, hc, hs, ht⟩
  · cases h2
  · injection hv with hv1 hv2 hv3
    injection hv1 with hv1
    injection hv1 with hv1
    subst hv1
    subst hv3
    refine .inr ⟨g, cap, cur, rfl, hg, hh, by omega, hc, hs, ?_⟩
    have := congrArg (List.take n) ht
    rw [List.take_take, List.take_left' hx] at this
    rw [← this]
    congr 1
    omega

theorem ownsRow_base' {w : World} {base base' : Nat} {e : TypeId} {size : Nat} {v : Value} {n : Nat} {xs : List Value} (h : w.ownsRow base e size v n xs) (hb : base' ≤ base) : w.ownsRow base' e size v n xs := by
  obtain ⟨h1, h2⟩ := h
  refine ⟨h1, ?_⟩
  rcases h2 with h2 | ⟨g, cap, cur, hv, hg, r⟩
  · exact .inl h2
  · exact .inr ⟨g, cap, cur, hv, Nat.le_trans hb hg, r⟩
/-- append of one value onto a row of the call's own: in its place, or in a new block. -/
theorem run_append_two {P : Program} (w : World) (base : Nat) (t ty e : TypeId) (i : TypeInfo) (z : Value) (bytes : Nat) (ht : P.underlying t = some (.slice e)) (hi : P.info? e = some i) (hz : i.zero = some z)
    (hsize : i.size = 1) (hby : i.bytes = bytes) (hzs : z.cells.size = 1) (v : Value) (n : Nat) (xs : List Value) (hown : w.ownsRow base e 1 v n xs)
    (a : Addr) (c : Nat) (x : Value) (hx : w.cell? a = some x) (h1 : x.oneCell' = true) (h63 : n + 1 ≤ maxLen) (hbytes : (n + 1) * bytes ≤ 140737488355328) (hbase : base ≤ w.heap.size) :
    ∃ v' w', (Builtin.append_ #[t, t] ty #[v, .slice (some a) 1 c]).run P w = .ok v' w' ∧ w'.ownsRow base e 1 v' (n + 1) (xs ++ [x]) ∧
      ((v'.ownBlock = v.ownBlock ∧ w.grownBy w' v.ownBlock ∧ ∀ W : World, W.ownsRow base e 1 v' (n + 1) (xs ++ [x]) → W.ownsRow base e 1 v n xs) ∨ ((∃ g, v'.ownBlock = some g ∧ w.heap.size ≤ g) ∧ w.grownBy w' none)) := by
  have hnews : ∀ j u, [x][j]? = some u → w.cell? (a.add j) = some u := by
    intro j u hu
    cases j with
    | zero => simp only [List.getElem?_cons_zero, Option.some.injEq] at hu; subst hu; simpa [Addr.add] using hx
    | succ j => simp at hu
  have h1s : ∀ u ∈ [x], u.oneCell' = true := by intro u hu; rw [List.mem_singleton.1 hu]; exact h1
  have grows : ∀ (ao : Option Addr) (cap : Nat), v = .slice ao n cap → (ao = none → n = 0 ∧ cap = 0) → (∀ b, ao = some b → ∀ j u, xs[j]? = some u → w.cell? (b.add j) = some u) → cap < n + 1 →
      ∃ v' w', (Builtin.append_ #[t, t] ty #[v, .slice (some a) 1 c]).run P w = .ok v' w' ∧ w'.ownsRow base e 1 v' (n + 1) (xs ++ [x]) ∧ ((∃ g, v'.ownBlock = some g ∧ w.heap.size ≤ g) ∧ w.grownBy w' none) := by
    intro ao cap hv hnone holds hfull
    subst hv
    cases ao with
    | some b =>
      obtain ⟨v', w', hrun, r1, r2⟩ := run_append_arg_grows (P := P) w t ty e i z 1 bytes ht hi hz hsize hby hzs (by omega) b n cap xs hown.1 (holds b rfl) a 1 c [x] rfl hnews hfull h63 hbytes
      refine ⟨v', w', hrun, ownsRow_base' r1 hbase, ?_, r2⟩
      obtain ⟨g, cap', rfl⟩ := ownsRow_succ r1
      exact ⟨g, rfl, (r1.lt g rfl).1⟩
    | none =>
      obtain ⟨rfl, rfl⟩ := hnone rfl
      have hxs : xs = [] := List.eq_nil_of_length_eq_zero (by simpa using hown.1)
      subst hxs
      obtain ⟨v', w', hrun, r1, r2, _⟩ := run_append_own (P := P) w w.heap.size t ty e i z 1 bytes ht hi hz hsize hby hzs (by omega) (.slice none 0 0) 0 [] (World.ownsRow_nil w _ e 1) a 1 c [x] rfl hnews h1s h63 hbytes (Nat.le_refl _)
      refine ⟨v', w', hrun, ownsRow_base' r1 hbase, ?_, r2⟩
      obtain ⟨g, cap', rfl⟩ := ownsRow_succ r1
      exact ⟨g, rfl, (r1.lt g rfl).1⟩
  rcases hown.2 with ⟨rfl, rfl⟩ | ⟨g, cap, cur, rfl, hg, hh, hn, hc, hs, htk⟩
  · obtain ⟨v', w', h⟩ := grows none 0 rfl (fun _ => ⟨rfl, rfl⟩) (fun b hb => by cases hb) (by omega)
    exact ⟨v', w', h.1, h.2.1, .inr h.2.2⟩
  · by_cases hroom : n + 1 ≤ cap
    · have hr := run_append_room (P := P) w t ty e i ht hi g n cap cur hh a 1 c [x] (by rw [hsize]; rfl) hnews h1s hroom (by rw [hsize, hs]; simp; omega)
      have hxl : xs.length = n := by have := hown.1; omega
      have ho : (w.setRow g ((cur.toList.take (n * i.size) ++ [x] ++ cur.toList.drop (n * i.size + [x].length)).toArray)).ownsRow base e 1 (.slice (some ⟨g, 0, none⟩) (n + 1) cap) (n + 1) (xs ++ [x]) := by
        refine ⟨by simp [hxl], .inr ⟨g, cap, _, rfl, hg, setRow_heap w g cur _ e _ hh, hroom, hc, ?_, ?_⟩⟩
        · rw [hsize] at *
          have h2 : cur.toList.length = cap := by rw [Array.length_toList, hs]; omega
          simp only [List.size_toArray, List.length_append, List.length_take, List.length_drop, List.length_cons, List.length_nil, Array.length_toList, hs]
          omega
        · rw [hsize, htk]
          have h3 : (xs ++ [x]).length = (n + 1) * 1 := by simp [hxl]
          rw [← h3]
          exact List.take_left
      exact ⟨_, _, hr, ho, .inl ⟨rfl, ⟨rfl, rfl, rfl, by simp, fun k _ hk => setRow_other w g k _ (fun e => hk (by simp [Value.ownBlock, e]))⟩, fun W hW => ownsRow_drop hW hxl⟩⟩
    · obtain ⟨v', w', h⟩ := grows (some ⟨g, 0, none⟩) cap rfl (fun h => by cases h) (fun b hb => by cases hb; exact hown.cells (g := g) rfl) (by omega)
      exact ⟨v', w', h.1, h.2.1, .inr h.2.2⟩

set_option maxHeartbeats 400000 in
set_option maxRecDepth 100000 in
theorem clone_any (v : Value) (base : Nat) (l : List Nat) (w : World) (h : w.ownsRow base 3 1 v l.length (intsV l)) (hb : base ≤ w.heap.size) (hl : l.length ≤ 1000) :
    Calls Try.prog 91 #[v] w fun e w' => ∃ v', e = .returned v' ∧ w'.ownsRow w.heap.size 3 1 v' l.length (intsV l) ∧ Below w.heap.size w w' := by
  obtain ⟨i0, hi0, hz0, hz1, hz2⟩ := info_parts info_int
  rcases h.2 with ⟨rfl, hn⟩ | ⟨g, cap, cur, rfl, hg, hh, hcap, _⟩
  · have hnil : l = [] := List.eq_nil_of_length_eq_zero hn
    subst hnil
    go_enter Try.func91, Try.ntmps91
    have hq := fun W => Lib.run_eql_slice_nil (P := Try.prog) W 64 3 none 0 0 0 0 Try.underlying64
    go_wp2
    go_ret
    exact ⟨_, rfl, World.ownsRow_nil w _ _ 1, Below.refl _ _⟩
  · go_enter Try.func91, Try.ntmps91
    have hcells : ∀ j u, (intsV l)[j]? = some u → w.cell? ((⟨g, 0, none⟩ : Addr).add j) = some u := fun j u hu => h.cells (g := g) rfl j u hu
    have hlen : (intsV l).length = l.length * 1 := by simp [intsV]
    have hone : ∀ u ∈ intsV l, u.oneCell' = true := by
      intro u hu
      obtain ⟨m, _, rfl⟩ := List.mem_map.1 hu
      rfl
    have h' := Lib.hid h
    clear h
    have hq := fun W => Lib.run_eql_slice_nil (P := Try.prog) W 64 3 (some ⟨g, 0, none⟩) l.length cap 0 0 Try.underlying64
    go_wp2_with (at_builtin; refine wpList_append_own _ rfl _ _ 64 rfl w.heap.size 3 i0 _ 1 8 Try.underlying64 hi0 hz0 hz1 hz2 rfl (by decide) (.slice (some ⟨w.heap.size, 0, none⟩) 0 0) 0 [] rfl ?c0 ⟨g, 0, none⟩ l.length cap (intsV l) rfl hlen ?c2 hone ?c3 ?c4 ?c5 ?_)
    case c0 => exact ⟨rfl, .inr ⟨w.heap.size, 0, #[], rfl, Nat.le_refl _, heap_alloc_new w _, by omega, by unfold maxLen; omega, rfl, rfl⟩⟩
    case c2 => exact fun j u hu => cell_kept (hcells j u hu) (World.grownBy_alloc w _ none) (fun r e => by cases e)
    case c3 => unfold maxLen; omega
    case c4 => omega
    case c5 => simp
    intro v' w1 hown' hgrow _
    have HO := Lib.hid hown'
    clear hown'
    go_wp2
    go_ret
    refine ⟨_, rfl, by simpa using HO.out, ?_⟩
    have hB1 : Below w.heap.size w (w.alloc (.cells #[] 3)) := (Below.refl _ w).alloc (Nat.le_refl _) _
    exact hB1.grown hgrow (by simp) (fun g hg => by simp [Value.ownBlock] at hg; omega)
end Go.Proofs.Ytjihnnbpfdhceaa

/- Plain: lists of sets in order, told one by one as long as it is let. -/
set_option linter.unusedSimpArgs false
set_option linter.unusedVariables false
namespace Go.Proofs.Ytjihnnbpfdhceaa
open Go.RowKit Go.Shelf

def inL (l : List Nat) : Nat → Bool := fun n => decide (n ∈ l)
section
variable {σ : Type} {leaf : List Nat → σ → Bool × σ}
def runW (leaf : List Nat → σ → Bool × σ) : List (List Nat) → σ → Bool × σ
  | [], s => (true, s)
  | l :: L, s => bif (leaf l s).1 then runW leaf L (leaf l s).2 else (false, (leaf l s).2)
theorem runW_append (A B : List (List Nat)) (s : σ) (h : (runW leaf A s).1 = true) : runW leaf (A ++ B) s = runW leaf B (runW leaf A s).2 := by
  induction A generalizing s with
  | nil => rfl
  | cons l L ih =>
    simp only [List.cons_append, runW] at h ⊢
    cases hc : (leaf l s).1
    · rw [hc] at h; simp at h
    · rw [hc] at h; simp only [cond_true] at h ⊢; exact ih _ h
theorem runW_stop (A B : List (List Nat)) (s : σ) (h : (runW leaf A s).1 = false) : runW leaf (A ++ B) s = runW leaf A s := by
  induction A generalizing s with
  | nil => simp [runW] at h
  | cons l L ih =>
    simp only [List.cons_append, runW] at h ⊢
    cases hc : (leaf l s).1
    · rfl
    · rw [hc] at h; simp only [cond_true] at h ⊢; exact ih _ h
theorem runW_one (l : List Nat) (s : σ) : runW leaf [l] s = leaf l s := by
  simp only [runW]
  cases hc : (leaf l s).1
  · simp only [cond_false]; rw [← hc]
  · simp only [cond_true]; rw [← hc]
def leafW (M : Nat → Nat → Bool) (k : Nat) (step : List Nat → σ → Bool × σ) (l : List Nat) (s : σ) : Bool × σ := bif clashesB M k (inL l) then (true, s) else step l s
end
/-- The sets that go on with so many, from one on. -/
def subsL (k : Nat) : Nat → List Nat → Nat → List (List Nat)
  | 0, l, _ => [l]
  | left + 1, l, f => (List.range' f (k - left - f)).flatMap fun n => subsL k left (l ++ [n]) (n + 1)
def subsTo (k left : Nat) (l : List Nat) (f n : Nat) : List (List Nat) := (List.range' f (n - f)).flatMap fun m => subsL k left (l ++ [m]) (m + 1)
theorem subsTo_start (k left : Nat) (l : List Nat) (f : Nat) : subsTo k left l f f = [] := by simp [subsTo]
theorem subsTo_snoc (k left : Nat) (l : List Nat) (f n : Nat) (h : f ≤ n) : subsTo k left l f (n + 1) = subsTo k left l f n ++ subsL k left (l ++ [n]) (n + 1) := by
  unfold subsTo
  rw [show n + 1 - f = (n - f) + 1 by omega, List.range'_concat, List.flatMap_append]
  simp [show f + (n - f) = n by omega]
theorem subsTo_end (k left : Nat) (l : List Nat) (f n : Nat) (h1 : f ≤ n) (h2 : n = f ∨ n ≤ k - left) (h3 : k - left ≤ n) : subsL k (left + 1) l f = subsTo k left l f n := by
  unfold subsTo
  show (List.range' f (k - left - f)).flatMap _ = _
  rw [show k - left - f = n - f by omega]
/-- A stop within tells the whole. -/
theorem subsTo_split (k left : Nat) (l : List Nat) (f n : Nat) (h1 : f ≤ n) (h2 : n < k - left) : ∃ R, subsL k (left + 1) l f = subsTo k left l f n ++ (subsL k left (l ++ [n]) (n + 1) ++ R) := by
  refine ⟨(List.range' (n + 1) (k - left - (n + 1))).flatMap fun n => subsL k left (l ++ [n]) (n + 1), ?_⟩
  rw [← List.append_assoc, ← subsTo_snoc _ _ _ _ _ h1]
  show (List.range' f (k - left - f)).flatMap _ = _
  unfold subsTo
  rw [← List.flatMap_append, show k - left - f = (n + 1 - f) + (k - left - (n + 1)) by omega, ← List.range'_append_1, show f + (n + 1 - f) = n + 1 by omega]
theorem row14_inL (l : List Nat) (n : Nat) : row14 (updB (inL l) n true) = row14 (inL (l ++ [n])) := by
  apply row14_congr
  intro b _
  unfold updB inL
  by_cases h : b = n
  · subst h; simp
  · simp [h]
theorem row14_empty : row14 (fun _ => false) = row14 (inL []) := by
  apply row14_congr
  intro b _
  simp [inL]
end Go.Proofs.Ytjihnnbpfdhceaa
