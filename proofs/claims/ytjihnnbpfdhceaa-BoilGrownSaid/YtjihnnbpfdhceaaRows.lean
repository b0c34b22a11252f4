/-
  No cell of these rows narrows 'for every input' (looked for: loops, veiled, ifaces, maps, wideKeys, modest, calm, conditions, laid).
  DERIVED. THE GIVEN ROWS OF THIS SEAT. 7 by the template 'for every input the law returns true; each argument reads behind the call as it read before'; 0 by the template 'total and deterministic' (their statements: YtjihnnbpfdhceaaTotals.lean).
  GIVEN WITH THE SEED: the statements are not yours to turn. If you find one false, say at which input.
  Laid BY PROGRAM, IN A SANDBOX (cutbox-rows.mjs): the forced cells as the released guide's own fill.sh prints them over the translation e3289c8422659d42… (all of the seat's roots in one cut). By AI agents, Wed Nov 11 2026. No macro, syntax, notation, axiom, sorry.
-/
import Derived.Test.YtjihnnbpfdhceaaChecked
import GoSem.Claim
import GoSem.ClaimJoined
import GoSem.ClaimMapViews
import Derived.JoinedTies
import Derived.KernelRfl
namespace Go.Proofs.Ytjihnnbpfdhceaa
/- THE CELL 'sum', in the pinned program and in every row, IS THE sha256 OF THE DUMP (.gsa) THAT YtjihnnbpfdhceaaProg.lean LOADS. Nothing in Lean hashes anything: it is a label: what it is worth is what the hold of that sum in a sandbox is worth. -/
noncomputable def Try.pinned : Pinned := { name := "ytjihnnbpfdhceaa", sum := "e3289c8422659d428bfa51bae94c21c0d39cf43575a1a0dbe5f6b2197cbee690", checked := Try.checked }
namespace Rows
def none {H : Type} : Left H := { results := [], args := [] }

/-- 'laurellaw08.BoilRow': WHATEVER THE INPUT: true; the input reads as it did. -/
def boilRowSpec : ChangeSpec := { name := "boilRow", fn := fun _ => fun
  | [d1, d2, d3, d4] => { results := [.lit (.bool true)], args := [d1, d2, d3, d4] }
  | _ => none }
def boilRowRow : OpenClaim := { program := "ytjihnnbpfdhceaa", sum := "e3289c8422659d428bfa51bae94c21c0d39cf43575a1a0dbe5f6b2197cbee690", func := "laurel/laurellaw08.BoilRow", spec := "boilRow", unfollowed := true, recurses := true, apart := false }
def BoilRowSaid : Prop := boilRowRow.holds Try.pinned (OpenSpec.ofChange boilRowSpec)

/-- ITS FALSE NEIGHBOUR: 'it returns false'. Refute it at one input. -/
def boilRowWrong : ChangeSpec := { name := "boilRow", fn := fun _ => fun
  | [d1, d2, d3, d4] => { results := [.lit (.bool false)], args := [d1, d2, d3, d4] }
  | _ => none }
def BoilRowWrongFalsely : Prop := boilRowRow.holds Try.pinned (OpenSpec.ofChange boilRowWrong)

/-- 'laurellaw08.BoilMeat': WHATEVER THE INPUT: true; the input reads as it did. -/
def boilMeatSpec : ChangeSpec := { name := "boilMeat", fn := fun _ => fun
  | [d1, d2, d3, d4] => { results := [.lit (.bool true)], args := [d1, d2, d3, d4] }
  | _ => none }
def boilMeatRow : OpenClaim := { program := "ytjihnnbpfdhceaa", sum := "e3289c8422659d428bfa51bae94c21c0d39cf43575a1a0dbe5f6b2197cbee690", func := "laurel/laurellaw08.BoilMeat", spec := "boilMeat", unfollowed := true, recurses := true, apart := false }
def BoilMeatSaid : Prop := boilMeatRow.holds Try.pinned (OpenSpec.ofChange boilMeatSpec)

/-- ITS FALSE NEIGHBOUR: 'it returns false'. Refute it at one input. -/
def boilMeatWrong : ChangeSpec := { name := "boilMeat", fn := fun _ => fun
  | [d1, d2, d3, d4] => { results := [.lit (.bool false)], args := [d1, d2, d3, d4] }
  | _ => none }
def BoilMeatWrongFalsely : Prop := boilMeatRow.holds Try.pinned (OpenSpec.ofChange boilMeatWrong)

/-- 'laurellaw08.BoilBounds': WHATEVER THE INPUT: true; the input reads as it did. -/
def boilBoundsSpec : ChangeSpec := { name := "boilBounds", fn := fun _ => fun
  | [d1, d2, d3] => { results := [.lit (.bool true)], args := [d1, d2, d3] }
  | _ => none }
def boilBoundsRow : OpenClaim := { program := "ytjihnnbpfdhceaa", sum := "e3289c8422659d428bfa51bae94c21c0d39cf43575a1a0dbe5f6b2197cbee690", func := "laurel/laurellaw08.BoilBounds", spec := "boilBounds", unfollowed := true, recurses := true, apart := false }
def BoilBoundsSaid : Prop := boilBoundsRow.holds Try.pinned (OpenSpec.ofChange boilBoundsSpec)

/-- ITS FALSE NEIGHBOUR: 'it returns false'. Refute it at one input. -/
def boilBoundsWrong : ChangeSpec := { name := "boilBounds", fn := fun _ => fun
  | [d1, d2, d3] => { results := [.lit (.bool false)], args := [d1, d2, d3] }
  | _ => none }
def BoilBoundsWrongFalsely : Prop := boilBoundsRow.holds Try.pinned (OpenSpec.ofChange boilBoundsWrong)

/-- 'laurellaw08.BoilTurned': WHATEVER THE INPUT: true; the input reads as it did. -/
def boilTurnedSpec : ChangeSpec := { name := "boilTurned", fn := fun _ => fun
  | [d1, d2] => { results := [.lit (.bool true)], args := [d1, d2] }
  | _ => none }
def boilTurnedRow : OpenClaim := { program := "ytjihnnbpfdhceaa", sum := "e3289c8422659d428bfa51bae94c21c0d39cf43575a1a0dbe5f6b2197cbee690", func := "laurel/laurellaw08.BoilTurned", spec := "boilTurned", unfollowed := true, recurses := true, apart := false }
def BoilTurnedSaid : Prop := boilTurnedRow.holds Try.pinned (OpenSpec.ofChange boilTurnedSpec)

/-- ITS FALSE NEIGHBOUR: 'it returns false'. Refute it at one input. -/
def boilTurnedWrong : ChangeSpec := { name := "boilTurned", fn := fun _ => fun
  | [d1, d2] => { results := [.lit (.bool false)], args := [d1, d2] }
  | _ => none }
def BoilTurnedWrongFalsely : Prop := boilTurnedRow.holds Try.pinned (OpenSpec.ofChange boilTurnedWrong)

/-- 'laurellaw08.BoilGrown': WHATEVER THE INPUT: true; the input reads as it did. -/
def boilGrownSpec : ChangeSpec := { name := "boilGrown", fn := fun _ => fun
  | [d1, d2, d3] => { results := [.lit (.bool true)], args := [d1, d2, d3] }
  | _ => none }
def boilGrownRow : OpenClaim := { program := "ytjihnnbpfdhceaa", sum := "e3289c8422659d428bfa51bae94c21c0d39cf43575a1a0dbe5f6b2197cbee690", func := "laurel/laurellaw08.BoilGrown", spec := "boilGrown", unfollowed := true, recurses := true, apart := false }
def BoilGrownSaid : Prop := boilGrownRow.holds Try.pinned (OpenSpec.ofChange boilGrownSpec)

/-- ITS FALSE NEIGHBOUR: 'it returns false'. Refute it at one input. -/
def boilGrownWrong : ChangeSpec := { name := "boilGrown", fn := fun _ => fun
  | [d1, d2, d3] => { results := [.lit (.bool false)], args := [d1, d2, d3] }
  | _ => none }
def BoilGrownWrongFalsely : Prop := boilGrownRow.holds Try.pinned (OpenSpec.ofChange boilGrownWrong)

/-- 'laurellaw08.BoilTruths': WHATEVER THE INPUT: true; the input reads as it did. -/
def boilTruthsSpec : ChangeSpec := { name := "boilTruths", fn := fun _ => fun
  | [d1, d2] => { results := [.lit (.bool true)], args := [d1, d2] }
  | _ => none }
def boilTruthsRow : OpenClaim := { program := "ytjihnnbpfdhceaa", sum := "e3289c8422659d428bfa51bae94c21c0d39cf43575a1a0dbe5f6b2197cbee690", func := "laurel/laurellaw08.BoilTruths", spec := "boilTruths", unfollowed := true, recurses := true, apart := false }
def BoilTruthsSaid : Prop := boilTruthsRow.holds Try.pinned (OpenSpec.ofChange boilTruthsSpec)

/-- ITS FALSE NEIGHBOUR: 'it returns false'. Refute it at one input. -/
def boilTruthsWrong : ChangeSpec := { name := "boilTruths", fn := fun _ => fun
  | [d1, d2] => { results := [.lit (.bool false)], args := [d1, d2] }
  | _ => none }
def BoilTruthsWrongFalsely : Prop := boilTruthsRow.holds Try.pinned (OpenSpec.ofChange boilTruthsWrong)

/-- 'laurellaw08.BoilShown': WHATEVER THE INPUT: true; the input reads as it did. -/
def boilShownSpec : ChangeSpec := { name := "boilShown", fn := fun _ => fun
  | [d] => { results := [.lit (.bool true)], args := [d] }
  | _ => none }
def boilShownRow : OpenClaim := { program := "ytjihnnbpfdhceaa", sum := "e3289c8422659d428bfa51bae94c21c0d39cf43575a1a0dbe5f6b2197cbee690", func := "laurel/laurellaw08.BoilShown", spec := "boilShown", unfollowed := true, recurses := true, apart := false }
def BoilShownSaid : Prop := boilShownRow.holds Try.pinned (OpenSpec.ofChange boilShownSpec)

/-- ITS FALSE NEIGHBOUR: 'it returns false'. Refute it at one input. -/
def boilShownWrong : ChangeSpec := { name := "boilShown", fn := fun _ => fun
  | [d] => { results := [.lit (.bool false)], args := [d] }
  | _ => none }
def BoilShownWrongFalsely : Prop := boilShownRow.holds Try.pinned (OpenSpec.ofChange boilShownWrong)

/- THE SECOND FORM. 'bulk': how many values and letters a reading holds, each counted each time it is reached (what is shared counts as often as it is met; a slice's spare places count too). A statement '..UptoSaid' is the law's where the arguments, and the package variables that the reading takes, are together of bulk at most 1048576: NARROWER than '..Said'. Prove '..Said' where nothing that the law and all that it calls make is longer than what came in: it says more and counts as full. Else prove '..UptoSaid'. A law counts once. -/
mutual
def uptoBulk {H : Type} : DataW H → Nat
  | .lit (.string bytes) => bytes.length + 1
  | .lit _ => 1
  | .nil => 1
  | .ptr d => uptoBulk d + 1
  | .slice elems spare => uptoBulkAll elems + uptoBulkAll spare + 1
  | .agg parts => uptoBulkAll parts + 1
  | .iface _ d => uptoBulk d + 1
  | .map entries => uptoBulkEntries entries + 1
  | .held _ => 1
def uptoBulkAll {H : Type} : List (DataW H) → Nat
  | [] => 0
  | d :: r => uptoBulk d + uptoBulkAll r
def uptoBulkEntries {H : Type} : List (Lit × DataW H) → Nat
  | [] => 0
  | x :: r => uptoBulkEntry x + uptoBulkEntries r
def uptoBulkEntry {H : Type} : Lit × DataW H → Nat
  | (.string bytes, d) => bytes.length + uptoBulk d + 1
  | (_, d) => uptoBulk d + 1
 end
def uptoSmall : (H : Type) → List (DataW H) → Bool := fun _ ds => decide (uptoBulkAll ds ≤ 1048576)
def OpenSpec.upto (s : _root_.Go.ChangeSpec) : _root_.Go.OpenSpec := { _root_.Go.OpenSpec.ofChange s with cond := some uptoSmall }

/-- 'laurellaw08.BoilRow', WHERE WHAT IT READS IS OF BULK AT MOST 1048576: true; the input reads as it did. -/
def boilRowUptoRow : OpenClaim := { program := "ytjihnnbpfdhceaa", sum := "e3289c8422659d428bfa51bae94c21c0d39cf43575a1a0dbe5f6b2197cbee690", func := "laurel/laurellaw08.BoilRow", spec := "boilRow", unfollowed := true, recurses := true, apart := false, narrowed := true }
def BoilRowUptoSaid : Prop := boilRowUptoRow.holds Try.pinned (OpenSpec.upto boilRowSpec)

/-- 'laurellaw08.BoilMeat', WHERE WHAT IT READS IS OF BULK AT MOST 1048576: true; the input reads as it did. -/
def boilMeatUptoRow : OpenClaim := { program := "ytjihnnbpfdhceaa", sum := "e3289c8422659d428bfa51bae94c21c0d39cf43575a1a0dbe5f6b2197cbee690", func := "laurel/laurellaw08.BoilMeat", spec := "boilMeat", unfollowed := true, recurses := true, apart := false, narrowed := true }
def BoilMeatUptoSaid : Prop := boilMeatUptoRow.holds Try.pinned (OpenSpec.upto boilMeatSpec)

/-- 'laurellaw08.BoilBounds', WHERE WHAT IT READS IS OF BULK AT MOST 1048576: true; the input reads as it did. -/
def boilBoundsUptoRow : OpenClaim := { program := "ytjihnnbpfdhceaa", sum := "e3289c8422659d428bfa51bae94c21c0d39cf43575a1a0dbe5f6b2197cbee690", func := "laurel/laurellaw08.BoilBounds", spec := "boilBounds", unfollowed := true, recurses := true, apart := false, narrowed := true }
def BoilBoundsUptoSaid : Prop := boilBoundsUptoRow.holds Try.pinned (OpenSpec.upto boilBoundsSpec)

/-- 'laurellaw08.BoilTurned', WHERE WHAT IT READS IS OF BULK AT MOST 1048576: true; the input reads as it did. -/
def boilTurnedUptoRow : OpenClaim := { program := "ytjihnnbpfdhceaa", sum := "e3289c8422659d428bfa51bae94c21c0d39cf43575a1a0dbe5f6b2197cbee690", func := "laurel/laurellaw08.BoilTurned", spec := "boilTurned", unfollowed := true, recurses := true, apart := false, narrowed := true }
def BoilTurnedUptoSaid : Prop := boilTurnedUptoRow.holds Try.pinned (OpenSpec.upto boilTurnedSpec)

/-- 'laurellaw08.BoilGrown', WHERE WHAT IT READS IS OF BULK AT MOST 1048576: true; the input reads as it did. -/
def boilGrownUptoRow : OpenClaim := { program := "ytjihnnbpfdhceaa", sum := "e3289c8422659d428bfa51bae94c21c0d39cf43575a1a0dbe5f6b2197cbee690", func := "laurel/laurellaw08.BoilGrown", spec := "boilGrown", unfollowed := true, recurses := true, apart := false, narrowed := true }
def BoilGrownUptoSaid : Prop := boilGrownUptoRow.holds Try.pinned (OpenSpec.upto boilGrownSpec)

/-- 'laurellaw08.BoilTruths', WHERE WHAT IT READS IS OF BULK AT MOST 1048576: true; the input reads as it did. -/
def boilTruthsUptoRow : OpenClaim := { program := "ytjihnnbpfdhceaa", sum := "e3289c8422659d428bfa51bae94c21c0d39cf43575a1a0dbe5f6b2197cbee690", func := "laurel/laurellaw08.BoilTruths", spec := "boilTruths", unfollowed := true, recurses := true, apart := false, narrowed := true }
def BoilTruthsUptoSaid : Prop := boilTruthsUptoRow.holds Try.pinned (OpenSpec.upto boilTruthsSpec)

/-- 'laurellaw08.BoilShown', WHERE WHAT IT READS IS OF BULK AT MOST 1048576: true; the input reads as it did. -/
def boilShownUptoRow : OpenClaim := { program := "ytjihnnbpfdhceaa", sum := "e3289c8422659d428bfa51bae94c21c0d39cf43575a1a0dbe5f6b2197cbee690", func := "laurel/laurellaw08.BoilShown", spec := "boilShown", unfollowed := true, recurses := true, apart := false, narrowed := true }
def BoilShownUptoSaid : Prop := boilShownUptoRow.holds Try.pinned (OpenSpec.upto boilShownSpec)

end Rows
end Go.Proofs.Ytjihnnbpfdhceaa
