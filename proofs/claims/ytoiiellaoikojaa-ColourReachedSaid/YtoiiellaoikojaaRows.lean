/-
  No cell of these rows narrows 'for every input' (looked for: loops, veiled, ifaces, maps, wideKeys, modest, calm, conditions, laid).
  DERIVED. THE GIVEN ROWS OF THIS SEAT. 9 by the template 'for every input the law returns true; each argument reads behind the call as it read before'; 0 by the template 'total and deterministic' (their statements: YtoiiellaoikojaaTotals.lean).
  GIVEN WITH THE SEED: the statements are not yours to turn. If you find one false, say at which input.
  Laid BY PROGRAM, IN A SANDBOX (cutbox-rows.mjs): the forced cells as the released guide's own fill.sh prints them over the translation 7786ede8ca4f2c08… (all of the seat's roots in one cut). By AI agents, Wed Nov 11 2026. No macro, syntax, notation, axiom, sorry.
-/
import Derived.Test.YtoiiellaoikojaaChecked
import GoSem.Claim
import GoSem.ClaimJoined
import GoSem.ClaimMapViews
import Derived.JoinedTies
import Derived.KernelRfl
namespace Go.Proofs.Ytoiiellaoikojaa
/- THE CELL 'sum', in the pinned program and in every row, IS THE sha256 OF THE DUMP (.gsa) THAT YtoiiellaoikojaaProg.lean LOADS. Nothing in Lean hashes anything: it is a label: what it is worth is what the hold of that sum in a sandbox is worth. -/
noncomputable def Try.pinned : Pinned := { name := "ytoiiellaoikojaa", sum := "7786ede8ca4f2c08d7f971a83451d3fbdc3e932a6f12d5dd490df244f4f16573", checked := Try.checked }
namespace Rows
def none {H : Type} : Left H := { results := [], args := [] }

/-- 'slopelaw12.ColourGraphs': WHATEVER THE INPUT: true; the input reads as it did. -/
def colourGraphsSpec : ChangeSpec := { name := "colourGraphs", fn := fun _ => fun
  | [d] => { results := [.lit (.bool true)], args := [d] }
  | _ => none }
def colourGraphsRow : OpenClaim := { program := "ytoiiellaoikojaa", sum := "7786ede8ca4f2c08d7f971a83451d3fbdc3e932a6f12d5dd490df244f4f16573", func := "slope/slopelaw12.ColourGraphs", spec := "colourGraphs", unfollowed := true, recurses := true, plainKeys := false, apart := false }
def ColourGraphsSaid : Prop := colourGraphsRow.holds Try.pinned (OpenSpec.ofChange colourGraphsSpec)

/-- ITS FALSE NEIGHBOUR: 'it returns false'. Refute it at one input. -/
def colourGraphsWrong : ChangeSpec := { name := "colourGraphs", fn := fun _ => fun
  | [d] => { results := [.lit (.bool false)], args := [d] }
  | _ => none }
def ColourGraphsWrongFalsely : Prop := colourGraphsRow.holds Try.pinned (OpenSpec.ofChange colourGraphsWrong)

/-- 'slopelaw12.ColourGreedy': WHATEVER THE INPUT: true; the input reads as it did. -/
def colourGreedySpec : ChangeSpec := { name := "colourGreedy", fn := fun _ => fun
  | [d1, d2, d3] => { results := [.lit (.bool true)], args := [d1, d2, d3] }
  | _ => none }
def colourGreedyRow : OpenClaim := { program := "ytoiiellaoikojaa", sum := "7786ede8ca4f2c08d7f971a83451d3fbdc3e932a6f12d5dd490df244f4f16573", func := "slope/slopelaw12.ColourGreedy", spec := "colourGreedy", unfollowed := true, recurses := true, plainKeys := false, apart := false }
def ColourGreedySaid : Prop := colourGreedyRow.holds Try.pinned (OpenSpec.ofChange colourGreedySpec)

/-- ITS FALSE NEIGHBOUR: 'it returns false'. Refute it at one input. -/
def colourGreedyWrong : ChangeSpec := { name := "colourGreedy", fn := fun _ => fun
  | [d1, d2, d3] => { results := [.lit (.bool false)], args := [d1, d2, d3] }
  | _ => none }
def ColourGreedyWrongFalsely : Prop := colourGreedyRow.holds Try.pinned (OpenSpec.ofChange colourGreedyWrong)

/-- 'slopelaw12.ColourClasses': WHATEVER THE INPUT: true; the input reads as it did. -/
def colourClassesSpec : ChangeSpec := { name := "colourClasses", fn := fun _ => fun
  | [d] => { results := [.lit (.bool true)], args := [d] }
  | _ => none }
def colourClassesRow : OpenClaim := { program := "ytoiiellaoikojaa", sum := "7786ede8ca4f2c08d7f971a83451d3fbdc3e932a6f12d5dd490df244f4f16573", func := "slope/slopelaw12.ColourClasses", spec := "colourClasses", unfollowed := true, recurses := true, plainKeys := false, apart := false }
def ColourClassesSaid : Prop := colourClassesRow.holds Try.pinned (OpenSpec.ofChange colourClassesSpec)

/-- ITS FALSE NEIGHBOUR: 'it returns false'. Refute it at one input. -/
def colourClassesWrong : ChangeSpec := { name := "colourClasses", fn := fun _ => fun
  | [d] => { results := [.lit (.bool false)], args := [d] }
  | _ => none }
def ColourClassesWrongFalsely : Prop := colourClassesRow.holds Try.pinned (OpenSpec.ofChange colourClassesWrong)

/-- 'slopelaw12.ColourBounds': WHATEVER THE INPUT: true; the input reads as it did. -/
def colourBoundsSpec : ChangeSpec := { name := "colourBounds", fn := fun _ => fun
  | [d1, d2, d3] => { results := [.lit (.bool true)], args := [d1, d2, d3] }
  | _ => none }
def colourBoundsRow : OpenClaim := { program := "ytoiiellaoikojaa", sum := "7786ede8ca4f2c08d7f971a83451d3fbdc3e932a6f12d5dd490df244f4f16573", func := "slope/slopelaw12.ColourBounds", spec := "colourBounds", unfollowed := true, recurses := true, plainKeys := false, apart := false }
def ColourBoundsSaid : Prop := colourBoundsRow.holds Try.pinned (OpenSpec.ofChange colourBoundsSpec)

/-- ITS FALSE NEIGHBOUR: 'it returns false'. Refute it at one input. -/
def colourBoundsWrong : ChangeSpec := { name := "colourBounds", fn := fun _ => fun
  | [d1, d2, d3] => { results := [.lit (.bool false)], args := [d1, d2, d3] }
  | _ => none }
def ColourBoundsWrongFalsely : Prop := colourBoundsRow.holds Try.pinned (OpenSpec.ofChange colourBoundsWrong)

/-- 'slopelaw12.ColourLines': WHATEVER THE INPUT: true; the input reads as it did. -/
def colourLinesSpec : ChangeSpec := { name := "colourLines", fn := fun _ => fun
  | [d1, d2, d3] => { results := [.lit (.bool true)], args := [d1, d2, d3] }
  | _ => none }
def colourLinesRow : OpenClaim := { program := "ytoiiellaoikojaa", sum := "7786ede8ca4f2c08d7f971a83451d3fbdc3e932a6f12d5dd490df244f4f16573", func := "slope/slopelaw12.ColourLines", spec := "colourLines", unfollowed := true, recurses := true, plainKeys := false, apart := false }
def ColourLinesSaid : Prop := colourLinesRow.holds Try.pinned (OpenSpec.ofChange colourLinesSpec)

/-- ITS FALSE NEIGHBOUR: 'it returns false'. Refute it at one input. -/
def colourLinesWrong : ChangeSpec := { name := "colourLines", fn := fun _ => fun
  | [d1, d2, d3] => { results := [.lit (.bool false)], args := [d1, d2, d3] }
  | _ => none }
def ColourLinesWrongFalsely : Prop := colourLinesRow.holds Try.pinned (OpenSpec.ofChange colourLinesWrong)

/-- 'slopelaw12.ColourReached': WHATEVER THE INPUT: true; the input reads as it did. -/
def colourReachedSpec : ChangeSpec := { name := "colourReached", fn := fun _ => fun
  | [d1, d2] => { results := [.lit (.bool true)], args := [d1, d2] }
  | _ => none }
def colourReachedRow : OpenClaim := { program := "ytoiiellaoikojaa", sum := "7786ede8ca4f2c08d7f971a83451d3fbdc3e932a6f12d5dd490df244f4f16573", func := "slope/slopelaw12.ColourReached", spec := "colourReached", unfollowed := true, recurses := true, plainKeys := false, apart := false }
def ColourReachedSaid : Prop := colourReachedRow.holds Try.pinned (OpenSpec.ofChange colourReachedSpec)

/-- ITS FALSE NEIGHBOUR: 'it returns false'. Refute it at one input. -/
def colourReachedWrong : ChangeSpec := { name := "colourReached", fn := fun _ => fun
  | [d1, d2] => { results := [.lit (.bool false)], args := [d1, d2] }
  | _ => none }
def ColourReachedWrongFalsely : Prop := colourReachedRow.holds Try.pinned (OpenSpec.ofChange colourReachedWrong)

/-- 'slopelaw12.ColourShown': WHATEVER THE INPUT: true; the input reads as it did. -/
def colourShownSpec : ChangeSpec := { name := "colourShown", fn := fun _ => fun
  | [d1, d2, d3] => { results := [.lit (.bool true)], args := [d1, d2, d3] }
  | _ => none }
def colourShownRow : OpenClaim := { program := "ytoiiellaoikojaa", sum := "7786ede8ca4f2c08d7f971a83451d3fbdc3e932a6f12d5dd490df244f4f16573", func := "slope/slopelaw12.ColourShown", spec := "colourShown", unfollowed := true, recurses := true, plainKeys := false, apart := false }
def ColourShownSaid : Prop := colourShownRow.holds Try.pinned (OpenSpec.ofChange colourShownSpec)

/-- ITS FALSE NEIGHBOUR: 'it returns false'. Refute it at one input. -/
def colourShownWrong : ChangeSpec := { name := "colourShown", fn := fun _ => fun
  | [d1, d2, d3] => { results := [.lit (.bool false)], args := [d1, d2, d3] }
  | _ => none }
def ColourShownWrongFalsely : Prop := colourShownRow.holds Try.pinned (OpenSpec.ofChange colourShownWrong)

/-- 'slopelaw12.ColourGreedyLeast': WHATEVER THE INPUT: true; the input reads as it did. -/
def colourGreedyLeastSpec : ChangeSpec := { name := "colourGreedyLeast", fn := fun _ => fun
  | [d1, d2, d3] => { results := [.lit (.bool true)], args := [d1, d2, d3] }
  | _ => none }
def colourGreedyLeastRow : OpenClaim := { program := "ytoiiellaoikojaa", sum := "7786ede8ca4f2c08d7f971a83451d3fbdc3e932a6f12d5dd490df244f4f16573", func := "slope/slopelaw12.ColourGreedyLeast", spec := "colourGreedyLeast", unfollowed := true, recurses := true, plainKeys := false, apart := false }
def ColourGreedyLeastSaid : Prop := colourGreedyLeastRow.holds Try.pinned (OpenSpec.ofChange colourGreedyLeastSpec)

/-- ITS FALSE NEIGHBOUR: 'it returns false'. Refute it at one input. -/
def colourGreedyLeastWrong : ChangeSpec := { name := "colourGreedyLeast", fn := fun _ => fun
  | [d1, d2, d3] => { results := [.lit (.bool false)], args := [d1, d2, d3] }
  | _ => none }
def ColourGreedyLeastWrongFalsely : Prop := colourGreedyLeastRow.holds Try.pinned (OpenSpec.ofChange colourGreedyLeastWrong)

/-- 'slopelaw12.ColourKinds': WHATEVER THE INPUT: true; the input reads as it did. -/
def colourKindsSpec : ChangeSpec := { name := "colourKinds", fn := fun _ => fun
  | [d1, d2, d3, d4] => { results := [.lit (.bool true)], args := [d1, d2, d3, d4] }
  | _ => none }
def colourKindsRow : OpenClaim := { program := "ytoiiellaoikojaa", sum := "7786ede8ca4f2c08d7f971a83451d3fbdc3e932a6f12d5dd490df244f4f16573", func := "slope/slopelaw12.ColourKinds", spec := "colourKinds", unfollowed := true, recurses := true, plainKeys := false, apart := false }
def ColourKindsSaid : Prop := colourKindsRow.holds Try.pinned (OpenSpec.ofChange colourKindsSpec)

/-- ITS FALSE NEIGHBOUR: 'it returns false'. Refute it at one input. -/
def colourKindsWrong : ChangeSpec := { name := "colourKinds", fn := fun _ => fun
  | [d1, d2, d3, d4] => { results := [.lit (.bool false)], args := [d1, d2, d3, d4] }
  | _ => none }
def ColourKindsWrongFalsely : Prop := colourKindsRow.holds Try.pinned (OpenSpec.ofChange colourKindsWrong)

/- THE SECOND FORM. 'bulk': how many values and letters a reading holds, each counted each time it is reached (what is shared counts as often as it is met; a slice's spare places count too). A statement '..UptoSaid' is the law's where the arguments, and the package variables that the reading takes, are together of bulk at most 1048576: NARROWER than '..Said'. Prove '..Said' where nothing that the law and all that it calls make is longer than what came in: it says more and counts as full. Else prove '..UptoSaid'. A law counts once. -/
mutual
def uptoBulk {H : Type} : DataW H → Nat
  | .lit (.string bytes) => bytes.length + 1
  | .lit _ => 1
  | .nil => 1
  | .ptr d => uptoBulk d + 1
  | .slice elems spare => uptoBulkAll elems + uptoBulkAll spare + 1
  | .agg parts => uptoBulkAll parts + 1
  | .iface _ d => uptoBulk d + 1
  | .map entries => uptoBulkEntries entries + 1
  | .held _ => 1
def uptoBulkAll {H : Type} : List (DataW H) → Nat
  | [] => 0
  | d :: r => uptoBulk d + uptoBulkAll r
def uptoBulkEntries {H : Type} : List (Lit × DataW H) → Nat
  | [] => 0
  | x :: r => uptoBulkEntry x + uptoBulkEntries r
def uptoBulkEntry {H : Type} : Lit × DataW H → Nat
  | (.string bytes, d) => bytes.length + uptoBulk d + 1
  | (_, d) => uptoBulk d + 1
 end
def uptoSmall : (H : Type) → List (DataW H) → Bool := fun _ ds => decide (uptoBulkAll ds ≤ 1048576)
def OpenSpec.upto (s : _root_.Go.ChangeSpec) : _root_.Go.OpenSpec := { _root_.Go.OpenSpec.ofChange s with cond := some uptoSmall }

/-- 'slopelaw12.ColourGraphs', WHERE WHAT IT READS IS OF BULK AT MOST 1048576: true; the input reads as it did. -/
def colourGraphsUptoRow : OpenClaim := { program := "ytoiiellaoikojaa", sum := "7786ede8ca4f2c08d7f971a83451d3fbdc3e932a6f12d5dd490df244f4f16573", func := "slope/slopelaw12.ColourGraphs", spec := "colourGraphs", unfollowed := true, recurses := true, plainKeys := false, apart := false, narrowed := true }
def ColourGraphsUptoSaid : Prop := colourGraphsUptoRow.holds Try.pinned (OpenSpec.upto colourGraphsSpec)

/-- 'slopelaw12.ColourGreedy', WHERE WHAT IT READS IS OF BULK AT MOST 1048576: true; the input reads as it did. -/
def colourGreedyUptoRow : OpenClaim := { program := "ytoiiellaoikojaa", sum := "7786ede8ca4f2c08d7f971a83451d3fbdc3e932a6f12d5dd490df244f4f16573", func := "slope/slopelaw12.ColourGreedy", spec := "colourGreedy", unfollowed := true, recurses := true, plainKeys := false, apart := false, narrowed := true }
def ColourGreedyUptoSaid : Prop := colourGreedyUptoRow.holds Try.pinned (OpenSpec.upto colourGreedySpec)

/-- 'slopelaw12.ColourClasses', WHERE WHAT IT READS IS OF BULK AT MOST 1048576: true; the input reads as it did. -/
def colourClassesUptoRow : OpenClaim := { program := "ytoiiellaoikojaa", sum := "7786ede8ca4f2c08d7f971a83451d3fbdc3e932a6f12d5dd490df244f4f16573", func := "slope/slopelaw12.ColourClasses", spec := "colourClasses", unfollowed := true, recurses := true, plainKeys := false, apart := false, narrowed := true }
def ColourClassesUptoSaid : Prop := colourClassesUptoRow.holds Try.pinned (OpenSpec.upto colourClassesSpec)

/-- 'slopelaw12.ColourBounds', WHERE WHAT IT READS IS OF BULK AT MOST 1048576: true; the input reads as it did. -/
def colourBoundsUptoRow : OpenClaim := { program := "ytoiiellaoikojaa", sum := "7786ede8ca4f2c08d7f971a83451d3fbdc3e932a6f12d5dd490df244f4f16573", func := "slope/slopelaw12.ColourBounds", spec := "colourBounds", unfollowed := true, recurses := true, plainKeys := false, apart := false, narrowed := true }
def ColourBoundsUptoSaid : Prop := colourBoundsUptoRow.holds Try.pinned (OpenSpec.upto colourBoundsSpec)

/-- 'slopelaw12.ColourLines', WHERE WHAT IT READS IS OF BULK AT MOST 1048576: true; the input reads as it did. -/
def colourLinesUptoRow : OpenClaim := { program := "ytoiiellaoikojaa", sum := "7786ede8ca4f2c08d7f971a83451d3fbdc3e932a6f12d5dd490df244f4f16573", func := "slope/slopelaw12.ColourLines", spec := "colourLines", unfollowed := true, recurses := true, plainKeys := false, apart := false, narrowed := true }
def ColourLinesUptoSaid : Prop := colourLinesUptoRow.holds Try.pinned (OpenSpec.upto colourLinesSpec)

/-- 'slopelaw12.ColourReached', WHERE WHAT IT READS IS OF BULK AT MOST 1048576: true; the input reads as it did. -/
def colourReachedUptoRow : OpenClaim := { program := "ytoiiellaoikojaa", sum := "7786ede8ca4f2c08d7f971a83451d3fbdc3e932a6f12d5dd490df244f4f16573", func := "slope/slopelaw12.ColourReached", spec := "colourReached", unfollowed := true, recurses := true, plainKeys := false, apart := false, narrowed := true }
def ColourReachedUptoSaid : Prop := colourReachedUptoRow.holds Try.pinned (OpenSpec.upto colourReachedSpec)

/-- 'slopelaw12.ColourShown', WHERE WHAT IT READS IS OF BULK AT MOST 1048576: true; the input reads as it did. -/
def colourShownUptoRow : OpenClaim := { program := "ytoiiellaoikojaa", sum := "7786ede8ca4f2c08d7f971a83451d3fbdc3e932a6f12d5dd490df244f4f16573", func := "slope/slopelaw12.ColourShown", spec := "colourShown", unfollowed := true, recurses := true, plainKeys := false, apart := false, narrowed := true }
def ColourShownUptoSaid : Prop := colourShownUptoRow.holds Try.pinned (OpenSpec.upto colourShownSpec)

/-- 'slopelaw12.ColourGreedyLeast', WHERE WHAT IT READS IS OF BULK AT MOST 1048576: true; the input reads as it did. -/
def colourGreedyLeastUptoRow : OpenClaim := { program := "ytoiiellaoikojaa", sum := "7786ede8ca4f2c08d7f971a83451d3fbdc3e932a6f12d5dd490df244f4f16573", func := "slope/slopelaw12.ColourGreedyLeast", spec := "colourGreedyLeast", unfollowed := true, recurses := true, plainKeys := false, apart := false, narrowed := true }
def ColourGreedyLeastUptoSaid : Prop := colourGreedyLeastUptoRow.holds Try.pinned (OpenSpec.upto colourGreedyLeastSpec)

/-- 'slopelaw12.ColourKinds', WHERE WHAT IT READS IS OF BULK AT MOST 1048576: true; the input reads as it did. -/
def colourKindsUptoRow : OpenClaim := { program := "ytoiiellaoikojaa", sum := "7786ede8ca4f2c08d7f971a83451d3fbdc3e932a6f12d5dd490df244f4f16573", func := "slope/slopelaw12.ColourKinds", spec := "colourKinds", unfollowed := true, recurses := true, plainKeys := false, apart := false, narrowed := true }
def ColourKindsUptoSaid : Prop := colourKindsUptoRow.holds Try.pinned (OpenSpec.upto colourKindsSpec)

end Rows
end Go.Proofs.Ytoiiellaoikojaa
