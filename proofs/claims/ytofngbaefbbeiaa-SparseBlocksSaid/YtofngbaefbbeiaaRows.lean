/-
  No cell of these rows narrows 'for every input' (looked for: loops, veiled, ifaces, maps, wideKeys, modest, calm, conditions, laid).
  DERIVED. THE GIVEN ROWS OF THIS SEAT. 10 by the template 'for every input the law returns true; each argument reads behind the call as it read before'; 0 by the template 'total and deterministic' (their statements: YtofngbaefbbeiaaTotals.lean).
  GIVEN WITH THE SEED: the statements are not yours to turn. If you find one false, say at which input.
  Laid BY PROGRAM, IN A SANDBOX (cutbox-rows.mjs): the forced cells as the released guide's own fill.sh prints them over the translation 71b4b8e0fd472b4b… (all of the seat's roots in one cut). By AI agents, Wed Nov 11 2026. No macro, syntax, notation, axiom, sorry.
-/
import Derived.Test.YtofngbaefbbeiaaChecked
import GoSem.Claim
import GoSem.ClaimJoined
import GoSem.ClaimMapViews
import Derived.JoinedTies
import Derived.KernelRfl
namespace Go.Proofs.Ytofngbaefbbeiaa
/- THE CELL 'sum', in the pinned program and in every row, IS THE sha256 OF THE DUMP (.gsa) THAT YtofngbaefbbeiaaProg.lean LOADS. Nothing in Lean hashes anything: it is a label: what it is worth is what the hold of that sum in a sandbox is worth. -/
noncomputable def Try.pinned : Pinned := { name := "ytofngbaefbbeiaa", sum := "71b4b8e0fd472b4bcb3c09afc980209911104feb54fe8b4c143f83f58efb71b8", checked := Try.checked }
namespace Rows
def none {H : Type} : Left H := { results := [], args := [] }

/-- 'slopelaw9.SparsePlaces': WHATEVER THE INPUT: true; the input reads as it did. -/
def sparsePlacesSpec : ChangeSpec := { name := "sparsePlaces", fn := fun _ => fun
  | [d1, d2, d3] => { results := [.lit (.bool true)], args := [d1, d2, d3] }
  | _ => none }
def sparsePlacesRow : OpenClaim := { program := "ytofngbaefbbeiaa", sum := "71b4b8e0fd472b4bcb3c09afc980209911104feb54fe8b4c143f83f58efb71b8", func := "slope/slopelaw9.SparsePlaces", spec := "sparsePlaces", unfollowed := true, recurses := true, apart := false }
def SparsePlacesSaid : Prop := sparsePlacesRow.holds Try.pinned (OpenSpec.ofChange sparsePlacesSpec)

/-- ITS FALSE NEIGHBOUR: 'it returns false'. Refute it at one input. -/
def sparsePlacesWrong : ChangeSpec := { name := "sparsePlaces", fn := fun _ => fun
  | [d1, d2, d3] => { results := [.lit (.bool false)], args := [d1, d2, d3] }
  | _ => none }
def SparsePlacesWrongFalsely : Prop := sparsePlacesRow.holds Try.pinned (OpenSpec.ofChange sparsePlacesWrong)

/-- 'slopelaw9.SparseMays': WHATEVER THE INPUT: true; the input reads as it did. -/
def sparseMaysSpec : ChangeSpec := { name := "sparseMays", fn := fun _ => fun
  | [d1, d2] => { results := [.lit (.bool true)], args := [d1, d2] }
  | _ => none }
def sparseMaysRow : OpenClaim := { program := "ytofngbaefbbeiaa", sum := "71b4b8e0fd472b4bcb3c09afc980209911104feb54fe8b4c143f83f58efb71b8", func := "slope/slopelaw9.SparseMays", spec := "sparseMays", unfollowed := true, recurses := true, named := ["math/bits.overflowError"], apart := false }
def SparseMaysSaid : Prop := sparseMaysRow.holds Try.pinned (OpenSpec.ofChange sparseMaysSpec)

/-- ITS FALSE NEIGHBOUR: 'it returns false'. Refute it at one input. -/
def sparseMaysWrong : ChangeSpec := { name := "sparseMays", fn := fun _ => fun
  | [d1, d2] => { results := [.lit (.bool false)], args := [d1, d2] }
  | _ => none }
def SparseMaysWrongFalsely : Prop := sparseMaysRow.holds Try.pinned (OpenSpec.ofChange sparseMaysWrong)

/-- 'slopelaw9.SparseBuilds': WHATEVER THE INPUT: true; the input reads as it did. -/
def sparseBuildsSpec : ChangeSpec := { name := "sparseBuilds", fn := fun _ => fun
  | [d1, d2, d3, d4] => { results := [.lit (.bool true)], args := [d1, d2, d3, d4] }
  | _ => none }
def sparseBuildsRow : OpenClaim := { program := "ytofngbaefbbeiaa", sum := "71b4b8e0fd472b4bcb3c09afc980209911104feb54fe8b4c143f83f58efb71b8", func := "slope/slopelaw9.SparseBuilds", spec := "sparseBuilds", unfollowed := true, recurses := true, apart := false }
def SparseBuildsSaid : Prop := sparseBuildsRow.holds Try.pinned (OpenSpec.ofChange sparseBuildsSpec)

/-- ITS FALSE NEIGHBOUR: 'it returns false'. Refute it at one input. -/
def sparseBuildsWrong : ChangeSpec := { name := "sparseBuilds", fn := fun _ => fun
  | [d1, d2, d3, d4] => { results := [.lit (.bool false)], args := [d1, d2, d3, d4] }
  | _ => none }
def SparseBuildsWrongFalsely : Prop := sparseBuildsRow.holds Try.pinned (OpenSpec.ofChange sparseBuildsWrong)

/-- 'slopelaw9.SparseProducts': WHATEVER THE INPUT: true; the input reads as it did. -/
def sparseProductsSpec : ChangeSpec := { name := "sparseProducts", fn := fun _ => fun
  | [d1, d2, d3, d4] => { results := [.lit (.bool true)], args := [d1, d2, d3, d4] }
  | _ => none }
def sparseProductsRow : OpenClaim := { program := "ytofngbaefbbeiaa", sum := "71b4b8e0fd472b4bcb3c09afc980209911104feb54fe8b4c143f83f58efb71b8", func := "slope/slopelaw9.SparseProducts", spec := "sparseProducts", unfollowed := true, recurses := true, apart := false }
def SparseProductsSaid : Prop := sparseProductsRow.holds Try.pinned (OpenSpec.ofChange sparseProductsSpec)

/-- ITS FALSE NEIGHBOUR: 'it returns false'. Refute it at one input. -/
def sparseProductsWrong : ChangeSpec := { name := "sparseProducts", fn := fun _ => fun
  | [d1, d2, d3, d4] => { results := [.lit (.bool false)], args := [d1, d2, d3, d4] }
  | _ => none }
def SparseProductsWrongFalsely : Prop := sparseProductsRow.holds Try.pinned (OpenSpec.ofChange sparseProductsWrong)

/-- 'slopelaw9.SparseTurns': WHATEVER THE INPUT: true; the input reads as it did. -/
def sparseTurnsSpec : ChangeSpec := { name := "sparseTurns", fn := fun _ => fun
  | [d] => { results := [.lit (.bool true)], args := [d] }
  | _ => none }
def sparseTurnsRow : OpenClaim := { program := "ytofngbaefbbeiaa", sum := "71b4b8e0fd472b4bcb3c09afc980209911104feb54fe8b4c143f83f58efb71b8", func := "slope/slopelaw9.SparseTurns", spec := "sparseTurns", unfollowed := true, recurses := true, apart := false }
def SparseTurnsSaid : Prop := sparseTurnsRow.holds Try.pinned (OpenSpec.ofChange sparseTurnsSpec)

/-- ITS FALSE NEIGHBOUR: 'it returns false'. Refute it at one input. -/
def sparseTurnsWrong : ChangeSpec := { name := "sparseTurns", fn := fun _ => fun
  | [d] => { results := [.lit (.bool false)], args := [d] }
  | _ => none }
def SparseTurnsWrongFalsely : Prop := sparseTurnsRow.holds Try.pinned (OpenSpec.ofChange sparseTurnsWrong)

/-- 'slopelaw9.SparseJoins': WHATEVER THE INPUT: true; the input reads as it did. -/
def sparseJoinsSpec : ChangeSpec := { name := "sparseJoins", fn := fun _ => fun
  | [d] => { results := [.lit (.bool true)], args := [d] }
  | _ => none }
def sparseJoinsRow : OpenClaim := { program := "ytofngbaefbbeiaa", sum := "71b4b8e0fd472b4bcb3c09afc980209911104feb54fe8b4c143f83f58efb71b8", func := "slope/slopelaw9.SparseJoins", spec := "sparseJoins", unfollowed := true, recurses := true, apart := false }
def SparseJoinsSaid : Prop := sparseJoinsRow.holds Try.pinned (OpenSpec.ofChange sparseJoinsSpec)

/-- ITS FALSE NEIGHBOUR: 'it returns false'. Refute it at one input. -/
def sparseJoinsWrong : ChangeSpec := { name := "sparseJoins", fn := fun _ => fun
  | [d] => { results := [.lit (.bool false)], args := [d] }
  | _ => none }
def SparseJoinsWrongFalsely : Prop := sparseJoinsRow.holds Try.pinned (OpenSpec.ofChange sparseJoinsWrong)

/-- 'slopelaw9.SparseAlgebra': WHATEVER THE INPUT: true; the input reads as it did. -/
def sparseAlgebraSpec : ChangeSpec := { name := "sparseAlgebra", fn := fun _ => fun
  | [d1, d2, d3, d4] => { results := [.lit (.bool true)], args := [d1, d2, d3, d4] }
  | _ => none }
def sparseAlgebraRow : OpenClaim := { program := "ytofngbaefbbeiaa", sum := "71b4b8e0fd472b4bcb3c09afc980209911104feb54fe8b4c143f83f58efb71b8", func := "slope/slopelaw9.SparseAlgebra", spec := "sparseAlgebra", unfollowed := true, recurses := true, apart := false }
def SparseAlgebraSaid : Prop := sparseAlgebraRow.holds Try.pinned (OpenSpec.ofChange sparseAlgebraSpec)

/-- ITS FALSE NEIGHBOUR: 'it returns false'. Refute it at one input. -/
def sparseAlgebraWrong : ChangeSpec := { name := "sparseAlgebra", fn := fun _ => fun
  | [d1, d2, d3, d4] => { results := [.lit (.bool false)], args := [d1, d2, d3, d4] }
  | _ => none }
def SparseAlgebraWrongFalsely : Prop := sparseAlgebraRow.holds Try.pinned (OpenSpec.ofChange sparseAlgebraWrong)

/-- 'slopelaw9.SparseParts': WHATEVER THE INPUT: true; the input reads as it did. -/
def sparsePartsSpec : ChangeSpec := { name := "sparseParts", fn := fun _ => fun
  | [d] => { results := [.lit (.bool true)], args := [d] }
  | _ => none }
def sparsePartsRow : OpenClaim := { program := "ytofngbaefbbeiaa", sum := "71b4b8e0fd472b4bcb3c09afc980209911104feb54fe8b4c143f83f58efb71b8", func := "slope/slopelaw9.SparseParts", spec := "sparseParts", unfollowed := true, recurses := true, apart := false }
def SparsePartsSaid : Prop := sparsePartsRow.holds Try.pinned (OpenSpec.ofChange sparsePartsSpec)

/-- ITS FALSE NEIGHBOUR: 'it returns false'. Refute it at one input. -/
def sparsePartsWrong : ChangeSpec := { name := "sparseParts", fn := fun _ => fun
  | [d] => { results := [.lit (.bool false)], args := [d] }
  | _ => none }
def SparsePartsWrongFalsely : Prop := sparsePartsRow.holds Try.pinned (OpenSpec.ofChange sparsePartsWrong)

/-- 'slopelaw9.SparseOrders': WHATEVER THE INPUT: true; the input reads as it did. -/
def sparseOrdersSpec : ChangeSpec := { name := "sparseOrders", fn := fun _ => fun
  | [d1, d2, d3] => { results := [.lit (.bool true)], args := [d1, d2, d3] }
  | _ => none }
def sparseOrdersRow : OpenClaim := { program := "ytofngbaefbbeiaa", sum := "71b4b8e0fd472b4bcb3c09afc980209911104feb54fe8b4c143f83f58efb71b8", func := "slope/slopelaw9.SparseOrders", spec := "sparseOrders", unfollowed := true, recurses := true, apart := false }
def SparseOrdersSaid : Prop := sparseOrdersRow.holds Try.pinned (OpenSpec.ofChange sparseOrdersSpec)

/-- ITS FALSE NEIGHBOUR: 'it returns false'. Refute it at one input. -/
def sparseOrdersWrong : ChangeSpec := { name := "sparseOrders", fn := fun _ => fun
  | [d1, d2, d3] => { results := [.lit (.bool false)], args := [d1, d2, d3] }
  | _ => none }
def SparseOrdersWrongFalsely : Prop := sparseOrdersRow.holds Try.pinned (OpenSpec.ofChange sparseOrdersWrong)

/-- 'slopelaw9.SparseBlocks': WHATEVER THE INPUT: true; the input reads as it did. -/
def sparseBlocksSpec : ChangeSpec := { name := "sparseBlocks", fn := fun _ => fun
  | [d] => { results := [.lit (.bool true)], args := [d] }
  | _ => none }
def sparseBlocksRow : OpenClaim := { program := "ytofngbaefbbeiaa", sum := "71b4b8e0fd472b4bcb3c09afc980209911104feb54fe8b4c143f83f58efb71b8", func := "slope/slopelaw9.SparseBlocks", spec := "sparseBlocks", unfollowed := true, recurses := true, apart := false }
def SparseBlocksSaid : Prop := sparseBlocksRow.holds Try.pinned (OpenSpec.ofChange sparseBlocksSpec)

/-- ITS FALSE NEIGHBOUR: 'it returns false'. Refute it at one input. -/
def sparseBlocksWrong : ChangeSpec := { name := "sparseBlocks", fn := fun _ => fun
  | [d] => { results := [.lit (.bool false)], args := [d] }
  | _ => none }
def SparseBlocksWrongFalsely : Prop := sparseBlocksRow.holds Try.pinned (OpenSpec.ofChange sparseBlocksWrong)

/- THE SECOND FORM. 'bulk': how many values and letters a reading holds, each counted each time it is reached (what is shared counts as often as it is met; a slice's spare places count too). A statement '..UptoSaid' is the law's where the arguments, and the package variables that the reading takes, are together of bulk at most 1048576: NARROWER than '..Said'. Prove '..Said' where nothing that the law and all that it calls make is longer than what came in: it says more and counts as full. Else prove '..UptoSaid'. A law counts once. -/
mutual
def uptoBulk {H : Type} : DataW H → Nat
  | .lit (.string bytes) => bytes.length + 1
  | .lit _ => 1
  | .nil => 1
  | .ptr d => uptoBulk d + 1
  | .slice elems spare => uptoBulkAll elems + uptoBulkAll spare + 1
  | .agg parts => uptoBulkAll parts + 1
  | .iface _ d => uptoBulk d + 1
  | .map entries => uptoBulkEntries entries + 1
  | .held _ => 1
def uptoBulkAll {H : Type} : List (DataW H) → Nat
  | [] => 0
  | d :: r => uptoBulk d + uptoBulkAll r
def uptoBulkEntries {H : Type} : List (Lit × DataW H) → Nat
  | [] => 0
  | x :: r => uptoBulkEntry x + uptoBulkEntries r
def uptoBulkEntry {H : Type} : Lit × DataW H → Nat
  | (.string bytes, d) => bytes.length + uptoBulk d + 1
  | (_, d) => uptoBulk d + 1
 end
def uptoSmall : (H : Type) → List (DataW H) → Bool := fun _ ds => decide (uptoBulkAll ds ≤ 1048576)
def OpenSpec.upto (s : _root_.Go.ChangeSpec) : _root_.Go.OpenSpec := { _root_.Go.OpenSpec.ofChange s with cond := some uptoSmall }

/-- 'slopelaw9.SparsePlaces', WHERE WHAT IT READS IS OF BULK AT MOST 1048576: true; the input reads as it did. -/
def sparsePlacesUptoRow : OpenClaim := { program := "ytofngbaefbbeiaa", sum := "71b4b8e0fd472b4bcb3c09afc980209911104feb54fe8b4c143f83f58efb71b8", func := "slope/slopelaw9.SparsePlaces", spec := "sparsePlaces", unfollowed := true, recurses := true, apart := false, narrowed := true }
def SparsePlacesUptoSaid : Prop := sparsePlacesUptoRow.holds Try.pinned (OpenSpec.upto sparsePlacesSpec)

/-- 'slopelaw9.SparseMays', WHERE WHAT IT READS IS OF BULK AT MOST 1048576: true; the input reads as it did. -/
def sparseMaysUptoRow : OpenClaim := { program := "ytofngbaefbbeiaa", sum := "71b4b8e0fd472b4bcb3c09afc980209911104feb54fe8b4c143f83f58efb71b8", func := "slope/slopelaw9.SparseMays", spec := "sparseMays", unfollowed := true, recurses := true, named := ["math/bits.overflowError"], apart := false, narrowed := true }
def SparseMaysUptoSaid : Prop := sparseMaysUptoRow.holds Try.pinned (OpenSpec.upto sparseMaysSpec)

/-- 'slopelaw9.SparseBuilds', WHERE WHAT IT READS IS OF BULK AT MOST 1048576: true; the input reads as it did. -/
def sparseBuildsUptoRow : OpenClaim := { program := "ytofngbaefbbeiaa", sum := "71b4b8e0fd472b4bcb3c09afc980209911104feb54fe8b4c143f83f58efb71b8", func := "slope/slopelaw9.SparseBuilds", spec := "sparseBuilds", unfollowed := true, recurses := true, apart := false, narrowed := true }
def SparseBuildsUptoSaid : Prop := sparseBuildsUptoRow.holds Try.pinned (OpenSpec.upto sparseBuildsSpec)

/-- 'slopelaw9.SparseProducts', WHERE WHAT IT READS IS OF BULK AT MOST 1048576: true; the input reads as it did. -/
def sparseProductsUptoRow : OpenClaim := { program := "ytofngbaefbbeiaa", sum := "71b4b8e0fd472b4bcb3c09afc980209911104feb54fe8b4c143f83f58efb71b8", func := "slope/slopelaw9.SparseProducts", spec := "sparseProducts", unfollowed := true, recurses := true, apart := false, narrowed := true }
def SparseProductsUptoSaid : Prop := sparseProductsUptoRow.holds Try.pinned (OpenSpec.upto sparseProductsSpec)

/-- 'slopelaw9.SparseTurns', WHERE WHAT IT READS IS OF BULK AT MOST 1048576: true; the input reads as it did. -/
def sparseTurnsUptoRow : OpenClaim := { program := "ytofngbaefbbeiaa", sum := "71b4b8e0fd472b4bcb3c09afc980209911104feb54fe8b4c143f83f58efb71b8", func := "slope/slopelaw9.SparseTurns", spec := "sparseTurns", unfollowed := true, recurses := true, apart := false, narrowed := true }
def SparseTurnsUptoSaid : Prop := sparseTurnsUptoRow.holds Try.pinned (OpenSpec.upto sparseTurnsSpec)

/-- 'slopelaw9.SparseJoins', WHERE WHAT IT READS IS OF BULK AT MOST 1048576: true; the input reads as it did. -/
def sparseJoinsUptoRow : OpenClaim := { program := "ytofngbaefbbeiaa", sum := "71b4b8e0fd472b4bcb3c09afc980209911104feb54fe8b4c143f83f58efb71b8", func := "slope/slopelaw9.SparseJoins", spec := "sparseJoins", unfollowed := true, recurses := true, apart := false, narrowed := true }
def SparseJoinsUptoSaid : Prop := sparseJoinsUptoRow.holds Try.pinned (OpenSpec.upto sparseJoinsSpec)

/-- 'slopelaw9.SparseAlgebra', WHERE WHAT IT READS IS OF BULK AT MOST 1048576: true; the input reads as it did. -/
def sparseAlgebraUptoRow : OpenClaim := { program := "ytofngbaefbbeiaa", sum := "71b4b8e0fd472b4bcb3c09afc980209911104feb54fe8b4c143f83f58efb71b8", func := "slope/slopelaw9.SparseAlgebra", spec := "sparseAlgebra", unfollowed := true, recurses := true, apart := false, narrowed := true }
def SparseAlgebraUptoSaid : Prop := sparseAlgebraUptoRow.holds Try.pinned (OpenSpec.upto sparseAlgebraSpec)

/-- 'slopelaw9.SparseParts', WHERE WHAT IT READS IS OF BULK AT MOST 1048576: true; the input reads as it did. -/
def sparsePartsUptoRow : OpenClaim := { program := "ytofngbaefbbeiaa", sum := "71b4b8e0fd472b4bcb3c09afc980209911104feb54fe8b4c143f83f58efb71b8", func := "slope/slopelaw9.SparseParts", spec := "sparseParts", unfollowed := true, recurses := true, apart := false, narrowed := true }
def SparsePartsUptoSaid : Prop := sparsePartsUptoRow.holds Try.pinned (OpenSpec.upto sparsePartsSpec)

/-- 'slopelaw9.SparseOrders', WHERE WHAT IT READS IS OF BULK AT MOST 1048576: true; the input reads as it did. -/
def sparseOrdersUptoRow : OpenClaim := { program := "ytofngbaefbbeiaa", sum := "71b4b8e0fd472b4bcb3c09afc980209911104feb54fe8b4c143f83f58efb71b8", func := "slope/slopelaw9.SparseOrders", spec := "sparseOrders", unfollowed := true, recurses := true, apart := false, narrowed := true }
def SparseOrdersUptoSaid : Prop := sparseOrdersUptoRow.holds Try.pinned (OpenSpec.upto sparseOrdersSpec)

/-- 'slopelaw9.SparseBlocks', WHERE WHAT IT READS IS OF BULK AT MOST 1048576: true; the input reads as it did. -/
def sparseBlocksUptoRow : OpenClaim := { program := "ytofngbaefbbeiaa", sum := "71b4b8e0fd472b4bcb3c09afc980209911104feb54fe8b4c143f83f58efb71b8", func := "slope/slopelaw9.SparseBlocks", spec := "sparseBlocks", unfollowed := true, recurses := true, apart := false, narrowed := true }
def SparseBlocksUptoSaid : Prop := sparseBlocksUptoRow.holds Try.pinned (OpenSpec.upto sparseBlocksSpec)

end Rows
end Go.Proofs.Ytofngbaefbbeiaa
