/-
  No cell of these rows narrows 'for every input' (looked for: loops, veiled, ifaces, maps, wideKeys, modest, calm, conditions, laid).
  DERIVED. THE GIVEN ROWS OF THIS SEAT. 2 by the template 'for every input the law returns true; each argument reads behind the call as it read before'; 0 by the template 'total and deterministic' (their statements: YtoiiellaoikojaaGreatTotals.lean).
  GIVEN WITH THE SEED: the statements are not yours to turn. If you find one false, say at which input.
  Laid BY PROGRAM, IN A SANDBOX (cutbox-rows.mjs): the forced cells as the released guide's own fill.sh prints them over the translation 0951098dad63fb01… (all of the seat's roots in one cut). By AI agents, Wed Nov 11 2026. No macro, syntax, notation, axiom, sorry.
-/
import Derived.Test.YtoiiellaoikojaaGreatChecked
import GoSem.Claim
import GoSem.ClaimJoined
import GoSem.ClaimMapViews
import Derived.JoinedTies
import Derived.KernelRfl
namespace Go.Proofs.YtoiiellaoikojaaGreat
/- THE CELL 'sum', in the pinned program and in every row, IS THE sha256 OF THE DUMP (.gsa) THAT YtoiiellaoikojaaGreatProg.lean LOADS. Nothing in Lean hashes anything: it is a label: what it is worth is what the hold of that sum in a sandbox is worth. -/
noncomputable def Tryz.pinned : Pinned := { name := "ytoiiellaoikojaagreat", sum := "0951098dad63fb01436d05f51bf3e62923fe936042d0a9072b0634804f5d85f7", checked := Tryz.checked }
namespace Rows
def none {H : Type} : Left H := { results := [], args := [] }

/-- 'slopelaw12.ColourLeast': WHATEVER THE INPUT: true; the input reads as it did. -/
def colourLeastSpec : ChangeSpec := { name := "colourLeast", fn := fun _ => fun
  | [d1, d2] => { results := [.lit (.bool true)], args := [d1, d2] }
  | _ => none }
def colourLeastRow : OpenClaim := { program := "ytoiiellaoikojaagreat", sum := "0951098dad63fb01436d05f51bf3e62923fe936042d0a9072b0634804f5d85f7", func := "slope/slopelaw12.ColourLeast", spec := "colourLeast", unfollowed := true, recurses := true, plainKeys := false, apart := false }
def ColourLeastSaid : Prop := colourLeastRow.holds Tryz.pinned (OpenSpec.ofChange colourLeastSpec)

/-- ITS FALSE NEIGHBOUR: 'it returns false'. Refute it at one input. -/
def colourLeastWrong : ChangeSpec := { name := "colourLeast", fn := fun _ => fun
  | [d1, d2] => { results := [.lit (.bool false)], args := [d1, d2] }
  | _ => none }
def ColourLeastWrongFalsely : Prop := colourLeastRow.holds Tryz.pinned (OpenSpec.ofChange colourLeastWrong)

/-- 'slopelaw12.ColourChecks': WHATEVER THE INPUT: true; the input reads as it did. -/
def colourChecksSpec : ChangeSpec := { name := "colourChecks", fn := fun _ => fun
  | [d1, d2, d3] => { results := [.lit (.bool true)], args := [d1, d2, d3] }
  | _ => none }
def colourChecksRow : OpenClaim := { program := "ytoiiellaoikojaagreat", sum := "0951098dad63fb01436d05f51bf3e62923fe936042d0a9072b0634804f5d85f7", func := "slope/slopelaw12.ColourChecks", spec := "colourChecks", unfollowed := true, recurses := true, plainKeys := false, apart := false }
def ColourChecksSaid : Prop := colourChecksRow.holds Tryz.pinned (OpenSpec.ofChange colourChecksSpec)

/-- ITS FALSE NEIGHBOUR: 'it returns false'. Refute it at one input. -/
def colourChecksWrong : ChangeSpec := { name := "colourChecks", fn := fun _ => fun
  | [d1, d2, d3] => { results := [.lit (.bool false)], args := [d1, d2, d3] }
  | _ => none }
def ColourChecksWrongFalsely : Prop := colourChecksRow.holds Tryz.pinned (OpenSpec.ofChange colourChecksWrong)

/- THE SECOND FORM. 'bulk': how many values and letters a reading holds, each counted each time it is reached (what is shared counts as often as it is met; a slice's spare places count too). A statement '..UptoSaid' is the law's where the arguments, and the package variables that the reading takes, are together of bulk at most 1048576: NARROWER than '..Said'. Prove '..Said' where nothing that the law and all that it calls make is longer than what came in: it says more and counts as full. Else prove '..UptoSaid'. A law counts once. -/
mutual
def uptoBulk {H : Type} : DataW H → Nat
  | .lit (.string bytes) => bytes.length + 1
  | .lit _ => 1
  | .nil => 1
  | .ptr d => uptoBulk d + 1
  | .slice elems spare => uptoBulkAll elems + uptoBulkAll spare + 1
  | .agg parts => uptoBulkAll parts + 1
  | .iface _ d => uptoBulk d + 1
  | .map entries => uptoBulkEntries entries + 1
  | .held _ => 1
def uptoBulkAll {H : Type} : List (DataW H) → Nat
  | [] => 0
  | d :: r => uptoBulk d + uptoBulkAll r
def uptoBulkEntries {H : Type} : List (Lit × DataW H) → Nat
  | [] => 0
  | x :: r => uptoBulkEntry x + uptoBulkEntries r
def uptoBulkEntry {H : Type} : Lit × DataW H → Nat
  | (.string bytes, d) => bytes.length + uptoBulk d + 1
  | (_, d) => uptoBulk d + 1
 end
def uptoSmall : (H : Type) → List (DataW H) → Bool := fun _ ds => decide (uptoBulkAll ds ≤ 1048576)
def OpenSpec.upto (s : _root_.Go.ChangeSpec) : _root_.Go.OpenSpec := { _root_.Go.OpenSpec.ofChange s with cond := some uptoSmall }

/-- 'slopelaw12.ColourLeast', WHERE WHAT IT READS IS OF BULK AT MOST 1048576: true; the input reads as it did. -/
def colourLeastUptoRow : OpenClaim := { program := "ytoiiellaoikojaagreat", sum := "0951098dad63fb01436d05f51bf3e62923fe936042d0a9072b0634804f5d85f7", func := "slope/slopelaw12.ColourLeast", spec := "colourLeast", unfollowed := true, recurses := true, plainKeys := false, apart := false, narrowed := true }
def ColourLeastUptoSaid : Prop := colourLeastUptoRow.holds Tryz.pinned (OpenSpec.upto colourLeastSpec)

/-- 'slopelaw12.ColourChecks', WHERE WHAT IT READS IS OF BULK AT MOST 1048576: true; the input reads as it did. -/
def colourChecksUptoRow : OpenClaim := { program := "ytoiiellaoikojaagreat", sum := "0951098dad63fb01436d05f51bf3e62923fe936042d0a9072b0634804f5d85f7", func := "slope/slopelaw12.ColourChecks", spec := "colourChecks", unfollowed := true, recurses := true, plainKeys := false, apart := false, narrowed := true }
def ColourChecksUptoSaid : Prop := colourChecksUptoRow.holds Tryz.pinned (OpenSpec.upto colourChecksSpec)

end Rows
end Go.Proofs.YtoiiellaoikojaaGreat
