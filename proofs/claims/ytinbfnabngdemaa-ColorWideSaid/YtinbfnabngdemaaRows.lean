/-
  No cell of these rows narrows 'for every input' (looked for: loops, veiled, ifaces, maps, wideKeys, modest, calm, conditions, laid).
  DERIVED. THE GIVEN ROWS OF THIS SEAT. 7 by the template 'for every input the law returns true; each argument reads behind the call as it read before'; 0 by the template 'total and deterministic' (their statements: YtinbfnabngdemaaTotals.lean).
  GIVEN WITH THE SEED: the statements are not yours to turn. If you find one false, say at which input.
  Laid BY PROGRAM, IN A SANDBOX (cutbox-rows.mjs): the forced cells as the released guide's own fill.sh prints them over the translation b3713fff0a7a7aa6… (all of the seat's roots in one cut). By AI agents, Wed Nov 11 2026. No macro, syntax, notation, axiom, sorry.
-/
import Derived.Test.YtinbfnabngdemaaChecked
import GoSem.Claim
import GoSem.ClaimJoined
import GoSem.ClaimMapViews
import Derived.JoinedTies
import Derived.KernelRfl
namespace Go.Proofs.Ytinbfnabngdemaa
/- THE CELL 'sum', in the pinned program and in every row, IS THE sha256 OF THE DUMP (.gsa) THAT YtinbfnabngdemaaProg.lean LOADS. Nothing in Lean hashes anything: it is a label: what it is worth is what the hold of that sum in a sandbox is worth. -/
noncomputable def Try.pinned : Pinned := { name := "ytinbfnabngdemaa", sum := "b3713fff0a7a7aa66004a4bb09cf9d7f3a16f278945aa9f2879d86fe50f646e6", checked := Try.checked }
namespace Rows
def none {H : Type} : Left H := { results := [], args := [] }

/-- 'pigeonholelaw23.ColorColors': WHATEVER THE INPUT: true; the input reads as it did. -/
def colorColorsSpec : ChangeSpec := { name := "colorColors", fn := fun _ => fun
  | [d] => { results := [.lit (.bool true)], args := [d] }
  | _ => none }
def colorColorsRow : OpenClaim := { program := "ytinbfnabngdemaa", sum := "b3713fff0a7a7aa66004a4bb09cf9d7f3a16f278945aa9f2879d86fe50f646e6", func := "pigeonhole/pigeonholelaw23.ColorColors", spec := "colorColors", unfollowed := true, recurses := true, plainKeys := false, apart := false }
def ColorColorsSaid : Prop := colorColorsRow.holds Try.pinned (OpenSpec.ofChange colorColorsSpec)

/-- ITS FALSE NEIGHBOUR: 'it returns false'. Refute it at one input. -/
def colorColorsWrong : ChangeSpec := { name := "colorColors", fn := fun _ => fun
  | [d] => { results := [.lit (.bool false)], args := [d] }
  | _ => none }
def ColorColorsWrongFalsely : Prop := colorColorsRow.holds Try.pinned (OpenSpec.ofChange colorColorsWrong)

/-- 'pigeonholelaw23.ColorTwice': WHATEVER THE INPUT: true; the input reads as it did. -/
def colorTwiceSpec : ChangeSpec := { name := "colorTwice", fn := fun _ => fun
  | [d1, d2] => { results := [.lit (.bool true)], args := [d1, d2] }
  | _ => none }
def colorTwiceRow : OpenClaim := { program := "ytinbfnabngdemaa", sum := "b3713fff0a7a7aa66004a4bb09cf9d7f3a16f278945aa9f2879d86fe50f646e6", func := "pigeonhole/pigeonholelaw23.ColorTwice", spec := "colorTwice", unfollowed := true, recurses := true, plainKeys := false, apart := false }
def ColorTwiceSaid : Prop := colorTwiceRow.holds Try.pinned (OpenSpec.ofChange colorTwiceSpec)

/-- ITS FALSE NEIGHBOUR: 'it returns false'. Refute it at one input. -/
def colorTwiceWrong : ChangeSpec := { name := "colorTwice", fn := fun _ => fun
  | [d1, d2] => { results := [.lit (.bool false)], args := [d1, d2] }
  | _ => none }
def ColorTwiceWrongFalsely : Prop := colorTwiceRow.holds Try.pinned (OpenSpec.ofChange colorTwiceWrong)

/-- 'pigeonholelaw23.ColorCliques': WHATEVER THE INPUT: true; the input reads as it did. -/
def colorCliquesSpec : ChangeSpec := { name := "colorCliques", fn := fun _ => fun
  | [d1, d2] => { results := [.lit (.bool true)], args := [d1, d2] }
  | _ => none }
def colorCliquesRow : OpenClaim := { program := "ytinbfnabngdemaa", sum := "b3713fff0a7a7aa66004a4bb09cf9d7f3a16f278945aa9f2879d86fe50f646e6", func := "pigeonhole/pigeonholelaw23.ColorCliques", spec := "colorCliques", unfollowed := true, recurses := true, plainKeys := false, apart := false }
def ColorCliquesSaid : Prop := colorCliquesRow.holds Try.pinned (OpenSpec.ofChange colorCliquesSpec)

/-- ITS FALSE NEIGHBOUR: 'it returns false'. Refute it at one input. -/
def colorCliquesWrong : ChangeSpec := { name := "colorCliques", fn := fun _ => fun
  | [d1, d2] => { results := [.lit (.bool false)], args := [d1, d2] }
  | _ => none }
def ColorCliquesWrongFalsely : Prop := colorCliquesRow.holds Try.pinned (OpenSpec.ofChange colorCliquesWrong)

/-- 'pigeonholelaw23.ColorTrees': WHATEVER THE INPUT: true; the input reads as it did. -/
def colorTreesSpec : ChangeSpec := { name := "colorTrees", fn := fun _ => fun
  | [d] => { results := [.lit (.bool true)], args := [d] }
  | _ => none }
def colorTreesRow : OpenClaim := { program := "ytinbfnabngdemaa", sum := "b3713fff0a7a7aa66004a4bb09cf9d7f3a16f278945aa9f2879d86fe50f646e6", func := "pigeonhole/pigeonholelaw23.ColorTrees", spec := "colorTrees", unfollowed := true, recurses := true, plainKeys := false, apart := false }
def ColorTreesSaid : Prop := colorTreesRow.holds Try.pinned (OpenSpec.ofChange colorTreesSpec)

/-- ITS FALSE NEIGHBOUR: 'it returns false'. Refute it at one input. -/
def colorTreesWrong : ChangeSpec := { name := "colorTrees", fn := fun _ => fun
  | [d] => { results := [.lit (.bool false)], args := [d] }
  | _ => none }
def ColorTreesWrongFalsely : Prop := colorTreesRow.holds Try.pinned (OpenSpec.ofChange colorTreesWrong)

/-- 'pigeonholelaw23.ColorMoves': WHATEVER THE INPUT: true; the input reads as it did. -/
def colorMovesSpec : ChangeSpec := { name := "colorMoves", fn := fun _ => fun
  | [d1, d2, d3] => { results := [.lit (.bool true)], args := [d1, d2, d3] }
  | _ => none }
def colorMovesRow : OpenClaim := { program := "ytinbfnabngdemaa", sum := "b3713fff0a7a7aa66004a4bb09cf9d7f3a16f278945aa9f2879d86fe50f646e6", func := "pigeonhole/pigeonholelaw23.ColorMoves", spec := "colorMoves", unfollowed := true, recurses := true, plainKeys := false, apart := false }
def ColorMovesSaid : Prop := colorMovesRow.holds Try.pinned (OpenSpec.ofChange colorMovesSpec)

/-- ITS FALSE NEIGHBOUR: 'it returns false'. Refute it at one input. -/
def colorMovesWrong : ChangeSpec := { name := "colorMoves", fn := fun _ => fun
  | [d1, d2, d3] => { results := [.lit (.bool false)], args := [d1, d2, d3] }
  | _ => none }
def ColorMovesWrongFalsely : Prop := colorMovesRow.holds Try.pinned (OpenSpec.ofChange colorMovesWrong)

/-- 'pigeonholelaw23.ColorWide': WHATEVER THE INPUT: true; the input reads as it did. -/
def colorWideSpec : ChangeSpec := { name := "colorWide", fn := fun _ => fun
  | [d1, d2, d3] => { results := [.lit (.bool true)], args := [d1, d2, d3] }
  | _ => none }
def colorWideRow : OpenClaim := { program := "ytinbfnabngdemaa", sum := "b3713fff0a7a7aa66004a4bb09cf9d7f3a16f278945aa9f2879d86fe50f646e6", func := "pigeonhole/pigeonholelaw23.ColorWide", spec := "colorWide", unfollowed := true, recurses := true, plainKeys := false, apart := false }
def ColorWideSaid : Prop := colorWideRow.holds Try.pinned (OpenSpec.ofChange colorWideSpec)

/-- ITS FALSE NEIGHBOUR: 'it returns false'. Refute it at one input. -/
def colorWideWrong : ChangeSpec := { name := "colorWide", fn := fun _ => fun
  | [d1, d2, d3] => { results := [.lit (.bool false)], args := [d1, d2, d3] }
  | _ => none }
def ColorWideWrongFalsely : Prop := colorWideRow.holds Try.pinned (OpenSpec.ofChange colorWideWrong)

/-- 'pigeonholelaw23.ColorFixed': WHATEVER THE INPUT: true; the input reads as it did. -/
def colorFixedSpec : ChangeSpec := { name := "colorFixed", fn := fun _ => fun
  | [d1, d2] => { results := [.lit (.bool true)], args := [d1, d2] }
  | _ => none }
def colorFixedRow : OpenClaim := { program := "ytinbfnabngdemaa", sum := "b3713fff0a7a7aa66004a4bb09cf9d7f3a16f278945aa9f2879d86fe50f646e6", func := "pigeonhole/pigeonholelaw23.ColorFixed", spec := "colorFixed", unfollowed := true, recurses := true, plainKeys := false, apart := false }
def ColorFixedSaid : Prop := colorFixedRow.holds Try.pinned (OpenSpec.ofChange colorFixedSpec)

/-- ITS FALSE NEIGHBOUR: 'it returns false'. Refute it at one input. -/
def colorFixedWrong : ChangeSpec := { name := "colorFixed", fn := fun _ => fun
  | [d1, d2] => { results := [.lit (.bool false)], args := [d1, d2] }
  | _ => none }
def ColorFixedWrongFalsely : Prop := colorFixedRow.holds Try.pinned (OpenSpec.ofChange colorFixedWrong)

/- THE SECOND FORM. 'bulk': how many values and letters a reading holds, each counted each time it is reached (what is shared counts as often as it is met; a slice's spare places count too). A statement '..UptoSaid' is the law's where the arguments, and the package variables that the reading takes, are together of bulk at most 1048576: NARROWER than '..Said'. Prove '..Said' where nothing that the law and all that it calls make is longer than what came in: it says more and counts as full. Else prove '..UptoSaid'. A law counts once. -/
mutual
def uptoBulk {H : Type} : DataW H → Nat
  | .lit (.string bytes) => bytes.length + 1
  | .lit _ => 1
  | .nil => 1
  | .ptr d => uptoBulk d + 1
  | .slice elems spare => uptoBulkAll elems + uptoBulkAll spare + 1
  | .agg parts => uptoBulkAll parts + 1
  | .iface _ d => uptoBulk d + 1
  | .map entries => uptoBulkEntries entries + 1
  | .held _ => 1
def uptoBulkAll {H : Type} : List (DataW H) → Nat
  | [] => 0
  | d :: r => uptoBulk d + uptoBulkAll r
def uptoBulkEntries {H : Type} : List (Lit × DataW H) → Nat
  | [] => 0
  | x :: r => uptoBulkEntry x + uptoBulkEntries r
def uptoBulkEntry {H : Type} : Lit × DataW H → Nat
  | (.string bytes, d) => bytes.length + uptoBulk d + 1
  | (_, d) => uptoBulk d + 1
 end
def uptoSmall : (H : Type) → List (DataW H) → Bool := fun _ ds => decide (uptoBulkAll ds ≤ 1048576)
def OpenSpec.upto (s : _root_.Go.ChangeSpec) : _root_.Go.OpenSpec := { _root_.Go.OpenSpec.ofChange s with cond := some uptoSmall }

/-- 'pigeonholelaw23.ColorColors', WHERE WHAT IT READS IS OF BULK AT MOST 1048576: true; the input reads as it did. -/
def colorColorsUptoRow : OpenClaim := { program := "ytinbfnabngdemaa", sum := "b3713fff0a7a7aa66004a4bb09cf9d7f3a16f278945aa9f2879d86fe50f646e6", func := "pigeonhole/pigeonholelaw23.ColorColors", spec := "colorColors", unfollowed := true, recurses := true, plainKeys := false, apart := false, narrowed := true }
def ColorColorsUptoSaid : Prop := colorColorsUptoRow.holds Try.pinned (OpenSpec.upto colorColorsSpec)

/-- 'pigeonholelaw23.ColorTwice', WHERE WHAT IT READS IS OF BULK AT MOST 1048576: true; the input reads as it did. -/
def colorTwiceUptoRow : OpenClaim := { program := "ytinbfnabngdemaa", sum := "b3713fff0a7a7aa66004a4bb09cf9d7f3a16f278945aa9f2879d86fe50f646e6", func := "pigeonhole/pigeonholelaw23.ColorTwice", spec := "colorTwice", unfollowed := true, recurses := true, plainKeys := false, apart := false, narrowed := true }
def ColorTwiceUptoSaid : Prop := colorTwiceUptoRow.holds Try.pinned (OpenSpec.upto colorTwiceSpec)

/-- 'pigeonholelaw23.ColorCliques', WHERE WHAT IT READS IS OF BULK AT MOST 1048576: true; the input reads as it did. -/
def colorCliquesUptoRow : OpenClaim := { program := "ytinbfnabngdemaa", sum := "b3713fff0a7a7aa66004a4bb09cf9d7f3a16f278945aa9f2879d86fe50f646e6", func := "pigeonhole/pigeonholelaw23.ColorCliques", spec := "colorCliques", unfollowed := true, recurses := true, plainKeys := false, apart := false, narrowed := true }
def ColorCliquesUptoSaid : Prop := colorCliquesUptoRow.holds Try.pinned (OpenSpec.upto colorCliquesSpec)

/-- 'pigeonholelaw23.ColorTrees', WHERE WHAT IT READS IS OF BULK AT MOST 1048576: true; the input reads as it did. -/
def colorTreesUptoRow : OpenClaim := { program := "ytinbfnabngdemaa", sum := "b3713fff0a7a7aa66004a4bb09cf9d7f3a16f278945aa9f2879d86fe50f646e6", func := "pigeonhole/pigeonholelaw23.ColorTrees", spec := "colorTrees", unfollowed := true, recurses := true, plainKeys := false, apart := false, narrowed := true }
def ColorTreesUptoSaid : Prop := colorTreesUptoRow.holds Try.pinned (OpenSpec.upto colorTreesSpec)

/-- 'pigeonholelaw23.ColorMoves', WHERE WHAT IT READS IS OF BULK AT MOST 1048576: true; the input reads as it did. -/
def colorMovesUptoRow : OpenClaim := { program := "ytinbfnabngdemaa", sum := "b3713fff0a7a7aa66004a4bb09cf9d7f3a16f278945aa9f2879d86fe50f646e6", func := "pigeonhole/pigeonholelaw23.ColorMoves", spec := "colorMoves", unfollowed := true, recurses := true, plainKeys := false, apart := false, narrowed := true }
def ColorMovesUptoSaid : Prop := colorMovesUptoRow.holds Try.pinned (OpenSpec.upto colorMovesSpec)

/-- 'pigeonholelaw23.ColorWide', WHERE WHAT IT READS IS OF BULK AT MOST 1048576: true; the input reads as it did. -/
def colorWideUptoRow : OpenClaim := { program := "ytinbfnabngdemaa", sum := "b3713fff0a7a7aa66004a4bb09cf9d7f3a16f278945aa9f2879d86fe50f646e6", func := "pigeonhole/pigeonholelaw23.ColorWide", spec := "colorWide", unfollowed := true, recurses := true, plainKeys := false, apart := false, narrowed := true }
def ColorWideUptoSaid : Prop := colorWideUptoRow.holds Try.pinned (OpenSpec.upto colorWideSpec)

/-- 'pigeonholelaw23.ColorFixed', WHERE WHAT IT READS IS OF BULK AT MOST 1048576: true; the input reads as it did. -/
def colorFixedUptoRow : OpenClaim := { program := "ytinbfnabngdemaa", sum := "b3713fff0a7a7aa66004a4bb09cf9d7f3a16f278945aa9f2879d86fe50f646e6", func := "pigeonhole/pigeonholelaw23.ColorFixed", spec := "colorFixed", unfollowed := true, recurses := true, plainKeys := false, apart := false, narrowed := true }
def ColorFixedUptoSaid : Prop := colorFixedUptoRow.holds Try.pinned (OpenSpec.upto colorFixedSpec)

end Rows
end Go.Proofs.Ytinbfnabngdemaa
