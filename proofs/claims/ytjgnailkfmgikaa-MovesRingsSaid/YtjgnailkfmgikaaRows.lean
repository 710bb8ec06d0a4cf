/-
  No cell of these rows narrows 'for every input' (looked for: loops, veiled, ifaces, maps, wideKeys, modest, calm, conditions, laid).
  DERIVED. THE GIVEN ROWS OF THIS SEAT. 5 by the template 'for every input the law returns true; each argument reads behind the call as it read before'; 0 by the template 'total and deterministic' (their statements: YtjgnailkfmgikaaTotals.lean).
  GIVEN WITH THE SEED: the statements are not yours to turn. If you find one false, say at which input.
  Laid BY PROGRAM, IN A SANDBOX (cutbox-rows.mjs): the forced cells as the released guide's own fill.sh prints them over the translation 9b00f4ef306353e2… (all of the seat's roots in one cut). By AI agents, Wed Nov 11 2026. No macro, syntax, notation, axiom, sorry.
-/
import Derived.Test.YtjgnailkfmgikaaChecked
import GoSem.Claim
import GoSem.ClaimJoined
import GoSem.ClaimMapViews
import Derived.JoinedTies
import Derived.KernelRfl
namespace Go.Proofs.Ytjgnailkfmgikaa
/- THE CELL 'sum', in the pinned program and in every row, IS THE sha256 OF THE DUMP (.gsa) THAT YtjgnailkfmgikaaProg.lean LOADS. Nothing in Lean hashes anything: it is a label: what it is worth is what the hold of that sum in a sandbox is worth. -/
noncomputable def Try.pinned : Pinned := { name := "ytjgnailkfmgikaa", sum := "9b00f4ef306353e26d96ac30ca3297022370d06b1e22d5dc31fbc70d633cd21e", checked := Try.checked }
namespace Rows
def none {H : Type} : Left H := { results := [], args := [] }

/-- 'pigeonholelaw20.MovesSeq': WHATEVER THE INPUT: true; the input reads as it did. -/
def movesSeqSpec : ChangeSpec := { name := "movesSeq", fn := fun _ => fun
  | [d1, d2] => { results := [.lit (.bool true)], args := [d1, d2] }
  | _ => none }
def movesSeqRow : OpenClaim := { program := "ytjgnailkfmgikaa", sum := "9b00f4ef306353e26d96ac30ca3297022370d06b1e22d5dc31fbc70d633cd21e", func := "pigeonhole/pigeonholelaw20.MovesSeq", spec := "movesSeq", apart := false }
def MovesSeqSaid : Prop := movesSeqRow.holds Try.pinned (OpenSpec.ofChange movesSeqSpec)

/-- ITS FALSE NEIGHBOUR: 'it returns false'. Refute it at one input. -/
def movesSeqWrong : ChangeSpec := { name := "movesSeq", fn := fun _ => fun
  | [d1, d2] => { results := [.lit (.bool false)], args := [d1, d2] }
  | _ => none }
def MovesSeqWrongFalsely : Prop := movesSeqRow.holds Try.pinned (OpenSpec.ofChange movesSeqWrong)

/-- 'pigeonholelaw20.MovesCycles': WHATEVER THE INPUT: true; the input reads as it did. -/
def movesCyclesSpec : ChangeSpec := { name := "movesCycles", fn := fun _ => fun
  | [d] => { results := [.lit (.bool true)], args := [d] }
  | _ => none }
def movesCyclesRow : OpenClaim := { program := "ytjgnailkfmgikaa", sum := "9b00f4ef306353e26d96ac30ca3297022370d06b1e22d5dc31fbc70d633cd21e", func := "pigeonhole/pigeonholelaw20.MovesCycles", spec := "movesCycles", apart := false }
def MovesCyclesSaid : Prop := movesCyclesRow.holds Try.pinned (OpenSpec.ofChange movesCyclesSpec)

/-- ITS FALSE NEIGHBOUR: 'it returns false'. Refute it at one input. -/
def movesCyclesWrong : ChangeSpec := { name := "movesCycles", fn := fun _ => fun
  | [d] => { results := [.lit (.bool false)], args := [d] }
  | _ => none }
def MovesCyclesWrongFalsely : Prop := movesCyclesRow.holds Try.pinned (OpenSpec.ofChange movesCyclesWrong)

/-- 'pigeonholelaw20.MovesRings': WHATEVER THE INPUT: true; the input reads as it did. -/
def movesRingsSpec : ChangeSpec := { name := "movesRings", fn := fun _ => fun
  | [d1, d2] => { results := [.lit (.bool true)], args := [d1, d2] }
  | _ => none }
def movesRingsRow : OpenClaim := { program := "ytjgnailkfmgikaa", sum := "9b00f4ef306353e26d96ac30ca3297022370d06b1e22d5dc31fbc70d633cd21e", func := "pigeonhole/pigeonholelaw20.MovesRings", spec := "movesRings", apart := false }
def MovesRingsSaid : Prop := movesRingsRow.holds Try.pinned (OpenSpec.ofChange movesRingsSpec)

/-- ITS FALSE NEIGHBOUR: 'it returns false'. Refute it at one input. -/
def movesRingsWrong : ChangeSpec := { name := "movesRings", fn := fun _ => fun
  | [d1, d2] => { results := [.lit (.bool false)], args := [d1, d2] }
  | _ => none }
def MovesRingsWrongFalsely : Prop := movesRingsRow.holds Try.pinned (OpenSpec.ofChange movesRingsWrong)

/-- 'pigeonholelaw20.MovesFan': WHATEVER THE INPUT: true; the input reads as it did. -/
def movesFanSpec : ChangeSpec := { name := "movesFan", fn := fun _ => fun
  | [d1, d2] => { results := [.lit (.bool true)], args := [d1, d2] }
  | _ => none }
def movesFanRow : OpenClaim := { program := "ytjgnailkfmgikaa", sum := "9b00f4ef306353e26d96ac30ca3297022370d06b1e22d5dc31fbc70d633cd21e", func := "pigeonhole/pigeonholelaw20.MovesFan", spec := "movesFan", apart := false }
def MovesFanSaid : Prop := movesFanRow.holds Try.pinned (OpenSpec.ofChange movesFanSpec)

/-- ITS FALSE NEIGHBOUR: 'it returns false'. Refute it at one input. -/
def movesFanWrong : ChangeSpec := { name := "movesFan", fn := fun _ => fun
  | [d1, d2] => { results := [.lit (.bool false)], args := [d1, d2] }
  | _ => none }
def MovesFanWrongFalsely : Prop := movesFanRow.holds Try.pinned (OpenSpec.ofChange movesFanWrong)

/-- 'pigeonholelaw20.MovesStill': WHATEVER THE INPUT: true; the input reads as it did. -/
def movesStillSpec : ChangeSpec := { name := "movesStill", fn := fun _ => fun
  | [d] => { results := [.lit (.bool true)], args := [d] }
  | _ => none }
def movesStillRow : OpenClaim := { program := "ytjgnailkfmgikaa", sum := "9b00f4ef306353e26d96ac30ca3297022370d06b1e22d5dc31fbc70d633cd21e", func := "pigeonhole/pigeonholelaw20.MovesStill", spec := "movesStill", apart := false }
def MovesStillSaid : Prop := movesStillRow.holds Try.pinned (OpenSpec.ofChange movesStillSpec)

/-- ITS FALSE NEIGHBOUR: 'it returns false'. Refute it at one input. -/
def movesStillWrong : ChangeSpec := { name := "movesStill", fn := fun _ => fun
  | [d] => { results := [.lit (.bool false)], args := [d] }
  | _ => none }
def MovesStillWrongFalsely : Prop := movesStillRow.holds Try.pinned (OpenSpec.ofChange movesStillWrong)

/- THE SECOND FORM. 'bulk': how many values and letters a reading holds, each counted each time it is reached (what is shared counts as often as it is met; a slice's spare places count too). A statement '..UptoSaid' is the law's where the arguments, and the package variables that the reading takes, are together of bulk at most 1048576: NARROWER than '..Said'. Prove '..Said' where nothing that the law and all that it calls make is longer than what came in: it says more and counts as full. Else prove '..UptoSaid'. A law counts once. -/
mutual
def uptoBulk {H : Type} : DataW H → Nat
  | .lit (.string bytes) => bytes.length + 1
  | .lit _ => 1
  | .nil => 1
  | .ptr d => uptoBulk d + 1
  | .slice elems spare => uptoBulkAll elems + uptoBulkAll spare + 1
  | .agg parts => uptoBulkAll parts + 1
  | .iface _ d => uptoBulk d + 1
  | .map entries => uptoBulkEntries entries + 1
  | .held _ => 1
def uptoBulkAll {H : Type} : List (DataW H) → Nat
  | [] => 0
  | d :: r => uptoBulk d + uptoBulkAll r
def uptoBulkEntries {H : Type} : List (Lit × DataW H) → Nat
  | [] => 0
  | x :: r => uptoBulkEntry x + uptoBulkEntries r
def uptoBulkEntry {H : Type} : Lit × DataW H → Nat
  | (.string bytes, d) => bytes.length + uptoBulk d + 1
  | (_, d) => uptoBulk d + 1
 end
def uptoSmall : (H : Type) → List (DataW H) → Bool := fun _ ds => decide (uptoBulkAll ds ≤ 1048576)
def OpenSpec.upto (s : _root_.Go.ChangeSpec) : _root_.Go.OpenSpec := { _root_.Go.OpenSpec.ofChange s with cond := some uptoSmall }

/-- 'pigeonholelaw20.MovesSeq', WHERE WHAT IT READS IS OF BULK AT MOST 1048576: true; the input reads as it did. -/
def movesSeqUptoRow : OpenClaim := { program := "ytjgnailkfmgikaa", sum := "9b00f4ef306353e26d96ac30ca3297022370d06b1e22d5dc31fbc70d633cd21e", func := "pigeonhole/pigeonholelaw20.MovesSeq", spec := "movesSeq", apart := false, narrowed := true }
def MovesSeqUptoSaid : Prop := movesSeqUptoRow.holds Try.pinned (OpenSpec.upto movesSeqSpec)

/-- 'pigeonholelaw20.MovesCycles', WHERE WHAT IT READS IS OF BULK AT MOST 1048576: true; the input reads as it did. -/
def movesCyclesUptoRow : OpenClaim := { program := "ytjgnailkfmgikaa", sum := "9b00f4ef306353e26d96ac30ca3297022370d06b1e22d5dc31fbc70d633cd21e", func := "pigeonhole/pigeonholelaw20.MovesCycles", spec := "movesCycles", apart := false, narrowed := true }
def MovesCyclesUptoSaid : Prop := movesCyclesUptoRow.holds Try.pinned (OpenSpec.upto movesCyclesSpec)

/-- 'pigeonholelaw20.MovesRings', WHERE WHAT IT READS IS OF BULK AT MOST 1048576: true; the input reads as it did. -/
def movesRingsUptoRow : OpenClaim := { program := "ytjgnailkfmgikaa", sum := "9b00f4ef306353e26d96ac30ca3297022370d06b1e22d5dc31fbc70d633cd21e", func := "pigeonhole/pigeonholelaw20.MovesRings", spec := "movesRings", apart := false, narrowed := true }
def MovesRingsUptoSaid : Prop := movesRingsUptoRow.holds Try.pinned (OpenSpec.upto movesRingsSpec)

/-- 'pigeonholelaw20.MovesFan', WHERE WHAT IT READS IS OF BULK AT MOST 1048576: true; the input reads as it did. -/
def movesFanUptoRow : OpenClaim := { program := "ytjgnailkfmgikaa", sum := "9b00f4ef306353e26d96ac30ca3297022370d06b1e22d5dc31fbc70d633cd21e", func := "pigeonhole/pigeonholelaw20.MovesFan", spec := "movesFan", apart := false, narrowed := true }
def MovesFanUptoSaid : Prop := movesFanUptoRow.holds Try.pinned (OpenSpec.upto movesFanSpec)

/-- 'pigeonholelaw20.MovesStill', WHERE WHAT IT READS IS OF BULK AT MOST 1048576: true; the input reads as it did. -/
def movesStillUptoRow : OpenClaim := { program := "ytjgnailkfmgikaa", sum := "9b00f4ef306353e26d96ac30ca3297022370d06b1e22d5dc31fbc70d633cd21e", func := "pigeonhole/pigeonholelaw20.MovesStill", spec := "movesStill", apart := false, narrowed := true }
def MovesStillUptoSaid : Prop := movesStillUptoRow.holds Try.pinned (OpenSpec.upto movesStillSpec)

end Rows
end Go.Proofs.Ytjgnailkfmgikaa
