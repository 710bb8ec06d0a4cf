/-
  No cell of these rows narrows 'for every input' (looked for: loops, veiled, ifaces, maps, wideKeys, modest, calm, conditions, laid).
  DERIVED. THE GIVEN ROWS OF THIS SEAT. 6 by the template 'for every input the law returns true; each argument reads behind the call as it read before'; 0 by the template 'total and deterministic' (their statements: YtdomnbgjafdnjaaTotals.lean).
  GIVEN WITH THE SEED: the statements are not yours to turn. If you find one false, say at which input.
  Laid BY PROGRAM, IN A SANDBOX (cutbox-rows.mjs): the forced cells as the released guide's own fill.sh prints them over the translation b642b01ddcc58674… (all of the seat's roots in one cut). By AI agents, Wed Nov 11 2026. No macro, syntax, notation, axiom, sorry.
-/
import Derived.Test.YtdomnbgjafdnjaaChecked
import GoSem.Claim
import GoSem.ClaimJoined
import GoSem.ClaimMapViews
import Derived.JoinedTies
import Derived.KernelRfl
namespace Go.Proofs.Ytdomnbgjafdnjaa
/- THE CELL 'sum', in the pinned program and in every row, IS THE sha256 OF THE DUMP (.gsa) THAT YtdomnbgjafdnjaaProg.lean LOADS. Nothing in Lean hashes anything: it is a label: what it is worth is what the hold of that sum in a sandbox is worth. -/
noncomputable def Try.pinned : Pinned := { name := "ytdomnbgjafdnjaa", sum := "b642b01ddcc58674139192e40221d8e28f4abca84240d67d7dd2cdcb5c0b2adc", checked := Try.checked }
namespace Rows
def none {H : Type} : Left H := { results := [], args := [] }

/-- 'pigeonholelaw25.PbqpCosts': WHATEVER THE INPUT: true; the input reads as it did. -/
def pbqpCostsSpec : ChangeSpec := { name := "pbqpCosts", fn := fun _ => fun
  | [d1, d2] => { results := [.lit (.bool true)], args := [d1, d2] }
  | _ => none }
def pbqpCostsRow : OpenClaim := { program := "ytdomnbgjafdnjaa", sum := "b642b01ddcc58674139192e40221d8e28f4abca84240d67d7dd2cdcb5c0b2adc", func := "pigeonhole/pigeonholelaw25.PbqpCosts", spec := "pbqpCosts", unfollowed := true, recurses := true, apart := false }
def PbqpCostsSaid : Prop := pbqpCostsRow.holds Try.pinned (OpenSpec.ofChange pbqpCostsSpec)

/-- ITS FALSE NEIGHBOUR: 'it returns false'. Refute it at one input. -/
def pbqpCostsWrong : ChangeSpec := { name := "pbqpCosts", fn := fun _ => fun
  | [d1, d2] => { results := [.lit (.bool false)], args := [d1, d2] }
  | _ => none }
def PbqpCostsWrongFalsely : Prop := pbqpCostsRow.holds Try.pinned (OpenSpec.ofChange pbqpCostsWrong)

/-- 'pigeonholelaw25.PbqpChains': WHATEVER THE INPUT: true; the input reads as it did. -/
def pbqpChainsSpec : ChangeSpec := { name := "pbqpChains", fn := fun _ => fun
  | [d1, d2] => { results := [.lit (.bool true)], args := [d1, d2] }
  | _ => none }
def pbqpChainsRow : OpenClaim := { program := "ytdomnbgjafdnjaa", sum := "b642b01ddcc58674139192e40221d8e28f4abca84240d67d7dd2cdcb5c0b2adc", func := "pigeonhole/pigeonholelaw25.PbqpChains", spec := "pbqpChains", unfollowed := true, recurses := true, apart := false }
def PbqpChainsSaid : Prop := pbqpChainsRow.holds Try.pinned (OpenSpec.ofChange pbqpChainsSpec)

/-- ITS FALSE NEIGHBOUR: 'it returns false'. Refute it at one input. -/
def pbqpChainsWrong : ChangeSpec := { name := "pbqpChains", fn := fun _ => fun
  | [d1, d2] => { results := [.lit (.bool false)], args := [d1, d2] }
  | _ => none }
def PbqpChainsWrongFalsely : Prop := pbqpChainsRow.holds Try.pinned (OpenSpec.ofChange pbqpChainsWrong)

/-- 'pigeonholelaw25.PbqpApart': WHATEVER THE INPUT: true; the input reads as it did. -/
def pbqpApartSpec : ChangeSpec := { name := "pbqpApart", fn := fun _ => fun
  | [d] => { results := [.lit (.bool true)], args := [d] }
  | _ => none }
def pbqpApartRow : OpenClaim := { program := "ytdomnbgjafdnjaa", sum := "b642b01ddcc58674139192e40221d8e28f4abca84240d67d7dd2cdcb5c0b2adc", func := "pigeonhole/pigeonholelaw25.PbqpApart", spec := "pbqpApart", unfollowed := true, recurses := true, apart := false }
def PbqpApartSaid : Prop := pbqpApartRow.holds Try.pinned (OpenSpec.ofChange pbqpApartSpec)

/-- ITS FALSE NEIGHBOUR: 'it returns false'. Refute it at one input. -/
def pbqpApartWrong : ChangeSpec := { name := "pbqpApart", fn := fun _ => fun
  | [d] => { results := [.lit (.bool false)], args := [d] }
  | _ => none }
def PbqpApartWrongFalsely : Prop := pbqpApartRow.holds Try.pinned (OpenSpec.ofChange pbqpApartWrong)

/-- 'pigeonholelaw25.PbqpNever': WHATEVER THE INPUT: true; the input reads as it did. -/
def pbqpNeverSpec : ChangeSpec := { name := "pbqpNever", fn := fun _ => fun
  | [d1, d2] => { results := [.lit (.bool true)], args := [d1, d2] }
  | _ => none }
def pbqpNeverRow : OpenClaim := { program := "ytdomnbgjafdnjaa", sum := "b642b01ddcc58674139192e40221d8e28f4abca84240d67d7dd2cdcb5c0b2adc", func := "pigeonhole/pigeonholelaw25.PbqpNever", spec := "pbqpNever", unfollowed := true, recurses := true, apart := false }
def PbqpNeverSaid : Prop := pbqpNeverRow.holds Try.pinned (OpenSpec.ofChange pbqpNeverSpec)

/-- ITS FALSE NEIGHBOUR: 'it returns false'. Refute it at one input. -/
def pbqpNeverWrong : ChangeSpec := { name := "pbqpNever", fn := fun _ => fun
  | [d1, d2] => { results := [.lit (.bool false)], args := [d1, d2] }
  | _ => none }
def PbqpNeverWrongFalsely : Prop := pbqpNeverRow.holds Try.pinned (OpenSpec.ofChange pbqpNeverWrong)

/-- 'pigeonholelaw25.PbqpSolves': WHATEVER THE INPUT: true; the input reads as it did. -/
def pbqpSolvesSpec : ChangeSpec := { name := "pbqpSolves", fn := fun _ => fun
  | [d] => { results := [.lit (.bool true)], args := [d] }
  | _ => none }
def pbqpSolvesRow : OpenClaim := { program := "ytdomnbgjafdnjaa", sum := "b642b01ddcc58674139192e40221d8e28f4abca84240d67d7dd2cdcb5c0b2adc", func := "pigeonhole/pigeonholelaw25.PbqpSolves", spec := "pbqpSolves", unfollowed := true, recurses := true, apart := false }
def PbqpSolvesSaid : Prop := pbqpSolvesRow.holds Try.pinned (OpenSpec.ofChange pbqpSolvesSpec)

/-- ITS FALSE NEIGHBOUR: 'it returns false'. Refute it at one input. -/
def pbqpSolvesWrong : ChangeSpec := { name := "pbqpSolves", fn := fun _ => fun
  | [d] => { results := [.lit (.bool false)], args := [d] }
  | _ => none }
def PbqpSolvesWrongFalsely : Prop := pbqpSolvesRow.holds Try.pinned (OpenSpec.ofChange pbqpSolvesWrong)

/-- 'pigeonholelaw25.PbqpRings': WHATEVER THE INPUT: true; the input reads as it did. -/
def pbqpRingsSpec : ChangeSpec := { name := "pbqpRings", fn := fun _ => fun
  | [d1, d2] => { results := [.lit (.bool true)], args := [d1, d2] }
  | _ => none }
def pbqpRingsRow : OpenClaim := { program := "ytdomnbgjafdnjaa", sum := "b642b01ddcc58674139192e40221d8e28f4abca84240d67d7dd2cdcb5c0b2adc", func := "pigeonhole/pigeonholelaw25.PbqpRings", spec := "pbqpRings", unfollowed := true, recurses := true, apart := false }
def PbqpRingsSaid : Prop := pbqpRingsRow.holds Try.pinned (OpenSpec.ofChange pbqpRingsSpec)

/-- ITS FALSE NEIGHBOUR: 'it returns false'. Refute it at one input. -/
def pbqpRingsWrong : ChangeSpec := { name := "pbqpRings", fn := fun _ => fun
  | [d1, d2] => { results := [.lit (.bool false)], args := [d1, d2] }
  | _ => none }
def PbqpRingsWrongFalsely : Prop := pbqpRingsRow.holds Try.pinned (OpenSpec.ofChange pbqpRingsWrong)

/- THE SECOND FORM. 'bulk': how many values and letters a reading holds, each counted each time it is reached (what is shared counts as often as it is met; a slice's spare places count too). A statement '..UptoSaid' is the law's where the arguments, and the package variables that the reading takes, are together of bulk at most 1048576: NARROWER than '..Said'. Prove '..Said' where nothing that the law and all that it calls make is longer than what came in: it says more and counts as full. Else prove '..UptoSaid'. A law counts once. -/
mutual
def uptoBulk {H : Type} : DataW H → Nat
  | .lit (.string bytes) => bytes.length + 1
  | .lit _ => 1
  | .nil => 1
  | .ptr d => uptoBulk d + 1
  | .slice elems spare => uptoBulkAll elems + uptoBulkAll spare + 1
  | .agg parts => uptoBulkAll parts + 1
  | .iface _ d => uptoBulk d + 1
  | .map entries => uptoBulkEntries entries + 1
  | .held _ => 1
def uptoBulkAll {H : Type} : List (DataW H) → Nat
  | [] => 0
  | d :: r => uptoBulk d + uptoBulkAll r
def uptoBulkEntries {H : Type} : List (Lit × DataW H) → Nat
  | [] => 0
  | x :: r => uptoBulkEntry x + uptoBulkEntries r
def uptoBulkEntry {H : Type} : Lit × DataW H → Nat
  | (.string bytes, d) => bytes.length + uptoBulk d + 1
  | (_, d) => uptoBulk d + 1
 end
def uptoSmall : (H : Type) → List (DataW H) → Bool := fun _ ds => decide (uptoBulkAll ds ≤ 1048576)
def OpenSpec.upto (s : _root_.Go.ChangeSpec) : _root_.Go.OpenSpec := { _root_.Go.OpenSpec.ofChange s with cond := some uptoSmall }

/-- 'pigeonholelaw25.PbqpCosts', WHERE WHAT IT READS IS OF BULK AT MOST 1048576: true; the input reads as it did. -/
def pbqpCostsUptoRow : OpenClaim := { program := "ytdomnbgjafdnjaa", sum := "b642b01ddcc58674139192e40221d8e28f4abca84240d67d7dd2cdcb5c0b2adc", func := "pigeonhole/pigeonholelaw25.PbqpCosts", spec := "pbqpCosts", unfollowed := true, recurses := true, apart := false, narrowed := true }
def PbqpCostsUptoSaid : Prop := pbqpCostsUptoRow.holds Try.pinned (OpenSpec.upto pbqpCostsSpec)

/-- 'pigeonholelaw25.PbqpChains', WHERE WHAT IT READS IS OF BULK AT MOST 1048576: true; the input reads as it did. -/
def pbqpChainsUptoRow : OpenClaim := { program := "ytdomnbgjafdnjaa", sum := "b642b01ddcc58674139192e40221d8e28f4abca84240d67d7dd2cdcb5c0b2adc", func := "pigeonhole/pigeonholelaw25.PbqpChains", spec := "pbqpChains", unfollowed := true, recurses := true, apart := false, narrowed := true }
def PbqpChainsUptoSaid : Prop := pbqpChainsUptoRow.holds Try.pinned (OpenSpec.upto pbqpChainsSpec)

/-- 'pigeonholelaw25.PbqpApart', WHERE WHAT IT READS IS OF BULK AT MOST 1048576: true; the input reads as it did. -/
def pbqpApartUptoRow : OpenClaim := { program := "ytdomnbgjafdnjaa", sum := "b642b01ddcc58674139192e40221d8e28f4abca84240d67d7dd2cdcb5c0b2adc", func := "pigeonhole/pigeonholelaw25.PbqpApart", spec := "pbqpApart", unfollowed := true, recurses := true, apart := false, narrowed := true }
def PbqpApartUptoSaid : Prop := pbqpApartUptoRow.holds Try.pinned (OpenSpec.upto pbqpApartSpec)

/-- 'pigeonholelaw25.PbqpNever', WHERE WHAT IT READS IS OF BULK AT MOST 1048576: true; the input reads as it did. -/
def pbqpNeverUptoRow : OpenClaim := { program := "ytdomnbgjafdnjaa", sum := "b642b01ddcc58674139192e40221d8e28f4abca84240d67d7dd2cdcb5c0b2adc", func := "pigeonhole/pigeonholelaw25.PbqpNever", spec := "pbqpNever", unfollowed := true, recurses := true, apart := false, narrowed := true }
def PbqpNeverUptoSaid : Prop := pbqpNeverUptoRow.holds Try.pinned (OpenSpec.upto pbqpNeverSpec)

/-- 'pigeonholelaw25.PbqpSolves', WHERE WHAT IT READS IS OF BULK AT MOST 1048576: true; the input reads as it did. -/
def pbqpSolvesUptoRow : OpenClaim := { program := "ytdomnbgjafdnjaa", sum := "b642b01ddcc58674139192e40221d8e28f4abca84240d67d7dd2cdcb5c0b2adc", func := "pigeonhole/pigeonholelaw25.PbqpSolves", spec := "pbqpSolves", unfollowed := true, recurses := true, apart := false, narrowed := true }
def PbqpSolvesUptoSaid : Prop := pbqpSolvesUptoRow.holds Try.pinned (OpenSpec.upto pbqpSolvesSpec)

/-- 'pigeonholelaw25.PbqpRings', WHERE WHAT IT READS IS OF BULK AT MOST 1048576: true; the input reads as it did. -/
def pbqpRingsUptoRow : OpenClaim := { program := "ytdomnbgjafdnjaa", sum := "b642b01ddcc58674139192e40221d8e28f4abca84240d67d7dd2cdcb5c0b2adc", func := "pigeonhole/pigeonholelaw25.PbqpRings", spec := "pbqpRings", unfollowed := true, recurses := true, apart := false, narrowed := true }
def PbqpRingsUptoSaid : Prop := pbqpRingsUptoRow.holds Try.pinned (OpenSpec.upto pbqpRingsSpec)

end Rows
end Go.Proofs.Ytdomnbgjafdnjaa
