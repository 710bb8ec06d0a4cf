/-
  No cell of these rows narrows 'for every input' (looked for: loops, veiled, ifaces, maps, wideKeys, modest, calm, conditions, laid).
  DERIVED. THE GIVEN ROWS OF THIS SEAT. 20 by the template 'for every input the law returns true; each argument reads behind the call as it read before'; 0 by the template 'total and deterministic' (their statements: YtcihobmjohpnkaaTotals.lean).
  GIVEN WITH THE SEED: the statements are not yours to turn. If you find one false, say at which input.
  Laid BY PROGRAM, IN A SANDBOX (cutbox-rows.mjs): the forced cells as the released guide's own fill.sh prints them over the translation f5ec4bc80d139c5d… (all of the seat's roots in one cut). By AI agents, Wed Nov 11 2026. No macro, syntax, notation, axiom, sorry.
-/
import Derived.Test.YtcihobmjohpnkaaChecked
import GoSem.Claim
import GoSem.ClaimJoined
import GoSem.ClaimMapViews
import Derived.JoinedTies
import Derived.KernelRfl
namespace Go.Proofs.Ytcihobmjohpnkaa
/- THE CELL 'sum', in the pinned program and in every row, IS THE sha256 OF THE DUMP (.gsa) THAT YtcihobmjohpnkaaProg.lean LOADS. Nothing in Lean hashes anything: it is a label: what it is worth is what the hold of that sum in a sandbox is worth. -/
noncomputable def Try.pinned : Pinned := { name := "ytcihobmjohpnkaa", sum := "f5ec4bc80d139c5d15316faccd1c428028c46fbae6e37c21b38fa769dc4cb912", checked := Try.checked }
namespace Rows
def none {H : Type} : Left H := { results := [], args := [] }

/-- 'pigeonholelaw14.CfgOrder': WHATEVER THE INPUT: true; the input reads as it did. -/
def cfgOrderSpec : ChangeSpec := { name := "cfgOrder", fn := fun _ => fun
  | [d] => { results := [.lit (.bool true)], args := [d] }
  | _ => none }
def cfgOrderRow : OpenClaim := { program := "ytcihobmjohpnkaa", sum := "f5ec4bc80d139c5d15316faccd1c428028c46fbae6e37c21b38fa769dc4cb912", func := "pigeonhole/pigeonholelaw14.CfgOrder", spec := "cfgOrder", unfollowed := true, recurses := true, apart := false }
def CfgOrderSaid : Prop := cfgOrderRow.holds Try.pinned (OpenSpec.ofChange cfgOrderSpec)

/-- ITS FALSE NEIGHBOUR: 'it returns false'. Refute it at one input. -/
def cfgOrderWrong : ChangeSpec := { name := "cfgOrder", fn := fun _ => fun
  | [d] => { results := [.lit (.bool false)], args := [d] }
  | _ => none }
def CfgOrderWrongFalsely : Prop := cfgOrderRow.holds Try.pinned (OpenSpec.ofChange cfgOrderWrong)

/-- 'pigeonholelaw14.CfgLine': WHATEVER THE INPUT: true; the input reads as it did. -/
def cfgLineSpec : ChangeSpec := { name := "cfgLine", fn := fun _ => fun
  | [d] => { results := [.lit (.bool true)], args := [d] }
  | _ => none }
def cfgLineRow : OpenClaim := { program := "ytcihobmjohpnkaa", sum := "f5ec4bc80d139c5d15316faccd1c428028c46fbae6e37c21b38fa769dc4cb912", func := "pigeonhole/pigeonholelaw14.CfgLine", spec := "cfgLine", unfollowed := true, recurses := true, apart := false }
def CfgLineSaid : Prop := cfgLineRow.holds Try.pinned (OpenSpec.ofChange cfgLineSpec)

/-- ITS FALSE NEIGHBOUR: 'it returns false'. Refute it at one input. -/
def cfgLineWrong : ChangeSpec := { name := "cfgLine", fn := fun _ => fun
  | [d] => { results := [.lit (.bool false)], args := [d] }
  | _ => none }
def CfgLineWrongFalsely : Prop := cfgLineRow.holds Try.pinned (OpenSpec.ofChange cfgLineWrong)

/-- 'pigeonholelaw14.CfgEdges': WHATEVER THE INPUT: true; the input reads as it did. -/
def cfgEdgesSpec : ChangeSpec := { name := "cfgEdges", fn := fun _ => fun
  | [d1, d2] => { results := [.lit (.bool true)], args := [d1, d2] }
  | _ => none }
def cfgEdgesRow : OpenClaim := { program := "ytcihobmjohpnkaa", sum := "f5ec4bc80d139c5d15316faccd1c428028c46fbae6e37c21b38fa769dc4cb912", func := "pigeonhole/pigeonholelaw14.CfgEdges", spec := "cfgEdges", unfollowed := true, recurses := true, apart := false }
def CfgEdgesSaid : Prop := cfgEdgesRow.holds Try.pinned (OpenSpec.ofChange cfgEdgesSpec)

/-- ITS FALSE NEIGHBOUR: 'it returns false'. Refute it at one input. -/
def cfgEdgesWrong : ChangeSpec := { name := "cfgEdges", fn := fun _ => fun
  | [d1, d2] => { results := [.lit (.bool false)], args := [d1, d2] }
  | _ => none }
def CfgEdgesWrongFalsely : Prop := cfgEdgesRow.holds Try.pinned (OpenSpec.ofChange cfgEdgesWrong)

/-- 'pigeonholelaw17.LiveUses': WHATEVER THE INPUT: true; the input reads as it did. -/
def liveUsesSpec : ChangeSpec := { name := "liveUses", fn := fun _ => fun
  | [d] => { results := [.lit (.bool true)], args := [d] }
  | _ => none }
def liveUsesRow : OpenClaim := { program := "ytcihobmjohpnkaa", sum := "f5ec4bc80d139c5d15316faccd1c428028c46fbae6e37c21b38fa769dc4cb912", func := "pigeonhole/pigeonholelaw17.LiveUses", spec := "liveUses", unfollowed := true, recurses := true, apart := false }
def LiveUsesSaid : Prop := liveUsesRow.holds Try.pinned (OpenSpec.ofChange liveUsesSpec)

/-- ITS FALSE NEIGHBOUR: 'it returns false'. Refute it at one input. -/
def liveUsesWrong : ChangeSpec := { name := "liveUses", fn := fun _ => fun
  | [d] => { results := [.lit (.bool false)], args := [d] }
  | _ => none }
def LiveUsesWrongFalsely : Prop := liveUsesRow.holds Try.pinned (OpenSpec.ofChange liveUsesWrong)

/-- 'pigeonholelaw17.LiveWays': WHATEVER THE INPUT: true; the input reads as it did. -/
def liveWaysSpec : ChangeSpec := { name := "liveWays", fn := fun _ => fun
  | [d] => { results := [.lit (.bool true)], args := [d] }
  | _ => none }
def liveWaysRow : OpenClaim := { program := "ytcihobmjohpnkaa", sum := "f5ec4bc80d139c5d15316faccd1c428028c46fbae6e37c21b38fa769dc4cb912", func := "pigeonhole/pigeonholelaw17.LiveWays", spec := "liveWays", unfollowed := true, recurses := true, apart := false }
def LiveWaysSaid : Prop := liveWaysRow.holds Try.pinned (OpenSpec.ofChange liveWaysSpec)

/-- ITS FALSE NEIGHBOUR: 'it returns false'. Refute it at one input. -/
def liveWaysWrong : ChangeSpec := { name := "liveWays", fn := fun _ => fun
  | [d] => { results := [.lit (.bool false)], args := [d] }
  | _ => none }
def LiveWaysWrongFalsely : Prop := liveWaysRow.holds Try.pinned (OpenSpec.ofChange liveWaysWrong)

/-- 'pigeonholelaw17.LiveLoop': WHATEVER THE INPUT: true; the input reads as it did. -/
def liveLoopSpec : ChangeSpec := { name := "liveLoop", fn := fun _ => fun
  | [d1, d2] => { results := [.lit (.bool true)], args := [d1, d2] }
  | _ => none }
def liveLoopRow : OpenClaim := { program := "ytcihobmjohpnkaa", sum := "f5ec4bc80d139c5d15316faccd1c428028c46fbae6e37c21b38fa769dc4cb912", func := "pigeonhole/pigeonholelaw17.LiveLoop", spec := "liveLoop", unfollowed := true, recurses := true, apart := false }
def LiveLoopSaid : Prop := liveLoopRow.holds Try.pinned (OpenSpec.ofChange liveLoopSpec)

/-- ITS FALSE NEIGHBOUR: 'it returns false'. Refute it at one input. -/
def liveLoopWrong : ChangeSpec := { name := "liveLoop", fn := fun _ => fun
  | [d1, d2] => { results := [.lit (.bool false)], args := [d1, d2] }
  | _ => none }
def LiveLoopWrongFalsely : Prop := liveLoopRow.holds Try.pinned (OpenSpec.ofChange liveLoopWrong)

/-- 'pigeonholelaw17.LiveTells': WHATEVER THE INPUT: true; the input reads as it did. -/
def liveTellsSpec : ChangeSpec := { name := "liveTells", fn := fun _ => fun
  | [d1, d2, d3] => { results := [.lit (.bool true)], args := [d1, d2, d3] }
  | _ => none }
def liveTellsRow : OpenClaim := { program := "ytcihobmjohpnkaa", sum := "f5ec4bc80d139c5d15316faccd1c428028c46fbae6e37c21b38fa769dc4cb912", func := "pigeonhole/pigeonholelaw17.LiveTells", spec := "liveTells", unfollowed := true, recurses := true, apart := false }
def LiveTellsSaid : Prop := liveTellsRow.holds Try.pinned (OpenSpec.ofChange liveTellsSpec)

/-- ITS FALSE NEIGHBOUR: 'it returns false'. Refute it at one input. -/
def liveTellsWrong : ChangeSpec := { name := "liveTells", fn := fun _ => fun
  | [d1, d2, d3] => { results := [.lit (.bool false)], args := [d1, d2, d3] }
  | _ => none }
def LiveTellsWrongFalsely : Prop := liveTellsRow.holds Try.pinned (OpenSpec.ofChange liveTellsWrong)

/-- 'pigeonholelaw17.LiveChain': WHATEVER THE INPUT: true; the input reads as it did. -/
def liveChainSpec : ChangeSpec := { name := "liveChain", fn := fun _ => fun
  | [d] => { results := [.lit (.bool true)], args := [d] }
  | _ => none }
def liveChainRow : OpenClaim := { program := "ytcihobmjohpnkaa", sum := "f5ec4bc80d139c5d15316faccd1c428028c46fbae6e37c21b38fa769dc4cb912", func := "pigeonhole/pigeonholelaw17.LiveChain", spec := "liveChain", unfollowed := true, recurses := true, apart := false }
def LiveChainSaid : Prop := liveChainRow.holds Try.pinned (OpenSpec.ofChange liveChainSpec)

/-- ITS FALSE NEIGHBOUR: 'it returns false'. Refute it at one input. -/
def liveChainWrong : ChangeSpec := { name := "liveChain", fn := fun _ => fun
  | [d] => { results := [.lit (.bool false)], args := [d] }
  | _ => none }
def LiveChainWrongFalsely : Prop := liveChainRow.holds Try.pinned (OpenSpec.ofChange liveChainWrong)

/-- 'pigeonholelaw15.DomTree': WHATEVER THE INPUT: true; the input reads as it did. -/
def domTreeSpec : ChangeSpec := { name := "domTree", fn := fun _ => fun
  | [d] => { results := [.lit (.bool true)], args := [d] }
  | _ => none }
def domTreeRow : OpenClaim := { program := "ytcihobmjohpnkaa", sum := "f5ec4bc80d139c5d15316faccd1c428028c46fbae6e37c21b38fa769dc4cb912", func := "pigeonhole/pigeonholelaw15.DomTree", spec := "domTree", unfollowed := true, recurses := true, apart := false }
def DomTreeSaid : Prop := domTreeRow.holds Try.pinned (OpenSpec.ofChange domTreeSpec)

/-- ITS FALSE NEIGHBOUR: 'it returns false'. Refute it at one input. -/
def domTreeWrong : ChangeSpec := { name := "domTree", fn := fun _ => fun
  | [d] => { results := [.lit (.bool false)], args := [d] }
  | _ => none }
def DomTreeWrongFalsely : Prop := domTreeRow.holds Try.pinned (OpenSpec.ofChange domTreeWrong)

/-- 'pigeonholelaw15.DomTells': WHATEVER THE INPUT: true; the input reads as it did. -/
def domTellsSpec : ChangeSpec := { name := "domTells", fn := fun _ => fun
  | [d1, d2, d3] => { results := [.lit (.bool true)], args := [d1, d2, d3] }
  | _ => none }
def domTellsRow : OpenClaim := { program := "ytcihobmjohpnkaa", sum := "f5ec4bc80d139c5d15316faccd1c428028c46fbae6e37c21b38fa769dc4cb912", func := "pigeonhole/pigeonholelaw15.DomTells", spec := "domTells", unfollowed := true, recurses := true, apart := false }
def DomTellsSaid : Prop := domTellsRow.holds Try.pinned (OpenSpec.ofChange domTellsSpec)

/-- ITS FALSE NEIGHBOUR: 'it returns false'. Refute it at one input. -/
def domTellsWrong : ChangeSpec := { name := "domTells", fn := fun _ => fun
  | [d1, d2, d3] => { results := [.lit (.bool false)], args := [d1, d2, d3] }
  | _ => none }
def DomTellsWrongFalsely : Prop := domTellsRow.holds Try.pinned (OpenSpec.ofChange domTellsWrong)

/-- 'pigeonholelaw15.DomWays': WHATEVER THE INPUT: true; the input reads as it did. -/
def domWaysSpec : ChangeSpec := { name := "domWays", fn := fun _ => fun
  | [d1, d2] => { results := [.lit (.bool true)], args := [d1, d2] }
  | _ => none }
def domWaysRow : OpenClaim := { program := "ytcihobmjohpnkaa", sum := "f5ec4bc80d139c5d15316faccd1c428028c46fbae6e37c21b38fa769dc4cb912", func := "pigeonhole/pigeonholelaw15.DomWays", spec := "domWays", unfollowed := true, recurses := true, apart := false }
def DomWaysSaid : Prop := domWaysRow.holds Try.pinned (OpenSpec.ofChange domWaysSpec)

/-- ITS FALSE NEIGHBOUR: 'it returns false'. Refute it at one input. -/
def domWaysWrong : ChangeSpec := { name := "domWays", fn := fun _ => fun
  | [d1, d2] => { results := [.lit (.bool false)], args := [d1, d2] }
  | _ => none }
def DomWaysWrongFalsely : Prop := domWaysRow.holds Try.pinned (OpenSpec.ofChange domWaysWrong)

/-- 'pigeonholelaw15.DomChain': WHATEVER THE INPUT: true; the input reads as it did. -/
def domChainSpec : ChangeSpec := { name := "domChain", fn := fun _ => fun
  | [d1, d2, d3] => { results := [.lit (.bool true)], args := [d1, d2, d3] }
  | _ => none }
def domChainRow : OpenClaim := { program := "ytcihobmjohpnkaa", sum := "f5ec4bc80d139c5d15316faccd1c428028c46fbae6e37c21b38fa769dc4cb912", func := "pigeonhole/pigeonholelaw15.DomChain", spec := "domChain", unfollowed := true, recurses := true, apart := false }
def DomChainSaid : Prop := domChainRow.holds Try.pinned (OpenSpec.ofChange domChainSpec)

/-- ITS FALSE NEIGHBOUR: 'it returns false'. Refute it at one input. -/
def domChainWrong : ChangeSpec := { name := "domChain", fn := fun _ => fun
  | [d1, d2, d3] => { results := [.lit (.bool false)], args := [d1, d2, d3] }
  | _ => none }
def DomChainWrongFalsely : Prop := domChainRow.holds Try.pinned (OpenSpec.ofChange domChainWrong)

/-- 'pigeonholelaw15.DomDiamonds': WHATEVER THE INPUT: true; the input reads as it did. -/
def domDiamondsSpec : ChangeSpec := { name := "domDiamonds", fn := fun _ => fun
  | [d] => { results := [.lit (.bool true)], args := [d] }
  | _ => none }
def domDiamondsRow : OpenClaim := { program := "ytcihobmjohpnkaa", sum := "f5ec4bc80d139c5d15316faccd1c428028c46fbae6e37c21b38fa769dc4cb912", func := "pigeonhole/pigeonholelaw15.DomDiamonds", spec := "domDiamonds", unfollowed := true, recurses := true, apart := false }
def DomDiamondsSaid : Prop := domDiamondsRow.holds Try.pinned (OpenSpec.ofChange domDiamondsSpec)

/-- ITS FALSE NEIGHBOUR: 'it returns false'. Refute it at one input. -/
def domDiamondsWrong : ChangeSpec := { name := "domDiamonds", fn := fun _ => fun
  | [d] => { results := [.lit (.bool false)], args := [d] }
  | _ => none }
def DomDiamondsWrongFalsely : Prop := domDiamondsRow.holds Try.pinned (OpenSpec.ofChange domDiamondsWrong)

/-- 'pigeonholelaw16.LoopsTell': WHATEVER THE INPUT: true; the input reads as it did. -/
def loopsTellSpec : ChangeSpec := { name := "loopsTell", fn := fun _ => fun
  | [d1, d2] => { results := [.lit (.bool true)], args := [d1, d2] }
  | _ => none }
def loopsTellRow : OpenClaim := { program := "ytcihobmjohpnkaa", sum := "f5ec4bc80d139c5d15316faccd1c428028c46fbae6e37c21b38fa769dc4cb912", func := "pigeonhole/pigeonholelaw16.LoopsTell", spec := "loopsTell", unfollowed := true, recurses := true, apart := false }
def LoopsTellSaid : Prop := loopsTellRow.holds Try.pinned (OpenSpec.ofChange loopsTellSpec)

/-- ITS FALSE NEIGHBOUR: 'it returns false'. Refute it at one input. -/
def loopsTellWrong : ChangeSpec := { name := "loopsTell", fn := fun _ => fun
  | [d1, d2] => { results := [.lit (.bool false)], args := [d1, d2] }
  | _ => none }
def LoopsTellWrongFalsely : Prop := loopsTellRow.holds Try.pinned (OpenSpec.ofChange loopsTellWrong)

/-- 'pigeonholelaw16.LoopsNest': WHATEVER THE INPUT: true; the input reads as it did. -/
def loopsNestSpec : ChangeSpec := { name := "loopsNest", fn := fun _ => fun
  | [d] => { results := [.lit (.bool true)], args := [d] }
  | _ => none }
def loopsNestRow : OpenClaim := { program := "ytcihobmjohpnkaa", sum := "f5ec4bc80d139c5d15316faccd1c428028c46fbae6e37c21b38fa769dc4cb912", func := "pigeonhole/pigeonholelaw16.LoopsNest", spec := "loopsNest", unfollowed := true, recurses := true, apart := false }
def LoopsNestSaid : Prop := loopsNestRow.holds Try.pinned (OpenSpec.ofChange loopsNestSpec)

/-- ITS FALSE NEIGHBOUR: 'it returns false'. Refute it at one input. -/
def loopsNestWrong : ChangeSpec := { name := "loopsNest", fn := fun _ => fun
  | [d] => { results := [.lit (.bool false)], args := [d] }
  | _ => none }
def LoopsNestWrongFalsely : Prop := loopsNestRow.holds Try.pinned (OpenSpec.ofChange loopsNestWrong)

/-- 'pigeonholelaw16.LoopsNone': WHATEVER THE INPUT: true; the input reads as it did. -/
def loopsNoneSpec : ChangeSpec := { name := "loopsNone", fn := fun _ => fun
  | [d] => { results := [.lit (.bool true)], args := [d] }
  | _ => none }
def loopsNoneRow : OpenClaim := { program := "ytcihobmjohpnkaa", sum := "f5ec4bc80d139c5d15316faccd1c428028c46fbae6e37c21b38fa769dc4cb912", func := "pigeonhole/pigeonholelaw16.LoopsNone", spec := "loopsNone", unfollowed := true, recurses := true, apart := false }
def LoopsNoneSaid : Prop := loopsNoneRow.holds Try.pinned (OpenSpec.ofChange loopsNoneSpec)

/-- ITS FALSE NEIGHBOUR: 'it returns false'. Refute it at one input. -/
def loopsNoneWrong : ChangeSpec := { name := "loopsNone", fn := fun _ => fun
  | [d] => { results := [.lit (.bool false)], args := [d] }
  | _ => none }
def LoopsNoneWrongFalsely : Prop := loopsNoneRow.holds Try.pinned (OpenSpec.ofChange loopsNoneWrong)

/-- 'pigeonholelaw19.CostUses': WHATEVER THE INPUT: true; the input reads as it did. -/
def costUsesSpec : ChangeSpec := { name := "costUses", fn := fun _ => fun
  | [d1, d2] => { results := [.lit (.bool true)], args := [d1, d2] }
  | _ => none }
def costUsesRow : OpenClaim := { program := "ytcihobmjohpnkaa", sum := "f5ec4bc80d139c5d15316faccd1c428028c46fbae6e37c21b38fa769dc4cb912", func := "pigeonhole/pigeonholelaw19.CostUses", spec := "costUses", unfollowed := true, recurses := true, apart := false }
def CostUsesSaid : Prop := costUsesRow.holds Try.pinned (OpenSpec.ofChange costUsesSpec)

/-- ITS FALSE NEIGHBOUR: 'it returns false'. Refute it at one input. -/
def costUsesWrong : ChangeSpec := { name := "costUses", fn := fun _ => fun
  | [d1, d2] => { results := [.lit (.bool false)], args := [d1, d2] }
  | _ => none }
def CostUsesWrongFalsely : Prop := costUsesRow.holds Try.pinned (OpenSpec.ofChange costUsesWrong)

/-- 'pigeonholelaw19.CostDeep': WHATEVER THE INPUT: true; the input reads as it did. -/
def costDeepSpec : ChangeSpec := { name := "costDeep", fn := fun _ => fun
  | [d] => { results := [.lit (.bool true)], args := [d] }
  | _ => none }
def costDeepRow : OpenClaim := { program := "ytcihobmjohpnkaa", sum := "f5ec4bc80d139c5d15316faccd1c428028c46fbae6e37c21b38fa769dc4cb912", func := "pigeonhole/pigeonholelaw19.CostDeep", spec := "costDeep", unfollowed := true, recurses := true, apart := false }
def CostDeepSaid : Prop := costDeepRow.holds Try.pinned (OpenSpec.ofChange costDeepSpec)

/-- ITS FALSE NEIGHBOUR: 'it returns false'. Refute it at one input. -/
def costDeepWrong : ChangeSpec := { name := "costDeep", fn := fun _ => fun
  | [d] => { results := [.lit (.bool false)], args := [d] }
  | _ => none }
def CostDeepWrongFalsely : Prop := costDeepRow.holds Try.pinned (OpenSpec.ofChange costDeepWrong)

/-- 'pigeonholelaw19.CostTells': WHATEVER THE INPUT: true; the input reads as it did. -/
def costTellsSpec : ChangeSpec := { name := "costTells", fn := fun _ => fun
  | [d1, d2] => { results := [.lit (.bool true)], args := [d1, d2] }
  | _ => none }
def costTellsRow : OpenClaim := { program := "ytcihobmjohpnkaa", sum := "f5ec4bc80d139c5d15316faccd1c428028c46fbae6e37c21b38fa769dc4cb912", func := "pigeonhole/pigeonholelaw19.CostTells", spec := "costTells", unfollowed := true, recurses := true, apart := false }
def CostTellsSaid : Prop := costTellsRow.holds Try.pinned (OpenSpec.ofChange costTellsSpec)

/-- ITS FALSE NEIGHBOUR: 'it returns false'. Refute it at one input. -/
def costTellsWrong : ChangeSpec := { name := "costTells", fn := fun _ => fun
  | [d1, d2] => { results := [.lit (.bool false)], args := [d1, d2] }
  | _ => none }
def CostTellsWrongFalsely : Prop := costTellsRow.holds Try.pinned (OpenSpec.ofChange costTellsWrong)

/-- 'pigeonholelaw19.CostOrder': WHATEVER THE INPUT: true; the input reads as it did. -/
def costOrderSpec : ChangeSpec := { name := "costOrder", fn := fun _ => fun
  | [d] => { results := [.lit (.bool true)], args := [d] }
  | _ => none }
def costOrderRow : OpenClaim := { program := "ytcihobmjohpnkaa", sum := "f5ec4bc80d139c5d15316faccd1c428028c46fbae6e37c21b38fa769dc4cb912", func := "pigeonhole/pigeonholelaw19.CostOrder", spec := "costOrder", unfollowed := true, recurses := true, apart := false }
def CostOrderSaid : Prop := costOrderRow.holds Try.pinned (OpenSpec.ofChange costOrderSpec)

/-- ITS FALSE NEIGHBOUR: 'it returns false'. Refute it at one input. -/
def costOrderWrong : ChangeSpec := { name := "costOrder", fn := fun _ => fun
  | [d] => { results := [.lit (.bool false)], args := [d] }
  | _ => none }
def CostOrderWrongFalsely : Prop := costOrderRow.holds Try.pinned (OpenSpec.ofChange costOrderWrong)

/- THE SECOND FORM. 'bulk': how many values and letters a reading holds, each counted each time it is reached (what is shared counts as often as it is met; a slice's spare places count too). A statement '..UptoSaid' is the law's where the arguments, and the package variables that the reading takes, are together of bulk at most 1048576: NARROWER than '..Said'. Prove '..Said' where nothing that the law and all that it calls make is longer than what came in: it says more and counts as full. Else prove '..UptoSaid'. A law counts once. -/
mutual
def uptoBulk {H : Type} : DataW H → Nat
  | .lit (.string bytes) => bytes.length + 1
  | .lit _ => 1
  | .nil => 1
  | .ptr d => uptoBulk d + 1
  | .slice elems spare => uptoBulkAll elems + uptoBulkAll spare + 1
  | .agg parts => uptoBulkAll parts + 1
  | .iface _ d => uptoBulk d + 1
  | .map entries => uptoBulkEntries entries + 1
  | .held _ => 1
def uptoBulkAll {H : Type} : List (DataW H) → Nat
  | [] => 0
  | d :: r => uptoBulk d + uptoBulkAll r
def uptoBulkEntries {H : Type} : List (Lit × DataW H) → Nat
  | [] => 0
  | x :: r => uptoBulkEntry x + uptoBulkEntries r
def uptoBulkEntry {H : Type} : Lit × DataW H → Nat
  | (.string bytes, d) => bytes.length + uptoBulk d + 1
  | (_, d) => uptoBulk d + 1
 end
def uptoSmall : (H : Type) → List (DataW H) → Bool := fun _ ds => decide (uptoBulkAll ds ≤ 1048576)
def OpenSpec.upto (s : _root_.Go.ChangeSpec) : _root_.Go.OpenSpec := { _root_.Go.OpenSpec.ofChange s with cond := some uptoSmall }

/-- 'pigeonholelaw14.CfgOrder', WHERE WHAT IT READS IS OF BULK AT MOST 1048576: true; the input reads as it did. -/
def cfgOrderUptoRow : OpenClaim := { program := "ytcihobmjohpnkaa", sum := "f5ec4bc80d139c5d15316faccd1c428028c46fbae6e37c21b38fa769dc4cb912", func := "pigeonhole/pigeonholelaw14.CfgOrder", spec := "cfgOrder", unfollowed := true, recurses := true, apart := false, narrowed := true }
def CfgOrderUptoSaid : Prop := cfgOrderUptoRow.holds Try.pinned (OpenSpec.upto cfgOrderSpec)

/-- 'pigeonholelaw14.CfgLine', WHERE WHAT IT READS IS OF BULK AT MOST 1048576: true; the input reads as it did. -/
def cfgLineUptoRow : OpenClaim := { program := "ytcihobmjohpnkaa", sum := "f5ec4bc80d139c5d15316faccd1c428028c46fbae6e37c21b38fa769dc4cb912", func := "pigeonhole/pigeonholelaw14.CfgLine", spec := "cfgLine", unfollowed := true, recurses := true, apart := false, narrowed := true }
def CfgLineUptoSaid : Prop := cfgLineUptoRow.holds Try.pinned (OpenSpec.upto cfgLineSpec)

/-- 'pigeonholelaw14.CfgEdges', WHERE WHAT IT READS IS OF BULK AT MOST 1048576: true; the input reads as it did. -/
def cfgEdgesUptoRow : OpenClaim := { program := "ytcihobmjohpnkaa", sum := "f5ec4bc80d139c5d15316faccd1c428028c46fbae6e37c21b38fa769dc4cb912", func := "pigeonhole/pigeonholelaw14.CfgEdges", spec := "cfgEdges", unfollowed := true, recurses := true, apart := false, narrowed := true }
def CfgEdgesUptoSaid : Prop := cfgEdgesUptoRow.holds Try.pinned (OpenSpec.upto cfgEdgesSpec)

/-- 'pigeonholelaw17.LiveUses', WHERE WHAT IT READS IS OF BULK AT MOST 1048576: true; the input reads as it did. -/
def liveUsesUptoRow : OpenClaim := { program := "ytcihobmjohpnkaa", sum := "f5ec4bc80d139c5d15316faccd1c428028c46fbae6e37c21b38fa769dc4cb912", func := "pigeonhole/pigeonholelaw17.LiveUses", spec := "liveUses", unfollowed := true, recurses := true, apart := false, narrowed := true }
def LiveUsesUptoSaid : Prop := liveUsesUptoRow.holds Try.pinned (OpenSpec.upto liveUsesSpec)

/-- 'pigeonholelaw17.LiveWays', WHERE WHAT IT READS IS OF BULK AT MOST 1048576: true; the input reads as it did. -/
def liveWaysUptoRow : OpenClaim := { program := "ytcihobmjohpnkaa", sum := "f5ec4bc80d139c5d15316faccd1c428028c46fbae6e37c21b38fa769dc4cb912", func := "pigeonhole/pigeonholelaw17.LiveWays", spec := "liveWays", unfollowed := true, recurses := true, apart := false, narrowed := true }
def LiveWaysUptoSaid : Prop := liveWaysUptoRow.holds Try.pinned (OpenSpec.upto liveWaysSpec)

/-- 'pigeonholelaw17.LiveLoop', WHERE WHAT IT READS IS OF BULK AT MOST 1048576: true; the input reads as it did. -/
def liveLoopUptoRow : OpenClaim := { program := "ytcihobmjohpnkaa", sum := "f5ec4bc80d139c5d15316faccd1c428028c46fbae6e37c21b38fa769dc4cb912", func := "pigeonhole/pigeonholelaw17.LiveLoop", spec := "liveLoop", unfollowed := true, recurses := true, apart := false, narrowed := true }
def LiveLoopUptoSaid : Prop := liveLoopUptoRow.holds Try.pinned (OpenSpec.upto liveLoopSpec)

/-- 'pigeonholelaw17.LiveTells', WHERE WHAT IT READS IS OF BULK AT MOST 1048576: true; the input reads as it did. -/
def liveTellsUptoRow : OpenClaim := { program := "ytcihobmjohpnkaa", sum := "f5ec4bc80d139c5d15316faccd1c428028c46fbae6e37c21b38fa769dc4cb912", func := "pigeonhole/pigeonholelaw17.LiveTells", spec := "liveTells", unfollowed := true, recurses := true, apart := false, narrowed := true }
def LiveTellsUptoSaid : Prop := liveTellsUptoRow.holds Try.pinned (OpenSpec.upto liveTellsSpec)

/-- 'pigeonholelaw17.LiveChain', WHERE WHAT IT READS IS OF BULK AT MOST 1048576: true; the input reads as it did. -/
def liveChainUptoRow : OpenClaim := { program := "ytcihobmjohpnkaa", sum := "f5ec4bc80d139c5d15316faccd1c428028c46fbae6e37c21b38fa769dc4cb912", func := "pigeonhole/pigeonholelaw17.LiveChain", spec := "liveChain", unfollowed := true, recurses := true, apart := false, narrowed := true }
def LiveChainUptoSaid : Prop := liveChainUptoRow.holds Try.pinned (OpenSpec.upto liveChainSpec)

/-- 'pigeonholelaw15.DomTree', WHERE WHAT IT READS IS OF BULK AT MOST 1048576: true; the input reads as it did. -/
def domTreeUptoRow : OpenClaim := { program := "ytcihobmjohpnkaa", sum := "f5ec4bc80d139c5d15316faccd1c428028c46fbae6e37c21b38fa769dc4cb912", func := "pigeonhole/pigeonholelaw15.DomTree", spec := "domTree", unfollowed := true, recurses := true, apart := false, narrowed := true }
def DomTreeUptoSaid : Prop := domTreeUptoRow.holds Try.pinned (OpenSpec.upto domTreeSpec)

/-- 'pigeonholelaw15.DomTells', WHERE WHAT IT READS IS OF BULK AT MOST 1048576: true; the input reads as it did. -/
def domTellsUptoRow : OpenClaim := { program := "ytcihobmjohpnkaa", sum := "f5ec4bc80d139c5d15316faccd1c428028c46fbae6e37c21b38fa769dc4cb912", func := "pigeonhole/pigeonholelaw15.DomTells", spec := "domTells", unfollowed := true, recurses := true, apart := false, narrowed := true }
def DomTellsUptoSaid : Prop := domTellsUptoRow.holds Try.pinned (OpenSpec.upto domTellsSpec)

/-- 'pigeonholelaw15.DomWays', WHERE WHAT IT READS IS OF BULK AT MOST 1048576: true; the input reads as it did. -/
def domWaysUptoRow : OpenClaim := { program := "ytcihobmjohpnkaa", sum := "f5ec4bc80d139c5d15316faccd1c428028c46fbae6e37c21b38fa769dc4cb912", func := "pigeonhole/pigeonholelaw15.DomWays", spec := "domWays", unfollowed := true, recurses := true, apart := false, narrowed := true }
def DomWaysUptoSaid : Prop := domWaysUptoRow.holds Try.pinned (OpenSpec.upto domWaysSpec)

/-- 'pigeonholelaw15.DomChain', WHERE WHAT IT READS IS OF BULK AT MOST 1048576: true; the input reads as it did. -/
def domChainUptoRow : OpenClaim := { program := "ytcihobmjohpnkaa", sum := "f5ec4bc80d139c5d15316faccd1c428028c46fbae6e37c21b38fa769dc4cb912", func := "pigeonhole/pigeonholelaw15.DomChain", spec := "domChain", unfollowed := true, recurses := true, apart := false, narrowed := true }
def DomChainUptoSaid : Prop := domChainUptoRow.holds Try.pinned (OpenSpec.upto domChainSpec)

/-- 'pigeonholelaw15.DomDiamonds', WHERE WHAT IT READS IS OF BULK AT MOST 1048576: true; the input reads as it did. -/
def domDiamondsUptoRow : OpenClaim := { program := "ytcihobmjohpnkaa", sum := "f5ec4bc80d139c5d15316faccd1c428028c46fbae6e37c21b38fa769dc4cb912", func := "pigeonhole/pigeonholelaw15.DomDiamonds", spec := "domDiamonds", unfollowed := true, recurses := true, apart := false, narrowed := true }
def DomDiamondsUptoSaid : Prop := domDiamondsUptoRow.holds Try.pinned (OpenSpec.upto domDiamondsSpec)

/-- 'pigeonholelaw16.LoopsTell', WHERE WHAT IT READS IS OF BULK AT MOST 1048576: true; the input reads as it did. -/
def loopsTellUptoRow : OpenClaim := { program := "ytcihobmjohpnkaa", sum := "f5ec4bc80d139c5d15316faccd1c428028c46fbae6e37c21b38fa769dc4cb912", func := "pigeonhole/pigeonholelaw16.LoopsTell", spec := "loopsTell", unfollowed := true, recurses := true, apart := false, narrowed := true }
def LoopsTellUptoSaid : Prop := loopsTellUptoRow.holds Try.pinned (OpenSpec.upto loopsTellSpec)

/-- 'pigeonholelaw16.LoopsNest', WHERE WHAT IT READS IS OF BULK AT MOST 1048576: true; the input reads as it did. -/
def loopsNestUptoRow : OpenClaim := { program := "ytcihobmjohpnkaa", sum := "f5ec4bc80d139c5d15316faccd1c428028c46fbae6e37c21b38fa769dc4cb912", func := "pigeonhole/pigeonholelaw16.LoopsNest", spec := "loopsNest", unfollowed := true, recurses := true, apart := false, narrowed := true }
def LoopsNestUptoSaid : Prop := loopsNestUptoRow.holds Try.pinned (OpenSpec.upto loopsNestSpec)

/-- 'pigeonholelaw16.LoopsNone', WHERE WHAT IT READS IS OF BULK AT MOST 1048576: true; the input reads as it did. -/
def loopsNoneUptoRow : OpenClaim := { program := "ytcihobmjohpnkaa", sum := "f5ec4bc80d139c5d15316faccd1c428028c46fbae6e37c21b38fa769dc4cb912", func := "pigeonhole/pigeonholelaw16.LoopsNone", spec := "loopsNone", unfollowed := true, recurses := true, apart := false, narrowed := true }
def LoopsNoneUptoSaid : Prop := loopsNoneUptoRow.holds Try.pinned (OpenSpec.upto loopsNoneSpec)

/-- 'pigeonholelaw19.CostUses', WHERE WHAT IT READS IS OF BULK AT MOST 1048576: true; the input reads as it did. -/
def costUsesUptoRow : OpenClaim := { program := "ytcihobmjohpnkaa", sum := "f5ec4bc80d139c5d15316faccd1c428028c46fbae6e37c21b38fa769dc4cb912", func := "pigeonhole/pigeonholelaw19.CostUses", spec := "costUses", unfollowed := true, recurses := true, apart := false, narrowed := true }
def CostUsesUptoSaid : Prop := costUsesUptoRow.holds Try.pinned (OpenSpec.upto costUsesSpec)

/-- 'pigeonholelaw19.CostDeep', WHERE WHAT IT READS IS OF BULK AT MOST 1048576: true; the input reads as it did. -/
def costDeepUptoRow : OpenClaim := { program := "ytcihobmjohpnkaa", sum := "f5ec4bc80d139c5d15316faccd1c428028c46fbae6e37c21b38fa769dc4cb912", func := "pigeonhole/pigeonholelaw19.CostDeep", spec := "costDeep", unfollowed := true, recurses := true, apart := false, narrowed := true }
def CostDeepUptoSaid : Prop := costDeepUptoRow.holds Try.pinned (OpenSpec.upto costDeepSpec)

/-- 'pigeonholelaw19.CostTells', WHERE WHAT IT READS IS OF BULK AT MOST 1048576: true; the input reads as it did. -/
def costTellsUptoRow : OpenClaim := { program := "ytcihobmjohpnkaa", sum := "f5ec4bc80d139c5d15316faccd1c428028c46fbae6e37c21b38fa769dc4cb912", func := "pigeonhole/pigeonholelaw19.CostTells", spec := "costTells", unfollowed := true, recurses := true, apart := false, narrowed := true }
def CostTellsUptoSaid : Prop := costTellsUptoRow.holds Try.pinned (OpenSpec.upto costTellsSpec)

/-- 'pigeonholelaw19.CostOrder', WHERE WHAT IT READS IS OF BULK AT MOST 1048576: true; the input reads as it did. -/
def costOrderUptoRow : OpenClaim := { program := "ytcihobmjohpnkaa", sum := "f5ec4bc80d139c5d15316faccd1c428028c46fbae6e37c21b38fa769dc4cb912", func := "pigeonhole/pigeonholelaw19.CostOrder", spec := "costOrder", unfollowed := true, recurses := true, apart := false, narrowed := true }
def CostOrderUptoSaid : Prop := costOrderUptoRow.holds Try.pinned (OpenSpec.upto costOrderSpec)

end Rows
end Go.Proofs.Ytcihobmjohpnkaa
