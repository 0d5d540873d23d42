/-
  No cell of these rows narrows 'for every input' (looked for: loops, veiled, ifaces, maps, wideKeys, modest, calm, conditions, laid).
  DERIVED. THE GIVEN ROWS OF THIS SEAT. 14 by the template 'for every input the law returns true; each argument reads behind the call as it read before'; 0 by the template 'total and deterministic' (their statements: YtpbndcmmclkdpaaTotals.lean).
  GIVEN WITH THE SEED: the statements are not yours to turn. If you find one false, say at which input.
  Laid BY PROGRAM, IN A SANDBOX (cutbox-rows.mjs): the forced cells as the released guide's own fill.sh prints them over the translation 089fa9c7e4150ddb… (all of the seat's roots in one cut). By AI agents, Wed Nov 11 2026. No macro, syntax, notation, axiom, sorry.
-/
import Derived.Test.YtpbndcmmclkdpaaChecked
import GoSem.Claim
import GoSem.ClaimJoined
import GoSem.ClaimMapViews
import Derived.JoinedTies
import Derived.KernelRfl
namespace Go.Proofs.Ytpbndcmmclkdpaa
/- THE CELL 'sum', in the pinned program and in every row, IS THE sha256 OF THE DUMP (.gsa) THAT YtpbndcmmclkdpaaProg.lean LOADS. Nothing in Lean hashes anything: it is a label: what it is worth is what the hold of that sum in a sandbox is worth. -/
noncomputable def Try.pinned : Pinned := { name := "ytpbndcmmclkdpaa", sum := "089fa9c7e4150ddb708a7da2fde1a1239bed32510620c27cbc587063a8f38370", checked := Try.checked }
namespace Rows
def none {H : Type} : Left H := { results := [], args := [] }

/-- 'merinolaw05.FlowSolves': WHATEVER THE INPUT: true; the input reads as it did. -/
def flowSolvesSpec : ChangeSpec := { name := "flowSolves", fn := fun _ => fun
  | [d1, d2, d3] => { results := [.lit (.bool true)], args := [d1, d2, d3] }
  | _ => none }
def flowSolvesRow : OpenClaim := { program := "ytpbndcmmclkdpaa", sum := "089fa9c7e4150ddb708a7da2fde1a1239bed32510620c27cbc587063a8f38370", func := "merino/merinolaw05.FlowSolves", spec := "flowSolves", unfollowed := true, recurses := true, apart := false }
def FlowSolvesSaid : Prop := flowSolvesRow.holds Try.pinned (OpenSpec.ofChange flowSolvesSpec)

/-- ITS FALSE NEIGHBOUR: 'it returns false'. Refute it at one input. -/
def flowSolvesWrong : ChangeSpec := { name := "flowSolves", fn := fun _ => fun
  | [d1, d2, d3] => { results := [.lit (.bool false)], args := [d1, d2, d3] }
  | _ => none }
def FlowSolvesWrongFalsely : Prop := flowSolvesRow.holds Try.pinned (OpenSpec.ofChange flowSolvesWrong)

/-- 'merinolaw05.FlowBlocks': WHATEVER THE INPUT: true; the input reads as it did. -/
def flowBlocksSpec : ChangeSpec := { name := "flowBlocks", fn := fun _ => fun
  | [d1, d2, d3] => { results := [.lit (.bool true)], args := [d1, d2, d3] }
  | _ => none }
def flowBlocksRow : OpenClaim := { program := "ytpbndcmmclkdpaa", sum := "089fa9c7e4150ddb708a7da2fde1a1239bed32510620c27cbc587063a8f38370", func := "merino/merinolaw05.FlowBlocks", spec := "flowBlocks", unfollowed := true, recurses := true, apart := false }
def FlowBlocksSaid : Prop := flowBlocksRow.holds Try.pinned (OpenSpec.ofChange flowBlocksSpec)

/-- ITS FALSE NEIGHBOUR: 'it returns false'. Refute it at one input. -/
def flowBlocksWrong : ChangeSpec := { name := "flowBlocks", fn := fun _ => fun
  | [d1, d2, d3] => { results := [.lit (.bool false)], args := [d1, d2, d3] }
  | _ => none }
def FlowBlocksWrongFalsely : Prop := flowBlocksRow.holds Try.pinned (OpenSpec.ofChange flowBlocksWrong)

/-- 'merinolaw05.FlowEither': WHATEVER THE INPUT: true; the input reads as it did. -/
def flowEitherSpec : ChangeSpec := { name := "flowEither", fn := fun _ => fun
  | [d1, d2, d3] => { results := [.lit (.bool true)], args := [d1, d2, d3] }
  | _ => none }
def flowEitherRow : OpenClaim := { program := "ytpbndcmmclkdpaa", sum := "089fa9c7e4150ddb708a7da2fde1a1239bed32510620c27cbc587063a8f38370", func := "merino/merinolaw05.FlowEither", spec := "flowEither", unfollowed := true, recurses := true, apart := false }
def FlowEitherSaid : Prop := flowEitherRow.holds Try.pinned (OpenSpec.ofChange flowEitherSpec)

/-- ITS FALSE NEIGHBOUR: 'it returns false'. Refute it at one input. -/
def flowEitherWrong : ChangeSpec := { name := "flowEither", fn := fun _ => fun
  | [d1, d2, d3] => { results := [.lit (.bool false)], args := [d1, d2, d3] }
  | _ => none }
def FlowEitherWrongFalsely : Prop := flowEitherRow.holds Try.pinned (OpenSpec.ofChange flowEitherWrong)

/-- 'merinolaw05.FlowScales': WHATEVER THE INPUT: true; the input reads as it did. -/
def flowScalesSpec : ChangeSpec := { name := "flowScales", fn := fun _ => fun
  | [d1, d2, d3, d4] => { results := [.lit (.bool true)], args := [d1, d2, d3, d4] }
  | _ => none }
def flowScalesRow : OpenClaim := { program := "ytpbndcmmclkdpaa", sum := "089fa9c7e4150ddb708a7da2fde1a1239bed32510620c27cbc587063a8f38370", func := "merino/merinolaw05.FlowScales", spec := "flowScales", unfollowed := true, recurses := true, apart := false }
def FlowScalesSaid : Prop := flowScalesRow.holds Try.pinned (OpenSpec.ofChange flowScalesSpec)

/-- ITS FALSE NEIGHBOUR: 'it returns false'. Refute it at one input. -/
def flowScalesWrong : ChangeSpec := { name := "flowScales", fn := fun _ => fun
  | [d1, d2, d3, d4] => { results := [.lit (.bool false)], args := [d1, d2, d3, d4] }
  | _ => none }
def FlowScalesWrongFalsely : Prop := flowScalesRow.holds Try.pinned (OpenSpec.ofChange flowScalesWrong)

/-- 'merinolaw05.FlowRoom': WHATEVER THE INPUT: true; the input reads as it did. -/
def flowRoomSpec : ChangeSpec := { name := "flowRoom", fn := fun _ => fun
  | [d1, d2, d3, d4, d5] => { results := [.lit (.bool true)], args := [d1, d2, d3, d4, d5] }
  | _ => none }
def flowRoomRow : OpenClaim := { program := "ytpbndcmmclkdpaa", sum := "089fa9c7e4150ddb708a7da2fde1a1239bed32510620c27cbc587063a8f38370", func := "merino/merinolaw05.FlowRoom", spec := "flowRoom", unfollowed := true, recurses := true, apart := false }
def FlowRoomSaid : Prop := flowRoomRow.holds Try.pinned (OpenSpec.ofChange flowRoomSpec)

/-- ITS FALSE NEIGHBOUR: 'it returns false'. Refute it at one input. -/
def flowRoomWrong : ChangeSpec := { name := "flowRoom", fn := fun _ => fun
  | [d1, d2, d3, d4, d5] => { results := [.lit (.bool false)], args := [d1, d2, d3, d4, d5] }
  | _ => none }
def FlowRoomWrongFalsely : Prop := flowRoomRow.holds Try.pinned (OpenSpec.ofChange flowRoomWrong)

/-- 'merinolaw05.FlowSuits': WHATEVER THE INPUT: true; the input reads as it did. -/
def flowSuitsSpec : ChangeSpec := { name := "flowSuits", fn := fun _ => fun
  | [d1, d2] => { results := [.lit (.bool true)], args := [d1, d2] }
  | _ => none }
def flowSuitsRow : OpenClaim := { program := "ytpbndcmmclkdpaa", sum := "089fa9c7e4150ddb708a7da2fde1a1239bed32510620c27cbc587063a8f38370", func := "merino/merinolaw05.FlowSuits", spec := "flowSuits", unfollowed := true, recurses := true, apart := false }
def FlowSuitsSaid : Prop := flowSuitsRow.holds Try.pinned (OpenSpec.ofChange flowSuitsSpec)

/-- ITS FALSE NEIGHBOUR: 'it returns false'. Refute it at one input. -/
def flowSuitsWrong : ChangeSpec := { name := "flowSuits", fn := fun _ => fun
  | [d1, d2] => { results := [.lit (.bool false)], args := [d1, d2] }
  | _ => none }
def FlowSuitsWrongFalsely : Prop := flowSuitsRow.holds Try.pinned (OpenSpec.ofChange flowSuitsWrong)

/-- 'merinolaw05.FlowCheap': WHATEVER THE INPUT: true; the input reads as it did. -/
def flowCheapSpec : ChangeSpec := { name := "flowCheap", fn := fun _ => fun
  | [d1, d2, d3] => { results := [.lit (.bool true)], args := [d1, d2, d3] }
  | _ => none }
def flowCheapRow : OpenClaim := { program := "ytpbndcmmclkdpaa", sum := "089fa9c7e4150ddb708a7da2fde1a1239bed32510620c27cbc587063a8f38370", func := "merino/merinolaw05.FlowCheap", spec := "flowCheap", unfollowed := true, recurses := true, apart := false }
def FlowCheapSaid : Prop := flowCheapRow.holds Try.pinned (OpenSpec.ofChange flowCheapSpec)

/-- ITS FALSE NEIGHBOUR: 'it returns false'. Refute it at one input. -/
def flowCheapWrong : ChangeSpec := { name := "flowCheap", fn := fun _ => fun
  | [d1, d2, d3] => { results := [.lit (.bool false)], args := [d1, d2, d3] }
  | _ => none }
def FlowCheapWrongFalsely : Prop := flowCheapRow.holds Try.pinned (OpenSpec.ofChange flowCheapWrong)

/-- 'merinolaw05.FlowBlends': WHATEVER THE INPUT: true; the input reads as it did. -/
def flowBlendsSpec : ChangeSpec := { name := "flowBlends", fn := fun _ => fun
  | [d1, d2, d3, d4] => { results := [.lit (.bool true)], args := [d1, d2, d3, d4] }
  | _ => none }
def flowBlendsRow : OpenClaim := { program := "ytpbndcmmclkdpaa", sum := "089fa9c7e4150ddb708a7da2fde1a1239bed32510620c27cbc587063a8f38370", func := "merino/merinolaw05.FlowBlends", spec := "flowBlends", unfollowed := true, recurses := true, apart := false }
def FlowBlendsSaid : Prop := flowBlendsRow.holds Try.pinned (OpenSpec.ofChange flowBlendsSpec)

/-- ITS FALSE NEIGHBOUR: 'it returns false'. Refute it at one input. -/
def flowBlendsWrong : ChangeSpec := { name := "flowBlends", fn := fun _ => fun
  | [d1, d2, d3, d4] => { results := [.lit (.bool false)], args := [d1, d2, d3, d4] }
  | _ => none }
def FlowBlendsWrongFalsely : Prop := flowBlendsRow.holds Try.pinned (OpenSpec.ofChange flowBlendsWrong)

/-- 'merinolaw05.FlowBlendCheap': WHATEVER THE INPUT: true; the input reads as it did. -/
def flowBlendCheapSpec : ChangeSpec := { name := "flowBlendCheap", fn := fun _ => fun
  | [d1, d2, d3, d4, d5] => { results := [.lit (.bool true)], args := [d1, d2, d3, d4, d5] }
  | _ => none }
def flowBlendCheapRow : OpenClaim := { program := "ytpbndcmmclkdpaa", sum := "089fa9c7e4150ddb708a7da2fde1a1239bed32510620c27cbc587063a8f38370", func := "merino/merinolaw05.FlowBlendCheap", spec := "flowBlendCheap", unfollowed := true, recurses := true, apart := false }
def FlowBlendCheapSaid : Prop := flowBlendCheapRow.holds Try.pinned (OpenSpec.ofChange flowBlendCheapSpec)

/-- ITS FALSE NEIGHBOUR: 'it returns false'. Refute it at one input. -/
def flowBlendCheapWrong : ChangeSpec := { name := "flowBlendCheap", fn := fun _ => fun
  | [d1, d2, d3, d4, d5] => { results := [.lit (.bool false)], args := [d1, d2, d3, d4, d5] }
  | _ => none }
def FlowBlendCheapWrongFalsely : Prop := flowBlendCheapRow.holds Try.pinned (OpenSpec.ofChange flowBlendCheapWrong)

/-- 'merinolaw05.FlowBalances': WHATEVER THE INPUT: true; the input reads as it did. -/
def flowBalancesSpec : ChangeSpec := { name := "flowBalances", fn := fun _ => fun
  | [d1, d2, d3, d4] => { results := [.lit (.bool true)], args := [d1, d2, d3, d4] }
  | _ => none }
def flowBalancesRow : OpenClaim := { program := "ytpbndcmmclkdpaa", sum := "089fa9c7e4150ddb708a7da2fde1a1239bed32510620c27cbc587063a8f38370", func := "merino/merinolaw05.FlowBalances", spec := "flowBalances", unfollowed := true, recurses := true, apart := false }
def FlowBalancesSaid : Prop := flowBalancesRow.holds Try.pinned (OpenSpec.ofChange flowBalancesSpec)

/-- ITS FALSE NEIGHBOUR: 'it returns false'. Refute it at one input. -/
def flowBalancesWrong : ChangeSpec := { name := "flowBalances", fn := fun _ => fun
  | [d1, d2, d3, d4] => { results := [.lit (.bool false)], args := [d1, d2, d3, d4] }
  | _ => none }
def FlowBalancesWrongFalsely : Prop := flowBalancesRow.holds Try.pinned (OpenSpec.ofChange flowBalancesWrong)

/-- 'merinolaw05.FlowCertified': WHATEVER THE INPUT: true; the input reads as it did. -/
def flowCertifiedSpec : ChangeSpec := { name := "flowCertified", fn := fun _ => fun
  | [d1, d2, d3, d4, d5] => { results := [.lit (.bool true)], args := [d1, d2, d3, d4, d5] }
  | _ => none }
def flowCertifiedRow : OpenClaim := { program := "ytpbndcmmclkdpaa", sum := "089fa9c7e4150ddb708a7da2fde1a1239bed32510620c27cbc587063a8f38370", func := "merino/merinolaw05.FlowCertified", spec := "flowCertified", unfollowed := true, recurses := true, apart := false }
def FlowCertifiedSaid : Prop := flowCertifiedRow.holds Try.pinned (OpenSpec.ofChange flowCertifiedSpec)

/-- ITS FALSE NEIGHBOUR: 'it returns false'. Refute it at one input. -/
def flowCertifiedWrong : ChangeSpec := { name := "flowCertified", fn := fun _ => fun
  | [d1, d2, d3, d4, d5] => { results := [.lit (.bool false)], args := [d1, d2, d3, d4, d5] }
  | _ => none }
def FlowCertifiedWrongFalsely : Prop := flowCertifiedRow.holds Try.pinned (OpenSpec.ofChange flowCertifiedWrong)

/-- 'merinolaw05.FlowFills': WHATEVER THE INPUT: true; the input reads as it did. -/
def flowFillsSpec : ChangeSpec := { name := "flowFills", fn := fun _ => fun
  | [d1, d2, d3] => { results := [.lit (.bool true)], args := [d1, d2, d3] }
  | _ => none }
def flowFillsRow : OpenClaim := { program := "ytpbndcmmclkdpaa", sum := "089fa9c7e4150ddb708a7da2fde1a1239bed32510620c27cbc587063a8f38370", func := "merino/merinolaw05.FlowFills", spec := "flowFills", unfollowed := true, recurses := true, apart := false }
def FlowFillsSaid : Prop := flowFillsRow.holds Try.pinned (OpenSpec.ofChange flowFillsSpec)

/-- ITS FALSE NEIGHBOUR: 'it returns false'. Refute it at one input. -/
def flowFillsWrong : ChangeSpec := { name := "flowFills", fn := fun _ => fun
  | [d1, d2, d3] => { results := [.lit (.bool false)], args := [d1, d2, d3] }
  | _ => none }
def FlowFillsWrongFalsely : Prop := flowFillsRow.holds Try.pinned (OpenSpec.ofChange flowFillsWrong)

/-- 'merinolaw05.FlowFillCheap': WHATEVER THE INPUT: true; the input reads as it did. -/
def flowFillCheapSpec : ChangeSpec := { name := "flowFillCheap", fn := fun _ => fun
  | [d1, d2, d3, d4] => { results := [.lit (.bool true)], args := [d1, d2, d3, d4] }
  | _ => none }
def flowFillCheapRow : OpenClaim := { program := "ytpbndcmmclkdpaa", sum := "089fa9c7e4150ddb708a7da2fde1a1239bed32510620c27cbc587063a8f38370", func := "merino/merinolaw05.FlowFillCheap", spec := "flowFillCheap", unfollowed := true, recurses := true, apart := false }
def FlowFillCheapSaid : Prop := flowFillCheapRow.holds Try.pinned (OpenSpec.ofChange flowFillCheapSpec)

/-- ITS FALSE NEIGHBOUR: 'it returns false'. Refute it at one input. -/
def flowFillCheapWrong : ChangeSpec := { name := "flowFillCheap", fn := fun _ => fun
  | [d1, d2, d3, d4] => { results := [.lit (.bool false)], args := [d1, d2, d3, d4] }
  | _ => none }
def FlowFillCheapWrongFalsely : Prop := flowFillCheapRow.holds Try.pinned (OpenSpec.ofChange flowFillCheapWrong)

/-- 'merinolaw05.FlowFillGrows': WHATEVER THE INPUT: true; the input reads as it did. -/
def flowFillGrowsSpec : ChangeSpec := { name := "flowFillGrows", fn := fun _ => fun
  | [d1, d2, d3, d4, d5] => { results := [.lit (.bool true)], args := [d1, d2, d3, d4, d5] }
  | _ => none }
def flowFillGrowsRow : OpenClaim := { program := "ytpbndcmmclkdpaa", sum := "089fa9c7e4150ddb708a7da2fde1a1239bed32510620c27cbc587063a8f38370", func := "merino/merinolaw05.FlowFillGrows", spec := "flowFillGrows", unfollowed := true, recurses := true, apart := false }
def FlowFillGrowsSaid : Prop := flowFillGrowsRow.holds Try.pinned (OpenSpec.ofChange flowFillGrowsSpec)

/-- ITS FALSE NEIGHBOUR: 'it returns false'. Refute it at one input. -/
def flowFillGrowsWrong : ChangeSpec := { name := "flowFillGrows", fn := fun _ => fun
  | [d1, d2, d3, d4, d5] => { results := [.lit (.bool false)], args := [d1, d2, d3, d4, d5] }
  | _ => none }
def FlowFillGrowsWrongFalsely : Prop := flowFillGrowsRow.holds Try.pinned (OpenSpec.ofChange flowFillGrowsWrong)

/- THE SECOND FORM. 'bulk': how many values and letters a reading holds, each counted each time it is reached (what is shared counts as often as it is met; a slice's spare places count too). A statement '..UptoSaid' is the law's where the arguments, and the package variables that the reading takes, are together of bulk at most 1048576: NARROWER than '..Said'. Prove '..Said' where nothing that the law and all that it calls make is longer than what came in: it says more and counts as full. Else prove '..UptoSaid'. A law counts once. -/
mutual
def uptoBulk {H : Type} : DataW H → Nat
  | .lit (.string bytes) => bytes.length + 1
  | .lit _ => 1
  | .nil => 1
  | .ptr d => uptoBulk d + 1
  | .slice elems spare => uptoBulkAll elems + uptoBulkAll spare + 1
  | .agg parts => uptoBulkAll parts + 1
  | .iface _ d => uptoBulk d + 1
  | .map entries => uptoBulkEntries entries + 1
  | .held _ => 1
def uptoBulkAll {H : Type} : List (DataW H) → Nat
  | [] => 0
  | d :: r => uptoBulk d + uptoBulkAll r
def uptoBulkEntries {H : Type} : List (Lit × DataW H) → Nat
  | [] => 0
  | x :: r => uptoBulkEntry x + uptoBulkEntries r
def uptoBulkEntry {H : Type} : Lit × DataW H → Nat
  | (.string bytes, d) => bytes.length + uptoBulk d + 1
  | (_, d) => uptoBulk d + 1
 end
def uptoSmall : (H : Type) → List (DataW H) → Bool := fun _ ds => decide (uptoBulkAll ds ≤ 1048576)
def OpenSpec.upto (s : _root_.Go.ChangeSpec) : _root_.Go.OpenSpec := { _root_.Go.OpenSpec.ofChange s with cond := some uptoSmall }

/-- 'merinolaw05.FlowSolves', WHERE WHAT IT READS IS OF BULK AT MOST 1048576: true; the input reads as it did. -/
def flowSolvesUptoRow : OpenClaim := { program := "ytpbndcmmclkdpaa", sum := "089fa9c7e4150ddb708a7da2fde1a1239bed32510620c27cbc587063a8f38370", func := "merino/merinolaw05.FlowSolves", spec := "flowSolves", unfollowed := true, recurses := true, apart := false, narrowed := true }
def FlowSolvesUptoSaid : Prop := flowSolvesUptoRow.holds Try.pinned (OpenSpec.upto flowSolvesSpec)

/-- 'merinolaw05.FlowBlocks', WHERE WHAT IT READS IS OF BULK AT MOST 1048576: true; the input reads as it did. -/
def flowBlocksUptoRow : OpenClaim := { program := "ytpbndcmmclkdpaa", sum := "089fa9c7e4150ddb708a7da2fde1a1239bed32510620c27cbc587063a8f38370", func := "merino/merinolaw05.FlowBlocks", spec := "flowBlocks", unfollowed := true, recurses := true, apart := false, narrowed := true }
def FlowBlocksUptoSaid : Prop := flowBlocksUptoRow.holds Try.pinned (OpenSpec.upto flowBlocksSpec)

/-- 'merinolaw05.FlowEither', WHERE WHAT IT READS IS OF BULK AT MOST 1048576: true; the input reads as it did. -/
def flowEitherUptoRow : OpenClaim := { program := "ytpbndcmmclkdpaa", sum := "089fa9c7e4150ddb708a7da2fde1a1239bed32510620c27cbc587063a8f38370", func := "merino/merinolaw05.FlowEither", spec := "flowEither", unfollowed := true, recurses := true, apart := false, narrowed := true }
def FlowEitherUptoSaid : Prop := flowEitherUptoRow.holds Try.pinned (OpenSpec.upto flowEitherSpec)

/-- 'merinolaw05.FlowScales', WHERE WHAT IT READS IS OF BULK AT MOST 1048576: true; the input reads as it did. -/
def flowScalesUptoRow : OpenClaim := { program := "ytpbndcmmclkdpaa", sum := "089fa9c7e4150ddb708a7da2fde1a1239bed32510620c27cbc587063a8f38370", func := "merino/merinolaw05.FlowScales", spec := "flowScales", unfollowed := true, recurses := true, apart := false, narrowed := true }
def FlowScalesUptoSaid : Prop := flowScalesUptoRow.holds Try.pinned (OpenSpec.upto flowScalesSpec)

/-- 'merinolaw05.FlowRoom', WHERE WHAT IT READS IS OF BULK AT MOST 1048576: true; the input reads as it did. -/
def flowRoomUptoRow : OpenClaim := { program := "ytpbndcmmclkdpaa", sum := "089fa9c7e4150ddb708a7da2fde1a1239bed32510620c27cbc587063a8f38370", func := "merino/merinolaw05.FlowRoom", spec := "flowRoom", unfollowed := true, recurses := true, apart := false, narrowed := true }
def FlowRoomUptoSaid : Prop := flowRoomUptoRow.holds Try.pinned (OpenSpec.upto flowRoomSpec)

/-- 'merinolaw05.FlowSuits', WHERE WHAT IT READS IS OF BULK AT MOST 1048576: true; the input reads as it did. -/
def flowSuitsUptoRow : OpenClaim := { program := "ytpbndcmmclkdpaa", sum := "089fa9c7e4150ddb708a7da2fde1a1239bed32510620c27cbc587063a8f38370", func := "merino/merinolaw05.FlowSuits", spec := "flowSuits", unfollowed := true, recurses := true, apart := false, narrowed := true }
def FlowSuitsUptoSaid : Prop := flowSuitsUptoRow.holds Try.pinned (OpenSpec.upto flowSuitsSpec)

/-- 'merinolaw05.FlowCheap', WHERE WHAT IT READS IS OF BULK AT MOST 1048576: true; the input reads as it did. -/
def flowCheapUptoRow : OpenClaim := { program := "ytpbndcmmclkdpaa", sum := "089fa9c7e4150ddb708a7da2fde1a1239bed32510620c27cbc587063a8f38370", func := "merino/merinolaw05.FlowCheap", spec := "flowCheap", unfollowed := true, recurses := true, apart := false, narrowed := true }
def FlowCheapUptoSaid : Prop := flowCheapUptoRow.holds Try.pinned (OpenSpec.upto flowCheapSpec)

/-- 'merinolaw05.FlowBlends', WHERE WHAT IT READS IS OF BULK AT MOST 1048576: true; the input reads as it did. -/
def flowBlendsUptoRow : OpenClaim := { program := "ytpbndcmmclkdpaa", sum := "089fa9c7e4150ddb708a7da2fde1a1239bed32510620c27cbc587063a8f38370", func := "merino/merinolaw05.FlowBlends", spec := "flowBlends", unfollowed := true, recurses := true, apart := false, narrowed := true }
def FlowBlendsUptoSaid : Prop := flowBlendsUptoRow.holds Try.pinned (OpenSpec.upto flowBlendsSpec)

/-- 'merinolaw05.FlowBlendCheap', WHERE WHAT IT READS IS OF BULK AT MOST 1048576: true; the input reads as it did. -/
def flowBlendCheapUptoRow : OpenClaim := { program := "ytpbndcmmclkdpaa", sum := "089fa9c7e4150ddb708a7da2fde1a1239bed32510620c27cbc587063a8f38370", func := "merino/merinolaw05.FlowBlendCheap", spec := "flowBlendCheap", unfollowed := true, recurses := true, apart := false, narrowed := true }
def FlowBlendCheapUptoSaid : Prop := flowBlendCheapUptoRow.holds Try.pinned (OpenSpec.upto flowBlendCheapSpec)

/-- 'merinolaw05.FlowBalances', WHERE WHAT IT READS IS OF BULK AT MOST 1048576: true; the input reads as it did. -/
def flowBalancesUptoRow : OpenClaim := { program := "ytpbndcmmclkdpaa", sum := "089fa9c7e4150ddb708a7da2fde1a1239bed32510620c27cbc587063a8f38370", func := "merino/merinolaw05.FlowBalances", spec := "flowBalances", unfollowed := true, recurses := true, apart := false, narrowed := true }
def FlowBalancesUptoSaid : Prop := flowBalancesUptoRow.holds Try.pinned (OpenSpec.upto flowBalancesSpec)

/-- 'merinolaw05.FlowCertified', WHERE WHAT IT READS IS OF BULK AT MOST 1048576: true; the input reads as it did. -/
def flowCertifiedUptoRow : OpenClaim := { program := "ytpbndcmmclkdpaa", sum := "089fa9c7e4150ddb708a7da2fde1a1239bed32510620c27cbc587063a8f38370", func := "merino/merinolaw05.FlowCertified", spec := "flowCertified", unfollowed := true, recurses := true, apart := false, narrowed := true }
def FlowCertifiedUptoSaid : Prop := flowCertifiedUptoRow.holds Try.pinned (OpenSpec.upto flowCertifiedSpec)

/-- 'merinolaw05.FlowFills', WHERE WHAT IT READS IS OF BULK AT MOST 1048576: true; the input reads as it did. -/
def flowFillsUptoRow : OpenClaim := { program := "ytpbndcmmclkdpaa", sum := "089fa9c7e4150ddb708a7da2fde1a1239bed32510620c27cbc587063a8f38370", func := "merino/merinolaw05.FlowFills", spec := "flowFills", unfollowed := true, recurses := true, apart := false, narrowed := true }
def FlowFillsUptoSaid : Prop := flowFillsUptoRow.holds Try.pinned (OpenSpec.upto flowFillsSpec)

/-- 'merinolaw05.FlowFillCheap', WHERE WHAT IT READS IS OF BULK AT MOST 1048576: true; the input reads as it did. -/
def flowFillCheapUptoRow : OpenClaim := { program := "ytpbndcmmclkdpaa", sum := "089fa9c7e4150ddb708a7da2fde1a1239bed32510620c27cbc587063a8f38370", func := "merino/merinolaw05.FlowFillCheap", spec := "flowFillCheap", unfollowed := true, recurses := true, apart := false, narrowed := true }
def FlowFillCheapUptoSaid : Prop := flowFillCheapUptoRow.holds Try.pinned (OpenSpec.upto flowFillCheapSpec)

/-- 'merinolaw05.FlowFillGrows', WHERE WHAT IT READS IS OF BULK AT MOST 1048576: true; the input reads as it did. -/
def flowFillGrowsUptoRow : OpenClaim := { program := "ytpbndcmmclkdpaa", sum := "089fa9c7e4150ddb708a7da2fde1a1239bed32510620c27cbc587063a8f38370", func := "merino/merinolaw05.FlowFillGrows", spec := "flowFillGrows", unfollowed := true, recurses := true, apart := false, narrowed := true }
def FlowFillGrowsUptoSaid : Prop := flowFillGrowsUptoRow.holds Try.pinned (OpenSpec.upto flowFillGrowsSpec)

end Rows
end Go.Proofs.Ytpbndcmmclkdpaa
