/-
  No cell of these rows narrows 'for every input' (looked for: loops, veiled, ifaces, maps, wideKeys, modest, calm, conditions, laid).
  DERIVED. THE GIVEN ROWS OF THIS SEAT. 14 by the template 'for every input the law returns true; each argument reads behind the call as it read before'; 0 by the template 'total and deterministic' (their statements: YtpmopdgnnlhplaaTotals.lean).
  GIVEN WITH THE SEED: the statements are not yours to turn. If you find one false, say at which input.
  Laid BY PROGRAM, IN A SANDBOX (cutbox-rows.mjs): the forced cells as the released guide's own fill.sh prints them over the translation e925407481f0514d… (all of the seat's roots in one cut). By AI agents, Wed Nov 11 2026. No macro, syntax, notation, axiom, sorry.
-/
import Derived.Test.YtpmopdgnnlhplaaChecked
import GoSem.Claim
import GoSem.ClaimJoined
import GoSem.ClaimMapViews
import Derived.JoinedTies
import Derived.KernelRfl
namespace Go.Proofs.Ytpmopdgnnlhplaa
/- THE CELL 'sum', in the pinned program and in every row, IS THE sha256 OF THE DUMP (.gsa) THAT YtpmopdgnnlhplaaProg.lean LOADS. Nothing in Lean hashes anything: it is a label: what it is worth is what the hold of that sum in a sandbox is worth. -/
noncomputable def Try.pinned : Pinned := { name := "ytpmopdgnnlhplaa", sum := "e925407481f0514db75816070b61d0f42dbea50b35bb9932e34b01c7546e24be", checked := Try.checked }
namespace Rows
def none {H : Type} : Left H := { results := [], args := [] }

/-- 'merinolaw07.AccountsGrows': WHATEVER THE INPUT: true; the input reads as it did. -/
def accountsGrowsSpec : ChangeSpec := { name := "accountsGrows", fn := fun _ => fun
  | [d1, d2, d3] => { results := [.lit (.bool true)], args := [d1, d2, d3] }
  | _ => none }
def accountsGrowsRow : OpenClaim := { program := "ytpmopdgnnlhplaa", sum := "e925407481f0514db75816070b61d0f42dbea50b35bb9932e34b01c7546e24be", func := "merino/merinolaw07.AccountsGrows", spec := "accountsGrows", unfollowed := true, recurses := true, apart := false }
def AccountsGrowsSaid : Prop := accountsGrowsRow.holds Try.pinned (OpenSpec.ofChange accountsGrowsSpec)

/-- ITS FALSE NEIGHBOUR: 'it returns false'. Refute it at one input. -/
def accountsGrowsWrong : ChangeSpec := { name := "accountsGrows", fn := fun _ => fun
  | [d1, d2, d3] => { results := [.lit (.bool false)], args := [d1, d2, d3] }
  | _ => none }
def AccountsGrowsWrongFalsely : Prop := accountsGrowsRow.holds Try.pinned (OpenSpec.ofChange accountsGrowsWrong)

/-- 'merinolaw07.AccountsVerifies': WHATEVER THE INPUT: true; the input reads as it did. -/
def accountsVerifiesSpec : ChangeSpec := { name := "accountsVerifies", fn := fun _ => fun
  | [d] => { results := [.lit (.bool true)], args := [d] }
  | _ => none }
def accountsVerifiesRow : OpenClaim := { program := "ytpmopdgnnlhplaa", sum := "e925407481f0514db75816070b61d0f42dbea50b35bb9932e34b01c7546e24be", func := "merino/merinolaw07.AccountsVerifies", spec := "accountsVerifies", unfollowed := true, recurses := true, apart := false }
def AccountsVerifiesSaid : Prop := accountsVerifiesRow.holds Try.pinned (OpenSpec.ofChange accountsVerifiesSpec)

/-- ITS FALSE NEIGHBOUR: 'it returns false'. Refute it at one input. -/
def accountsVerifiesWrong : ChangeSpec := { name := "accountsVerifies", fn := fun _ => fun
  | [d] => { results := [.lit (.bool false)], args := [d] }
  | _ => none }
def AccountsVerifiesWrongFalsely : Prop := accountsVerifiesRow.holds Try.pinned (OpenSpec.ofChange accountsVerifiesWrong)

/-- 'merinolaw07.AccountsDates': WHATEVER THE INPUT: true; the input reads as it did. -/
def accountsDatesSpec : ChangeSpec := { name := "accountsDates", fn := fun _ => fun
  | [d1, d2] => { results := [.lit (.bool true)], args := [d1, d2] }
  | _ => none }
def accountsDatesRow : OpenClaim := { program := "ytpmopdgnnlhplaa", sum := "e925407481f0514db75816070b61d0f42dbea50b35bb9932e34b01c7546e24be", func := "merino/merinolaw07.AccountsDates", spec := "accountsDates", unfollowed := true, recurses := true, apart := false }
def AccountsDatesSaid : Prop := accountsDatesRow.holds Try.pinned (OpenSpec.ofChange accountsDatesSpec)

/-- ITS FALSE NEIGHBOUR: 'it returns false'. Refute it at one input. -/
def accountsDatesWrong : ChangeSpec := { name := "accountsDates", fn := fun _ => fun
  | [d1, d2] => { results := [.lit (.bool false)], args := [d1, d2] }
  | _ => none }
def AccountsDatesWrongFalsely : Prop := accountsDatesRow.holds Try.pinned (OpenSpec.ofChange accountsDatesWrong)

/-- 'merinolaw07.AccountsCalendar': WHATEVER THE INPUT: true; the input reads as it did. -/
def accountsCalendarSpec : ChangeSpec := { name := "accountsCalendar", fn := fun _ => fun
  | [d] => { results := [.lit (.bool true)], args := [d] }
  | _ => none }
def accountsCalendarRow : OpenClaim := { program := "ytpmopdgnnlhplaa", sum := "e925407481f0514db75816070b61d0f42dbea50b35bb9932e34b01c7546e24be", func := "merino/merinolaw07.AccountsCalendar", spec := "accountsCalendar", unfollowed := true, recurses := true, apart := false }
def AccountsCalendarSaid : Prop := accountsCalendarRow.holds Try.pinned (OpenSpec.ofChange accountsCalendarSpec)

/-- ITS FALSE NEIGHBOUR: 'it returns false'. Refute it at one input. -/
def accountsCalendarWrong : ChangeSpec := { name := "accountsCalendar", fn := fun _ => fun
  | [d] => { results := [.lit (.bool false)], args := [d] }
  | _ => none }
def AccountsCalendarWrongFalsely : Prop := accountsCalendarRow.holds Try.pinned (OpenSpec.ofChange accountsCalendarWrong)

/-- 'merinolaw07.AccountsFull': WHATEVER THE INPUT: true; the input reads as it did. -/
def accountsFullSpec : ChangeSpec := { name := "accountsFull", fn := fun _ => fun
  | [d] => { results := [.lit (.bool true)], args := [d] }
  | _ => none }
def accountsFullRow : OpenClaim := { program := "ytpmopdgnnlhplaa", sum := "e925407481f0514db75816070b61d0f42dbea50b35bb9932e34b01c7546e24be", func := "merino/merinolaw07.AccountsFull", spec := "accountsFull", unfollowed := true, recurses := true, apart := false }
def AccountsFullSaid : Prop := accountsFullRow.holds Try.pinned (OpenSpec.ofChange accountsFullSpec)

/-- ITS FALSE NEIGHBOUR: 'it returns false'. Refute it at one input. -/
def accountsFullWrong : ChangeSpec := { name := "accountsFull", fn := fun _ => fun
  | [d] => { results := [.lit (.bool false)], args := [d] }
  | _ => none }
def AccountsFullWrongFalsely : Prop := accountsFullRow.holds Try.pinned (OpenSpec.ofChange accountsFullWrong)

/-- 'merinolaw07.AccountsPlays': WHATEVER THE INPUT: true; the input reads as it did. -/
def accountsPlaysSpec : ChangeSpec := { name := "accountsPlays", fn := fun _ => fun
  | [d] => { results := [.lit (.bool true)], args := [d] }
  | _ => none }
def accountsPlaysRow : OpenClaim := { program := "ytpmopdgnnlhplaa", sum := "e925407481f0514db75816070b61d0f42dbea50b35bb9932e34b01c7546e24be", func := "merino/merinolaw07.AccountsPlays", spec := "accountsPlays", unfollowed := true, recurses := true, apart := false }
def AccountsPlaysSaid : Prop := accountsPlaysRow.holds Try.pinned (OpenSpec.ofChange accountsPlaysSpec)

/-- ITS FALSE NEIGHBOUR: 'it returns false'. Refute it at one input. -/
def accountsPlaysWrong : ChangeSpec := { name := "accountsPlays", fn := fun _ => fun
  | [d] => { results := [.lit (.bool false)], args := [d] }
  | _ => none }
def AccountsPlaysWrongFalsely : Prop := accountsPlaysRow.holds Try.pinned (OpenSpec.ofChange accountsPlaysWrong)

/-- 'merinolaw07.AccountsChain': WHATEVER THE INPUT: true; the input reads as it did. -/
def accountsChainSpec : ChangeSpec := { name := "accountsChain", fn := fun _ => fun
  | [d1, d2, d3, d4] => { results := [.lit (.bool true)], args := [d1, d2, d3, d4] }
  | _ => none }
def accountsChainRow : OpenClaim := { program := "ytpmopdgnnlhplaa", sum := "e925407481f0514db75816070b61d0f42dbea50b35bb9932e34b01c7546e24be", func := "merino/merinolaw07.AccountsChain", spec := "accountsChain", unfollowed := true, recurses := true, apart := false }
def AccountsChainSaid : Prop := accountsChainRow.holds Try.pinned (OpenSpec.ofChange accountsChainSpec)

/-- ITS FALSE NEIGHBOUR: 'it returns false'. Refute it at one input. -/
def accountsChainWrong : ChangeSpec := { name := "accountsChain", fn := fun _ => fun
  | [d1, d2, d3, d4] => { results := [.lit (.bool false)], args := [d1, d2, d3, d4] }
  | _ => none }
def AccountsChainWrongFalsely : Prop := accountsChainRow.holds Try.pinned (OpenSpec.ofChange accountsChainWrong)

/-- 'merinolaw07.AccountsReversed': WHATEVER THE INPUT: true; the input reads as it did. -/
def accountsReversedSpec : ChangeSpec := { name := "accountsReversed", fn := fun _ => fun
  | [d1, d2, d3, d4] => { results := [.lit (.bool true)], args := [d1, d2, d3, d4] }
  | _ => none }
def accountsReversedRow : OpenClaim := { program := "ytpmopdgnnlhplaa", sum := "e925407481f0514db75816070b61d0f42dbea50b35bb9932e34b01c7546e24be", func := "merino/merinolaw07.AccountsReversed", spec := "accountsReversed", inPlace := ["maps.clone"], unfollowed := true, recurses := true, apart := false }
def AccountsReversedSaid : Prop := accountsReversedRow.holds Try.pinned (OpenSpec.ofChange accountsReversedSpec)

/-- ITS FALSE NEIGHBOUR: 'it returns false'. Refute it at one input. -/
def accountsReversedWrong : ChangeSpec := { name := "accountsReversed", fn := fun _ => fun
  | [d1, d2, d3, d4] => { results := [.lit (.bool false)], args := [d1, d2, d3, d4] }
  | _ => none }
def AccountsReversedWrongFalsely : Prop := accountsReversedRow.holds Try.pinned (OpenSpec.ofChange accountsReversedWrong)

/-- 'merinolaw07.AccountsCopies': WHATEVER THE INPUT: true; the input reads as it did. -/
def accountsCopiesSpec : ChangeSpec := { name := "accountsCopies", fn := fun _ => fun
  | [d1, d2, d3] => { results := [.lit (.bool true)], args := [d1, d2, d3] }
  | _ => none }
def accountsCopiesRow : OpenClaim := { program := "ytpmopdgnnlhplaa", sum := "e925407481f0514db75816070b61d0f42dbea50b35bb9932e34b01c7546e24be", func := "merino/merinolaw07.AccountsCopies", spec := "accountsCopies", inPlace := ["maps.clone"], unfollowed := true, recurses := true, apart := false }
def AccountsCopiesSaid : Prop := accountsCopiesRow.holds Try.pinned (OpenSpec.ofChange accountsCopiesSpec)

/-- ITS FALSE NEIGHBOUR: 'it returns false'. Refute it at one input. -/
def accountsCopiesWrong : ChangeSpec := { name := "accountsCopies", fn := fun _ => fun
  | [d1, d2, d3] => { results := [.lit (.bool false)], args := [d1, d2, d3] }
  | _ => none }
def AccountsCopiesWrongFalsely : Prop := accountsCopiesRow.holds Try.pinned (OpenSpec.ofChange accountsCopiesWrong)

/-- 'merinolaw07.AccountsWorking': WHATEVER THE INPUT: true; the input reads as it did. -/
def accountsWorkingSpec : ChangeSpec := { name := "accountsWorking", fn := fun _ => fun
  | [d1, d2, d3] => { results := [.lit (.bool true)], args := [d1, d2, d3] }
  | _ => none }
def accountsWorkingRow : OpenClaim := { program := "ytpmopdgnnlhplaa", sum := "e925407481f0514db75816070b61d0f42dbea50b35bb9932e34b01c7546e24be", func := "merino/merinolaw07.AccountsWorking", spec := "accountsWorking", unfollowed := true, recurses := true, apart := false }
def AccountsWorkingSaid : Prop := accountsWorkingRow.holds Try.pinned (OpenSpec.ofChange accountsWorkingSpec)

/-- ITS FALSE NEIGHBOUR: 'it returns false'. Refute it at one input. -/
def accountsWorkingWrong : ChangeSpec := { name := "accountsWorking", fn := fun _ => fun
  | [d1, d2, d3] => { results := [.lit (.bool false)], args := [d1, d2, d3] }
  | _ => none }
def AccountsWorkingWrongFalsely : Prop := accountsWorkingRow.holds Try.pinned (OpenSpec.ofChange accountsWorkingWrong)

/-- 'merinolaw07.AccountsPrompt': WHATEVER THE INPUT: true; the input reads as it did. -/
def accountsPromptSpec : ChangeSpec := { name := "accountsPrompt", fn := fun _ => fun
  | [d1, d2, d3, d4] => { results := [.lit (.bool true)], args := [d1, d2, d3, d4] }
  | _ => none }
def accountsPromptRow : OpenClaim := { program := "ytpmopdgnnlhplaa", sum := "e925407481f0514db75816070b61d0f42dbea50b35bb9932e34b01c7546e24be", func := "merino/merinolaw07.AccountsPrompt", spec := "accountsPrompt", unfollowed := true, recurses := true, apart := false }
def AccountsPromptSaid : Prop := accountsPromptRow.holds Try.pinned (OpenSpec.ofChange accountsPromptSpec)

/-- ITS FALSE NEIGHBOUR: 'it returns false'. Refute it at one input. -/
def accountsPromptWrong : ChangeSpec := { name := "accountsPrompt", fn := fun _ => fun
  | [d1, d2, d3, d4] => { results := [.lit (.bool false)], args := [d1, d2, d3, d4] }
  | _ => none }
def AccountsPromptWrongFalsely : Prop := accountsPromptRow.holds Try.pinned (OpenSpec.ofChange accountsPromptWrong)

/-- 'merinolaw07.AccountsLooks': WHATEVER THE INPUT: true; the input reads as it did. -/
def accountsLooksSpec : ChangeSpec := { name := "accountsLooks", fn := fun _ => fun
  | [d1, d2, d3, d4] => { results := [.lit (.bool true)], args := [d1, d2, d3, d4] }
  | _ => none }
def accountsLooksRow : OpenClaim := { program := "ytpmopdgnnlhplaa", sum := "e925407481f0514db75816070b61d0f42dbea50b35bb9932e34b01c7546e24be", func := "merino/merinolaw07.AccountsLooks", spec := "accountsLooks", unfollowed := true, recurses := true, apart := false }
def AccountsLooksSaid : Prop := accountsLooksRow.holds Try.pinned (OpenSpec.ofChange accountsLooksSpec)

/-- ITS FALSE NEIGHBOUR: 'it returns false'. Refute it at one input. -/
def accountsLooksWrong : ChangeSpec := { name := "accountsLooks", fn := fun _ => fun
  | [d1, d2, d3, d4] => { results := [.lit (.bool false)], args := [d1, d2, d3, d4] }
  | _ => none }
def AccountsLooksWrongFalsely : Prop := accountsLooksRow.holds Try.pinned (OpenSpec.ofChange accountsLooksWrong)

/-- 'merinolaw07.AccountsBalance': WHATEVER THE INPUT: true; the input reads as it did. -/
def accountsBalanceSpec : ChangeSpec := { name := "accountsBalance", fn := fun _ => fun
  | [d1, d2, d3] => { results := [.lit (.bool true)], args := [d1, d2, d3] }
  | _ => none }
def accountsBalanceRow : OpenClaim := { program := "ytpmopdgnnlhplaa", sum := "e925407481f0514db75816070b61d0f42dbea50b35bb9932e34b01c7546e24be", func := "merino/merinolaw07.AccountsBalance", spec := "accountsBalance", unfollowed := true, recurses := true, apart := false }
def AccountsBalanceSaid : Prop := accountsBalanceRow.holds Try.pinned (OpenSpec.ofChange accountsBalanceSpec)

/-- ITS FALSE NEIGHBOUR: 'it returns false'. Refute it at one input. -/
def accountsBalanceWrong : ChangeSpec := { name := "accountsBalance", fn := fun _ => fun
  | [d1, d2, d3] => { results := [.lit (.bool false)], args := [d1, d2, d3] }
  | _ => none }
def AccountsBalanceWrongFalsely : Prop := accountsBalanceRow.holds Try.pinned (OpenSpec.ofChange accountsBalanceWrong)

/-- 'merinolaw07.AccountsNobody': WHATEVER THE INPUT: true; the input reads as it did. -/
def accountsNobodySpec : ChangeSpec := { name := "accountsNobody", fn := fun _ => fun
  | [d1, d2] => { results := [.lit (.bool true)], args := [d1, d2] }
  | _ => none }
def accountsNobodyRow : OpenClaim := { program := "ytpmopdgnnlhplaa", sum := "e925407481f0514db75816070b61d0f42dbea50b35bb9932e34b01c7546e24be", func := "merino/merinolaw07.AccountsNobody", spec := "accountsNobody", inPlace := ["maps.clone"], unfollowed := true, recurses := true, apart := false }
def AccountsNobodySaid : Prop := accountsNobodyRow.holds Try.pinned (OpenSpec.ofChange accountsNobodySpec)

/-- ITS FALSE NEIGHBOUR: 'it returns false'. Refute it at one input. -/
def accountsNobodyWrong : ChangeSpec := { name := "accountsNobody", fn := fun _ => fun
  | [d1, d2] => { results := [.lit (.bool false)], args := [d1, d2] }
  | _ => none }
def AccountsNobodyWrongFalsely : Prop := accountsNobodyRow.holds Try.pinned (OpenSpec.ofChange accountsNobodyWrong)

/- THE SECOND FORM. 'bulk': how many values and letters a reading holds, each counted each time it is reached (what is shared counts as often as it is met; a slice's spare places count too). A statement '..UptoSaid' is the law's where the arguments, and the package variables that the reading takes, are together of bulk at most 1048576: NARROWER than '..Said'. Prove '..Said' where nothing that the law and all that it calls make is longer than what came in: it says more and counts as full. Else prove '..UptoSaid'. A law counts once. -/
mutual
def uptoBulk {H : Type} : DataW H → Nat
  | .lit (.string bytes) => bytes.length + 1
  | .lit _ => 1
  | .nil => 1
  | .ptr d => uptoBulk d + 1
  | .slice elems spare => uptoBulkAll elems + uptoBulkAll spare + 1
  | .agg parts => uptoBulkAll parts + 1
  | .iface _ d => uptoBulk d + 1
  | .map entries => uptoBulkEntries entries + 1
  | .held _ => 1
def uptoBulkAll {H : Type} : List (DataW H) → Nat
  | [] => 0
  | d :: r => uptoBulk d + uptoBulkAll r
def uptoBulkEntries {H : Type} : List (Lit × DataW H) → Nat
  | [] => 0
  | x :: r => uptoBulkEntry x + uptoBulkEntries r
def uptoBulkEntry {H : Type} : Lit × DataW H → Nat
  | (.string bytes, d) => bytes.length + uptoBulk d + 1
  | (_, d) => uptoBulk d + 1
 end
def uptoSmall : (H : Type) → List (DataW H) → Bool := fun _ ds => decide (uptoBulkAll ds ≤ 1048576)
def OpenSpec.upto (s : _root_.Go.ChangeSpec) : _root_.Go.OpenSpec := { _root_.Go.OpenSpec.ofChange s with cond := some uptoSmall }

/-- 'merinolaw07.AccountsGrows', WHERE WHAT IT READS IS OF BULK AT MOST 1048576: true; the input reads as it did. -/
def accountsGrowsUptoRow : OpenClaim := { program := "ytpmopdgnnlhplaa", sum := "e925407481f0514db75816070b61d0f42dbea50b35bb9932e34b01c7546e24be", func := "merino/merinolaw07.AccountsGrows", spec := "accountsGrows", unfollowed := true, recurses := true, apart := false, narrowed := true }
def AccountsGrowsUptoSaid : Prop := accountsGrowsUptoRow.holds Try.pinned (OpenSpec.upto accountsGrowsSpec)

/-- 'merinolaw07.AccountsVerifies', WHERE WHAT IT READS IS OF BULK AT MOST 1048576: true; the input reads as it did. -/
def accountsVerifiesUptoRow : OpenClaim := { program := "ytpmopdgnnlhplaa", sum := "e925407481f0514db75816070b61d0f42dbea50b35bb9932e34b01c7546e24be", func := "merino/merinolaw07.AccountsVerifies", spec := "accountsVerifies", unfollowed := true, recurses := true, apart := false, narrowed := true }
def AccountsVerifiesUptoSaid : Prop := accountsVerifiesUptoRow.holds Try.pinned (OpenSpec.upto accountsVerifiesSpec)

/-- 'merinolaw07.AccountsDates', WHERE WHAT IT READS IS OF BULK AT MOST 1048576: true; the input reads as it did. -/
def accountsDatesUptoRow : OpenClaim := { program := "ytpmopdgnnlhplaa", sum := "e925407481f0514db75816070b61d0f42dbea50b35bb9932e34b01c7546e24be", func := "merino/merinolaw07.AccountsDates", spec := "accountsDates", unfollowed := true, recurses := true, apart := false, narrowed := true }
def AccountsDatesUptoSaid : Prop := accountsDatesUptoRow.holds Try.pinned (OpenSpec.upto accountsDatesSpec)

/-- 'merinolaw07.AccountsCalendar', WHERE WHAT IT READS IS OF BULK AT MOST 1048576: true; the input reads as it did. -/
def accountsCalendarUptoRow : OpenClaim := { program := "ytpmopdgnnlhplaa", sum := "e925407481f0514db75816070b61d0f42dbea50b35bb9932e34b01c7546e24be", func := "merino/merinolaw07.AccountsCalendar", spec := "accountsCalendar", unfollowed := true, recurses := true, apart := false, narrowed := true }
def AccountsCalendarUptoSaid : Prop := accountsCalendarUptoRow.holds Try.pinned (OpenSpec.upto accountsCalendarSpec)

/-- 'merinolaw07.AccountsFull', WHERE WHAT IT READS IS OF BULK AT MOST 1048576: true; the input reads as it did. -/
def accountsFullUptoRow : OpenClaim := { program := "ytpmopdgnnlhplaa", sum := "e925407481f0514db75816070b61d0f42dbea50b35bb9932e34b01c7546e24be", func := "merino/merinolaw07.AccountsFull", spec := "accountsFull", unfollowed := true, recurses := true, apart := false, narrowed := true }
def AccountsFullUptoSaid : Prop := accountsFullUptoRow.holds Try.pinned (OpenSpec.upto accountsFullSpec)

/-- 'merinolaw07.AccountsPlays', WHERE WHAT IT READS IS OF BULK AT MOST 1048576: true; the input reads as it did. -/
def accountsPlaysUptoRow : OpenClaim := { program := "ytpmopdgnnlhplaa", sum := "e925407481f0514db75816070b61d0f42dbea50b35bb9932e34b01c7546e24be", func := "merino/merinolaw07.AccountsPlays", spec := "accountsPlays", unfollowed := true, recurses := true, apart := false, narrowed := true }
def AccountsPlaysUptoSaid : Prop := accountsPlaysUptoRow.holds Try.pinned (OpenSpec.upto accountsPlaysSpec)

/-- 'merinolaw07.AccountsChain', WHERE WHAT IT READS IS OF BULK AT MOST 1048576: true; the input reads as it did. -/
def accountsChainUptoRow : OpenClaim := { program := "ytpmopdgnnlhplaa", sum := "e925407481f0514db75816070b61d0f42dbea50b35bb9932e34b01c7546e24be", func := "merino/merinolaw07.AccountsChain", spec := "accountsChain", unfollowed := true, recurses := true, apart := false, narrowed := true }
def AccountsChainUptoSaid : Prop := accountsChainUptoRow.holds Try.pinned (OpenSpec.upto accountsChainSpec)

/-- 'merinolaw07.AccountsReversed', WHERE WHAT IT READS IS OF BULK AT MOST 1048576: true; the input reads as it did. -/
def accountsReversedUptoRow : OpenClaim := { program := "ytpmopdgnnlhplaa", sum := "e925407481f0514db75816070b61d0f42dbea50b35bb9932e34b01c7546e24be", func := "merino/merinolaw07.AccountsReversed", spec := "accountsReversed", inPlace := ["maps.clone"], unfollowed := true, recurses := true, apart := false, narrowed := true }
def AccountsReversedUptoSaid : Prop := accountsReversedUptoRow.holds Try.pinned (OpenSpec.upto accountsReversedSpec)

/-- 'merinolaw07.AccountsCopies', WHERE WHAT IT READS IS OF BULK AT MOST 1048576: true; the input reads as it did. -/
def accountsCopiesUptoRow : OpenClaim := { program := "ytpmopdgnnlhplaa", sum := "e925407481f0514db75816070b61d0f42dbea50b35bb9932e34b01c7546e24be", func := "merino/merinolaw07.AccountsCopies", spec := "accountsCopies", inPlace := ["maps.clone"], unfollowed := true, recurses := true, apart := false, narrowed := true }
def AccountsCopiesUptoSaid : Prop := accountsCopiesUptoRow.holds Try.pinned (OpenSpec.upto accountsCopiesSpec)

/-- 'merinolaw07.AccountsWorking', WHERE WHAT IT READS IS OF BULK AT MOST 1048576: true; the input reads as it did. -/
def accountsWorkingUptoRow : OpenClaim := { program := "ytpmopdgnnlhplaa", sum := "e925407481f0514db75816070b61d0f42dbea50b35bb9932e34b01c7546e24be", func := "merino/merinolaw07.AccountsWorking", spec := "accountsWorking", unfollowed := true, recurses := true, apart := false, narrowed := true }
def AccountsWorkingUptoSaid : Prop := accountsWorkingUptoRow.holds Try.pinned (OpenSpec.upto accountsWorkingSpec)

/-- 'merinolaw07.AccountsPrompt', WHERE WHAT IT READS IS OF BULK AT MOST 1048576: true; the input reads as it did. -/
def accountsPromptUptoRow : OpenClaim := { program := "ytpmopdgnnlhplaa", sum := "e925407481f0514db75816070b61d0f42dbea50b35bb9932e34b01c7546e24be", func := "merino/merinolaw07.AccountsPrompt", spec := "accountsPrompt", unfollowed := true, recurses := true, apart := false, narrowed := true }
def AccountsPromptUptoSaid : Prop := accountsPromptUptoRow.holds Try.pinned (OpenSpec.upto accountsPromptSpec)

/-- 'merinolaw07.AccountsLooks', WHERE WHAT IT READS IS OF BULK AT MOST 1048576: true; the input reads as it did. -/
def accountsLooksUptoRow : OpenClaim := { program := "ytpmopdgnnlhplaa", sum := "e925407481f0514db75816070b61d0f42dbea50b35bb9932e34b01c7546e24be", func := "merino/merinolaw07.AccountsLooks", spec := "accountsLooks", unfollowed := true, recurses := true, apart := false, narrowed := true }
def AccountsLooksUptoSaid : Prop := accountsLooksUptoRow.holds Try.pinned (OpenSpec.upto accountsLooksSpec)

/-- 'merinolaw07.AccountsBalance', WHERE WHAT IT READS IS OF BULK AT MOST 1048576: true; the input reads as it did. -/
def accountsBalanceUptoRow : OpenClaim := { program := "ytpmopdgnnlhplaa", sum := "e925407481f0514db75816070b61d0f42dbea50b35bb9932e34b01c7546e24be", func := "merino/merinolaw07.AccountsBalance", spec := "accountsBalance", unfollowed := true, recurses := true, apart := false, narrowed := true }
def AccountsBalanceUptoSaid : Prop := accountsBalanceUptoRow.holds Try.pinned (OpenSpec.upto accountsBalanceSpec)

/-- 'merinolaw07.AccountsNobody', WHERE WHAT IT READS IS OF BULK AT MOST 1048576: true; the input reads as it did. -/
def accountsNobodyUptoRow : OpenClaim := { program := "ytpmopdgnnlhplaa", sum := "e925407481f0514db75816070b61d0f42dbea50b35bb9932e34b01c7546e24be", func := "merino/merinolaw07.AccountsNobody", spec := "accountsNobody", inPlace := ["maps.clone"], unfollowed := true, recurses := true, apart := false, narrowed := true }
def AccountsNobodyUptoSaid : Prop := accountsNobodyUptoRow.holds Try.pinned (OpenSpec.upto accountsNobodySpec)

end Rows
end Go.Proofs.Ytpmopdgnnlhplaa
