/-
  No cell of these rows narrows 'for every input' (looked for: loops, veiled, ifaces, maps, wideKeys, modest, calm, conditions, laid).
  DERIVED. THE GIVEN ROWS OF THIS SEAT. 12 by the template 'for every input the law returns true; each argument reads behind the call as it read before'; 0 by the template 'total and deterministic' (their statements: YtkoiolkkceknhaaTotals.lean).
  GIVEN WITH THE SEED: the statements are not yours to turn. If you find one false, say at which input.
  Laid BY PROGRAM, IN A SANDBOX (cutbox-rows.mjs): the forced cells as the released guide's own fill.sh prints them over the translation 9b09225b0a832f38… (all of the seat's roots in one cut). By AI agents, Wed Nov 11 2026. No macro, syntax, notation, axiom, sorry.
-/
import Derived.Test.YtkoiolkkceknhaaChecked
import GoSem.Claim
import GoSem.ClaimJoined
import GoSem.ClaimMapViews
import Derived.JoinedTies
import Derived.KernelRfl
namespace Go.Proofs.Ytkoiolkkceknhaa
/- THE CELL 'sum', in the pinned program and in every row, IS THE sha256 OF THE DUMP (.gsa) THAT YtkoiolkkceknhaaProg.lean LOADS. Nothing in Lean hashes anything: it is a label: what it is worth is what the hold of that sum in a sandbox is worth. -/
noncomputable def Try.pinned : Pinned := { name := "ytkoiolkkceknhaa", sum := "9b09225b0a832f3886856170137a2a7bb5ce851fbfc8728d3c1c51cefdb37d13", checked := Try.checked }
namespace Rows
def none {H : Type} : Left H := { results := [], args := [] }

/-- 'laws.FnExactAreCustomers': WHATEVER THE INPUT: true; the input reads as it did. -/
def fnExactAreCustomersSpec : ChangeSpec := { name := "fnExactAreCustomers", fn := fun _ => fun
  | [d] => { results := [.lit (.bool true)], args := [d] }
  | _ => none }
def fnExactAreCustomersRow : OpenClaim := { program := "ytkoiolkkceknhaa", sum := "9b09225b0a832f3886856170137a2a7bb5ce851fbfc8728d3c1c51cefdb37d13", func := "loop.example/g01211/laws.FnExactAreCustomers", spec := "fnExactAreCustomers", apart := false }
def FnExactAreCustomersSaid : Prop := fnExactAreCustomersRow.holds Try.pinned (OpenSpec.ofChange fnExactAreCustomersSpec)

/-- ITS FALSE NEIGHBOUR: 'it returns false'. Refute it at one input. -/
def fnExactAreCustomersWrong : ChangeSpec := { name := "fnExactAreCustomers", fn := fun _ => fun
  | [d] => { results := [.lit (.bool false)], args := [d] }
  | _ => none }
def FnExactAreCustomersWrongFalsely : Prop := fnExactAreCustomersRow.holds Try.pinned (OpenSpec.ofChange fnExactAreCustomersWrong)

/-- 'laws.FnExactWorkLeft': WHATEVER THE INPUT: true; the input reads as it did. -/
def fnExactWorkLeftSpec : ChangeSpec := { name := "fnExactWorkLeft", fn := fun _ => fun
  | [d1, d2] => { results := [.lit (.bool true)], args := [d1, d2] }
  | _ => none }
def fnExactWorkLeftRow : OpenClaim := { program := "ytkoiolkkceknhaa", sum := "9b09225b0a832f3886856170137a2a7bb5ce851fbfc8728d3c1c51cefdb37d13", func := "loop.example/g01211/laws.FnExactWorkLeft", spec := "fnExactWorkLeft", apart := false }
def FnExactWorkLeftSaid : Prop := fnExactWorkLeftRow.holds Try.pinned (OpenSpec.ofChange fnExactWorkLeftSpec)

/-- ITS FALSE NEIGHBOUR: 'it returns false'. Refute it at one input. -/
def fnExactWorkLeftWrong : ChangeSpec := { name := "fnExactWorkLeft", fn := fun _ => fun
  | [d1, d2] => { results := [.lit (.bool false)], args := [d1, d2] }
  | _ => none }
def FnExactWorkLeftWrongFalsely : Prop := fnExactWorkLeftRow.holds Try.pinned (OpenSpec.ofChange fnExactWorkLeftWrong)

/-- 'laws.FnExactTimeInSystem': WHATEVER THE INPUT: true; the input reads as it did. -/
def fnExactTimeInSystemSpec : ChangeSpec := { name := "fnExactTimeInSystem", fn := fun _ => fun
  | [d1, d2] => { results := [.lit (.bool true)], args := [d1, d2] }
  | _ => none }
def fnExactTimeInSystemRow : OpenClaim := { program := "ytkoiolkkceknhaa", sum := "9b09225b0a832f3886856170137a2a7bb5ce851fbfc8728d3c1c51cefdb37d13", func := "loop.example/g01211/laws.FnExactTimeInSystem", spec := "fnExactTimeInSystem", unfollowed := true, recurses := true, apart := false }
def FnExactTimeInSystemSaid : Prop := fnExactTimeInSystemRow.holds Try.pinned (OpenSpec.ofChange fnExactTimeInSystemSpec)

/-- ITS FALSE NEIGHBOUR: 'it returns false'. Refute it at one input. -/
def fnExactTimeInSystemWrong : ChangeSpec := { name := "fnExactTimeInSystem", fn := fun _ => fun
  | [d1, d2] => { results := [.lit (.bool false)], args := [d1, d2] }
  | _ => none }
def FnExactTimeInSystemWrongFalsely : Prop := fnExactTimeInSystemRow.holds Try.pinned (OpenSpec.ofChange fnExactTimeInSystemWrong)

/-- 'laws.FnExactInSystem': WHATEVER THE INPUT: true; the input reads as it did. -/
def fnExactInSystemSpec : ChangeSpec := { name := "fnExactInSystem", fn := fun _ => fun
  | [d1, d2, d3] => { results := [.lit (.bool true)], args := [d1, d2, d3] }
  | _ => none }
def fnExactInSystemRow : OpenClaim := { program := "ytkoiolkkceknhaa", sum := "9b09225b0a832f3886856170137a2a7bb5ce851fbfc8728d3c1c51cefdb37d13", func := "loop.example/g01211/laws.FnExactInSystem", spec := "fnExactInSystem", unfollowed := true, recurses := true, apart := false }
def FnExactInSystemSaid : Prop := fnExactInSystemRow.holds Try.pinned (OpenSpec.ofChange fnExactInSystemSpec)

/-- ITS FALSE NEIGHBOUR: 'it returns false'. Refute it at one input. -/
def fnExactInSystemWrong : ChangeSpec := { name := "fnExactInSystem", fn := fun _ => fun
  | [d1, d2, d3] => { results := [.lit (.bool false)], args := [d1, d2, d3] }
  | _ => none }
def FnExactInSystemWrongFalsely : Prop := fnExactInSystemRow.holds Try.pinned (OpenSpec.ofChange fnExactInSystemWrong)

/-- 'laws.FnExactBusyTimes': WHATEVER THE INPUT: true; the input reads as it did. -/
def fnExactBusyTimesSpec : ChangeSpec := { name := "fnExactBusyTimes", fn := fun _ => fun
  | [d] => { results := [.lit (.bool true)], args := [d] }
  | _ => none }
def fnExactBusyTimesRow : OpenClaim := { program := "ytkoiolkkceknhaa", sum := "9b09225b0a832f3886856170137a2a7bb5ce851fbfc8728d3c1c51cefdb37d13", func := "loop.example/g01211/laws.FnExactBusyTimes", spec := "fnExactBusyTimes", apart := false }
def FnExactBusyTimesSaid : Prop := fnExactBusyTimesRow.holds Try.pinned (OpenSpec.ofChange fnExactBusyTimesSpec)

/-- ITS FALSE NEIGHBOUR: 'it returns false'. Refute it at one input. -/
def fnExactBusyTimesWrong : ChangeSpec := { name := "fnExactBusyTimes", fn := fun _ => fun
  | [d] => { results := [.lit (.bool false)], args := [d] }
  | _ => none }
def FnExactBusyTimesWrongFalsely : Prop := fnExactBusyTimesRow.holds Try.pinned (OpenSpec.ofChange fnExactBusyTimesWrong)

/-- 'laws.FnExactSameService': WHATEVER THE INPUT: true; the input reads as it did. -/
def fnExactSameServiceSpec : ChangeSpec := { name := "fnExactSameService", fn := fun _ => fun
  | [d1, d2] => { results := [.lit (.bool true)], args := [d1, d2] }
  | _ => none }
def fnExactSameServiceRow : OpenClaim := { program := "ytkoiolkkceknhaa", sum := "9b09225b0a832f3886856170137a2a7bb5ce851fbfc8728d3c1c51cefdb37d13", func := "loop.example/g01211/laws.FnExactSameService", spec := "fnExactSameService", unfollowed := true, recurses := true, apart := false }
def FnExactSameServiceSaid : Prop := fnExactSameServiceRow.holds Try.pinned (OpenSpec.ofChange fnExactSameServiceSpec)

/-- ITS FALSE NEIGHBOUR: 'it returns false'. Refute it at one input. -/
def fnExactSameServiceWrong : ChangeSpec := { name := "fnExactSameService", fn := fun _ => fun
  | [d1, d2] => { results := [.lit (.bool false)], args := [d1, d2] }
  | _ => none }
def FnExactSameServiceWrongFalsely : Prop := fnExactSameServiceRow.holds Try.pinned (OpenSpec.ofChange fnExactSameServiceWrong)

/-- 'laws.FnExactInterrupted': WHATEVER THE INPUT: true; the input reads as it did. -/
def fnExactInterruptedSpec : ChangeSpec := { name := "fnExactInterrupted", fn := fun _ => fun
  | [d] => { results := [.lit (.bool true)], args := [d] }
  | _ => none }
def fnExactInterruptedRow : OpenClaim := { program := "ytkoiolkkceknhaa", sum := "9b09225b0a832f3886856170137a2a7bb5ce851fbfc8728d3c1c51cefdb37d13", func := "loop.example/g01211/laws.FnExactInterrupted", spec := "fnExactInterrupted", unfollowed := true, recurses := true, apart := false }
def FnExactInterruptedSaid : Prop := fnExactInterruptedRow.holds Try.pinned (OpenSpec.ofChange fnExactInterruptedSpec)

/-- ITS FALSE NEIGHBOUR: 'it returns false'. Refute it at one input. -/
def fnExactInterruptedWrong : ChangeSpec := { name := "fnExactInterrupted", fn := fun _ => fun
  | [d] => { results := [.lit (.bool false)], args := [d] }
  | _ => none }
def FnExactInterruptedWrongFalsely : Prop := fnExactInterruptedRow.holds Try.pinned (OpenSpec.ofChange fnExactInterruptedWrong)

/-- 'laws.FnExactWithPatience': WHATEVER THE INPUT: true; the input reads as it did. -/
def fnExactWithPatienceSpec : ChangeSpec := { name := "fnExactWithPatience", fn := fun _ => fun
  | [d1, d2] => { results := [.lit (.bool true)], args := [d1, d2] }
  | _ => none }
def fnExactWithPatienceRow : OpenClaim := { program := "ytkoiolkkceknhaa", sum := "9b09225b0a832f3886856170137a2a7bb5ce851fbfc8728d3c1c51cefdb37d13", func := "loop.example/g01211/laws.FnExactWithPatience", spec := "fnExactWithPatience", unfollowed := true, recurses := true, apart := false }
def FnExactWithPatienceSaid : Prop := fnExactWithPatienceRow.holds Try.pinned (OpenSpec.ofChange fnExactWithPatienceSpec)

/-- ITS FALSE NEIGHBOUR: 'it returns false'. Refute it at one input. -/
def fnExactWithPatienceWrong : ChangeSpec := { name := "fnExactWithPatience", fn := fun _ => fun
  | [d1, d2] => { results := [.lit (.bool false)], args := [d1, d2] }
  | _ => none }
def FnExactWithPatienceWrongFalsely : Prop := fnExactWithPatienceRow.holds Try.pinned (OpenSpec.ofChange fnExactWithPatienceWrong)

/-- 'laws.FnExactMixCustomers': WHATEVER THE INPUT: true; the input reads as it did. -/
def fnExactMixCustomersSpec : ChangeSpec := { name := "fnExactMixCustomers", fn := fun _ => fun
  | [d1, d2] => { results := [.lit (.bool true)], args := [d1, d2] }
  | _ => none }
def fnExactMixCustomersRow : OpenClaim := { program := "ytkoiolkkceknhaa", sum := "9b09225b0a832f3886856170137a2a7bb5ce851fbfc8728d3c1c51cefdb37d13", func := "loop.example/g01211/laws.FnExactMixCustomers", spec := "fnExactMixCustomers", unfollowed := true, recurses := true, apart := false }
def FnExactMixCustomersSaid : Prop := fnExactMixCustomersRow.holds Try.pinned (OpenSpec.ofChange fnExactMixCustomersSpec)

/-- ITS FALSE NEIGHBOUR: 'it returns false'. Refute it at one input. -/
def fnExactMixCustomersWrong : ChangeSpec := { name := "fnExactMixCustomers", fn := fun _ => fun
  | [d1, d2] => { results := [.lit (.bool false)], args := [d1, d2] }
  | _ => none }
def FnExactMixCustomersWrongFalsely : Prop := fnExactMixCustomersRow.holds Try.pinned (OpenSpec.ofChange fnExactMixCustomersWrong)

/-- 'laws.FnExactStartsOf': WHATEVER THE INPUT: true; the input reads as it did. -/
def fnExactStartsOfSpec : ChangeSpec := { name := "fnExactStartsOf", fn := fun _ => fun
  | [d1, d2, d3] => { results := [.lit (.bool true)], args := [d1, d2, d3] }
  | _ => none }
def fnExactStartsOfRow : OpenClaim := { program := "ytkoiolkkceknhaa", sum := "9b09225b0a832f3886856170137a2a7bb5ce851fbfc8728d3c1c51cefdb37d13", func := "loop.example/g01211/laws.FnExactStartsOf", spec := "fnExactStartsOf", unfollowed := true, recurses := true, apart := false }
def FnExactStartsOfSaid : Prop := fnExactStartsOfRow.holds Try.pinned (OpenSpec.ofChange fnExactStartsOfSpec)

/-- ITS FALSE NEIGHBOUR: 'it returns false'. Refute it at one input. -/
def fnExactStartsOfWrong : ChangeSpec := { name := "fnExactStartsOf", fn := fun _ => fun
  | [d1, d2, d3] => { results := [.lit (.bool false)], args := [d1, d2, d3] }
  | _ => none }
def FnExactStartsOfWrongFalsely : Prop := fnExactStartsOfRow.holds Try.pinned (OpenSpec.ofChange fnExactStartsOfWrong)

/-- 'laws.FnExactLeavesOf': WHATEVER THE INPUT: true; the input reads as it did. -/
def fnExactLeavesOfSpec : ChangeSpec := { name := "fnExactLeavesOf", fn := fun _ => fun
  | [d1, d2, d3] => { results := [.lit (.bool true)], args := [d1, d2, d3] }
  | _ => none }
def fnExactLeavesOfRow : OpenClaim := { program := "ytkoiolkkceknhaa", sum := "9b09225b0a832f3886856170137a2a7bb5ce851fbfc8728d3c1c51cefdb37d13", func := "loop.example/g01211/laws.FnExactLeavesOf", spec := "fnExactLeavesOf", unfollowed := true, recurses := true, apart := false }
def FnExactLeavesOfSaid : Prop := fnExactLeavesOfRow.holds Try.pinned (OpenSpec.ofChange fnExactLeavesOfSpec)

/-- ITS FALSE NEIGHBOUR: 'it returns false'. Refute it at one input. -/
def fnExactLeavesOfWrong : ChangeSpec := { name := "fnExactLeavesOf", fn := fun _ => fun
  | [d1, d2, d3] => { results := [.lit (.bool false)], args := [d1, d2, d3] }
  | _ => none }
def FnExactLeavesOfWrongFalsely : Prop := fnExactLeavesOfRow.holds Try.pinned (OpenSpec.ofChange fnExactLeavesOfWrong)

/-- 'laws.FnExactWaitsOf': WHATEVER THE INPUT: true; the input reads as it did. -/
def fnExactWaitsOfSpec : ChangeSpec := { name := "fnExactWaitsOf", fn := fun _ => fun
  | [d1, d2, d3] => { results := [.lit (.bool true)], args := [d1, d2, d3] }
  | _ => none }
def fnExactWaitsOfRow : OpenClaim := { program := "ytkoiolkkceknhaa", sum := "9b09225b0a832f3886856170137a2a7bb5ce851fbfc8728d3c1c51cefdb37d13", func := "loop.example/g01211/laws.FnExactWaitsOf", spec := "fnExactWaitsOf", unfollowed := true, recurses := true, apart := false }
def FnExactWaitsOfSaid : Prop := fnExactWaitsOfRow.holds Try.pinned (OpenSpec.ofChange fnExactWaitsOfSpec)

/-- ITS FALSE NEIGHBOUR: 'it returns false'. Refute it at one input. -/
def fnExactWaitsOfWrong : ChangeSpec := { name := "fnExactWaitsOf", fn := fun _ => fun
  | [d1, d2, d3] => { results := [.lit (.bool false)], args := [d1, d2, d3] }
  | _ => none }
def FnExactWaitsOfWrongFalsely : Prop := fnExactWaitsOfRow.holds Try.pinned (OpenSpec.ofChange fnExactWaitsOfWrong)

/- THE SECOND FORM. 'bulk': how many values and letters a reading holds, each counted each time it is reached (what is shared counts as often as it is met; a slice's spare places count too). A statement '..UptoSaid' is the law's where the arguments, and the package variables that the reading takes, are together of bulk at most 1048576: NARROWER than '..Said'. Prove '..Said' where nothing that the law and all that it calls make is longer than what came in: it says more and counts as full. Else prove '..UptoSaid'. A law counts once. -/
mutual
def uptoBulk {H : Type} : DataW H → Nat
  | .lit (.string bytes) => bytes.length + 1
  | .lit _ => 1
  | .nil => 1
  | .ptr d => uptoBulk d + 1
  | .slice elems spare => uptoBulkAll elems + uptoBulkAll spare + 1
  | .agg parts => uptoBulkAll parts + 1
  | .iface _ d => uptoBulk d + 1
  | .map entries => uptoBulkEntries entries + 1
  | .held _ => 1
def uptoBulkAll {H : Type} : List (DataW H) → Nat
  | [] => 0
  | d :: r => uptoBulk d + uptoBulkAll r
def uptoBulkEntries {H : Type} : List (Lit × DataW H) → Nat
  | [] => 0
  | x :: r => uptoBulkEntry x + uptoBulkEntries r
def uptoBulkEntry {H : Type} : Lit × DataW H → Nat
  | (.string bytes, d) => bytes.length + uptoBulk d + 1
  | (_, d) => uptoBulk d + 1
 end
def uptoSmall : (H : Type) → List (DataW H) → Bool := fun _ ds => decide (uptoBulkAll ds ≤ 1048576)
def OpenSpec.upto (s : _root_.Go.ChangeSpec) : _root_.Go.OpenSpec := { _root_.Go.OpenSpec.ofChange s with cond := some uptoSmall }

/-- 'laws.FnExactAreCustomers', WHERE WHAT IT READS IS OF BULK AT MOST 1048576: true; the input reads as it did. -/
def fnExactAreCustomersUptoRow : OpenClaim := { program := "ytkoiolkkceknhaa", sum := "9b09225b0a832f3886856170137a2a7bb5ce851fbfc8728d3c1c51cefdb37d13", func := "loop.example/g01211/laws.FnExactAreCustomers", spec := "fnExactAreCustomers", apart := false, narrowed := true }
def FnExactAreCustomersUptoSaid : Prop := fnExactAreCustomersUptoRow.holds Try.pinned (OpenSpec.upto fnExactAreCustomersSpec)

/-- 'laws.FnExactWorkLeft', WHERE WHAT IT READS IS OF BULK AT MOST 1048576: true; the input reads as it did. -/
def fnExactWorkLeftUptoRow : OpenClaim := { program := "ytkoiolkkceknhaa", sum := "9b09225b0a832f3886856170137a2a7bb5ce851fbfc8728d3c1c51cefdb37d13", func := "loop.example/g01211/laws.FnExactWorkLeft", spec := "fnExactWorkLeft", apart := false, narrowed := true }
def FnExactWorkLeftUptoSaid : Prop := fnExactWorkLeftUptoRow.holds Try.pinned (OpenSpec.upto fnExactWorkLeftSpec)

/-- 'laws.FnExactTimeInSystem', WHERE WHAT IT READS IS OF BULK AT MOST 1048576: true; the input reads as it did. -/
def fnExactTimeInSystemUptoRow : OpenClaim := { program := "ytkoiolkkceknhaa", sum := "9b09225b0a832f3886856170137a2a7bb5ce851fbfc8728d3c1c51cefdb37d13", func := "loop.example/g01211/laws.FnExactTimeInSystem", spec := "fnExactTimeInSystem", unfollowed := true, recurses := true, apart := false, narrowed := true }
def FnExactTimeInSystemUptoSaid : Prop := fnExactTimeInSystemUptoRow.holds Try.pinned (OpenSpec.upto fnExactTimeInSystemSpec)

/-- 'laws.FnExactInSystem', WHERE WHAT IT READS IS OF BULK AT MOST 1048576: true; the input reads as it did. -/
def fnExactInSystemUptoRow : OpenClaim := { program := "ytkoiolkkceknhaa", sum := "9b09225b0a832f3886856170137a2a7bb5ce851fbfc8728d3c1c51cefdb37d13", func := "loop.example/g01211/laws.FnExactInSystem", spec := "fnExactInSystem", unfollowed := true, recurses := true, apart := false, narrowed := true }
def FnExactInSystemUptoSaid : Prop := fnExactInSystemUptoRow.holds Try.pinned (OpenSpec.upto fnExactInSystemSpec)

/-- 'laws.FnExactBusyTimes', WHERE WHAT IT READS IS OF BULK AT MOST 1048576: true; the input reads as it did. -/
def fnExactBusyTimesUptoRow : OpenClaim := { program := "ytkoiolkkceknhaa", sum := "9b09225b0a832f3886856170137a2a7bb5ce851fbfc8728d3c1c51cefdb37d13", func := "loop.example/g01211/laws.FnExactBusyTimes", spec := "fnExactBusyTimes", apart := false, narrowed := true }
def FnExactBusyTimesUptoSaid : Prop := fnExactBusyTimesUptoRow.holds Try.pinned (OpenSpec.upto fnExactBusyTimesSpec)

/-- 'laws.FnExactSameService', WHERE WHAT IT READS IS OF BULK AT MOST 1048576: true; the input reads as it did. -/
def fnExactSameServiceUptoRow : OpenClaim := { program := "ytkoiolkkceknhaa", sum := "9b09225b0a832f3886856170137a2a7bb5ce851fbfc8728d3c1c51cefdb37d13", func := "loop.example/g01211/laws.FnExactSameService", spec := "fnExactSameService", unfollowed := true, recurses := true, apart := false, narrowed := true }
def FnExactSameServiceUptoSaid : Prop := fnExactSameServiceUptoRow.holds Try.pinned (OpenSpec.upto fnExactSameServiceSpec)

/-- 'laws.FnExactInterrupted', WHERE WHAT IT READS IS OF BULK AT MOST 1048576: true; the input reads as it did. -/
def fnExactInterruptedUptoRow : OpenClaim := { program := "ytkoiolkkceknhaa", sum := "9b09225b0a832f3886856170137a2a7bb5ce851fbfc8728d3c1c51cefdb37d13", func := "loop.example/g01211/laws.FnExactInterrupted", spec := "fnExactInterrupted", unfollowed := true, recurses := true, apart := false, narrowed := true }
def FnExactInterruptedUptoSaid : Prop := fnExactInterruptedUptoRow.holds Try.pinned (OpenSpec.upto fnExactInterruptedSpec)

/-- 'laws.FnExactWithPatience', WHERE WHAT IT READS IS OF BULK AT MOST 1048576: true; the input reads as it did. -/
def fnExactWithPatienceUptoRow : OpenClaim := { program := "ytkoiolkkceknhaa", sum := "9b09225b0a832f3886856170137a2a7bb5ce851fbfc8728d3c1c51cefdb37d13", func := "loop.example/g01211/laws.FnExactWithPatience", spec := "fnExactWithPatience", unfollowed := true, recurses := true, apart := false, narrowed := true }
def FnExactWithPatienceUptoSaid : Prop := fnExactWithPatienceUptoRow.holds Try.pinned (OpenSpec.upto fnExactWithPatienceSpec)

/-- 'laws.FnExactMixCustomers', WHERE WHAT IT READS IS OF BULK AT MOST 1048576: true; the input reads as it did. -/
def fnExactMixCustomersUptoRow : OpenClaim := { program := "ytkoiolkkceknhaa", sum := "9b09225b0a832f3886856170137a2a7bb5ce851fbfc8728d3c1c51cefdb37d13", func := "loop.example/g01211/laws.FnExactMixCustomers", spec := "fnExactMixCustomers", unfollowed := true, recurses := true, apart := false, narrowed := true }
def FnExactMixCustomersUptoSaid : Prop := fnExactMixCustomersUptoRow.holds Try.pinned (OpenSpec.upto fnExactMixCustomersSpec)

/-- 'laws.FnExactStartsOf', WHERE WHAT IT READS IS OF BULK AT MOST 1048576: true; the input reads as it did. -/
def fnExactStartsOfUptoRow : OpenClaim := { program := "ytkoiolkkceknhaa", sum := "9b09225b0a832f3886856170137a2a7bb5ce851fbfc8728d3c1c51cefdb37d13", func := "loop.example/g01211/laws.FnExactStartsOf", spec := "fnExactStartsOf", unfollowed := true, recurses := true, apart := false, narrowed := true }
def FnExactStartsOfUptoSaid : Prop := fnExactStartsOfUptoRow.holds Try.pinned (OpenSpec.upto fnExactStartsOfSpec)

/-- 'laws.FnExactLeavesOf', WHERE WHAT IT READS IS OF BULK AT MOST 1048576: true; the input reads as it did. -/
def fnExactLeavesOfUptoRow : OpenClaim := { program := "ytkoiolkkceknhaa", sum := "9b09225b0a832f3886856170137a2a7bb5ce851fbfc8728d3c1c51cefdb37d13", func := "loop.example/g01211/laws.FnExactLeavesOf", spec := "fnExactLeavesOf", unfollowed := true, recurses := true, apart := false, narrowed := true }
def FnExactLeavesOfUptoSaid : Prop := fnExactLeavesOfUptoRow.holds Try.pinned (OpenSpec.upto fnExactLeavesOfSpec)

/-- 'laws.FnExactWaitsOf', WHERE WHAT IT READS IS OF BULK AT MOST 1048576: true; the input reads as it did. -/
def fnExactWaitsOfUptoRow : OpenClaim := { program := "ytkoiolkkceknhaa", sum := "9b09225b0a832f3886856170137a2a7bb5ce851fbfc8728d3c1c51cefdb37d13", func := "loop.example/g01211/laws.FnExactWaitsOf", spec := "fnExactWaitsOf", unfollowed := true, recurses := true, apart := false, narrowed := true }
def FnExactWaitsOfUptoSaid : Prop := fnExactWaitsOfUptoRow.holds Try.pinned (OpenSpec.upto fnExactWaitsOfSpec)

end Rows
end Go.Proofs.Ytkoiolkkceknhaa
