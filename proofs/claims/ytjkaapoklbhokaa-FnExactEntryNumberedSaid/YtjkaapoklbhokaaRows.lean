/-
  No cell of these rows narrows 'for every input' (looked for: loops, veiled, ifaces, maps, wideKeys, modest, calm, conditions, laid).
  DERIVED. THE GIVEN ROWS OF THIS SEAT. 7 by the template 'for every input the law returns true; each argument reads behind the call as it read before'; 0 by the template 'total and deterministic' (their statements: YtjkaapoklbhokaaTotals.lean).
  GIVEN WITH THE SEED: the statements are not yours to turn. If you find one false, say at which input.
  Laid BY PROGRAM, IN A SANDBOX (cutbox-rows.mjs): the forced cells as the released guide's own fill.sh prints them over the translation 818e71bae90d1722… (all of the seat's roots in one cut). By AI agents, Wed Nov 11 2026. No macro, syntax, notation, axiom, sorry.
-/
import Derived.Test.YtjkaapoklbhokaaChecked
import GoSem.Claim
import GoSem.ClaimJoined
import GoSem.ClaimMapViews
import Derived.JoinedTies
import Derived.KernelRfl
namespace Go.Proofs.Ytjkaapoklbhokaa
/- THE CELL 'sum', in the pinned program and in every row, IS THE sha256 OF THE DUMP (.gsa) THAT YtjkaapoklbhokaaProg.lean LOADS. Nothing in Lean hashes anything: it is a label: what it is worth is what the hold of that sum in a sandbox is worth. -/
noncomputable def Try.pinned : Pinned := { name := "ytjkaapoklbhokaa", sum := "818e71bae90d172202d2104d78b9bde787a6a89ef698bba5c72efa4482554436", checked := Try.checked }
namespace Rows
def none {H : Type} : Left H := { results := [], args := [] }

/-- 'laws.FnExactEventsOf': WHATEVER THE INPUT: true; the input reads as it did. -/
def fnExactEventsOfSpec : ChangeSpec := { name := "fnExactEventsOf", fn := fun _ => fun
  | [d1, d2] => { results := [.lit (.bool true)], args := [d1, d2] }
  | _ => none }
def fnExactEventsOfRow : OpenClaim := { program := "ytjkaapoklbhokaa", sum := "818e71bae90d172202d2104d78b9bde787a6a89ef698bba5c72efa4482554436", func := "loop.example/g00930/laws.FnExactEventsOf", spec := "fnExactEventsOf", apart := false }
def FnExactEventsOfSaid : Prop := fnExactEventsOfRow.holds Try.pinned (OpenSpec.ofChange fnExactEventsOfSpec)

/-- ITS FALSE NEIGHBOUR: 'it returns false'. Refute it at one input. -/
def fnExactEventsOfWrong : ChangeSpec := { name := "fnExactEventsOf", fn := fun _ => fun
  | [d1, d2] => { results := [.lit (.bool false)], args := [d1, d2] }
  | _ => none }
def FnExactEventsOfWrongFalsely : Prop := fnExactEventsOfRow.holds Try.pinned (OpenSpec.ofChange fnExactEventsOfWrong)

/-- 'laws.FnCounted': WHATEVER THE INPUT: true; the input reads as it did. -/
def fnCountedSpec : ChangeSpec := { name := "fnCounted", fn := fun _ => fun
  | [d1, d2] => { results := [.lit (.bool true)], args := [d1, d2] }
  | _ => none }
def fnCountedRow : OpenClaim := { program := "ytjkaapoklbhokaa", sum := "818e71bae90d172202d2104d78b9bde787a6a89ef698bba5c72efa4482554436", func := "loop.example/g00930/laws.FnCounted", spec := "fnCounted", apart := false }
def FnCountedSaid : Prop := fnCountedRow.holds Try.pinned (OpenSpec.ofChange fnCountedSpec)

/-- ITS FALSE NEIGHBOUR: 'it returns false'. Refute it at one input. -/
def fnCountedWrong : ChangeSpec := { name := "fnCounted", fn := fun _ => fun
  | [d1, d2] => { results := [.lit (.bool false)], args := [d1, d2] }
  | _ => none }
def FnCountedWrongFalsely : Prop := fnCountedRow.holds Try.pinned (OpenSpec.ofChange fnCountedWrong)

/-- 'laws.FnExactPackMachine': WHATEVER THE INPUT: true; the input reads as it did. -/
def fnExactPackMachineSpec : ChangeSpec := { name := "fnExactPackMachine", fn := fun _ => fun
  | [d] => { results := [.lit (.bool true)], args := [d] }
  | _ => none }
def fnExactPackMachineRow : OpenClaim := { program := "ytjkaapoklbhokaa", sum := "818e71bae90d172202d2104d78b9bde787a6a89ef698bba5c72efa4482554436", func := "loop.example/g00930/laws.FnExactPackMachine", spec := "fnExactPackMachine", apart := false }
def FnExactPackMachineSaid : Prop := fnExactPackMachineRow.holds Try.pinned (OpenSpec.ofChange fnExactPackMachineSpec)

/-- ITS FALSE NEIGHBOUR: 'it returns false'. Refute it at one input. -/
def fnExactPackMachineWrong : ChangeSpec := { name := "fnExactPackMachine", fn := fun _ => fun
  | [d] => { results := [.lit (.bool false)], args := [d] }
  | _ => none }
def FnExactPackMachineWrongFalsely : Prop := fnExactPackMachineRow.holds Try.pinned (OpenSpec.ofChange fnExactPackMachineWrong)

/-- 'laws.FnExactUnpackRegister': WHATEVER THE INPUT: true; the input reads as it did. -/
def fnExactUnpackRegisterSpec : ChangeSpec := { name := "fnExactUnpackRegister", fn := fun _ => fun
  | [d] => { results := [.lit (.bool true)], args := [d] }
  | _ => none }
def fnExactUnpackRegisterRow : OpenClaim := { program := "ytjkaapoklbhokaa", sum := "818e71bae90d172202d2104d78b9bde787a6a89ef698bba5c72efa4482554436", func := "loop.example/g00930/laws.FnExactUnpackRegister", spec := "fnExactUnpackRegister", apart := false }
def FnExactUnpackRegisterSaid : Prop := fnExactUnpackRegisterRow.holds Try.pinned (OpenSpec.ofChange fnExactUnpackRegisterSpec)

/-- ITS FALSE NEIGHBOUR: 'it returns false'. Refute it at one input. -/
def fnExactUnpackRegisterWrong : ChangeSpec := { name := "fnExactUnpackRegister", fn := fun _ => fun
  | [d] => { results := [.lit (.bool false)], args := [d] }
  | _ => none }
def FnExactUnpackRegisterWrongFalsely : Prop := fnExactUnpackRegisterRow.holds Try.pinned (OpenSpec.ofChange fnExactUnpackRegisterWrong)

/-- 'laws.FnExactUnpackMachine': WHATEVER THE INPUT: true; the input reads as it did. -/
def fnExactUnpackMachineSpec : ChangeSpec := { name := "fnExactUnpackMachine", fn := fun _ => fun
  | [d] => { results := [.lit (.bool true)], args := [d] }
  | _ => none }
def fnExactUnpackMachineRow : OpenClaim := { program := "ytjkaapoklbhokaa", sum := "818e71bae90d172202d2104d78b9bde787a6a89ef698bba5c72efa4482554436", func := "loop.example/g00930/laws.FnExactUnpackMachine", spec := "fnExactUnpackMachine", apart := false }
def FnExactUnpackMachineSaid : Prop := fnExactUnpackMachineRow.holds Try.pinned (OpenSpec.ofChange fnExactUnpackMachineSpec)

/-- ITS FALSE NEIGHBOUR: 'it returns false'. Refute it at one input. -/
def fnExactUnpackMachineWrong : ChangeSpec := { name := "fnExactUnpackMachine", fn := fun _ => fun
  | [d] => { results := [.lit (.bool false)], args := [d] }
  | _ => none }
def FnExactUnpackMachineWrongFalsely : Prop := fnExactUnpackMachineRow.holds Try.pinned (OpenSpec.ofChange fnExactUnpackMachineWrong)

/-- 'laws.FnExactEntryNumbered': WHATEVER THE INPUT: true; the input reads as it did. -/
def fnExactEntryNumberedSpec : ChangeSpec := { name := "fnExactEntryNumbered", fn := fun _ => fun
  | [d1, d2] => { results := [.lit (.bool true)], args := [d1, d2] }
  | _ => none }
def fnExactEntryNumberedRow : OpenClaim := { program := "ytjkaapoklbhokaa", sum := "818e71bae90d172202d2104d78b9bde787a6a89ef698bba5c72efa4482554436", func := "loop.example/g00930/laws.FnExactEntryNumbered", spec := "fnExactEntryNumbered", apart := false }
def FnExactEntryNumberedSaid : Prop := fnExactEntryNumberedRow.holds Try.pinned (OpenSpec.ofChange fnExactEntryNumberedSpec)

/-- ITS FALSE NEIGHBOUR: 'it returns false'. Refute it at one input. -/
def fnExactEntryNumberedWrong : ChangeSpec := { name := "fnExactEntryNumbered", fn := fun _ => fun
  | [d1, d2] => { results := [.lit (.bool false)], args := [d1, d2] }
  | _ => none }
def FnExactEntryNumberedWrongFalsely : Prop := fnExactEntryNumberedRow.holds Try.pinned (OpenSpec.ofChange fnExactEntryNumberedWrong)

/-- 'laws.FnExactRemoveEntry': WHATEVER THE INPUT: true; the input reads as it did. -/
def fnExactRemoveEntrySpec : ChangeSpec := { name := "fnExactRemoveEntry", fn := fun _ => fun
  | [d1, d2] => { results := [.lit (.bool true)], args := [d1, d2] }
  | _ => none }
def fnExactRemoveEntryRow : OpenClaim := { program := "ytjkaapoklbhokaa", sum := "818e71bae90d172202d2104d78b9bde787a6a89ef698bba5c72efa4482554436", func := "loop.example/g00930/laws.FnExactRemoveEntry", spec := "fnExactRemoveEntry", apart := false }
def FnExactRemoveEntrySaid : Prop := fnExactRemoveEntryRow.holds Try.pinned (OpenSpec.ofChange fnExactRemoveEntrySpec)

/-- ITS FALSE NEIGHBOUR: 'it returns false'. Refute it at one input. -/
def fnExactRemoveEntryWrong : ChangeSpec := { name := "fnExactRemoveEntry", fn := fun _ => fun
  | [d1, d2] => { results := [.lit (.bool false)], args := [d1, d2] }
  | _ => none }
def FnExactRemoveEntryWrongFalsely : Prop := fnExactRemoveEntryRow.holds Try.pinned (OpenSpec.ofChange fnExactRemoveEntryWrong)

/- THE SECOND FORM. 'bulk': how many values and letters a reading holds, each counted each time it is reached (what is shared counts as often as it is met; a slice's spare places count too). A statement '..UptoSaid' is the law's where the arguments, and the package variables that the reading takes, are together of bulk at most 1048576: NARROWER than '..Said'. Prove '..Said' where nothing that the law and all that it calls make is longer than what came in: it says more and counts as full. Else prove '..UptoSaid'. A law counts once. -/
mutual
def uptoBulk {H : Type} : DataW H → Nat
  | .lit (.string bytes) => bytes.length + 1
  | .lit _ => 1
  | .nil => 1
  | .ptr d => uptoBulk d + 1
  | .slice elems spare => uptoBulkAll elems + uptoBulkAll spare + 1
  | .agg parts => uptoBulkAll parts + 1
  | .iface _ d => uptoBulk d + 1
  | .map entries => uptoBulkEntries entries + 1
  | .held _ => 1
def uptoBulkAll {H : Type} : List (DataW H) → Nat
  | [] => 0
  | d :: r => uptoBulk d + uptoBulkAll r
def uptoBulkEntries {H : Type} : List (Lit × DataW H) → Nat
  | [] => 0
  | x :: r => uptoBulkEntry x + uptoBulkEntries r
def uptoBulkEntry {H : Type} : Lit × DataW H → Nat
  | (.string bytes, d) => bytes.length + uptoBulk d + 1
  | (_, d) => uptoBulk d + 1
 end
def uptoSmall : (H : Type) → List (DataW H) → Bool := fun _ ds => decide (uptoBulkAll ds ≤ 1048576)
def OpenSpec.upto (s : _root_.Go.ChangeSpec) : _root_.Go.OpenSpec := { _root_.Go.OpenSpec.ofChange s with cond := some uptoSmall }

/-- 'laws.FnExactEventsOf', WHERE WHAT IT READS IS OF BULK AT MOST 1048576: true; the input reads as it did. -/
def fnExactEventsOfUptoRow : OpenClaim := { program := "ytjkaapoklbhokaa", sum := "818e71bae90d172202d2104d78b9bde787a6a89ef698bba5c72efa4482554436", func := "loop.example/g00930/laws.FnExactEventsOf", spec := "fnExactEventsOf", apart := false, narrowed := true }
def FnExactEventsOfUptoSaid : Prop := fnExactEventsOfUptoRow.holds Try.pinned (OpenSpec.upto fnExactEventsOfSpec)

/-- 'laws.FnCounted', WHERE WHAT IT READS IS OF BULK AT MOST 1048576: true; the input reads as it did. -/
def fnCountedUptoRow : OpenClaim := { program := "ytjkaapoklbhokaa", sum := "818e71bae90d172202d2104d78b9bde787a6a89ef698bba5c72efa4482554436", func := "loop.example/g00930/laws.FnCounted", spec := "fnCounted", apart := false, narrowed := true }
def FnCountedUptoSaid : Prop := fnCountedUptoRow.holds Try.pinned (OpenSpec.upto fnCountedSpec)

/-- 'laws.FnExactPackMachine', WHERE WHAT IT READS IS OF BULK AT MOST 1048576: true; the input reads as it did. -/
def fnExactPackMachineUptoRow : OpenClaim := { program := "ytjkaapoklbhokaa", sum := "818e71bae90d172202d2104d78b9bde787a6a89ef698bba5c72efa4482554436", func := "loop.example/g00930/laws.FnExactPackMachine", spec := "fnExactPackMachine", apart := false, narrowed := true }
def FnExactPackMachineUptoSaid : Prop := fnExactPackMachineUptoRow.holds Try.pinned (OpenSpec.upto fnExactPackMachineSpec)

/-- 'laws.FnExactUnpackRegister', WHERE WHAT IT READS IS OF BULK AT MOST 1048576: true; the input reads as it did. -/
def fnExactUnpackRegisterUptoRow : OpenClaim := { program := "ytjkaapoklbhokaa", sum := "818e71bae90d172202d2104d78b9bde787a6a89ef698bba5c72efa4482554436", func := "loop.example/g00930/laws.FnExactUnpackRegister", spec := "fnExactUnpackRegister", apart := false, narrowed := true }
def FnExactUnpackRegisterUptoSaid : Prop := fnExactUnpackRegisterUptoRow.holds Try.pinned (OpenSpec.upto fnExactUnpackRegisterSpec)

/-- 'laws.FnExactUnpackMachine', WHERE WHAT IT READS IS OF BULK AT MOST 1048576: true; the input reads as it did. -/
def fnExactUnpackMachineUptoRow : OpenClaim := { program := "ytjkaapoklbhokaa", sum := "818e71bae90d172202d2104d78b9bde787a6a89ef698bba5c72efa4482554436", func := "loop.example/g00930/laws.FnExactUnpackMachine", spec := "fnExactUnpackMachine", apart := false, narrowed := true }
def FnExactUnpackMachineUptoSaid : Prop := fnExactUnpackMachineUptoRow.holds Try.pinned (OpenSpec.upto fnExactUnpackMachineSpec)

/-- 'laws.FnExactEntryNumbered', WHERE WHAT IT READS IS OF BULK AT MOST 1048576: true; the input reads as it did. -/
def fnExactEntryNumberedUptoRow : OpenClaim := { program := "ytjkaapoklbhokaa", sum := "818e71bae90d172202d2104d78b9bde787a6a89ef698bba5c72efa4482554436", func := "loop.example/g00930/laws.FnExactEntryNumbered", spec := "fnExactEntryNumbered", apart := false, narrowed := true }
def FnExactEntryNumberedUptoSaid : Prop := fnExactEntryNumberedUptoRow.holds Try.pinned (OpenSpec.upto fnExactEntryNumberedSpec)

/-- 'laws.FnExactRemoveEntry', WHERE WHAT IT READS IS OF BULK AT MOST 1048576: true; the input reads as it did. -/
def fnExactRemoveEntryUptoRow : OpenClaim := { program := "ytjkaapoklbhokaa", sum := "818e71bae90d172202d2104d78b9bde787a6a89ef698bba5c72efa4482554436", func := "loop.example/g00930/laws.FnExactRemoveEntry", spec := "fnExactRemoveEntry", apart := false, narrowed := true }
def FnExactRemoveEntryUptoSaid : Prop := fnExactRemoveEntryUptoRow.holds Try.pinned (OpenSpec.upto fnExactRemoveEntrySpec)

end Rows
end Go.Proofs.Ytjkaapoklbhokaa
