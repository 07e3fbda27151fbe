/-
  No cell of these rows narrows 'for every input' (looked for: loops, veiled, ifaces, maps, wideKeys, modest, calm, conditions, laid).
  DERIVED. THE GIVEN ROWS OF THIS SEAT. 11 by the template 'for every input the law returns true; each argument reads behind the call as it read before'; 0 by the template 'total and deterministic' (their statements: YthbmjicbhmiofaaTotals.lean).
  GIVEN WITH THE SEED: the statements are not yours to turn. If you find one false, say at which input.
  Laid BY PROGRAM, IN A SANDBOX (cutbox-rows.mjs): the forced cells as the released guide's own fill.sh prints them over the translation b29d70d98d05a5e2… (all of the seat's roots in one cut). By AI agents, Wed Nov 11 2026. No macro, syntax, notation, axiom, sorry.
-/
import Derived.Test.YthbmjicbhmiofaaChecked
import GoSem.Claim
import GoSem.ClaimJoined
import GoSem.ClaimMapViews
import Derived.JoinedTies
import Derived.KernelRfl
namespace Go.Proofs.Ythbmjicbhmiofaa
/- THE CELL 'sum', in the pinned program and in every row, IS THE sha256 OF THE DUMP (.gsa) THAT YthbmjicbhmiofaaProg.lean LOADS. Nothing in Lean hashes anything: it is a label: what it is worth is what the hold of that sum in a sandbox is worth. -/
noncomputable def Try.pinned : Pinned := { name := "ythbmjicbhmiofaa", sum := "b29d70d98d05a5e2dd2e4547ad6c7bb815104f3345c6115cc815566b0de3884f", checked := Try.checked }
namespace Rows
def none {H : Type} : Left H := { results := [], args := [] }

/-- 'laws.FnExactRunEngine': WHATEVER THE INPUT: true; the input reads as it did. -/
def fnExactRunEngineSpec : ChangeSpec := { name := "fnExactRunEngine", fn := fun _ => fun
  | [d1, d2] => { results := [.lit (.bool true)], args := [d1, d2] }
  | _ => none }
def fnExactRunEngineRow : OpenClaim := { program := "ythbmjicbhmiofaa", sum := "b29d70d98d05a5e2dd2e4547ad6c7bb815104f3345c6115cc815566b0de3884f", func := "loop.example/g00930/laws.FnExactRunEngine", spec := "fnExactRunEngine", unfollowed := true, recurses := true, apart := false }
def FnExactRunEngineSaid : Prop := fnExactRunEngineRow.holds Try.pinned (OpenSpec.ofChange fnExactRunEngineSpec)

/-- ITS FALSE NEIGHBOUR: 'it returns false'. Refute it at one input. -/
def fnExactRunEngineWrong : ChangeSpec := { name := "fnExactRunEngine", fn := fun _ => fun
  | [d1, d2] => { results := [.lit (.bool false)], args := [d1, d2] }
  | _ => none }
def FnExactRunEngineWrongFalsely : Prop := fnExactRunEngineRow.holds Try.pinned (OpenSpec.ofChange fnExactRunEngineWrong)

/-- 'laws.FnExactUnpackRegister': WHATEVER THE INPUT: true; the input reads as it did. -/
def fnExactUnpackRegisterSpec : ChangeSpec := { name := "fnExactUnpackRegister", fn := fun _ => fun
  | [d] => { results := [.lit (.bool true)], args := [d] }
  | _ => none }
def fnExactUnpackRegisterRow : OpenClaim := { program := "ythbmjicbhmiofaa", sum := "b29d70d98d05a5e2dd2e4547ad6c7bb815104f3345c6115cc815566b0de3884f", func := "loop.example/g00930/laws.FnExactUnpackRegister", spec := "fnExactUnpackRegister", apart := false }
def FnExactUnpackRegisterSaid : Prop := fnExactUnpackRegisterRow.holds Try.pinned (OpenSpec.ofChange fnExactUnpackRegisterSpec)

/-- ITS FALSE NEIGHBOUR: 'it returns false'. Refute it at one input. -/
def fnExactUnpackRegisterWrong : ChangeSpec := { name := "fnExactUnpackRegister", fn := fun _ => fun
  | [d] => { results := [.lit (.bool false)], args := [d] }
  | _ => none }
def FnExactUnpackRegisterWrongFalsely : Prop := fnExactUnpackRegisterRow.holds Try.pinned (OpenSpec.ofChange fnExactUnpackRegisterWrong)

/-- 'laws.FnExactSameDesk': WHATEVER THE INPUT: true; the input reads as it did. -/
def fnExactSameDeskSpec : ChangeSpec := { name := "fnExactSameDesk", fn := fun _ => fun
  | [d1, d2] => { results := [.lit (.bool true)], args := [d1, d2] }
  | _ => none }
def fnExactSameDeskRow : OpenClaim := { program := "ythbmjicbhmiofaa", sum := "b29d70d98d05a5e2dd2e4547ad6c7bb815104f3345c6115cc815566b0de3884f", func := "loop.example/g00930/laws.FnExactSameDesk", spec := "fnExactSameDesk", apart := false }
def FnExactSameDeskSaid : Prop := fnExactSameDeskRow.holds Try.pinned (OpenSpec.ofChange fnExactSameDeskSpec)

/-- ITS FALSE NEIGHBOUR: 'it returns false'. Refute it at one input. -/
def fnExactSameDeskWrong : ChangeSpec := { name := "fnExactSameDesk", fn := fun _ => fun
  | [d1, d2] => { results := [.lit (.bool false)], args := [d1, d2] }
  | _ => none }
def FnExactSameDeskWrongFalsely : Prop := fnExactSameDeskRow.holds Try.pinned (OpenSpec.ofChange fnExactSameDeskWrong)

/-- 'laws.FnExactRunHalves': WHATEVER THE INPUT: true; the input reads as it did. -/
def fnExactRunHalvesSpec : ChangeSpec := { name := "fnExactRunHalves", fn := fun _ => fun
  | [d1, d2] => { results := [.lit (.bool true)], args := [d1, d2] }
  | _ => none }
def fnExactRunHalvesRow : OpenClaim := { program := "ythbmjicbhmiofaa", sum := "b29d70d98d05a5e2dd2e4547ad6c7bb815104f3345c6115cc815566b0de3884f", func := "loop.example/g00930/laws.FnExactRunHalves", spec := "fnExactRunHalves", unfollowed := true, recurses := true, apart := false }
def FnExactRunHalvesSaid : Prop := fnExactRunHalvesRow.holds Try.pinned (OpenSpec.ofChange fnExactRunHalvesSpec)

/-- ITS FALSE NEIGHBOUR: 'it returns false'. Refute it at one input. -/
def fnExactRunHalvesWrong : ChangeSpec := { name := "fnExactRunHalves", fn := fun _ => fun
  | [d1, d2] => { results := [.lit (.bool false)], args := [d1, d2] }
  | _ => none }
def FnExactRunHalvesWrongFalsely : Prop := fnExactRunHalvesRow.holds Try.pinned (OpenSpec.ofChange fnExactRunHalvesWrong)

/-- 'laws.FnExactNewDesk': WHATEVER THE INPUT: true; the input reads as it did. -/
def fnExactNewDeskSpec : ChangeSpec := { name := "fnExactNewDesk", fn := fun _ => fun
  | [] => { results := [.lit (.bool true)], args := [] }
  | _ => none }
def fnExactNewDeskRow : OpenClaim := { program := "ythbmjicbhmiofaa", sum := "b29d70d98d05a5e2dd2e4547ad6c7bb815104f3345c6115cc815566b0de3884f", func := "loop.example/g00930/laws.FnExactNewDesk", spec := "fnExactNewDesk", apart := false }
def FnExactNewDeskSaid : Prop := fnExactNewDeskRow.holds Try.pinned (OpenSpec.ofChange fnExactNewDeskSpec)

/-- ITS FALSE NEIGHBOUR: 'it returns false'. Refute it at one input. -/
def fnExactNewDeskWrong : ChangeSpec := { name := "fnExactNewDesk", fn := fun _ => fun
  | [] => { results := [.lit (.bool false)], args := [] }
  | _ => none }
def FnExactNewDeskWrongFalsely : Prop := fnExactNewDeskRow.holds Try.pinned (OpenSpec.ofChange fnExactNewDeskWrong)

/-- 'laws.FnExactPackMachine': WHATEVER THE INPUT: true; the input reads as it did. -/
def fnExactPackMachineSpec : ChangeSpec := { name := "fnExactPackMachine", fn := fun _ => fun
  | [d] => { results := [.lit (.bool true)], args := [d] }
  | _ => none }
def fnExactPackMachineRow : OpenClaim := { program := "ythbmjicbhmiofaa", sum := "b29d70d98d05a5e2dd2e4547ad6c7bb815104f3345c6115cc815566b0de3884f", func := "loop.example/g00930/laws.FnExactPackMachine", spec := "fnExactPackMachine", apart := false }
def FnExactPackMachineSaid : Prop := fnExactPackMachineRow.holds Try.pinned (OpenSpec.ofChange fnExactPackMachineSpec)

/-- ITS FALSE NEIGHBOUR: 'it returns false'. Refute it at one input. -/
def fnExactPackMachineWrong : ChangeSpec := { name := "fnExactPackMachine", fn := fun _ => fun
  | [d] => { results := [.lit (.bool false)], args := [d] }
  | _ => none }
def FnExactPackMachineWrongFalsely : Prop := fnExactPackMachineRow.holds Try.pinned (OpenSpec.ofChange fnExactPackMachineWrong)

/-- 'laws.FnExactTurnDrums': WHATEVER THE INPUT: true; the input reads as it did. -/
def fnExactTurnDrumsSpec : ChangeSpec := { name := "fnExactTurnDrums", fn := fun _ => fun
  | [d1, d2, d3, d4] => { results := [.lit (.bool true)], args := [d1, d2, d3, d4] }
  | _ => none }
def fnExactTurnDrumsRow : OpenClaim := { program := "ythbmjicbhmiofaa", sum := "b29d70d98d05a5e2dd2e4547ad6c7bb815104f3345c6115cc815566b0de3884f", func := "loop.example/g00930/laws.FnExactTurnDrums", spec := "fnExactTurnDrums", apart := false }
def FnExactTurnDrumsSaid : Prop := fnExactTurnDrumsRow.holds Try.pinned (OpenSpec.ofChange fnExactTurnDrumsSpec)

/-- ITS FALSE NEIGHBOUR: 'it returns false'. Refute it at one input. -/
def fnExactTurnDrumsWrong : ChangeSpec := { name := "fnExactTurnDrums", fn := fun _ => fun
  | [d1, d2, d3, d4] => { results := [.lit (.bool false)], args := [d1, d2, d3, d4] }
  | _ => none }
def FnExactTurnDrumsWrongFalsely : Prop := fnExactTurnDrumsRow.holds Try.pinned (OpenSpec.ofChange fnExactTurnDrumsWrong)

/-- 'laws.FnExactEntryNumbered': WHATEVER THE INPUT: true; the input reads as it did. -/
def fnExactEntryNumberedSpec : ChangeSpec := { name := "fnExactEntryNumbered", fn := fun _ => fun
  | [d1, d2] => { results := [.lit (.bool true)], args := [d1, d2] }
  | _ => none }
def fnExactEntryNumberedRow : OpenClaim := { program := "ythbmjicbhmiofaa", sum := "b29d70d98d05a5e2dd2e4547ad6c7bb815104f3345c6115cc815566b0de3884f", func := "loop.example/g00930/laws.FnExactEntryNumbered", spec := "fnExactEntryNumbered", apart := false }
def FnExactEntryNumberedSaid : Prop := fnExactEntryNumberedRow.holds Try.pinned (OpenSpec.ofChange fnExactEntryNumberedSpec)

/-- ITS FALSE NEIGHBOUR: 'it returns false'. Refute it at one input. -/
def fnExactEntryNumberedWrong : ChangeSpec := { name := "fnExactEntryNumbered", fn := fun _ => fun
  | [d1, d2] => { results := [.lit (.bool false)], args := [d1, d2] }
  | _ => none }
def FnExactEntryNumberedWrongFalsely : Prop := fnExactEntryNumberedRow.holds Try.pinned (OpenSpec.ofChange fnExactEntryNumberedWrong)

/-- 'laws.FnExactUnpackMachine': WHATEVER THE INPUT: true; the input reads as it did. -/
def fnExactUnpackMachineSpec : ChangeSpec := { name := "fnExactUnpackMachine", fn := fun _ => fun
  | [d] => { results := [.lit (.bool true)], args := [d] }
  | _ => none }
def fnExactUnpackMachineRow : OpenClaim := { program := "ythbmjicbhmiofaa", sum := "b29d70d98d05a5e2dd2e4547ad6c7bb815104f3345c6115cc815566b0de3884f", func := "loop.example/g00930/laws.FnExactUnpackMachine", spec := "fnExactUnpackMachine", apart := false }
def FnExactUnpackMachineSaid : Prop := fnExactUnpackMachineRow.holds Try.pinned (OpenSpec.ofChange fnExactUnpackMachineSpec)

/-- ITS FALSE NEIGHBOUR: 'it returns false'. Refute it at one input. -/
def fnExactUnpackMachineWrong : ChangeSpec := { name := "fnExactUnpackMachine", fn := fun _ => fun
  | [d] => { results := [.lit (.bool false)], args := [d] }
  | _ => none }
def FnExactUnpackMachineWrongFalsely : Prop := fnExactUnpackMachineRow.holds Try.pinned (OpenSpec.ofChange fnExactUnpackMachineWrong)

/-- 'laws.FnExactInputAt': WHATEVER THE INPUT: true; the input reads as it did. -/
def fnExactInputAtSpec : ChangeSpec := { name := "fnExactInputAt", fn := fun _ => fun
  | [d1, d2, d3, d4, d5] => { results := [.lit (.bool true)], args := [d1, d2, d3, d4, d5] }
  | _ => none }
def fnExactInputAtRow : OpenClaim := { program := "ythbmjicbhmiofaa", sum := "b29d70d98d05a5e2dd2e4547ad6c7bb815104f3345c6115cc815566b0de3884f", func := "loop.example/g00930/laws.FnExactInputAt", spec := "fnExactInputAt", apart := false }
def FnExactInputAtSaid : Prop := fnExactInputAtRow.holds Try.pinned (OpenSpec.ofChange fnExactInputAtSpec)

/-- ITS FALSE NEIGHBOUR: 'it returns false'. Refute it at one input. -/
def fnExactInputAtWrong : ChangeSpec := { name := "fnExactInputAt", fn := fun _ => fun
  | [d1, d2, d3, d4, d5] => { results := [.lit (.bool false)], args := [d1, d2, d3, d4, d5] }
  | _ => none }
def FnExactInputAtWrongFalsely : Prop := fnExactInputAtRow.holds Try.pinned (OpenSpec.ofChange fnExactInputAtWrong)

/-- 'laws.FnExactRemoveEntry': WHATEVER THE INPUT: true; the input reads as it did. -/
def fnExactRemoveEntrySpec : ChangeSpec := { name := "fnExactRemoveEntry", fn := fun _ => fun
  | [d1, d2] => { results := [.lit (.bool true)], args := [d1, d2] }
  | _ => none }
def fnExactRemoveEntryRow : OpenClaim := { program := "ythbmjicbhmiofaa", sum := "b29d70d98d05a5e2dd2e4547ad6c7bb815104f3345c6115cc815566b0de3884f", func := "loop.example/g00930/laws.FnExactRemoveEntry", spec := "fnExactRemoveEntry", apart := false }
def FnExactRemoveEntrySaid : Prop := fnExactRemoveEntryRow.holds Try.pinned (OpenSpec.ofChange fnExactRemoveEntrySpec)

/-- ITS FALSE NEIGHBOUR: 'it returns false'. Refute it at one input. -/
def fnExactRemoveEntryWrong : ChangeSpec := { name := "fnExactRemoveEntry", fn := fun _ => fun
  | [d1, d2] => { results := [.lit (.bool false)], args := [d1, d2] }
  | _ => none }
def FnExactRemoveEntryWrongFalsely : Prop := fnExactRemoveEntryRow.holds Try.pinned (OpenSpec.ofChange fnExactRemoveEntryWrong)

/- THE SECOND FORM. 'bulk': how many values and letters a reading holds, each counted each time it is reached (what is shared counts as often as it is met; a slice's spare places count too). A statement '..UptoSaid' is the law's where the arguments, and the package variables that the reading takes, are together of bulk at most 1048576: NARROWER than '..Said'. Prove '..Said' where nothing that the law and all that it calls make is longer than what came in: it says more and counts as full. Else prove '..UptoSaid'. A law counts once. -/
mutual
def uptoBulk {H : Type} : DataW H → Nat
  | .lit (.string bytes) => bytes.length + 1
  | .lit _ => 1
  | .nil => 1
  | .ptr d => uptoBulk d + 1
  | .slice elems spare => uptoBulkAll elems + uptoBulkAll spare + 1
  | .agg parts => uptoBulkAll parts + 1
  | .iface _ d => uptoBulk d + 1
  | .map entries => uptoBulkEntries entries + 1
  | .held _ => 1
def uptoBulkAll {H : Type} : List (DataW H) → Nat
  | [] => 0
  | d :: r => uptoBulk d + uptoBulkAll r
def uptoBulkEntries {H : Type} : List (Lit × DataW H) → Nat
  | [] => 0
  | x :: r => uptoBulkEntry x + uptoBulkEntries r
def uptoBulkEntry {H : Type} : Lit × DataW H → Nat
  | (.string bytes, d) => bytes.length + uptoBulk d + 1
  | (_, d) => uptoBulk d + 1
 end
def uptoSmall : (H : Type) → List (DataW H) → Bool := fun _ ds => decide (uptoBulkAll ds ≤ 1048576)
def OpenSpec.upto (s : _root_.Go.ChangeSpec) : _root_.Go.OpenSpec := { _root_.Go.OpenSpec.ofChange s with cond := some uptoSmall }

/-- 'laws.FnExactRunEngine', WHERE WHAT IT READS IS OF BULK AT MOST 1048576: true; the input reads as it did. -/
def fnExactRunEngineUptoRow : OpenClaim := { program := "ythbmjicbhmiofaa", sum := "b29d70d98d05a5e2dd2e4547ad6c7bb815104f3345c6115cc815566b0de3884f", func := "loop.example/g00930/laws.FnExactRunEngine", spec := "fnExactRunEngine", unfollowed := true, recurses := true, apart := false, narrowed := true }
def FnExactRunEngineUptoSaid : Prop := fnExactRunEngineUptoRow.holds Try.pinned (OpenSpec.upto fnExactRunEngineSpec)

/-- 'laws.FnExactUnpackRegister', WHERE WHAT IT READS IS OF BULK AT MOST 1048576: true; the input reads as it did. -/
def fnExactUnpackRegisterUptoRow : OpenClaim := { program := "ythbmjicbhmiofaa", sum := "b29d70d98d05a5e2dd2e4547ad6c7bb815104f3345c6115cc815566b0de3884f", func := "loop.example/g00930/laws.FnExactUnpackRegister", spec := "fnExactUnpackRegister", apart := false, narrowed := true }
def FnExactUnpackRegisterUptoSaid : Prop := fnExactUnpackRegisterUptoRow.holds Try.pinned (OpenSpec.upto fnExactUnpackRegisterSpec)

/-- 'laws.FnExactSameDesk', WHERE WHAT IT READS IS OF BULK AT MOST 1048576: true; the input reads as it did. -/
def fnExactSameDeskUptoRow : OpenClaim := { program := "ythbmjicbhmiofaa", sum := "b29d70d98d05a5e2dd2e4547ad6c7bb815104f3345c6115cc815566b0de3884f", func := "loop.example/g00930/laws.FnExactSameDesk", spec := "fnExactSameDesk", apart := false, narrowed := true }
def FnExactSameDeskUptoSaid : Prop := fnExactSameDeskUptoRow.holds Try.pinned (OpenSpec.upto fnExactSameDeskSpec)

/-- 'laws.FnExactRunHalves', WHERE WHAT IT READS IS OF BULK AT MOST 1048576: true; the input reads as it did. -/
def fnExactRunHalvesUptoRow : OpenClaim := { program := "ythbmjicbhmiofaa", sum := "b29d70d98d05a5e2dd2e4547ad6c7bb815104f3345c6115cc815566b0de3884f", func := "loop.example/g00930/laws.FnExactRunHalves", spec := "fnExactRunHalves", unfollowed := true, recurses := true, apart := false, narrowed := true }
def FnExactRunHalvesUptoSaid : Prop := fnExactRunHalvesUptoRow.holds Try.pinned (OpenSpec.upto fnExactRunHalvesSpec)

/-- 'laws.FnExactNewDesk', WHERE WHAT IT READS IS OF BULK AT MOST 1048576: true; the input reads as it did. -/
def fnExactNewDeskUptoRow : OpenClaim := { program := "ythbmjicbhmiofaa", sum := "b29d70d98d05a5e2dd2e4547ad6c7bb815104f3345c6115cc815566b0de3884f", func := "loop.example/g00930/laws.FnExactNewDesk", spec := "fnExactNewDesk", apart := false, narrowed := true }
def FnExactNewDeskUptoSaid : Prop := fnExactNewDeskUptoRow.holds Try.pinned (OpenSpec.upto fnExactNewDeskSpec)

/-- 'laws.FnExactPackMachine', WHERE WHAT IT READS IS OF BULK AT MOST 1048576: true; the input reads as it did. -/
def fnExactPackMachineUptoRow : OpenClaim := { program := "ythbmjicbhmiofaa", sum := "b29d70d98d05a5e2dd2e4547ad6c7bb815104f3345c6115cc815566b0de3884f", func := "loop.example/g00930/laws.FnExactPackMachine", spec := "fnExactPackMachine", apart := false, narrowed := true }
def FnExactPackMachineUptoSaid : Prop := fnExactPackMachineUptoRow.holds Try.pinned (OpenSpec.upto fnExactPackMachineSpec)

/-- 'laws.FnExactTurnDrums', WHERE WHAT IT READS IS OF BULK AT MOST 1048576: true; the input reads as it did. -/
def fnExactTurnDrumsUptoRow : OpenClaim := { program := "ythbmjicbhmiofaa", sum := "b29d70d98d05a5e2dd2e4547ad6c7bb815104f3345c6115cc815566b0de3884f", func := "loop.example/g00930/laws.FnExactTurnDrums", spec := "fnExactTurnDrums", apart := false, narrowed := true }
def FnExactTurnDrumsUptoSaid : Prop := fnExactTurnDrumsUptoRow.holds Try.pinned (OpenSpec.upto fnExactTurnDrumsSpec)

/-- 'laws.FnExactEntryNumbered', WHERE WHAT IT READS IS OF BULK AT MOST 1048576: true; the input reads as it did. -/
def fnExactEntryNumberedUptoRow : OpenClaim := { program := "ythbmjicbhmiofaa", sum := "b29d70d98d05a5e2dd2e4547ad6c7bb815104f3345c6115cc815566b0de3884f", func := "loop.example/g00930/laws.FnExactEntryNumbered", spec := "fnExactEntryNumbered", apart := false, narrowed := true }
def FnExactEntryNumberedUptoSaid : Prop := fnExactEntryNumberedUptoRow.holds Try.pinned (OpenSpec.upto fnExactEntryNumberedSpec)

/-- 'laws.FnExactUnpackMachine', WHERE WHAT IT READS IS OF BULK AT MOST 1048576: true; the input reads as it did. -/
def fnExactUnpackMachineUptoRow : OpenClaim := { program := "ythbmjicbhmiofaa", sum := "b29d70d98d05a5e2dd2e4547ad6c7bb815104f3345c6115cc815566b0de3884f", func := "loop.example/g00930/laws.FnExactUnpackMachine", spec := "fnExactUnpackMachine", apart := false, narrowed := true }
def FnExactUnpackMachineUptoSaid : Prop := fnExactUnpackMachineUptoRow.holds Try.pinned (OpenSpec.upto fnExactUnpackMachineSpec)

/-- 'laws.FnExactInputAt', WHERE WHAT IT READS IS OF BULK AT MOST 1048576: true; the input reads as it did. -/
def fnExactInputAtUptoRow : OpenClaim := { program := "ythbmjicbhmiofaa", sum := "b29d70d98d05a5e2dd2e4547ad6c7bb815104f3345c6115cc815566b0de3884f", func := "loop.example/g00930/laws.FnExactInputAt", spec := "fnExactInputAt", apart := false, narrowed := true }
def FnExactInputAtUptoSaid : Prop := fnExactInputAtUptoRow.holds Try.pinned (OpenSpec.upto fnExactInputAtSpec)

/-- 'laws.FnExactRemoveEntry', WHERE WHAT IT READS IS OF BULK AT MOST 1048576: true; the input reads as it did. -/
def fnExactRemoveEntryUptoRow : OpenClaim := { program := "ythbmjicbhmiofaa", sum := "b29d70d98d05a5e2dd2e4547ad6c7bb815104f3345c6115cc815566b0de3884f", func := "loop.example/g00930/laws.FnExactRemoveEntry", spec := "fnExactRemoveEntry", apart := false, narrowed := true }
def FnExactRemoveEntryUptoSaid : Prop := fnExactRemoveEntryUptoRow.holds Try.pinned (OpenSpec.upto fnExactRemoveEntrySpec)

end Rows
end Go.Proofs.Ythbmjicbhmiofaa
