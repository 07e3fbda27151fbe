/-
  No cell of these rows narrows 'for every input' (looked for: loops, veiled, ifaces, maps, wideKeys, modest, calm, conditions, laid).
  DERIVED. THE GIVEN ROWS OF THIS SEAT. 12 by the template 'for every input the law returns true; each argument reads behind the call as it read before'; 0 by the template 'total and deterministic' (their statements: YtbhkcidnnmpfmaaTotals.lean).
  GIVEN WITH THE SEED: the statements are not yours to turn. If you find one false, say at which input.
  Laid BY PROGRAM, IN A SANDBOX (cutbox-rows.mjs): the forced cells as the released guide's own fill.sh prints them over the translation 06f9a12a76ac4705… (all of the seat's roots in one cut). By AI agents, Wed Nov 11 2026. No macro, syntax, notation, axiom, sorry.
-/
import Derived.Test.YtbhkcidnnmpfmaaChecked
import GoSem.Claim
import GoSem.ClaimJoined
import GoSem.ClaimMapViews
import Derived.JoinedTies
import Derived.KernelRfl
namespace Go.Proofs.Ytbhkcidnnmpfmaa
/- THE CELL 'sum', in the pinned program and in every row, IS THE sha256 OF THE DUMP (.gsa) THAT YtbhkcidnnmpfmaaProg.lean LOADS. Nothing in Lean hashes anything: it is a label: what it is worth is what the hold of that sum in a sandbox is worth. -/
noncomputable def Try.pinned : Pinned := { name := "ytbhkcidnnmpfmaa", sum := "06f9a12a76ac4705adb57b2b05ce4311a6ad25f340e7a12ac2afb844df86244f", checked := Try.checked }
namespace Rows
def none {H : Type} : Left H := { results := [], args := [] }

/-- 'laws.FnExactBackCycle': WHATEVER THE INPUT: true; the input reads as it did. -/
def fnExactBackCycleSpec : ChangeSpec := { name := "fnExactBackCycle", fn := fun _ => fun
  | [d] => { results := [.lit (.bool true)], args := [d] }
  | _ => none }
def fnExactBackCycleRow : OpenClaim := { program := "ytbhkcidnnmpfmaa", sum := "06f9a12a76ac4705adb57b2b05ce4311a6ad25f340e7a12ac2afb844df86244f", func := "loop.example/g00930/laws.FnExactBackCycle", spec := "fnExactBackCycle", apart := false }
def FnExactBackCycleSaid : Prop := fnExactBackCycleRow.holds Try.pinned (OpenSpec.ofChange fnExactBackCycleSpec)

/-- ITS FALSE NEIGHBOUR: 'it returns false'. Refute it at one input. -/
def fnExactBackCycleWrong : ChangeSpec := { name := "fnExactBackCycle", fn := fun _ => fun
  | [d] => { results := [.lit (.bool false)], args := [d] }
  | _ => none }
def FnExactBackCycleWrongFalsely : Prop := fnExactBackCycleRow.holds Try.pinned (OpenSpec.ofChange fnExactBackCycleWrong)

/-- 'laws.FnExactCycleEngine': WHATEVER THE INPUT: true; the input reads as it did. -/
def fnExactCycleEngineSpec : ChangeSpec := { name := "fnExactCycleEngine", fn := fun _ => fun
  | [d] => { results := [.lit (.bool true)], args := [d] }
  | _ => none }
def fnExactCycleEngineRow : OpenClaim := { program := "ytbhkcidnnmpfmaa", sum := "06f9a12a76ac4705adb57b2b05ce4311a6ad25f340e7a12ac2afb844df86244f", func := "loop.example/g00930/laws.FnExactCycleEngine", spec := "fnExactCycleEngine", apart := false }
def FnExactCycleEngineSaid : Prop := fnExactCycleEngineRow.holds Try.pinned (OpenSpec.ofChange fnExactCycleEngineSpec)

/-- ITS FALSE NEIGHBOUR: 'it returns false'. Refute it at one input. -/
def fnExactCycleEngineWrong : ChangeSpec := { name := "fnExactCycleEngine", fn := fun _ => fun
  | [d] => { results := [.lit (.bool false)], args := [d] }
  | _ => none }
def FnExactCycleEngineWrongFalsely : Prop := fnExactCycleEngineRow.holds Try.pinned (OpenSpec.ofChange fnExactCycleEngineWrong)

/-- 'laws.FnShiftedDigits': WHATEVER THE INPUT: true; the input reads as it did. -/
def fnShiftedDigitsSpec : ChangeSpec := { name := "fnShiftedDigits", fn := fun _ => fun
  | [d1, d2] => { results := [.lit (.bool true)], args := [d1, d2] }
  | _ => none }
def fnShiftedDigitsRow : OpenClaim := { program := "ytbhkcidnnmpfmaa", sum := "06f9a12a76ac4705adb57b2b05ce4311a6ad25f340e7a12ac2afb844df86244f", func := "loop.example/g00930/laws.FnShiftedDigits", spec := "fnShiftedDigits", apart := false }
def FnShiftedDigitsSaid : Prop := fnShiftedDigitsRow.holds Try.pinned (OpenSpec.ofChange fnShiftedDigitsSpec)

/-- ITS FALSE NEIGHBOUR: 'it returns false'. Refute it at one input. -/
def fnShiftedDigitsWrong : ChangeSpec := { name := "fnShiftedDigits", fn := fun _ => fun
  | [d1, d2] => { results := [.lit (.bool false)], args := [d1, d2] }
  | _ => none }
def FnShiftedDigitsWrongFalsely : Prop := fnShiftedDigitsRow.holds Try.pinned (OpenSpec.ofChange fnShiftedDigitsWrong)

/-- 'laws.FnExactNumberOf': WHATEVER THE INPUT: true; the input reads as it did. -/
def fnExactNumberOfSpec : ChangeSpec := { name := "fnExactNumberOf", fn := fun _ => fun
  | [d] => { results := [.lit (.bool true)], args := [d] }
  | _ => none }
def fnExactNumberOfRow : OpenClaim := { program := "ytbhkcidnnmpfmaa", sum := "06f9a12a76ac4705adb57b2b05ce4311a6ad25f340e7a12ac2afb844df86244f", func := "loop.example/g00930/laws.FnExactNumberOf", spec := "fnExactNumberOf", apart := false }
def FnExactNumberOfSaid : Prop := fnExactNumberOfRow.holds Try.pinned (OpenSpec.ofChange fnExactNumberOfSpec)

/-- ITS FALSE NEIGHBOUR: 'it returns false'. Refute it at one input. -/
def fnExactNumberOfWrong : ChangeSpec := { name := "fnExactNumberOf", fn := fun _ => fun
  | [d] => { results := [.lit (.bool false)], args := [d] }
  | _ => none }
def FnExactNumberOfWrongFalsely : Prop := fnExactNumberOfRow.holds Try.pinned (OpenSpec.ofChange fnExactNumberOfWrong)

/-- 'laws.FnExactHalfCycle': WHATEVER THE INPUT: true; the input reads as it did. -/
def fnExactHalfCycleSpec : ChangeSpec := { name := "fnExactHalfCycle", fn := fun _ => fun
  | [d1, d2] => { results := [.lit (.bool true)], args := [d1, d2] }
  | _ => none }
def fnExactHalfCycleRow : OpenClaim := { program := "ytbhkcidnnmpfmaa", sum := "06f9a12a76ac4705adb57b2b05ce4311a6ad25f340e7a12ac2afb844df86244f", func := "loop.example/g00930/laws.FnExactHalfCycle", spec := "fnExactHalfCycle", apart := false }
def FnExactHalfCycleSaid : Prop := fnExactHalfCycleRow.holds Try.pinned (OpenSpec.ofChange fnExactHalfCycleSpec)

/-- ITS FALSE NEIGHBOUR: 'it returns false'. Refute it at one input. -/
def fnExactHalfCycleWrong : ChangeSpec := { name := "fnExactHalfCycle", fn := fun _ => fun
  | [d1, d2] => { results := [.lit (.bool false)], args := [d1, d2] }
  | _ => none }
def FnExactHalfCycleWrongFalsely : Prop := fnExactHalfCycleRow.holds Try.pinned (OpenSpec.ofChange fnExactHalfCycleWrong)

/-- 'laws.FnExactShiftRegister': WHATEVER THE INPUT: true; the input reads as it did. -/
def fnExactShiftRegisterSpec : ChangeSpec := { name := "fnExactShiftRegister", fn := fun _ => fun
  | [d1, d2] => { results := [.lit (.bool true)], args := [d1, d2] }
  | _ => none }
def fnExactShiftRegisterRow : OpenClaim := { program := "ytbhkcidnnmpfmaa", sum := "06f9a12a76ac4705adb57b2b05ce4311a6ad25f340e7a12ac2afb844df86244f", func := "loop.example/g00930/laws.FnExactShiftRegister", spec := "fnExactShiftRegister", apart := false }
def FnExactShiftRegisterSaid : Prop := fnExactShiftRegisterRow.holds Try.pinned (OpenSpec.ofChange fnExactShiftRegisterSpec)

/-- ITS FALSE NEIGHBOUR: 'it returns false'. Refute it at one input. -/
def fnExactShiftRegisterWrong : ChangeSpec := { name := "fnExactShiftRegister", fn := fun _ => fun
  | [d1, d2] => { results := [.lit (.bool false)], args := [d1, d2] }
  | _ => none }
def FnExactShiftRegisterWrongFalsely : Prop := fnExactShiftRegisterRow.holds Try.pinned (OpenSpec.ofChange fnExactShiftRegisterWrong)

/-- 'laws.FnAhead': WHATEVER THE INPUT: true; the input reads as it did. -/
def fnAheadSpec : ChangeSpec := { name := "fnAhead", fn := fun _ => fun
  | [d1, d2] => { results := [.lit (.bool true)], args := [d1, d2] }
  | _ => none }
def fnAheadRow : OpenClaim := { program := "ytbhkcidnnmpfmaa", sum := "06f9a12a76ac4705adb57b2b05ce4311a6ad25f340e7a12ac2afb844df86244f", func := "loop.example/g00930/laws.FnAhead", spec := "fnAhead", apart := false }
def FnAheadSaid : Prop := fnAheadRow.holds Try.pinned (OpenSpec.ofChange fnAheadSpec)

/-- ITS FALSE NEIGHBOUR: 'it returns false'. Refute it at one input. -/
def fnAheadWrong : ChangeSpec := { name := "fnAhead", fn := fun _ => fun
  | [d1, d2] => { results := [.lit (.bool false)], args := [d1, d2] }
  | _ => none }
def FnAheadWrongFalsely : Prop := fnAheadRow.holds Try.pinned (OpenSpec.ofChange fnAheadWrong)

/-- 'laws.FnExactCarriesOf': WHATEVER THE INPUT: true; the input reads as it did. -/
def fnExactCarriesOfSpec : ChangeSpec := { name := "fnExactCarriesOf", fn := fun _ => fun
  | [d1, d2] => { results := [.lit (.bool true)], args := [d1, d2] }
  | _ => none }
def fnExactCarriesOfRow : OpenClaim := { program := "ytbhkcidnnmpfmaa", sum := "06f9a12a76ac4705adb57b2b05ce4311a6ad25f340e7a12ac2afb844df86244f", func := "loop.example/g00930/laws.FnExactCarriesOf", spec := "fnExactCarriesOf", apart := false }
def FnExactCarriesOfSaid : Prop := fnExactCarriesOfRow.holds Try.pinned (OpenSpec.ofChange fnExactCarriesOfSpec)

/-- ITS FALSE NEIGHBOUR: 'it returns false'. Refute it at one input. -/
def fnExactCarriesOfWrong : ChangeSpec := { name := "fnExactCarriesOf", fn := fun _ => fun
  | [d1, d2] => { results := [.lit (.bool false)], args := [d1, d2] }
  | _ => none }
def FnExactCarriesOfWrongFalsely : Prop := fnExactCarriesOfRow.holds Try.pinned (OpenSpec.ofChange fnExactCarriesOfWrong)

/-- 'laws.FnExactInputsOf': WHATEVER THE INPUT: true; the input reads as it did. -/
def fnExactInputsOfSpec : ChangeSpec := { name := "fnExactInputsOf", fn := fun _ => fun
  | [d1, d2, d3] => { results := [.lit (.bool true)], args := [d1, d2, d3] }
  | _ => none }
def fnExactInputsOfRow : OpenClaim := { program := "ytbhkcidnnmpfmaa", sum := "06f9a12a76ac4705adb57b2b05ce4311a6ad25f340e7a12ac2afb844df86244f", func := "loop.example/g00930/laws.FnExactInputsOf", spec := "fnExactInputsOf", apart := false }
def FnExactInputsOfSaid : Prop := fnExactInputsOfRow.holds Try.pinned (OpenSpec.ofChange fnExactInputsOfSpec)

/-- ITS FALSE NEIGHBOUR: 'it returns false'. Refute it at one input. -/
def fnExactInputsOfWrong : ChangeSpec := { name := "fnExactInputsOf", fn := fun _ => fun
  | [d1, d2, d3] => { results := [.lit (.bool false)], args := [d1, d2, d3] }
  | _ => none }
def FnExactInputsOfWrongFalsely : Prop := fnExactInputsOfRow.holds Try.pinned (OpenSpec.ofChange fnExactInputsOfWrong)

/-- 'laws.FnWorst': WHATEVER THE INPUT: true; the input reads as it did. -/
def fnWorstSpec : ChangeSpec := { name := "fnWorst", fn := fun _ => fun
  | [d] => { results := [.lit (.bool true)], args := [d] }
  | _ => none }
def fnWorstRow : OpenClaim := { program := "ytbhkcidnnmpfmaa", sum := "06f9a12a76ac4705adb57b2b05ce4311a6ad25f340e7a12ac2afb844df86244f", func := "loop.example/g00930/laws.FnWorst", spec := "fnWorst", apart := false }
def FnWorstSaid : Prop := fnWorstRow.holds Try.pinned (OpenSpec.ofChange fnWorstSpec)

/-- ITS FALSE NEIGHBOUR: 'it returns false'. Refute it at one input. -/
def fnWorstWrong : ChangeSpec := { name := "fnWorst", fn := fun _ => fun
  | [d] => { results := [.lit (.bool false)], args := [d] }
  | _ => none }
def FnWorstWrongFalsely : Prop := fnWorstRow.holds Try.pinned (OpenSpec.ofChange fnWorstWrong)

/-- 'laws.FnExactPrepareHalves': WHATEVER THE INPUT: true; the input reads as it did. -/
def fnExactPrepareHalvesSpec : ChangeSpec := { name := "fnExactPrepareHalves", fn := fun _ => fun
  | [d] => { results := [.lit (.bool true)], args := [d] }
  | _ => none }
def fnExactPrepareHalvesRow : OpenClaim := { program := "ytbhkcidnnmpfmaa", sum := "06f9a12a76ac4705adb57b2b05ce4311a6ad25f340e7a12ac2afb844df86244f", func := "loop.example/g00930/laws.FnExactPrepareHalves", spec := "fnExactPrepareHalves", apart := false }
def FnExactPrepareHalvesSaid : Prop := fnExactPrepareHalvesRow.holds Try.pinned (OpenSpec.ofChange fnExactPrepareHalvesSpec)

/-- ITS FALSE NEIGHBOUR: 'it returns false'. Refute it at one input. -/
def fnExactPrepareHalvesWrong : ChangeSpec := { name := "fnExactPrepareHalves", fn := fun _ => fun
  | [d] => { results := [.lit (.bool false)], args := [d] }
  | _ => none }
def FnExactPrepareHalvesWrongFalsely : Prop := fnExactPrepareHalvesRow.holds Try.pinned (OpenSpec.ofChange fnExactPrepareHalvesWrong)

/-- 'laws.FnExactValidMachine': WHATEVER THE INPUT: true; the input reads as it did. -/
def fnExactValidMachineSpec : ChangeSpec := { name := "fnExactValidMachine", fn := fun _ => fun
  | [d] => { results := [.lit (.bool true)], args := [d] }
  | _ => none }
def fnExactValidMachineRow : OpenClaim := { program := "ytbhkcidnnmpfmaa", sum := "06f9a12a76ac4705adb57b2b05ce4311a6ad25f340e7a12ac2afb844df86244f", func := "loop.example/g00930/laws.FnExactValidMachine", spec := "fnExactValidMachine", apart := false }
def FnExactValidMachineSaid : Prop := fnExactValidMachineRow.holds Try.pinned (OpenSpec.ofChange fnExactValidMachineSpec)

/-- ITS FALSE NEIGHBOUR: 'it returns false'. Refute it at one input. -/
def fnExactValidMachineWrong : ChangeSpec := { name := "fnExactValidMachine", fn := fun _ => fun
  | [d] => { results := [.lit (.bool false)], args := [d] }
  | _ => none }
def FnExactValidMachineWrongFalsely : Prop := fnExactValidMachineRow.holds Try.pinned (OpenSpec.ofChange fnExactValidMachineWrong)

/- THE SECOND FORM. 'bulk': how many values and letters a reading holds, each counted each time it is reached (what is shared counts as often as it is met; a slice's spare places count too). A statement '..UptoSaid' is the law's where the arguments, and the package variables that the reading takes, are together of bulk at most 1048576: NARROWER than '..Said'. Prove '..Said' where nothing that the law and all that it calls make is longer than what came in: it says more and counts as full. Else prove '..UptoSaid'. A law counts once. -/
mutual
def uptoBulk {H : Type} : DataW H → Nat
  | .lit (.string bytes) => bytes.length + 1
  | .lit _ => 1
  | .nil => 1
  | .ptr d => uptoBulk d + 1
  | .slice elems spare => uptoBulkAll elems + uptoBulkAll spare + 1
  | .agg parts => uptoBulkAll parts + 1
  | .iface _ d => uptoBulk d + 1
  | .map entries => uptoBulkEntries entries + 1
  | .held _ => 1
def uptoBulkAll {H : Type} : List (DataW H) → Nat
  | [] => 0
  | d :: r => uptoBulk d + uptoBulkAll r
def uptoBulkEntries {H : Type} : List (Lit × DataW H) → Nat
  | [] => 0
  | x :: r => uptoBulkEntry x + uptoBulkEntries r
def uptoBulkEntry {H : Type} : Lit × DataW H → Nat
  | (.string bytes, d) => bytes.length + uptoBulk d + 1
  | (_, d) => uptoBulk d + 1
 end
def uptoSmall : (H : Type) → List (DataW H) → Bool := fun _ ds => decide (uptoBulkAll ds ≤ 1048576)
def OpenSpec.upto (s : _root_.Go.ChangeSpec) : _root_.Go.OpenSpec := { _root_.Go.OpenSpec.ofChange s with cond := some uptoSmall }

/-- 'laws.FnExactBackCycle', WHERE WHAT IT READS IS OF BULK AT MOST 1048576: true; the input reads as it did. -/
def fnExactBackCycleUptoRow : OpenClaim := { program := "ytbhkcidnnmpfmaa", sum := "06f9a12a76ac4705adb57b2b05ce4311a6ad25f340e7a12ac2afb844df86244f", func := "loop.example/g00930/laws.FnExactBackCycle", spec := "fnExactBackCycle", apart := false, narrowed := true }
def FnExactBackCycleUptoSaid : Prop := fnExactBackCycleUptoRow.holds Try.pinned (OpenSpec.upto fnExactBackCycleSpec)

/-- 'laws.FnExactCycleEngine', WHERE WHAT IT READS IS OF BULK AT MOST 1048576: true; the input reads as it did. -/
def fnExactCycleEngineUptoRow : OpenClaim := { program := "ytbhkcidnnmpfmaa", sum := "06f9a12a76ac4705adb57b2b05ce4311a6ad25f340e7a12ac2afb844df86244f", func := "loop.example/g00930/laws.FnExactCycleEngine", spec := "fnExactCycleEngine", apart := false, narrowed := true }
def FnExactCycleEngineUptoSaid : Prop := fnExactCycleEngineUptoRow.holds Try.pinned (OpenSpec.upto fnExactCycleEngineSpec)

/-- 'laws.FnShiftedDigits', WHERE WHAT IT READS IS OF BULK AT MOST 1048576: true; the input reads as it did. -/
def fnShiftedDigitsUptoRow : OpenClaim := { program := "ytbhkcidnnmpfmaa", sum := "06f9a12a76ac4705adb57b2b05ce4311a6ad25f340e7a12ac2afb844df86244f", func := "loop.example/g00930/laws.FnShiftedDigits", spec := "fnShiftedDigits", apart := false, narrowed := true }
def FnShiftedDigitsUptoSaid : Prop := fnShiftedDigitsUptoRow.holds Try.pinned (OpenSpec.upto fnShiftedDigitsSpec)

/-- 'laws.FnExactNumberOf', WHERE WHAT IT READS IS OF BULK AT MOST 1048576: true; the input reads as it did. -/
def fnExactNumberOfUptoRow : OpenClaim := { program := "ytbhkcidnnmpfmaa", sum := "06f9a12a76ac4705adb57b2b05ce4311a6ad25f340e7a12ac2afb844df86244f", func := "loop.example/g00930/laws.FnExactNumberOf", spec := "fnExactNumberOf", apart := false, narrowed := true }
def FnExactNumberOfUptoSaid : Prop := fnExactNumberOfUptoRow.holds Try.pinned (OpenSpec.upto fnExactNumberOfSpec)

/-- 'laws.FnExactHalfCycle', WHERE WHAT IT READS IS OF BULK AT MOST 1048576: true; the input reads as it did. -/
def fnExactHalfCycleUptoRow : OpenClaim := { program := "ytbhkcidnnmpfmaa", sum := "06f9a12a76ac4705adb57b2b05ce4311a6ad25f340e7a12ac2afb844df86244f", func := "loop.example/g00930/laws.FnExactHalfCycle", spec := "fnExactHalfCycle", apart := false, narrowed := true }
def FnExactHalfCycleUptoSaid : Prop := fnExactHalfCycleUptoRow.holds Try.pinned (OpenSpec.upto fnExactHalfCycleSpec)

/-- 'laws.FnExactShiftRegister', WHERE WHAT IT READS IS OF BULK AT MOST 1048576: true; the input reads as it did. -/
def fnExactShiftRegisterUptoRow : OpenClaim := { program := "ytbhkcidnnmpfmaa", sum := "06f9a12a76ac4705adb57b2b05ce4311a6ad25f340e7a12ac2afb844df86244f", func := "loop.example/g00930/laws.FnExactShiftRegister", spec := "fnExactShiftRegister", apart := false, narrowed := true }
def FnExactShiftRegisterUptoSaid : Prop := fnExactShiftRegisterUptoRow.holds Try.pinned (OpenSpec.upto fnExactShiftRegisterSpec)

/-- 'laws.FnAhead', WHERE WHAT IT READS IS OF BULK AT MOST 1048576: true; the input reads as it did. -/
def fnAheadUptoRow : OpenClaim := { program := "ytbhkcidnnmpfmaa", sum := "06f9a12a76ac4705adb57b2b05ce4311a6ad25f340e7a12ac2afb844df86244f", func := "loop.example/g00930/laws.FnAhead", spec := "fnAhead", apart := false, narrowed := true }
def FnAheadUptoSaid : Prop := fnAheadUptoRow.holds Try.pinned (OpenSpec.upto fnAheadSpec)

/-- 'laws.FnExactCarriesOf', WHERE WHAT IT READS IS OF BULK AT MOST 1048576: true; the input reads as it did. -/
def fnExactCarriesOfUptoRow : OpenClaim := { program := "ytbhkcidnnmpfmaa", sum := "06f9a12a76ac4705adb57b2b05ce4311a6ad25f340e7a12ac2afb844df86244f", func := "loop.example/g00930/laws.FnExactCarriesOf", spec := "fnExactCarriesOf", apart := false, narrowed := true }
def FnExactCarriesOfUptoSaid : Prop := fnExactCarriesOfUptoRow.holds Try.pinned (OpenSpec.upto fnExactCarriesOfSpec)

/-- 'laws.FnExactInputsOf', WHERE WHAT IT READS IS OF BULK AT MOST 1048576: true; the input reads as it did. -/
def fnExactInputsOfUptoRow : OpenClaim := { program := "ytbhkcidnnmpfmaa", sum := "06f9a12a76ac4705adb57b2b05ce4311a6ad25f340e7a12ac2afb844df86244f", func := "loop.example/g00930/laws.FnExactInputsOf", spec := "fnExactInputsOf", apart := false, narrowed := true }
def FnExactInputsOfUptoSaid : Prop := fnExactInputsOfUptoRow.holds Try.pinned (OpenSpec.upto fnExactInputsOfSpec)

/-- 'laws.FnWorst', WHERE WHAT IT READS IS OF BULK AT MOST 1048576: true; the input reads as it did. -/
def fnWorstUptoRow : OpenClaim := { program := "ytbhkcidnnmpfmaa", sum := "06f9a12a76ac4705adb57b2b05ce4311a6ad25f340e7a12ac2afb844df86244f", func := "loop.example/g00930/laws.FnWorst", spec := "fnWorst", apart := false, narrowed := true }
def FnWorstUptoSaid : Prop := fnWorstUptoRow.holds Try.pinned (OpenSpec.upto fnWorstSpec)

/-- 'laws.FnExactPrepareHalves', WHERE WHAT IT READS IS OF BULK AT MOST 1048576: true; the input reads as it did. -/
def fnExactPrepareHalvesUptoRow : OpenClaim := { program := "ytbhkcidnnmpfmaa", sum := "06f9a12a76ac4705adb57b2b05ce4311a6ad25f340e7a12ac2afb844df86244f", func := "loop.example/g00930/laws.FnExactPrepareHalves", spec := "fnExactPrepareHalves", apart := false, narrowed := true }
def FnExactPrepareHalvesUptoSaid : Prop := fnExactPrepareHalvesUptoRow.holds Try.pinned (OpenSpec.upto fnExactPrepareHalvesSpec)

/-- 'laws.FnExactValidMachine', WHERE WHAT IT READS IS OF BULK AT MOST 1048576: true; the input reads as it did. -/
def fnExactValidMachineUptoRow : OpenClaim := { program := "ytbhkcidnnmpfmaa", sum := "06f9a12a76ac4705adb57b2b05ce4311a6ad25f340e7a12ac2afb844df86244f", func := "loop.example/g00930/laws.FnExactValidMachine", spec := "fnExactValidMachine", apart := false, narrowed := true }
def FnExactValidMachineUptoSaid : Prop := fnExactValidMachineUptoRow.holds Try.pinned (OpenSpec.upto fnExactValidMachineSpec)

end Rows
end Go.Proofs.Ytbhkcidnnmpfmaa
