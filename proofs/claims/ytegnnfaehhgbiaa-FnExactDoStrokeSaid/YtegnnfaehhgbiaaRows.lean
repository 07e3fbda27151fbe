/-
  No cell of these rows narrows 'for every input' (looked for: loops, veiled, ifaces, maps, wideKeys, modest, calm, conditions, laid).
  DERIVED. THE GIVEN ROWS OF THIS SEAT. 12 by the template 'for every input the law returns true; each argument reads behind the call as it read before'; 0 by the template 'total and deterministic' (their statements: YtegnnfaehhgbiaaTotals.lean).
  GIVEN WITH THE SEED: the statements are not yours to turn. If you find one false, say at which input.
  Laid BY PROGRAM, IN A SANDBOX (cutbox-rows.mjs): the forced cells as the released guide's own fill.sh prints them over the translation 922b013cee1e8648… (all of the seat's roots in one cut). By AI agents, Wed Nov 11 2026. No macro, syntax, notation, axiom, sorry.
-/
import Derived.Test.YtegnnfaehhgbiaaChecked
import GoSem.Claim
import GoSem.ClaimJoined
import GoSem.ClaimMapViews
import Derived.JoinedTies
import Derived.KernelRfl
namespace Go.Proofs.Ytegnnfaehhgbiaa
/- THE CELL 'sum', in the pinned program and in every row, IS THE sha256 OF THE DUMP (.gsa) THAT YtegnnfaehhgbiaaProg.lean LOADS. Nothing in Lean hashes anything: it is a label: what it is worth is what the hold of that sum in a sandbox is worth. -/
noncomputable def Try.pinned : Pinned := { name := "ytegnnfaehhgbiaa", sum := "922b013cee1e864804105170c2c1979731428a239d97bbf533518907fd79af44", checked := Try.checked }
namespace Rows
def none {H : Type} : Left H := { results := [], args := [] }

/-- 'laws.FnExactPlacesOf': WHATEVER THE INPUT: true; the input reads as it did. -/
def fnExactPlacesOfSpec : ChangeSpec := { name := "fnExactPlacesOf", fn := fun _ => fun
  | [d] => { results := [.lit (.bool true)], args := [d] }
  | _ => none }
def fnExactPlacesOfRow : OpenClaim := { program := "ytegnnfaehhgbiaa", sum := "922b013cee1e864804105170c2c1979731428a239d97bbf533518907fd79af44", func := "loop.example/g00930/laws.FnExactPlacesOf", spec := "fnExactPlacesOf", apart := false }
def FnExactPlacesOfSaid : Prop := fnExactPlacesOfRow.holds Try.pinned (OpenSpec.ofChange fnExactPlacesOfSpec)

/-- ITS FALSE NEIGHBOUR: 'it returns false'. Refute it at one input. -/
def fnExactPlacesOfWrong : ChangeSpec := { name := "fnExactPlacesOf", fn := fun _ => fun
  | [d] => { results := [.lit (.bool false)], args := [d] }
  | _ => none }
def FnExactPlacesOfWrongFalsely : Prop := fnExactPlacesOfRow.holds Try.pinned (OpenSpec.ofChange fnExactPlacesOfWrong)

/-- 'laws.FnExactNewMachine': WHATEVER THE INPUT: true; the input reads as it did. -/
def fnExactNewMachineSpec : ChangeSpec := { name := "fnExactNewMachine", fn := fun _ => fun
  | [d1, d2, d3, d4] => { results := [.lit (.bool true)], args := [d1, d2, d3, d4] }
  | _ => none }
def fnExactNewMachineRow : OpenClaim := { program := "ytegnnfaehhgbiaa", sum := "922b013cee1e864804105170c2c1979731428a239d97bbf533518907fd79af44", func := "loop.example/g00930/laws.FnExactNewMachine", spec := "fnExactNewMachine", apart := false }
def FnExactNewMachineSaid : Prop := fnExactNewMachineRow.holds Try.pinned (OpenSpec.ofChange fnExactNewMachineSpec)

/-- ITS FALSE NEIGHBOUR: 'it returns false'. Refute it at one input. -/
def fnExactNewMachineWrong : ChangeSpec := { name := "fnExactNewMachine", fn := fun _ => fun
  | [d1, d2, d3, d4] => { results := [.lit (.bool false)], args := [d1, d2, d3, d4] }
  | _ => none }
def FnExactNewMachineWrongFalsely : Prop := fnExactNewMachineRow.holds Try.pinned (OpenSpec.ofChange fnExactNewMachineWrong)

/-- 'laws.FnExactWidenAccumulator': WHATEVER THE INPUT: true; the input reads as it did. -/
def fnExactWidenAccumulatorSpec : ChangeSpec := { name := "fnExactWidenAccumulator", fn := fun _ => fun
  | [d1, d2] => { results := [.lit (.bool true)], args := [d1, d2] }
  | _ => none }
def fnExactWidenAccumulatorRow : OpenClaim := { program := "ytegnnfaehhgbiaa", sum := "922b013cee1e864804105170c2c1979731428a239d97bbf533518907fd79af44", func := "loop.example/g00930/laws.FnExactWidenAccumulator", spec := "fnExactWidenAccumulator", apart := false }
def FnExactWidenAccumulatorSaid : Prop := fnExactWidenAccumulatorRow.holds Try.pinned (OpenSpec.ofChange fnExactWidenAccumulatorSpec)

/-- ITS FALSE NEIGHBOUR: 'it returns false'. Refute it at one input. -/
def fnExactWidenAccumulatorWrong : ChangeSpec := { name := "fnExactWidenAccumulator", fn := fun _ => fun
  | [d1, d2] => { results := [.lit (.bool false)], args := [d1, d2] }
  | _ => none }
def FnExactWidenAccumulatorWrongFalsely : Prop := fnExactWidenAccumulatorRow.holds Try.pinned (OpenSpec.ofChange fnExactWidenAccumulatorWrong)

/-- 'laws.FnExactNegateAccumulator': WHATEVER THE INPUT: true; the input reads as it did. -/
def fnExactNegateAccumulatorSpec : ChangeSpec := { name := "fnExactNegateAccumulator", fn := fun _ => fun
  | [d] => { results := [.lit (.bool true)], args := [d] }
  | _ => none }
def fnExactNegateAccumulatorRow : OpenClaim := { program := "ytegnnfaehhgbiaa", sum := "922b013cee1e864804105170c2c1979731428a239d97bbf533518907fd79af44", func := "loop.example/g00930/laws.FnExactNegateAccumulator", spec := "fnExactNegateAccumulator", apart := false }
def FnExactNegateAccumulatorSaid : Prop := fnExactNegateAccumulatorRow.holds Try.pinned (OpenSpec.ofChange fnExactNegateAccumulatorSpec)

/-- ITS FALSE NEIGHBOUR: 'it returns false'. Refute it at one input. -/
def fnExactNegateAccumulatorWrong : ChangeSpec := { name := "fnExactNegateAccumulator", fn := fun _ => fun
  | [d] => { results := [.lit (.bool false)], args := [d] }
  | _ => none }
def FnExactNegateAccumulatorWrongFalsely : Prop := fnExactNegateAccumulatorRow.holds Try.pinned (OpenSpec.ofChange fnExactNegateAccumulatorWrong)

/-- 'laws.FnExactAccumulateNumber': WHATEVER THE INPUT: true; the input reads as it did. -/
def fnExactAccumulateNumberSpec : ChangeSpec := { name := "fnExactAccumulateNumber", fn := fun _ => fun
  | [d1, d2] => { results := [.lit (.bool true)], args := [d1, d2] }
  | _ => none }
def fnExactAccumulateNumberRow : OpenClaim := { program := "ytegnnfaehhgbiaa", sum := "922b013cee1e864804105170c2c1979731428a239d97bbf533518907fd79af44", func := "loop.example/g00930/laws.FnExactAccumulateNumber", spec := "fnExactAccumulateNumber", apart := false }
def FnExactAccumulateNumberSaid : Prop := fnExactAccumulateNumberRow.holds Try.pinned (OpenSpec.ofChange fnExactAccumulateNumberSpec)

/-- ITS FALSE NEIGHBOUR: 'it returns false'. Refute it at one input. -/
def fnExactAccumulateNumberWrong : ChangeSpec := { name := "fnExactAccumulateNumber", fn := fun _ => fun
  | [d1, d2] => { results := [.lit (.bool false)], args := [d1, d2] }
  | _ => none }
def FnExactAccumulateNumberWrongFalsely : Prop := fnExactAccumulateNumberRow.holds Try.pinned (OpenSpec.ofChange fnExactAccumulateNumberWrong)

/-- 'laws.FnExactTransferTo': WHATEVER THE INPUT: true; the input reads as it did. -/
def fnExactTransferToSpec : ChangeSpec := { name := "fnExactTransferTo", fn := fun _ => fun
  | [d1, d2] => { results := [.lit (.bool true)], args := [d1, d2] }
  | _ => none }
def fnExactTransferToRow : OpenClaim := { program := "ytegnnfaehhgbiaa", sum := "922b013cee1e864804105170c2c1979731428a239d97bbf533518907fd79af44", func := "loop.example/g00930/laws.FnExactTransferTo", spec := "fnExactTransferTo", apart := false }
def FnExactTransferToSaid : Prop := fnExactTransferToRow.holds Try.pinned (OpenSpec.ofChange fnExactTransferToSpec)

/-- ITS FALSE NEIGHBOUR: 'it returns false'. Refute it at one input. -/
def fnExactTransferToWrong : ChangeSpec := { name := "fnExactTransferTo", fn := fun _ => fun
  | [d1, d2] => { results := [.lit (.bool false)], args := [d1, d2] }
  | _ => none }
def FnExactTransferToWrongFalsely : Prop := fnExactTransferToRow.holds Try.pinned (OpenSpec.ofChange fnExactTransferToWrong)

/-- 'laws.FnExactAccumulateAll': WHATEVER THE INPUT: true; the input reads as it did. -/
def fnExactAccumulateAllSpec : ChangeSpec := { name := "fnExactAccumulateAll", fn := fun _ => fun
  | [d1, d2] => { results := [.lit (.bool true)], args := [d1, d2] }
  | _ => none }
def fnExactAccumulateAllRow : OpenClaim := { program := "ytegnnfaehhgbiaa", sum := "922b013cee1e864804105170c2c1979731428a239d97bbf533518907fd79af44", func := "loop.example/g00930/laws.FnExactAccumulateAll", spec := "fnExactAccumulateAll", apart := false }
def FnExactAccumulateAllSaid : Prop := fnExactAccumulateAllRow.holds Try.pinned (OpenSpec.ofChange fnExactAccumulateAllSpec)

/-- ITS FALSE NEIGHBOUR: 'it returns false'. Refute it at one input. -/
def fnExactAccumulateAllWrong : ChangeSpec := { name := "fnExactAccumulateAll", fn := fun _ => fun
  | [d1, d2] => { results := [.lit (.bool false)], args := [d1, d2] }
  | _ => none }
def FnExactAccumulateAllWrongFalsely : Prop := fnExactAccumulateAllRow.holds Try.pinned (OpenSpec.ofChange fnExactAccumulateAllWrong)

/-- 'laws.FnExactSetDigit': WHATEVER THE INPUT: true; the input reads as it did. -/
def fnExactSetDigitSpec : ChangeSpec := { name := "fnExactSetDigit", fn := fun _ => fun
  | [d1, d2, d3] => { results := [.lit (.bool true)], args := [d1, d2, d3] }
  | _ => none }
def fnExactSetDigitRow : OpenClaim := { program := "ytegnnfaehhgbiaa", sum := "922b013cee1e864804105170c2c1979731428a239d97bbf533518907fd79af44", func := "loop.example/g00930/laws.FnExactSetDigit", spec := "fnExactSetDigit", apart := false }
def FnExactSetDigitSaid : Prop := fnExactSetDigitRow.holds Try.pinned (OpenSpec.ofChange fnExactSetDigitSpec)

/-- ITS FALSE NEIGHBOUR: 'it returns false'. Refute it at one input. -/
def fnExactSetDigitWrong : ChangeSpec := { name := "fnExactSetDigit", fn := fun _ => fun
  | [d1, d2, d3] => { results := [.lit (.bool false)], args := [d1, d2, d3] }
  | _ => none }
def FnExactSetDigitWrongFalsely : Prop := fnExactSetDigitRow.holds Try.pinned (OpenSpec.ofChange fnExactSetDigitWrong)

/-- 'laws.FnExactSetValue': WHATEVER THE INPUT: true; the input reads as it did. -/
def fnExactSetValueSpec : ChangeSpec := { name := "fnExactSetValue", fn := fun _ => fun
  | [d1, d2] => { results := [.lit (.bool true)], args := [d1, d2] }
  | _ => none }
def fnExactSetValueRow : OpenClaim := { program := "ytegnnfaehhgbiaa", sum := "922b013cee1e864804105170c2c1979731428a239d97bbf533518907fd79af44", func := "loop.example/g00930/laws.FnExactSetValue", spec := "fnExactSetValue", apart := false }
def FnExactSetValueSaid : Prop := fnExactSetValueRow.holds Try.pinned (OpenSpec.ofChange fnExactSetValueSpec)

/-- ITS FALSE NEIGHBOUR: 'it returns false'. Refute it at one input. -/
def fnExactSetValueWrong : ChangeSpec := { name := "fnExactSetValue", fn := fun _ => fun
  | [d1, d2] => { results := [.lit (.bool false)], args := [d1, d2] }
  | _ => none }
def FnExactSetValueWrongFalsely : Prop := fnExactSetValueRow.holds Try.pinned (OpenSpec.ofChange fnExactSetValueWrong)

/-- 'laws.FnCounted': WHATEVER THE INPUT: true; the input reads as it did. -/
def fnCountedSpec : ChangeSpec := { name := "fnCounted", fn := fun _ => fun
  | [d1, d2] => { results := [.lit (.bool true)], args := [d1, d2] }
  | _ => none }
def fnCountedRow : OpenClaim := { program := "ytegnnfaehhgbiaa", sum := "922b013cee1e864804105170c2c1979731428a239d97bbf533518907fd79af44", func := "loop.example/g00930/laws.FnCounted", spec := "fnCounted", apart := false }
def FnCountedSaid : Prop := fnCountedRow.holds Try.pinned (OpenSpec.ofChange fnCountedSpec)

/-- ITS FALSE NEIGHBOUR: 'it returns false'. Refute it at one input. -/
def fnCountedWrong : ChangeSpec := { name := "fnCounted", fn := fun _ => fun
  | [d1, d2] => { results := [.lit (.bool false)], args := [d1, d2] }
  | _ => none }
def FnCountedWrongFalsely : Prop := fnCountedRow.holds Try.pinned (OpenSpec.ofChange fnCountedWrong)

/-- 'laws.FnExactDoStroke': WHATEVER THE INPUT: true; the input reads as it did. -/
def fnExactDoStrokeSpec : ChangeSpec := { name := "fnExactDoStroke", fn := fun _ => fun
  | [d1, d2] => { results := [.lit (.bool true)], args := [d1, d2] }
  | _ => none }
def fnExactDoStrokeRow : OpenClaim := { program := "ytegnnfaehhgbiaa", sum := "922b013cee1e864804105170c2c1979731428a239d97bbf533518907fd79af44", func := "loop.example/g00930/laws.FnExactDoStroke", spec := "fnExactDoStroke", apart := false }
def FnExactDoStrokeSaid : Prop := fnExactDoStrokeRow.holds Try.pinned (OpenSpec.ofChange fnExactDoStrokeSpec)

/-- ITS FALSE NEIGHBOUR: 'it returns false'. Refute it at one input. -/
def fnExactDoStrokeWrong : ChangeSpec := { name := "fnExactDoStroke", fn := fun _ => fun
  | [d1, d2] => { results := [.lit (.bool false)], args := [d1, d2] }
  | _ => none }
def FnExactDoStrokeWrongFalsely : Prop := fnExactDoStrokeRow.holds Try.pinned (OpenSpec.ofChange fnExactDoStrokeWrong)

/-- 'laws.FnExactDoStrokes': WHATEVER THE INPUT: true; the input reads as it did. -/
def fnExactDoStrokesSpec : ChangeSpec := { name := "fnExactDoStrokes", fn := fun _ => fun
  | [d1, d2] => { results := [.lit (.bool true)], args := [d1, d2] }
  | _ => none }
def fnExactDoStrokesRow : OpenClaim := { program := "ytegnnfaehhgbiaa", sum := "922b013cee1e864804105170c2c1979731428a239d97bbf533518907fd79af44", func := "loop.example/g00930/laws.FnExactDoStrokes", spec := "fnExactDoStrokes", apart := false }
def FnExactDoStrokesSaid : Prop := fnExactDoStrokesRow.holds Try.pinned (OpenSpec.ofChange fnExactDoStrokesSpec)

/-- ITS FALSE NEIGHBOUR: 'it returns false'. Refute it at one input. -/
def fnExactDoStrokesWrong : ChangeSpec := { name := "fnExactDoStrokes", fn := fun _ => fun
  | [d1, d2] => { results := [.lit (.bool false)], args := [d1, d2] }
  | _ => none }
def FnExactDoStrokesWrongFalsely : Prop := fnExactDoStrokesRow.holds Try.pinned (OpenSpec.ofChange fnExactDoStrokesWrong)

/- THE SECOND FORM. 'bulk': how many values and letters a reading holds, each counted each time it is reached (what is shared counts as often as it is met; a slice's spare places count too). A statement '..UptoSaid' is the law's where the arguments, and the package variables that the reading takes, are together of bulk at most 1048576: NARROWER than '..Said'. Prove '..Said' where nothing that the law and all that it calls make is longer than what came in: it says more and counts as full. Else prove '..UptoSaid'. A law counts once. -/
mutual
def uptoBulk {H : Type} : DataW H → Nat
  | .lit (.string bytes) => bytes.length + 1
  | .lit _ => 1
  | .nil => 1
  | .ptr d => uptoBulk d + 1
  | .slice elems spare => uptoBulkAll elems + uptoBulkAll spare + 1
  | .agg parts => uptoBulkAll parts + 1
  | .iface _ d => uptoBulk d + 1
  | .map entries => uptoBulkEntries entries + 1
  | .held _ => 1
def uptoBulkAll {H : Type} : List (DataW H) → Nat
  | [] => 0
  | d :: r => uptoBulk d + uptoBulkAll r
def uptoBulkEntries {H : Type} : List (Lit × DataW H) → Nat
  | [] => 0
  | x :: r => uptoBulkEntry x + uptoBulkEntries r
def uptoBulkEntry {H : Type} : Lit × DataW H → Nat
  | (.string bytes, d) => bytes.length + uptoBulk d + 1
  | (_, d) => uptoBulk d + 1
 end
def uptoSmall : (H : Type) → List (DataW H) → Bool := fun _ ds => decide (uptoBulkAll ds ≤ 1048576)
def OpenSpec.upto (s : _root_.Go.ChangeSpec) : _root_.Go.OpenSpec := { _root_.Go.OpenSpec.ofChange s with cond := some uptoSmall }

/-- 'laws.FnExactPlacesOf', WHERE WHAT IT READS IS OF BULK AT MOST 1048576: true; the input reads as it did. -/
def fnExactPlacesOfUptoRow : OpenClaim := { program := "ytegnnfaehhgbiaa", sum := "922b013cee1e864804105170c2c1979731428a239d97bbf533518907fd79af44", func := "loop.example/g00930/laws.FnExactPlacesOf", spec := "fnExactPlacesOf", apart := false, narrowed := true }
def FnExactPlacesOfUptoSaid : Prop := fnExactPlacesOfUptoRow.holds Try.pinned (OpenSpec.upto fnExactPlacesOfSpec)

/-- 'laws.FnExactNewMachine', WHERE WHAT IT READS IS OF BULK AT MOST 1048576: true; the input reads as it did. -/
def fnExactNewMachineUptoRow : OpenClaim := { program := "ytegnnfaehhgbiaa", sum := "922b013cee1e864804105170c2c1979731428a239d97bbf533518907fd79af44", func := "loop.example/g00930/laws.FnExactNewMachine", spec := "fnExactNewMachine", apart := false, narrowed := true }
def FnExactNewMachineUptoSaid : Prop := fnExactNewMachineUptoRow.holds Try.pinned (OpenSpec.upto fnExactNewMachineSpec)

/-- 'laws.FnExactWidenAccumulator', WHERE WHAT IT READS IS OF BULK AT MOST 1048576: true; the input reads as it did. -/
def fnExactWidenAccumulatorUptoRow : OpenClaim := { program := "ytegnnfaehhgbiaa", sum := "922b013cee1e864804105170c2c1979731428a239d97bbf533518907fd79af44", func := "loop.example/g00930/laws.FnExactWidenAccumulator", spec := "fnExactWidenAccumulator", apart := false, narrowed := true }
def FnExactWidenAccumulatorUptoSaid : Prop := fnExactWidenAccumulatorUptoRow.holds Try.pinned (OpenSpec.upto fnExactWidenAccumulatorSpec)

/-- 'laws.FnExactNegateAccumulator', WHERE WHAT IT READS IS OF BULK AT MOST 1048576: true; the input reads as it did. -/
def fnExactNegateAccumulatorUptoRow : OpenClaim := { program := "ytegnnfaehhgbiaa", sum := "922b013cee1e864804105170c2c1979731428a239d97bbf533518907fd79af44", func := "loop.example/g00930/laws.FnExactNegateAccumulator", spec := "fnExactNegateAccumulator", apart := false, narrowed := true }
def FnExactNegateAccumulatorUptoSaid : Prop := fnExactNegateAccumulatorUptoRow.holds Try.pinned (OpenSpec.upto fnExactNegateAccumulatorSpec)

/-- 'laws.FnExactAccumulateNumber', WHERE WHAT IT READS IS OF BULK AT MOST 1048576: true; the input reads as it did. -/
def fnExactAccumulateNumberUptoRow : OpenClaim := { program := "ytegnnfaehhgbiaa", sum := "922b013cee1e864804105170c2c1979731428a239d97bbf533518907fd79af44", func := "loop.example/g00930/laws.FnExactAccumulateNumber", spec := "fnExactAccumulateNumber", apart := false, narrowed := true }
def FnExactAccumulateNumberUptoSaid : Prop := fnExactAccumulateNumberUptoRow.holds Try.pinned (OpenSpec.upto fnExactAccumulateNumberSpec)

/-- 'laws.FnExactTransferTo', WHERE WHAT IT READS IS OF BULK AT MOST 1048576: true; the input reads as it did. -/
def fnExactTransferToUptoRow : OpenClaim := { program := "ytegnnfaehhgbiaa", sum := "922b013cee1e864804105170c2c1979731428a239d97bbf533518907fd79af44", func := "loop.example/g00930/laws.FnExactTransferTo", spec := "fnExactTransferTo", apart := false, narrowed := true }
def FnExactTransferToUptoSaid : Prop := fnExactTransferToUptoRow.holds Try.pinned (OpenSpec.upto fnExactTransferToSpec)

/-- 'laws.FnExactAccumulateAll', WHERE WHAT IT READS IS OF BULK AT MOST 1048576: true; the input reads as it did. -/
def fnExactAccumulateAllUptoRow : OpenClaim := { program := "ytegnnfaehhgbiaa", sum := "922b013cee1e864804105170c2c1979731428a239d97bbf533518907fd79af44", func := "loop.example/g00930/laws.FnExactAccumulateAll", spec := "fnExactAccumulateAll", apart := false, narrowed := true }
def FnExactAccumulateAllUptoSaid : Prop := fnExactAccumulateAllUptoRow.holds Try.pinned (OpenSpec.upto fnExactAccumulateAllSpec)

/-- 'laws.FnExactSetDigit', WHERE WHAT IT READS IS OF BULK AT MOST 1048576: true; the input reads as it did. -/
def fnExactSetDigitUptoRow : OpenClaim := { program := "ytegnnfaehhgbiaa", sum := "922b013cee1e864804105170c2c1979731428a239d97bbf533518907fd79af44", func := "loop.example/g00930/laws.FnExactSetDigit", spec := "fnExactSetDigit", apart := false, narrowed := true }
def FnExactSetDigitUptoSaid : Prop := fnExactSetDigitUptoRow.holds Try.pinned (OpenSpec.upto fnExactSetDigitSpec)

/-- 'laws.FnExactSetValue', WHERE WHAT IT READS IS OF BULK AT MOST 1048576: true; the input reads as it did. -/
def fnExactSetValueUptoRow : OpenClaim := { program := "ytegnnfaehhgbiaa", sum := "922b013cee1e864804105170c2c1979731428a239d97bbf533518907fd79af44", func := "loop.example/g00930/laws.FnExactSetValue", spec := "fnExactSetValue", apart := false, narrowed := true }
def FnExactSetValueUptoSaid : Prop := fnExactSetValueUptoRow.holds Try.pinned (OpenSpec.upto fnExactSetValueSpec)

/-- 'laws.FnCounted', WHERE WHAT IT READS IS OF BULK AT MOST 1048576: true; the input reads as it did. -/
def fnCountedUptoRow : OpenClaim := { program := "ytegnnfaehhgbiaa", sum := "922b013cee1e864804105170c2c1979731428a239d97bbf533518907fd79af44", func := "loop.example/g00930/laws.FnCounted", spec := "fnCounted", apart := false, narrowed := true }
def FnCountedUptoSaid : Prop := fnCountedUptoRow.holds Try.pinned (OpenSpec.upto fnCountedSpec)

/-- 'laws.FnExactDoStroke', WHERE WHAT IT READS IS OF BULK AT MOST 1048576: true; the input reads as it did. -/
def fnExactDoStrokeUptoRow : OpenClaim := { program := "ytegnnfaehhgbiaa", sum := "922b013cee1e864804105170c2c1979731428a239d97bbf533518907fd79af44", func := "loop.example/g00930/laws.FnExactDoStroke", spec := "fnExactDoStroke", apart := false, narrowed := true }
def FnExactDoStrokeUptoSaid : Prop := fnExactDoStrokeUptoRow.holds Try.pinned (OpenSpec.upto fnExactDoStrokeSpec)

/-- 'laws.FnExactDoStrokes', WHERE WHAT IT READS IS OF BULK AT MOST 1048576: true; the input reads as it did. -/
def fnExactDoStrokesUptoRow : OpenClaim := { program := "ytegnnfaehhgbiaa", sum := "922b013cee1e864804105170c2c1979731428a239d97bbf533518907fd79af44", func := "loop.example/g00930/laws.FnExactDoStrokes", spec := "fnExactDoStrokes", apart := false, narrowed := true }
def FnExactDoStrokesUptoSaid : Prop := fnExactDoStrokesUptoRow.holds Try.pinned (OpenSpec.upto fnExactDoStrokesSpec)

end Rows
end Go.Proofs.Ytegnnfaehhgbiaa
