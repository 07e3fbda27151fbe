/-
  No cell of these rows narrows 'for every input' (looked for: loops, veiled, ifaces, maps, wideKeys, modest, calm, conditions, laid).
  DERIVED. THE GIVEN ROWS OF THIS SEAT. 12 by the template 'for every input the law returns true; each argument reads behind the call as it read before'; 0 by the template 'total and deterministic' (their statements: YtolbmdgloccjgaaTotals.lean).
  GIVEN WITH THE SEED: the statements are not yours to turn. If you find one false, say at which input.
  Laid BY PROGRAM, IN A SANDBOX (cutbox-rows.mjs): the forced cells as the released guide's own fill.sh prints them over the translation 71abfefeb28057ed… (all of the seat's roots in one cut). By AI agents, Wed Nov 11 2026. No macro, syntax, notation, axiom, sorry.
-/
import Derived.Test.YtolbmdgloccjgaaChecked
import GoSem.Claim
import GoSem.ClaimJoined
import GoSem.ClaimMapViews
import Derived.JoinedTies
import Derived.KernelRfl
namespace Go.Proofs.Ytolbmdgloccjgaa
/- THE CELL 'sum', in the pinned program and in every row, IS THE sha256 OF THE DUMP (.gsa) THAT YtolbmdgloccjgaaProg.lean LOADS. Nothing in Lean hashes anything: it is a label: what it is worth is what the hold of that sum in a sandbox is worth. -/
noncomputable def Try.pinned : Pinned := { name := "ytolbmdgloccjgaa", sum := "71abfefeb28057ed3dfa2a016b350fe49ffe5576babc0b8fce6017752079f5b8", checked := Try.checked }
namespace Rows
def none {H : Type} : Left H := { results := [], args := [] }

/-- 'laws.FnExactSubRegisters': WHATEVER THE INPUT: true; the input reads as it did. -/
def fnExactSubRegistersSpec : ChangeSpec := { name := "fnExactSubRegisters", fn := fun _ => fun
  | [d1, d2] => { results := [.lit (.bool true)], args := [d1, d2] }
  | _ => none }
def fnExactSubRegistersRow : OpenClaim := { program := "ytolbmdgloccjgaa", sum := "71abfefeb28057ed3dfa2a016b350fe49ffe5576babc0b8fce6017752079f5b8", func := "loop.example/g00930/laws.FnExactSubRegisters", spec := "fnExactSubRegisters", apart := false }
def FnExactSubRegistersSaid : Prop := fnExactSubRegistersRow.holds Try.pinned (OpenSpec.ofChange fnExactSubRegistersSpec)

/-- ITS FALSE NEIGHBOUR: 'it returns false'. Refute it at one input. -/
def fnExactSubRegistersWrong : ChangeSpec := { name := "fnExactSubRegisters", fn := fun _ => fun
  | [d1, d2] => { results := [.lit (.bool false)], args := [d1, d2] }
  | _ => none }
def FnExactSubRegistersWrongFalsely : Prop := fnExactSubRegistersRow.holds Try.pinned (OpenSpec.ofChange fnExactSubRegistersWrong)

/-- 'laws.FnExactAddRegisters': WHATEVER THE INPUT: true; the input reads as it did. -/
def fnExactAddRegistersSpec : ChangeSpec := { name := "fnExactAddRegisters", fn := fun _ => fun
  | [d1, d2] => { results := [.lit (.bool true)], args := [d1, d2] }
  | _ => none }
def fnExactAddRegistersRow : OpenClaim := { program := "ytolbmdgloccjgaa", sum := "71abfefeb28057ed3dfa2a016b350fe49ffe5576babc0b8fce6017752079f5b8", func := "loop.example/g00930/laws.FnExactAddRegisters", spec := "fnExactAddRegisters", apart := false }
def FnExactAddRegistersSaid : Prop := fnExactAddRegistersRow.holds Try.pinned (OpenSpec.ofChange fnExactAddRegistersSpec)

/-- ITS FALSE NEIGHBOUR: 'it returns false'. Refute it at one input. -/
def fnExactAddRegistersWrong : ChangeSpec := { name := "fnExactAddRegisters", fn := fun _ => fun
  | [d1, d2] => { results := [.lit (.bool false)], args := [d1, d2] }
  | _ => none }
def FnExactAddRegistersWrongFalsely : Prop := fnExactAddRegistersRow.holds Try.pinned (OpenSpec.ofChange fnExactAddRegistersWrong)

/-- 'laws.FnExactSignalsOf': WHATEVER THE INPUT: true; the input reads as it did. -/
def fnExactSignalsOfSpec : ChangeSpec := { name := "fnExactSignalsOf", fn := fun _ => fun
  | [d1, d2] => { results := [.lit (.bool true)], args := [d1, d2] }
  | _ => none }
def fnExactSignalsOfRow : OpenClaim := { program := "ytolbmdgloccjgaa", sum := "71abfefeb28057ed3dfa2a016b350fe49ffe5576babc0b8fce6017752079f5b8", func := "loop.example/g00930/laws.FnExactSignalsOf", spec := "fnExactSignalsOf", apart := false }
def FnExactSignalsOfSaid : Prop := fnExactSignalsOfRow.holds Try.pinned (OpenSpec.ofChange fnExactSignalsOfSpec)

/-- ITS FALSE NEIGHBOUR: 'it returns false'. Refute it at one input. -/
def fnExactSignalsOfWrong : ChangeSpec := { name := "fnExactSignalsOf", fn := fun _ => fun
  | [d1, d2] => { results := [.lit (.bool false)], args := [d1, d2] }
  | _ => none }
def FnExactSignalsOfWrongFalsely : Prop := fnExactSignalsOfRow.holds Try.pinned (OpenSpec.ofChange fnExactSignalsOfWrong)

/-- 'laws.FnExactCountPushes': WHATEVER THE INPUT: true; the input reads as it did. -/
def fnExactCountPushesSpec : ChangeSpec := { name := "fnExactCountPushes", fn := fun _ => fun
  | [d1, d2] => { results := [.lit (.bool true)], args := [d1, d2] }
  | _ => none }
def fnExactCountPushesRow : OpenClaim := { program := "ytolbmdgloccjgaa", sum := "71abfefeb28057ed3dfa2a016b350fe49ffe5576babc0b8fce6017752079f5b8", func := "loop.example/g00930/laws.FnExactCountPushes", spec := "fnExactCountPushes", apart := false }
def FnExactCountPushesSaid : Prop := fnExactCountPushesRow.holds Try.pinned (OpenSpec.ofChange fnExactCountPushesSpec)

/-- ITS FALSE NEIGHBOUR: 'it returns false'. Refute it at one input. -/
def fnExactCountPushesWrong : ChangeSpec := { name := "fnExactCountPushes", fn := fun _ => fun
  | [d1, d2] => { results := [.lit (.bool false)], args := [d1, d2] }
  | _ => none }
def FnExactCountPushesWrongFalsely : Prop := fnExactCountPushesRow.holds Try.pinned (OpenSpec.ofChange fnExactCountPushesWrong)

/-- 'laws.FnExactRippleOf': WHATEVER THE INPUT: true; the input reads as it did. -/
def fnExactRippleOfSpec : ChangeSpec := { name := "fnExactRippleOf", fn := fun _ => fun
  | [d1, d2] => { results := [.lit (.bool true)], args := [d1, d2] }
  | _ => none }
def fnExactRippleOfRow : OpenClaim := { program := "ytolbmdgloccjgaa", sum := "71abfefeb28057ed3dfa2a016b350fe49ffe5576babc0b8fce6017752079f5b8", func := "loop.example/g00930/laws.FnExactRippleOf", spec := "fnExactRippleOf", apart := false }
def FnExactRippleOfSaid : Prop := fnExactRippleOfRow.holds Try.pinned (OpenSpec.ofChange fnExactRippleOfSpec)

/-- ITS FALSE NEIGHBOUR: 'it returns false'. Refute it at one input. -/
def fnExactRippleOfWrong : ChangeSpec := { name := "fnExactRippleOf", fn := fun _ => fun
  | [d1, d2] => { results := [.lit (.bool false)], args := [d1, d2] }
  | _ => none }
def FnExactRippleOfWrongFalsely : Prop := fnExactRippleOfRow.holds Try.pinned (OpenSpec.ofChange fnExactRippleOfWrong)

/-- 'laws.FnExactTurnWheels': WHATEVER THE INPUT: true; the input reads as it did. -/
def fnExactTurnWheelsSpec : ChangeSpec := { name := "fnExactTurnWheels", fn := fun _ => fun
  | [d1, d2] => { results := [.lit (.bool true)], args := [d1, d2] }
  | _ => none }
def fnExactTurnWheelsRow : OpenClaim := { program := "ytolbmdgloccjgaa", sum := "71abfefeb28057ed3dfa2a016b350fe49ffe5576babc0b8fce6017752079f5b8", func := "loop.example/g00930/laws.FnExactTurnWheels", spec := "fnExactTurnWheels", apart := false }
def FnExactTurnWheelsSaid : Prop := fnExactTurnWheelsRow.holds Try.pinned (OpenSpec.ofChange fnExactTurnWheelsSpec)

/-- ITS FALSE NEIGHBOUR: 'it returns false'. Refute it at one input. -/
def fnExactTurnWheelsWrong : ChangeSpec := { name := "fnExactTurnWheels", fn := fun _ => fun
  | [d1, d2] => { results := [.lit (.bool false)], args := [d1, d2] }
  | _ => none }
def FnExactTurnWheelsWrongFalsely : Prop := fnExactTurnWheelsRow.holds Try.pinned (OpenSpec.ofChange fnExactTurnWheelsWrong)

/-- 'laws.FnExactReplayEvents': WHATEVER THE INPUT: true; the input reads as it did. -/
def fnExactReplayEventsSpec : ChangeSpec := { name := "fnExactReplayEvents", fn := fun _ => fun
  | [d1, d2] => { results := [.lit (.bool true)], args := [d1, d2] }
  | _ => none }
def fnExactReplayEventsRow : OpenClaim := { program := "ytolbmdgloccjgaa", sum := "71abfefeb28057ed3dfa2a016b350fe49ffe5576babc0b8fce6017752079f5b8", func := "loop.example/g00930/laws.FnExactReplayEvents", spec := "fnExactReplayEvents", apart := false }
def FnExactReplayEventsSaid : Prop := fnExactReplayEventsRow.holds Try.pinned (OpenSpec.ofChange fnExactReplayEventsSpec)

/-- ITS FALSE NEIGHBOUR: 'it returns false'. Refute it at one input. -/
def fnExactReplayEventsWrong : ChangeSpec := { name := "fnExactReplayEvents", fn := fun _ => fun
  | [d1, d2] => { results := [.lit (.bool false)], args := [d1, d2] }
  | _ => none }
def FnExactReplayEventsWrongFalsely : Prop := fnExactReplayEventsRow.holds Try.pinned (OpenSpec.ofChange fnExactReplayEventsWrong)

/-- 'laws.FnExactPushLevers': WHATEVER THE INPUT: true; the input reads as it did. -/
def fnExactPushLeversSpec : ChangeSpec := { name := "fnExactPushLevers", fn := fun _ => fun
  | [d1, d2] => { results := [.lit (.bool true)], args := [d1, d2] }
  | _ => none }
def fnExactPushLeversRow : OpenClaim := { program := "ytolbmdgloccjgaa", sum := "71abfefeb28057ed3dfa2a016b350fe49ffe5576babc0b8fce6017752079f5b8", func := "loop.example/g00930/laws.FnExactPushLevers", spec := "fnExactPushLevers", apart := false }
def FnExactPushLeversSaid : Prop := fnExactPushLeversRow.holds Try.pinned (OpenSpec.ofChange fnExactPushLeversSpec)

/-- ITS FALSE NEIGHBOUR: 'it returns false'. Refute it at one input. -/
def fnExactPushLeversWrong : ChangeSpec := { name := "fnExactPushLevers", fn := fun _ => fun
  | [d1, d2] => { results := [.lit (.bool false)], args := [d1, d2] }
  | _ => none }
def FnExactPushLeversWrongFalsely : Prop := fnExactPushLeversRow.holds Try.pinned (OpenSpec.ofChange fnExactPushLeversWrong)

/-- 'laws.FnExactAddSlowly': WHATEVER THE INPUT: true; the input reads as it did. -/
def fnExactAddSlowlySpec : ChangeSpec := { name := "fnExactAddSlowly", fn := fun _ => fun
  | [d1, d2] => { results := [.lit (.bool true)], args := [d1, d2] }
  | _ => none }
def fnExactAddSlowlyRow : OpenClaim := { program := "ytolbmdgloccjgaa", sum := "71abfefeb28057ed3dfa2a016b350fe49ffe5576babc0b8fce6017752079f5b8", func := "loop.example/g00930/laws.FnExactAddSlowly", spec := "fnExactAddSlowly", apart := false }
def FnExactAddSlowlySaid : Prop := fnExactAddSlowlyRow.holds Try.pinned (OpenSpec.ofChange fnExactAddSlowlySpec)

/-- ITS FALSE NEIGHBOUR: 'it returns false'. Refute it at one input. -/
def fnExactAddSlowlyWrong : ChangeSpec := { name := "fnExactAddSlowly", fn := fun _ => fun
  | [d1, d2] => { results := [.lit (.bool false)], args := [d1, d2] }
  | _ => none }
def FnExactAddSlowlyWrongFalsely : Prop := fnExactAddSlowlyRow.holds Try.pinned (OpenSpec.ofChange fnExactAddSlowlyWrong)

/-- 'laws.FnExactCarriesAhead': WHATEVER THE INPUT: true; the input reads as it did. -/
def fnExactCarriesAheadSpec : ChangeSpec := { name := "fnExactCarriesAhead", fn := fun _ => fun
  | [d1, d2, d3] => { results := [.lit (.bool true)], args := [d1, d2, d3] }
  | _ => none }
def fnExactCarriesAheadRow : OpenClaim := { program := "ytolbmdgloccjgaa", sum := "71abfefeb28057ed3dfa2a016b350fe49ffe5576babc0b8fce6017752079f5b8", func := "loop.example/g00930/laws.FnExactCarriesAhead", spec := "fnExactCarriesAhead", apart := false }
def FnExactCarriesAheadSaid : Prop := fnExactCarriesAheadRow.holds Try.pinned (OpenSpec.ofChange fnExactCarriesAheadSpec)

/-- ITS FALSE NEIGHBOUR: 'it returns false'. Refute it at one input. -/
def fnExactCarriesAheadWrong : ChangeSpec := { name := "fnExactCarriesAhead", fn := fun _ => fun
  | [d1, d2, d3] => { results := [.lit (.bool false)], args := [d1, d2, d3] }
  | _ => none }
def FnExactCarriesAheadWrongFalsely : Prop := fnExactCarriesAheadRow.holds Try.pinned (OpenSpec.ofChange fnExactCarriesAheadWrong)

/-- 'laws.FnExactEventsOf': WHATEVER THE INPUT: true; the input reads as it did. -/
def fnExactEventsOfSpec : ChangeSpec := { name := "fnExactEventsOf", fn := fun _ => fun
  | [d1, d2] => { results := [.lit (.bool true)], args := [d1, d2] }
  | _ => none }
def fnExactEventsOfRow : OpenClaim := { program := "ytolbmdgloccjgaa", sum := "71abfefeb28057ed3dfa2a016b350fe49ffe5576babc0b8fce6017752079f5b8", func := "loop.example/g00930/laws.FnExactEventsOf", spec := "fnExactEventsOf", apart := false }
def FnExactEventsOfSaid : Prop := fnExactEventsOfRow.holds Try.pinned (OpenSpec.ofChange fnExactEventsOfSpec)

/-- ITS FALSE NEIGHBOUR: 'it returns false'. Refute it at one input. -/
def fnExactEventsOfWrong : ChangeSpec := { name := "fnExactEventsOf", fn := fun _ => fun
  | [d1, d2] => { results := [.lit (.bool false)], args := [d1, d2] }
  | _ => none }
def FnExactEventsOfWrongFalsely : Prop := fnExactEventsOfRow.holds Try.pinned (OpenSpec.ofChange fnExactEventsOfWrong)

/-- 'laws.FnExactAddAhead': WHATEVER THE INPUT: true; the input reads as it did. -/
def fnExactAddAheadSpec : ChangeSpec := { name := "fnExactAddAhead", fn := fun _ => fun
  | [d1, d2, d3] => { results := [.lit (.bool true)], args := [d1, d2, d3] }
  | _ => none }
def fnExactAddAheadRow : OpenClaim := { program := "ytolbmdgloccjgaa", sum := "71abfefeb28057ed3dfa2a016b350fe49ffe5576babc0b8fce6017752079f5b8", func := "loop.example/g00930/laws.FnExactAddAhead", spec := "fnExactAddAhead", apart := false }
def FnExactAddAheadSaid : Prop := fnExactAddAheadRow.holds Try.pinned (OpenSpec.ofChange fnExactAddAheadSpec)

/-- ITS FALSE NEIGHBOUR: 'it returns false'. Refute it at one input. -/
def fnExactAddAheadWrong : ChangeSpec := { name := "fnExactAddAhead", fn := fun _ => fun
  | [d1, d2, d3] => { results := [.lit (.bool false)], args := [d1, d2, d3] }
  | _ => none }
def FnExactAddAheadWrongFalsely : Prop := fnExactAddAheadRow.holds Try.pinned (OpenSpec.ofChange fnExactAddAheadWrong)

/- THE SECOND FORM. 'bulk': how many values and letters a reading holds, each counted each time it is reached (what is shared counts as often as it is met; a slice's spare places count too). A statement '..UptoSaid' is the law's where the arguments, and the package variables that the reading takes, are together of bulk at most 1048576: NARROWER than '..Said'. Prove '..Said' where nothing that the law and all that it calls make is longer than what came in: it says more and counts as full. Else prove '..UptoSaid'. A law counts once. -/
mutual
def uptoBulk {H : Type} : DataW H → Nat
  | .lit (.string bytes) => bytes.length + 1
  | .lit _ => 1
  | .nil => 1
  | .ptr d => uptoBulk d + 1
  | .slice elems spare => uptoBulkAll elems + uptoBulkAll spare + 1
  | .agg parts => uptoBulkAll parts + 1
  | .iface _ d => uptoBulk d + 1
  | .map entries => uptoBulkEntries entries + 1
  | .held _ => 1
def uptoBulkAll {H : Type} : List (DataW H) → Nat
  | [] => 0
  | d :: r => uptoBulk d + uptoBulkAll r
def uptoBulkEntries {H : Type} : List (Lit × DataW H) → Nat
  | [] => 0
  | x :: r => uptoBulkEntry x + uptoBulkEntries r
def uptoBulkEntry {H : Type} : Lit × DataW H → Nat
  | (.string bytes, d) => bytes.length + uptoBulk d + 1
  | (_, d) => uptoBulk d + 1
 end
def uptoSmall : (H : Type) → List (DataW H) → Bool := fun _ ds => decide (uptoBulkAll ds ≤ 1048576)
def OpenSpec.upto (s : _root_.Go.ChangeSpec) : _root_.Go.OpenSpec := { _root_.Go.OpenSpec.ofChange s with cond := some uptoSmall }

/-- 'laws.FnExactSubRegisters', WHERE WHAT IT READS IS OF BULK AT MOST 1048576: true; the input reads as it did. -/
def fnExactSubRegistersUptoRow : OpenClaim := { program := "ytolbmdgloccjgaa", sum := "71abfefeb28057ed3dfa2a016b350fe49ffe5576babc0b8fce6017752079f5b8", func := "loop.example/g00930/laws.FnExactSubRegisters", spec := "fnExactSubRegisters", apart := false, narrowed := true }
def FnExactSubRegistersUptoSaid : Prop := fnExactSubRegistersUptoRow.holds Try.pinned (OpenSpec.upto fnExactSubRegistersSpec)

/-- 'laws.FnExactAddRegisters', WHERE WHAT IT READS IS OF BULK AT MOST 1048576: true; the input reads as it did. -/
def fnExactAddRegistersUptoRow : OpenClaim := { program := "ytolbmdgloccjgaa", sum := "71abfefeb28057ed3dfa2a016b350fe49ffe5576babc0b8fce6017752079f5b8", func := "loop.example/g00930/laws.FnExactAddRegisters", spec := "fnExactAddRegisters", apart := false, narrowed := true }
def FnExactAddRegistersUptoSaid : Prop := fnExactAddRegistersUptoRow.holds Try.pinned (OpenSpec.upto fnExactAddRegistersSpec)

/-- 'laws.FnExactSignalsOf', WHERE WHAT IT READS IS OF BULK AT MOST 1048576: true; the input reads as it did. -/
def fnExactSignalsOfUptoRow : OpenClaim := { program := "ytolbmdgloccjgaa", sum := "71abfefeb28057ed3dfa2a016b350fe49ffe5576babc0b8fce6017752079f5b8", func := "loop.example/g00930/laws.FnExactSignalsOf", spec := "fnExactSignalsOf", apart := false, narrowed := true }
def FnExactSignalsOfUptoSaid : Prop := fnExactSignalsOfUptoRow.holds Try.pinned (OpenSpec.upto fnExactSignalsOfSpec)

/-- 'laws.FnExactCountPushes', WHERE WHAT IT READS IS OF BULK AT MOST 1048576: true; the input reads as it did. -/
def fnExactCountPushesUptoRow : OpenClaim := { program := "ytolbmdgloccjgaa", sum := "71abfefeb28057ed3dfa2a016b350fe49ffe5576babc0b8fce6017752079f5b8", func := "loop.example/g00930/laws.FnExactCountPushes", spec := "fnExactCountPushes", apart := false, narrowed := true }
def FnExactCountPushesUptoSaid : Prop := fnExactCountPushesUptoRow.holds Try.pinned (OpenSpec.upto fnExactCountPushesSpec)

/-- 'laws.FnExactRippleOf', WHERE WHAT IT READS IS OF BULK AT MOST 1048576: true; the input reads as it did. -/
def fnExactRippleOfUptoRow : OpenClaim := { program := "ytolbmdgloccjgaa", sum := "71abfefeb28057ed3dfa2a016b350fe49ffe5576babc0b8fce6017752079f5b8", func := "loop.example/g00930/laws.FnExactRippleOf", spec := "fnExactRippleOf", apart := false, narrowed := true }
def FnExactRippleOfUptoSaid : Prop := fnExactRippleOfUptoRow.holds Try.pinned (OpenSpec.upto fnExactRippleOfSpec)

/-- 'laws.FnExactTurnWheels', WHERE WHAT IT READS IS OF BULK AT MOST 1048576: true; the input reads as it did. -/
def fnExactTurnWheelsUptoRow : OpenClaim := { program := "ytolbmdgloccjgaa", sum := "71abfefeb28057ed3dfa2a016b350fe49ffe5576babc0b8fce6017752079f5b8", func := "loop.example/g00930/laws.FnExactTurnWheels", spec := "fnExactTurnWheels", apart := false, narrowed := true }
def FnExactTurnWheelsUptoSaid : Prop := fnExactTurnWheelsUptoRow.holds Try.pinned (OpenSpec.upto fnExactTurnWheelsSpec)

/-- 'laws.FnExactReplayEvents', WHERE WHAT IT READS IS OF BULK AT MOST 1048576: true; the input reads as it did. -/
def fnExactReplayEventsUptoRow : OpenClaim := { program := "ytolbmdgloccjgaa", sum := "71abfefeb28057ed3dfa2a016b350fe49ffe5576babc0b8fce6017752079f5b8", func := "loop.example/g00930/laws.FnExactReplayEvents", spec := "fnExactReplayEvents", apart := false, narrowed := true }
def FnExactReplayEventsUptoSaid : Prop := fnExactReplayEventsUptoRow.holds Try.pinned (OpenSpec.upto fnExactReplayEventsSpec)

/-- 'laws.FnExactPushLevers', WHERE WHAT IT READS IS OF BULK AT MOST 1048576: true; the input reads as it did. -/
def fnExactPushLeversUptoRow : OpenClaim := { program := "ytolbmdgloccjgaa", sum := "71abfefeb28057ed3dfa2a016b350fe49ffe5576babc0b8fce6017752079f5b8", func := "loop.example/g00930/laws.FnExactPushLevers", spec := "fnExactPushLevers", apart := false, narrowed := true }
def FnExactPushLeversUptoSaid : Prop := fnExactPushLeversUptoRow.holds Try.pinned (OpenSpec.upto fnExactPushLeversSpec)

/-- 'laws.FnExactAddSlowly', WHERE WHAT IT READS IS OF BULK AT MOST 1048576: true; the input reads as it did. -/
def fnExactAddSlowlyUptoRow : OpenClaim := { program := "ytolbmdgloccjgaa", sum := "71abfefeb28057ed3dfa2a016b350fe49ffe5576babc0b8fce6017752079f5b8", func := "loop.example/g00930/laws.FnExactAddSlowly", spec := "fnExactAddSlowly", apart := false, narrowed := true }
def FnExactAddSlowlyUptoSaid : Prop := fnExactAddSlowlyUptoRow.holds Try.pinned (OpenSpec.upto fnExactAddSlowlySpec)

/-- 'laws.FnExactCarriesAhead', WHERE WHAT IT READS IS OF BULK AT MOST 1048576: true; the input reads as it did. -/
def fnExactCarriesAheadUptoRow : OpenClaim := { program := "ytolbmdgloccjgaa", sum := "71abfefeb28057ed3dfa2a016b350fe49ffe5576babc0b8fce6017752079f5b8", func := "loop.example/g00930/laws.FnExactCarriesAhead", spec := "fnExactCarriesAhead", apart := false, narrowed := true }
def FnExactCarriesAheadUptoSaid : Prop := fnExactCarriesAheadUptoRow.holds Try.pinned (OpenSpec.upto fnExactCarriesAheadSpec)

/-- 'laws.FnExactEventsOf', WHERE WHAT IT READS IS OF BULK AT MOST 1048576: true; the input reads as it did. -/
def fnExactEventsOfUptoRow : OpenClaim := { program := "ytolbmdgloccjgaa", sum := "71abfefeb28057ed3dfa2a016b350fe49ffe5576babc0b8fce6017752079f5b8", func := "loop.example/g00930/laws.FnExactEventsOf", spec := "fnExactEventsOf", apart := false, narrowed := true }
def FnExactEventsOfUptoSaid : Prop := fnExactEventsOfUptoRow.holds Try.pinned (OpenSpec.upto fnExactEventsOfSpec)

/-- 'laws.FnExactAddAhead', WHERE WHAT IT READS IS OF BULK AT MOST 1048576: true; the input reads as it did. -/
def fnExactAddAheadUptoRow : OpenClaim := { program := "ytolbmdgloccjgaa", sum := "71abfefeb28057ed3dfa2a016b350fe49ffe5576babc0b8fce6017752079f5b8", func := "loop.example/g00930/laws.FnExactAddAhead", spec := "fnExactAddAhead", apart := false, narrowed := true }
def FnExactAddAheadUptoSaid : Prop := fnExactAddAheadUptoRow.holds Try.pinned (OpenSpec.upto fnExactAddAheadSpec)

end Rows
end Go.Proofs.Ytolbmdgloccjgaa
