/-
  No cell of these rows narrows 'for every input' (looked for: loops, veiled, ifaces, maps, wideKeys, modest, calm, conditions, laid).
  DERIVED. THE GIVEN ROWS OF THIS SEAT. 9 by the template 'for every input the law returns true; each argument reads behind the call as it read before'; 0 by the template 'total and deterministic' (their statements: YthiajmikeaolmaaTotals.lean).
  GIVEN WITH THE SEED: the statements are not yours to turn. If you find one false, say at which input.
  Laid BY PROGRAM, IN A SANDBOX (cutbox-rows.mjs): the forced cells as the released guide's own fill.sh prints them over the translation f4d14820a4d3e02e… (all of the seat's roots in one cut). By AI agents, Wed Nov 11 2026. No macro, syntax, notation, axiom, sorry.
-/
import Derived.Test.YthiajmikeaolmaaChecked
import GoSem.Claim
import GoSem.ClaimJoined
import GoSem.ClaimMapViews
import Derived.JoinedTies
import Derived.KernelRfl
namespace Go.Proofs.Ythiajmikeaolmaa
/- THE CELL 'sum', in the pinned program and in every row, IS THE sha256 OF THE DUMP (.gsa) THAT YthiajmikeaolmaaProg.lean LOADS. Nothing in Lean hashes anything: it is a label: what it is worth is what the hold of that sum in a sandbox is worth. -/
noncomputable def Try.pinned : Pinned := { name := "ythiajmikeaolmaa", sum := "f4d14820a4d3e02e9b646495f7b9fa515c96cdbb4d8847ea11553ecf28b6f9e7", checked := Try.checked }
namespace Rows
def none {H : Type} : Left H := { results := [], args := [] }

/-- 'laws.FnTables': WHATEVER THE INPUT: true; the input reads as it did. -/
def fnTablesSpec : ChangeSpec := { name := "fnTables", fn := fun _ => fun
  | [d1, d2] => { results := [.lit (.bool true)], args := [d1, d2] }
  | _ => none }
def fnTablesRow : OpenClaim := { program := "ythiajmikeaolmaa", sum := "f4d14820a4d3e02e9b646495f7b9fa515c96cdbb4d8847ea11553ecf28b6f9e7", func := "loop.example/g00930/laws.FnTables", spec := "fnTables", apart := false }
def FnTablesSaid : Prop := fnTablesRow.holds Try.pinned (OpenSpec.ofChange fnTablesSpec)

/-- ITS FALSE NEIGHBOUR: 'it returns false'. Refute it at one input. -/
def fnTablesWrong : ChangeSpec := { name := "fnTables", fn := fun _ => fun
  | [d1, d2] => { results := [.lit (.bool false)], args := [d1, d2] }
  | _ => none }
def FnTablesWrongFalsely : Prop := fnTablesRow.holds Try.pinned (OpenSpec.ofChange fnTablesWrong)

/-- 'laws.FnExactValidTrials': WHATEVER THE INPUT: true; the input reads as it did. -/
def fnExactValidTrialsSpec : ChangeSpec := { name := "fnExactValidTrials", fn := fun _ => fun
  | [d] => { results := [.lit (.bool true)], args := [d] }
  | _ => none }
def fnExactValidTrialsRow : OpenClaim := { program := "ythiajmikeaolmaa", sum := "f4d14820a4d3e02e9b646495f7b9fa515c96cdbb4d8847ea11553ecf28b6f9e7", func := "loop.example/g00930/laws.FnExactValidTrials", spec := "fnExactValidTrials", apart := false }
def FnExactValidTrialsSaid : Prop := fnExactValidTrialsRow.holds Try.pinned (OpenSpec.ofChange fnExactValidTrialsSpec)

/-- ITS FALSE NEIGHBOUR: 'it returns false'. Refute it at one input. -/
def fnExactValidTrialsWrong : ChangeSpec := { name := "fnExactValidTrials", fn := fun _ => fun
  | [d] => { results := [.lit (.bool false)], args := [d] }
  | _ => none }
def FnExactValidTrialsWrongFalsely : Prop := fnExactValidTrialsRow.holds Try.pinned (OpenSpec.ofChange fnExactValidTrialsWrong)

/-- 'laws.FnExactFirstDifference': WHATEVER THE INPUT: true; the input reads as it did. -/
def fnExactFirstDifferenceSpec : ChangeSpec := { name := "fnExactFirstDifference", fn := fun _ => fun
  | [d1, d2] => { results := [.lit (.bool true)], args := [d1, d2] }
  | _ => none }
def fnExactFirstDifferenceRow : OpenClaim := { program := "ythiajmikeaolmaa", sum := "f4d14820a4d3e02e9b646495f7b9fa515c96cdbb4d8847ea11553ecf28b6f9e7", func := "loop.example/g00930/laws.FnExactFirstDifference", spec := "fnExactFirstDifference", apart := false }
def FnExactFirstDifferenceSaid : Prop := fnExactFirstDifferenceRow.holds Try.pinned (OpenSpec.ofChange fnExactFirstDifferenceSpec)

/-- ITS FALSE NEIGHBOUR: 'it returns false'. Refute it at one input. -/
def fnExactFirstDifferenceWrong : ChangeSpec := { name := "fnExactFirstDifference", fn := fun _ => fun
  | [d1, d2] => { results := [.lit (.bool false)], args := [d1, d2] }
  | _ => none }
def FnExactFirstDifferenceWrongFalsely : Prop := fnExactFirstDifferenceRow.holds Try.pinned (OpenSpec.ofChange fnExactFirstDifferenceWrong)

/-- 'laws.FnExactAddWithFaults': WHATEVER THE INPUT: true; the input reads as it did. -/
def fnExactAddWithFaultsSpec : ChangeSpec := { name := "fnExactAddWithFaults", fn := fun _ => fun
  | [d1, d2, d3] => { results := [.lit (.bool true)], args := [d1, d2, d3] }
  | _ => none }
def fnExactAddWithFaultsRow : OpenClaim := { program := "ythiajmikeaolmaa", sum := "f4d14820a4d3e02e9b646495f7b9fa515c96cdbb4d8847ea11553ecf28b6f9e7", func := "loop.example/g00930/laws.FnExactAddWithFaults", spec := "fnExactAddWithFaults", apart := false }
def FnExactAddWithFaultsSaid : Prop := fnExactAddWithFaultsRow.holds Try.pinned (OpenSpec.ofChange fnExactAddWithFaultsSpec)

/-- ITS FALSE NEIGHBOUR: 'it returns false'. Refute it at one input. -/
def fnExactAddWithFaultsWrong : ChangeSpec := { name := "fnExactAddWithFaults", fn := fun _ => fun
  | [d1, d2, d3] => { results := [.lit (.bool false)], args := [d1, d2, d3] }
  | _ => none }
def FnExactAddWithFaultsWrongFalsely : Prop := fnExactAddWithFaultsRow.holds Try.pinned (OpenSpec.ofChange fnExactAddWithFaultsWrong)

/-- 'laws.FnExactAddByTable': WHATEVER THE INPUT: true; the input reads as it did. -/
def fnExactAddByTableSpec : ChangeSpec := { name := "fnExactAddByTable", fn := fun _ => fun
  | [d1, d2, d3] => { results := [.lit (.bool true)], args := [d1, d2, d3] }
  | _ => none }
def fnExactAddByTableRow : OpenClaim := { program := "ythiajmikeaolmaa", sum := "f4d14820a4d3e02e9b646495f7b9fa515c96cdbb4d8847ea11553ecf28b6f9e7", func := "loop.example/g00930/laws.FnExactAddByTable", spec := "fnExactAddByTable", apart := false }
def FnExactAddByTableSaid : Prop := fnExactAddByTableRow.holds Try.pinned (OpenSpec.ofChange fnExactAddByTableSpec)

/-- ITS FALSE NEIGHBOUR: 'it returns false'. Refute it at one input. -/
def fnExactAddByTableWrong : ChangeSpec := { name := "fnExactAddByTable", fn := fun _ => fun
  | [d1, d2, d3] => { results := [.lit (.bool false)], args := [d1, d2, d3] }
  | _ => none }
def FnExactAddByTableWrongFalsely : Prop := fnExactAddByTableRow.holds Try.pinned (OpenSpec.ofChange fnExactAddByTableWrong)

/-- 'laws.FnExactShowsFaults': WHATEVER THE INPUT: true; the input reads as it did. -/
def fnExactShowsFaultsSpec : ChangeSpec := { name := "fnExactShowsFaults", fn := fun _ => fun
  | [d1, d2, d3] => { results := [.lit (.bool true)], args := [d1, d2, d3] }
  | _ => none }
def fnExactShowsFaultsRow : OpenClaim := { program := "ythiajmikeaolmaa", sum := "f4d14820a4d3e02e9b646495f7b9fa515c96cdbb4d8847ea11553ecf28b6f9e7", func := "loop.example/g00930/laws.FnExactShowsFaults", spec := "fnExactShowsFaults", apart := false }
def FnExactShowsFaultsSaid : Prop := fnExactShowsFaultsRow.holds Try.pinned (OpenSpec.ofChange fnExactShowsFaultsSpec)

/-- ITS FALSE NEIGHBOUR: 'it returns false'. Refute it at one input. -/
def fnExactShowsFaultsWrong : ChangeSpec := { name := "fnExactShowsFaults", fn := fun _ => fun
  | [d1, d2, d3] => { results := [.lit (.bool false)], args := [d1, d2, d3] }
  | _ => none }
def FnExactShowsFaultsWrongFalsely : Prop := fnExactShowsFaultsRow.holds Try.pinned (OpenSpec.ofChange fnExactShowsFaultsWrong)

/-- 'laws.FnExactWrongTrials': WHATEVER THE INPUT: true; the input reads as it did. -/
def fnExactWrongTrialsSpec : ChangeSpec := { name := "fnExactWrongTrials", fn := fun _ => fun
  | [d] => { results := [.lit (.bool true)], args := [d] }
  | _ => none }
def fnExactWrongTrialsRow : OpenClaim := { program := "ythiajmikeaolmaa", sum := "f4d14820a4d3e02e9b646495f7b9fa515c96cdbb4d8847ea11553ecf28b6f9e7", func := "loop.example/g00930/laws.FnExactWrongTrials", spec := "fnExactWrongTrials", apart := false }
def FnExactWrongTrialsSaid : Prop := fnExactWrongTrialsRow.holds Try.pinned (OpenSpec.ofChange fnExactWrongTrialsSpec)

/-- ITS FALSE NEIGHBOUR: 'it returns false'. Refute it at one input. -/
def fnExactWrongTrialsWrong : ChangeSpec := { name := "fnExactWrongTrials", fn := fun _ => fun
  | [d] => { results := [.lit (.bool false)], args := [d] }
  | _ => none }
def FnExactWrongTrialsWrongFalsely : Prop := fnExactWrongTrialsRow.holds Try.pinned (OpenSpec.ofChange fnExactWrongTrialsWrong)

/-- 'laws.FnExactExplains': WHATEVER THE INPUT: true; the input reads as it did. -/
def fnExactExplainsSpec : ChangeSpec := { name := "fnExactExplains", fn := fun _ => fun
  | [d1, d2] => { results := [.lit (.bool true)], args := [d1, d2] }
  | _ => none }
def fnExactExplainsRow : OpenClaim := { program := "ythiajmikeaolmaa", sum := "f4d14820a4d3e02e9b646495f7b9fa515c96cdbb4d8847ea11553ecf28b6f9e7", func := "loop.example/g00930/laws.FnExactExplains", spec := "fnExactExplains", apart := false }
def FnExactExplainsSaid : Prop := fnExactExplainsRow.holds Try.pinned (OpenSpec.ofChange fnExactExplainsSpec)

/-- ITS FALSE NEIGHBOUR: 'it returns false'. Refute it at one input. -/
def fnExactExplainsWrong : ChangeSpec := { name := "fnExactExplains", fn := fun _ => fun
  | [d1, d2] => { results := [.lit (.bool false)], args := [d1, d2] }
  | _ => none }
def FnExactExplainsWrongFalsely : Prop := fnExactExplainsRow.holds Try.pinned (OpenSpec.ofChange fnExactExplainsWrong)

/-- 'laws.FnExactStandardTrials': WHATEVER THE INPUT: true; the input reads as it did. -/
def fnExactStandardTrialsSpec : ChangeSpec := { name := "fnExactStandardTrials", fn := fun _ => fun
  | [d1, d2, d3] => { results := [.lit (.bool true)], args := [d1, d2, d3] }
  | _ => none }
def fnExactStandardTrialsRow : OpenClaim := { program := "ythiajmikeaolmaa", sum := "f4d14820a4d3e02e9b646495f7b9fa515c96cdbb4d8847ea11553ecf28b6f9e7", func := "loop.example/g00930/laws.FnExactStandardTrials", spec := "fnExactStandardTrials", unfollowed := true, recurses := true, apart := false }
def FnExactStandardTrialsSaid : Prop := fnExactStandardTrialsRow.holds Try.pinned (OpenSpec.ofChange fnExactStandardTrialsSpec)

/-- ITS FALSE NEIGHBOUR: 'it returns false'. Refute it at one input. -/
def fnExactStandardTrialsWrong : ChangeSpec := { name := "fnExactStandardTrials", fn := fun _ => fun
  | [d1, d2, d3] => { results := [.lit (.bool false)], args := [d1, d2, d3] }
  | _ => none }
def FnExactStandardTrialsWrongFalsely : Prop := fnExactStandardTrialsRow.holds Try.pinned (OpenSpec.ofChange fnExactStandardTrialsWrong)

/- THE SECOND FORM. 'bulk': how many values and letters a reading holds, each counted each time it is reached (what is shared counts as often as it is met; a slice's spare places count too). A statement '..UptoSaid' is the law's where the arguments, and the package variables that the reading takes, are together of bulk at most 1048576: NARROWER than '..Said'. Prove '..Said' where nothing that the law and all that it calls make is longer than what came in: it says more and counts as full. Else prove '..UptoSaid'. A law counts once. -/
mutual
def uptoBulk {H : Type} : DataW H → Nat
  | .lit (.string bytes) => bytes.length + 1
  | .lit _ => 1
  | .nil => 1
  | .ptr d => uptoBulk d + 1
  | .slice elems spare => uptoBulkAll elems + uptoBulkAll spare + 1
  | .agg parts => uptoBulkAll parts + 1
  | .iface _ d => uptoBulk d + 1
  | .map entries => uptoBulkEntries entries + 1
  | .held _ => 1
def uptoBulkAll {H : Type} : List (DataW H) → Nat
  | [] => 0
  | d :: r => uptoBulk d + uptoBulkAll r
def uptoBulkEntries {H : Type} : List (Lit × DataW H) → Nat
  | [] => 0
  | x :: r => uptoBulkEntry x + uptoBulkEntries r
def uptoBulkEntry {H : Type} : Lit × DataW H → Nat
  | (.string bytes, d) => bytes.length + uptoBulk d + 1
  | (_, d) => uptoBulk d + 1
 end
def uptoSmall : (H : Type) → List (DataW H) → Bool := fun _ ds => decide (uptoBulkAll ds ≤ 1048576)
def OpenSpec.upto (s : _root_.Go.ChangeSpec) : _root_.Go.OpenSpec := { _root_.Go.OpenSpec.ofChange s with cond := some uptoSmall }

/-- 'laws.FnTables', WHERE WHAT IT READS IS OF BULK AT MOST 1048576: true; the input reads as it did. -/
def fnTablesUptoRow : OpenClaim := { program := "ythiajmikeaolmaa", sum := "f4d14820a4d3e02e9b646495f7b9fa515c96cdbb4d8847ea11553ecf28b6f9e7", func := "loop.example/g00930/laws.FnTables", spec := "fnTables", apart := false, narrowed := true }
def FnTablesUptoSaid : Prop := fnTablesUptoRow.holds Try.pinned (OpenSpec.upto fnTablesSpec)

/-- 'laws.FnExactValidTrials', WHERE WHAT IT READS IS OF BULK AT MOST 1048576: true; the input reads as it did. -/
def fnExactValidTrialsUptoRow : OpenClaim := { program := "ythiajmikeaolmaa", sum := "f4d14820a4d3e02e9b646495f7b9fa515c96cdbb4d8847ea11553ecf28b6f9e7", func := "loop.example/g00930/laws.FnExactValidTrials", spec := "fnExactValidTrials", apart := false, narrowed := true }
def FnExactValidTrialsUptoSaid : Prop := fnExactValidTrialsUptoRow.holds Try.pinned (OpenSpec.upto fnExactValidTrialsSpec)

/-- 'laws.FnExactFirstDifference', WHERE WHAT IT READS IS OF BULK AT MOST 1048576: true; the input reads as it did. -/
def fnExactFirstDifferenceUptoRow : OpenClaim := { program := "ythiajmikeaolmaa", sum := "f4d14820a4d3e02e9b646495f7b9fa515c96cdbb4d8847ea11553ecf28b6f9e7", func := "loop.example/g00930/laws.FnExactFirstDifference", spec := "fnExactFirstDifference", apart := false, narrowed := true }
def FnExactFirstDifferenceUptoSaid : Prop := fnExactFirstDifferenceUptoRow.holds Try.pinned (OpenSpec.upto fnExactFirstDifferenceSpec)

/-- 'laws.FnExactAddWithFaults', WHERE WHAT IT READS IS OF BULK AT MOST 1048576: true; the input reads as it did. -/
def fnExactAddWithFaultsUptoRow : OpenClaim := { program := "ythiajmikeaolmaa", sum := "f4d14820a4d3e02e9b646495f7b9fa515c96cdbb4d8847ea11553ecf28b6f9e7", func := "loop.example/g00930/laws.FnExactAddWithFaults", spec := "fnExactAddWithFaults", apart := false, narrowed := true }
def FnExactAddWithFaultsUptoSaid : Prop := fnExactAddWithFaultsUptoRow.holds Try.pinned (OpenSpec.upto fnExactAddWithFaultsSpec)

/-- 'laws.FnExactAddByTable', WHERE WHAT IT READS IS OF BULK AT MOST 1048576: true; the input reads as it did. -/
def fnExactAddByTableUptoRow : OpenClaim := { program := "ythiajmikeaolmaa", sum := "f4d14820a4d3e02e9b646495f7b9fa515c96cdbb4d8847ea11553ecf28b6f9e7", func := "loop.example/g00930/laws.FnExactAddByTable", spec := "fnExactAddByTable", apart := false, narrowed := true }
def FnExactAddByTableUptoSaid : Prop := fnExactAddByTableUptoRow.holds Try.pinned (OpenSpec.upto fnExactAddByTableSpec)

/-- 'laws.FnExactShowsFaults', WHERE WHAT IT READS IS OF BULK AT MOST 1048576: true; the input reads as it did. -/
def fnExactShowsFaultsUptoRow : OpenClaim := { program := "ythiajmikeaolmaa", sum := "f4d14820a4d3e02e9b646495f7b9fa515c96cdbb4d8847ea11553ecf28b6f9e7", func := "loop.example/g00930/laws.FnExactShowsFaults", spec := "fnExactShowsFaults", apart := false, narrowed := true }
def FnExactShowsFaultsUptoSaid : Prop := fnExactShowsFaultsUptoRow.holds Try.pinned (OpenSpec.upto fnExactShowsFaultsSpec)

/-- 'laws.FnExactWrongTrials', WHERE WHAT IT READS IS OF BULK AT MOST 1048576: true; the input reads as it did. -/
def fnExactWrongTrialsUptoRow : OpenClaim := { program := "ythiajmikeaolmaa", sum := "f4d14820a4d3e02e9b646495f7b9fa515c96cdbb4d8847ea11553ecf28b6f9e7", func := "loop.example/g00930/laws.FnExactWrongTrials", spec := "fnExactWrongTrials", apart := false, narrowed := true }
def FnExactWrongTrialsUptoSaid : Prop := fnExactWrongTrialsUptoRow.holds Try.pinned (OpenSpec.upto fnExactWrongTrialsSpec)

/-- 'laws.FnExactExplains', WHERE WHAT IT READS IS OF BULK AT MOST 1048576: true; the input reads as it did. -/
def fnExactExplainsUptoRow : OpenClaim := { program := "ythiajmikeaolmaa", sum := "f4d14820a4d3e02e9b646495f7b9fa515c96cdbb4d8847ea11553ecf28b6f9e7", func := "loop.example/g00930/laws.FnExactExplains", spec := "fnExactExplains", apart := false, narrowed := true }
def FnExactExplainsUptoSaid : Prop := fnExactExplainsUptoRow.holds Try.pinned (OpenSpec.upto fnExactExplainsSpec)

/-- 'laws.FnExactStandardTrials', WHERE WHAT IT READS IS OF BULK AT MOST 1048576: true; the input reads as it did. -/
def fnExactStandardTrialsUptoRow : OpenClaim := { program := "ythiajmikeaolmaa", sum := "f4d14820a4d3e02e9b646495f7b9fa515c96cdbb4d8847ea11553ecf28b6f9e7", func := "loop.example/g00930/laws.FnExactStandardTrials", spec := "fnExactStandardTrials", unfollowed := true, recurses := true, apart := false, narrowed := true }
def FnExactStandardTrialsUptoSaid : Prop := fnExactStandardTrialsUptoRow.holds Try.pinned (OpenSpec.upto fnExactStandardTrialsSpec)

end Rows
end Go.Proofs.Ythiajmikeaolmaa
