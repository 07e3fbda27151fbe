/-
  DERIVED. GIVEN WITH THE SEED: THE CARDS: each row of YtjkaapoklbhokaaDoorRows.lean that lists a variable, with what it lists TIED to the program's text (the seventh form; the later family's looks); each row that meets fmt, with fmt's text TOLD by the authors' own Lean function (tested against real Go, not proved from fmt's source: count such statements apart). THE CARD IS WHAT COUNTS. Prove the row's statement (the work); the ties are given (YtjkaapoklbhokaaDoorTie.lean); close each card by the builder's one call (the guide's Derived/Test/ToyasCard.lean, 'card_holds'). Laid BY PROGRAM, IN A SANDBOX (cutbox-door.mjs). By AI agents, Wed Nov 11 2026. No macro, syntax, notation, axiom, sorry.
-/
import Derived.Test.YtjkaapoklbhokaaDoorRows
import GoSem.ClaimSeven
namespace Go.Proofs.YtjkaapoklbhokaaDoor
namespace Rows

/-- THE TIED CARD OF 'laws.FnExactAccumulatorText'. -/
def fnExactAccumulatorTextCard : Claim7 := { stood := { row := fnExactAccumulatorTextRow, standIns := [], harness := (true, "8c3dac86c519d1dce424e8a1c49204f4594da0225aa0cb768c36f09fee045a80"), looks := false }, kinds := [], alts := [], laidByText := true, laidKinds := [.data, .data, .data], laidTests := true, laidLooks := .later }
def FnExactAccumulatorTextCardSaid : Prop := Claim7.holds Tryd.pinned (.plain (OpenSpec.ofChange fnExactAccumulatorTextSpec)) fnExactAccumulatorTextCard

/-- THE SECOND FORM's CARD OF 'laws.FnExactAccumulatorText'. -/
def fnExactAccumulatorTextUptoCard : Claim7 := { stood := { row := fnExactAccumulatorTextUptoRow, standIns := [], harness := (true, "8c3dac86c519d1dce424e8a1c49204f4594da0225aa0cb768c36f09fee045a80"), looks := false }, kinds := [], alts := [], laidByText := true, laidKinds := [.data, .data, .data], laidTests := true, laidLooks := .later }
def FnExactAccumulatorTextUptoCardSaid : Prop := Claim7.holds Tryd.pinned (.plain (OpenSpec.upto fnExactAccumulatorTextSpec)) fnExactAccumulatorTextUptoCard
end Rows
end Go.Proofs.YtjkaapoklbhokaaDoor
