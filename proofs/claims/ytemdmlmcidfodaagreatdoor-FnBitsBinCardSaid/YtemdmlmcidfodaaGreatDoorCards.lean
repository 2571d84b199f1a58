/-
  DERIVED. GIVEN WITH THE SEED: THE CARDS: each row of YtemdmlmcidfodaaGreatDoorRows.lean that lists a variable, with what it lists TIED to the program's text (the seventh form; the later family's looks); each row that meets fmt, with fmt's text TOLD by the authors' own Lean function (tested against real Go, not proved from fmt's source: count such statements apart). THE CARD IS WHAT COUNTS. Prove the row's statement (the work); the ties are given (YtemdmlmcidfodaaGreatDoorTie.lean); close each card by the builder's one call (the guide's Derived/Test/ToyasCard.lean, 'card_holds'). Laid BY PROGRAM, IN A SANDBOX (cutbox-door.mjs). By AI agents, Wed Nov 11 2026. No macro, syntax, notation, axiom, sorry.
-/
import Derived.Test.YtemdmlmcidfodaaGreatDoorRows
import GoSem.ClaimSeven
namespace Go.Proofs.YtemdmlmcidfodaaGreatDoor
namespace Rows

/-- THE TIED CARD OF 'laws.FnBitsFixed'. -/
def fnBitsFixedCard : Claim7 := { stood := { row := fnBitsFixedRow, standIns := [], harness := (true, "61e8cf40fc8c1ff4eb30b83c5ab3921e21a509c912de44a927cdc0f9d9f0a7a5"), looks := true }, kinds := [], alts := [], laidByText := true, laidKinds := [.sentinel, .sentinel], laidTests := true, laidLooks := .later }
def FnBitsFixedCardSaid : Prop := Claim7.holds Tryz.pinned (.plain (OpenSpec.ofChange fnBitsFixedSpec)) fnBitsFixedCard

/-- THE TIED CARD OF 'laws.FnBitsBin'. -/
def fnBitsBinCard : Claim7 := { stood := { row := fnBitsBinRow, standIns := [], harness := (true, "61e8cf40fc8c1ff4eb30b83c5ab3921e21a509c912de44a927cdc0f9d9f0a7a5"), looks := true }, kinds := [], alts := [], laidByText := true, laidKinds := [.sentinel, .sentinel], laidTests := true, laidLooks := .later }
def FnBitsBinCardSaid : Prop := Claim7.holds Tryz.pinned (.plain (OpenSpec.ofChange fnBitsBinSpec)) fnBitsBinCard

/-- THE SECOND FORM's CARD OF 'laws.FnBitsFixed'. -/
def fnBitsFixedUptoCard : Claim7 := { stood := { row := fnBitsFixedUptoRow, standIns := [], harness := (true, "61e8cf40fc8c1ff4eb30b83c5ab3921e21a509c912de44a927cdc0f9d9f0a7a5"), looks := true }, kinds := [], alts := [], laidByText := true, laidKinds := [.sentinel, .sentinel], laidTests := true, laidLooks := .later }
def FnBitsFixedUptoCardSaid : Prop := Claim7.holds Tryz.pinned (.plain (OpenSpec.upto fnBitsFixedSpec)) fnBitsFixedUptoCard

/-- THE SECOND FORM's CARD OF 'laws.FnBitsBin'. -/
def fnBitsBinUptoCard : Claim7 := { stood := { row := fnBitsBinUptoRow, standIns := [], harness := (true, "61e8cf40fc8c1ff4eb30b83c5ab3921e21a509c912de44a927cdc0f9d9f0a7a5"), looks := true }, kinds := [], alts := [], laidByText := true, laidKinds := [.sentinel, .sentinel], laidTests := true, laidLooks := .later }
def FnBitsBinUptoCardSaid : Prop := Claim7.holds Tryz.pinned (.plain (OpenSpec.upto fnBitsBinSpec)) fnBitsBinUptoCard
end Rows
end Go.Proofs.YtemdmlmcidfodaaGreatDoor
