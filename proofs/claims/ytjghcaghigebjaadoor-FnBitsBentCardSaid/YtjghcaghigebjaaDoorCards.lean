/-
  DERIVED. GIVEN WITH THE SEED: THE CARDS: each row of YtjghcaghigebjaaDoorRows.lean that lists a variable, with what it lists TIED to the program's text (the seventh form; the later family's looks); each row that meets fmt, with fmt's text TOLD by the authors' own Lean function (tested against real Go, not proved from fmt's source: count such statements apart). THE CARD IS WHAT COUNTS. Prove the row's statement (the work); the ties are given (YtjghcaghigebjaaDoorTie.lean); close each card by the builder's one call (the guide's Derived/Test/ToyasCard.lean, 'card_holds'). Laid BY PROGRAM, IN A SANDBOX (cutbox-door.mjs). By AI agents, Wed Nov 11 2026. No macro, syntax, notation, axiom, sorry.
-/
import Derived.Test.YtjghcaghigebjaaDoorRows
import GoSem.ClaimSeven
namespace Go.Proofs.YtjghcaghigebjaaDoor
namespace Rows

/-- THE TIED CARD OF 'laws.FnExactBitsIf'. -/
def fnExactBitsIfCard : Claim7 := { stood := { row := fnExactBitsIfRow, standIns := [], harness := (true, "17eca4eb1eae99fec1f76f472615e23f5c9d0ad5407f2c4cf19e45ffd650a552"), looks := true }, kinds := [], alts := [], laidByText := true, laidKinds := [.sentinel, .sentinel], laidTests := true, laidLooks := .later }
def FnExactBitsIfCardSaid : Prop := Claim7.holds Tryd.pinned (.plain (OpenSpec.ofChange fnExactBitsIfSpec)) fnExactBitsIfCard

/-- THE TIED CARD OF 'laws.FnBitsIf'. -/
def fnBitsIfCard : Claim7 := { stood := { row := fnBitsIfRow, standIns := [], harness := (true, "17eca4eb1eae99fec1f76f472615e23f5c9d0ad5407f2c4cf19e45ffd650a552"), looks := true }, kinds := [], alts := [], laidByText := true, laidKinds := [.sentinel, .sentinel], laidTests := true, laidLooks := .later }
def FnBitsIfCardSaid : Prop := Claim7.holds Tryd.pinned (.plain (OpenSpec.ofChange fnBitsIfSpec)) fnBitsIfCard

/-- THE TIED CARD OF 'laws.FnExactBitsCmp'. -/
def fnExactBitsCmpCard : Claim7 := { stood := { row := fnExactBitsCmpRow, standIns := [], harness := (true, "17eca4eb1eae99fec1f76f472615e23f5c9d0ad5407f2c4cf19e45ffd650a552"), looks := true }, kinds := [], alts := [], laidByText := true, laidKinds := [.sentinel, .sentinel], laidTests := true, laidLooks := .later }
def FnExactBitsCmpCardSaid : Prop := Claim7.holds Tryd.pinned (.plain (OpenSpec.ofChange fnExactBitsCmpSpec)) fnExactBitsCmpCard

/-- THE TIED CARD OF 'laws.FnExactBitsUn'. -/
def fnExactBitsUnCard : Claim7 := { stood := { row := fnExactBitsUnRow, standIns := [], harness := (true, "17eca4eb1eae99fec1f76f472615e23f5c9d0ad5407f2c4cf19e45ffd650a552"), looks := true }, kinds := [], alts := [], laidByText := true, laidKinds := [.sentinel, .sentinel], laidTests := true, laidLooks := .later }
def FnExactBitsUnCardSaid : Prop := Claim7.holds Tryd.pinned (.plain (OpenSpec.ofChange fnExactBitsUnSpec)) fnExactBitsUnCard

/-- THE TIED CARD OF 'laws.FnBitsCmp'. -/
def fnBitsCmpCard : Claim7 := { stood := { row := fnBitsCmpRow, standIns := [], harness := (true, "17eca4eb1eae99fec1f76f472615e23f5c9d0ad5407f2c4cf19e45ffd650a552"), looks := true }, kinds := [], alts := [], laidByText := true, laidKinds := [.sentinel, .sentinel], laidTests := true, laidLooks := .later }
def FnBitsCmpCardSaid : Prop := Claim7.holds Tryd.pinned (.plain (OpenSpec.ofChange fnBitsCmpSpec)) fnBitsCmpCard

/-- THE TIED CARD OF 'laws.FnBitsUn'. -/
def fnBitsUnCard : Claim7 := { stood := { row := fnBitsUnRow, standIns := [], harness := (true, "17eca4eb1eae99fec1f76f472615e23f5c9d0ad5407f2c4cf19e45ffd650a552"), looks := true }, kinds := [], alts := [], laidByText := true, laidKinds := [.sentinel, .sentinel], laidTests := true, laidLooks := .later }
def FnBitsUnCardSaid : Prop := Claim7.holds Tryd.pinned (.plain (OpenSpec.ofChange fnBitsUnSpec)) fnBitsUnCard

/-- THE TIED CARD OF 'laws.FnBitsBent'. -/
def fnBitsBentCard : Claim7 := { stood := { row := fnBitsBentRow, standIns := [], harness := (true, "17eca4eb1eae99fec1f76f472615e23f5c9d0ad5407f2c4cf19e45ffd650a552"), looks := true }, kinds := [], alts := [], laidByText := true, laidKinds := [.sentinel, .sentinel], laidTests := true, laidLooks := .later }
def FnBitsBentCardSaid : Prop := Claim7.holds Tryd.pinned (.plain (OpenSpec.ofChange fnBitsBentSpec)) fnBitsBentCard

/-- THE SECOND FORM's CARD OF 'laws.FnExactBitsIf'. -/
def fnExactBitsIfUptoCard : Claim7 := { stood := { row := fnExactBitsIfUptoRow, standIns := [], harness := (true, "17eca4eb1eae99fec1f76f472615e23f5c9d0ad5407f2c4cf19e45ffd650a552"), looks := true }, kinds := [], alts := [], laidByText := true, laidKinds := [.sentinel, .sentinel], laidTests := true, laidLooks := .later }
def FnExactBitsIfUptoCardSaid : Prop := Claim7.holds Tryd.pinned (.plain (OpenSpec.upto fnExactBitsIfSpec)) fnExactBitsIfUptoCard

/-- THE SECOND FORM's CARD OF 'laws.FnBitsIf'. -/
def fnBitsIfUptoCard : Claim7 := { stood := { row := fnBitsIfUptoRow, standIns := [], harness := (true, "17eca4eb1eae99fec1f76f472615e23f5c9d0ad5407f2c4cf19e45ffd650a552"), looks := true }, kinds := [], alts := [], laidByText := true, laidKinds := [.sentinel, .sentinel], laidTests := true, laidLooks := .later }
def FnBitsIfUptoCardSaid : Prop := Claim7.holds Tryd.pinned (.plain (OpenSpec.upto fnBitsIfSpec)) fnBitsIfUptoCard

/-- THE SECOND FORM's CARD OF 'laws.FnExactBitsCmp'. -/
def fnExactBitsCmpUptoCard : Claim7 := { stood := { row := fnExactBitsCmpUptoRow, standIns := [], harness := (true, "17eca4eb1eae99fec1f76f472615e23f5c9d0ad5407f2c4cf19e45ffd650a552"), looks := true }, kinds := [], alts := [], laidByText := true, laidKinds := [.sentinel, .sentinel], laidTests := true, laidLooks := .later }
def FnExactBitsCmpUptoCardSaid : Prop := Claim7.holds Tryd.pinned (.plain (OpenSpec.upto fnExactBitsCmpSpec)) fnExactBitsCmpUptoCard

/-- THE SECOND FORM's CARD OF 'laws.FnExactBitsUn'. -/
def fnExactBitsUnUptoCard : Claim7 := { stood := { row := fnExactBitsUnUptoRow, standIns := [], harness := (true, "17eca4eb1eae99fec1f76f472615e23f5c9d0ad5407f2c4cf19e45ffd650a552"), looks := true }, kinds := [], alts := [], laidByText := true, laidKinds := [.sentinel, .sentinel], laidTests := true, laidLooks := .later }
def FnExactBitsUnUptoCardSaid : Prop := Claim7.holds Tryd.pinned (.plain (OpenSpec.upto fnExactBitsUnSpec)) fnExactBitsUnUptoCard

/-- THE SECOND FORM's CARD OF 'laws.FnBitsCmp'. -/
def fnBitsCmpUptoCard : Claim7 := { stood := { row := fnBitsCmpUptoRow, standIns := [], harness := (true, "17eca4eb1eae99fec1f76f472615e23f5c9d0ad5407f2c4cf19e45ffd650a552"), looks := true }, kinds := [], alts := [], laidByText := true, laidKinds := [.sentinel, .sentinel], laidTests := true, laidLooks := .later }
def FnBitsCmpUptoCardSaid : Prop := Claim7.holds Tryd.pinned (.plain (OpenSpec.upto fnBitsCmpSpec)) fnBitsCmpUptoCard

/-- THE SECOND FORM's CARD OF 'laws.FnBitsUn'. -/
def fnBitsUnUptoCard : Claim7 := { stood := { row := fnBitsUnUptoRow, standIns := [], harness := (true, "17eca4eb1eae99fec1f76f472615e23f5c9d0ad5407f2c4cf19e45ffd650a552"), looks := true }, kinds := [], alts := [], laidByText := true, laidKinds := [.sentinel, .sentinel], laidTests := true, laidLooks := .later }
def FnBitsUnUptoCardSaid : Prop := Claim7.holds Tryd.pinned (.plain (OpenSpec.upto fnBitsUnSpec)) fnBitsUnUptoCard

/-- THE SECOND FORM's CARD OF 'laws.FnBitsBent'. -/
def fnBitsBentUptoCard : Claim7 := { stood := { row := fnBitsBentUptoRow, standIns := [], harness := (true, "17eca4eb1eae99fec1f76f472615e23f5c9d0ad5407f2c4cf19e45ffd650a552"), looks := true }, kinds := [], alts := [], laidByText := true, laidKinds := [.sentinel, .sentinel], laidTests := true, laidLooks := .later }
def FnBitsBentUptoCardSaid : Prop := Claim7.holds Tryd.pinned (.plain (OpenSpec.upto fnBitsBentSpec)) fnBitsBentUptoCard
end Rows
end Go.Proofs.YtjghcaghigebjaaDoor
