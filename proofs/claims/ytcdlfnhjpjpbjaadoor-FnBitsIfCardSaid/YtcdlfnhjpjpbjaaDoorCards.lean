/-
  DERIVED. GIVEN WITH THE SEED: THE CARDS: each row of YtcdlfnhjpjpbjaaDoorRows.lean that lists a variable, with what it lists TIED to the program's text (the seventh form; the later family's looks); each row that meets fmt, with fmt's text TOLD by the authors' own Lean function (tested against real Go, not proved from fmt's source: count such statements apart). THE CARD IS WHAT COUNTS. Prove the row's statement (the work); the ties are given (YtcdlfnhjpjpbjaaDoorTie.lean); close each card by the builder's one call (the guide's Derived/Test/ToyasCard.lean, 'card_holds'). Laid BY PROGRAM, IN A SANDBOX (cutbox-door.mjs). By AI agents, Wed Nov 11 2026. No macro, syntax, notation, axiom, sorry.
-/
import Derived.Test.YtcdlfnhjpjpbjaaDoorRows
import GoSem.ClaimSeven
namespace Go.Proofs.YtcdlfnhjpjpbjaaDoor
namespace Rows

/-- THE TIED CARD OF 'laws.FnExactBitsIf'. -/
def fnExactBitsIfCard : Claim7 := { stood := { row := fnExactBitsIfRow, standIns := [], harness := (true, "e3a8e3e14def341ba20328a20817adc90ae888011cecc18252c043580f20f29b"), looks := true }, kinds := [], alts := [], laidByText := true, laidKinds := [.sentinel, .sentinel], laidTests := true, laidLooks := .later }
def FnExactBitsIfCardSaid : Prop := Claim7.holds Tryd.pinned (.plain (OpenSpec.ofChange fnExactBitsIfSpec)) fnExactBitsIfCard

/-- THE TIED CARD OF 'laws.FnBitsIf'. -/
def fnBitsIfCard : Claim7 := { stood := { row := fnBitsIfRow, standIns := [], harness := (true, "e3a8e3e14def341ba20328a20817adc90ae888011cecc18252c043580f20f29b"), looks := true }, kinds := [], alts := [], laidByText := true, laidKinds := [.sentinel, .sentinel], laidTests := true, laidLooks := .later }
def FnBitsIfCardSaid : Prop := Claim7.holds Tryd.pinned (.plain (OpenSpec.ofChange fnBitsIfSpec)) fnBitsIfCard

/-- THE SECOND FORM's CARD OF 'laws.FnExactBitsIf'. -/
def fnExactBitsIfUptoCard : Claim7 := { stood := { row := fnExactBitsIfUptoRow, standIns := [], harness := (true, "e3a8e3e14def341ba20328a20817adc90ae888011cecc18252c043580f20f29b"), looks := true }, kinds := [], alts := [], laidByText := true, laidKinds := [.sentinel, .sentinel], laidTests := true, laidLooks := .later }
def FnExactBitsIfUptoCardSaid : Prop := Claim7.holds Tryd.pinned (.plain (OpenSpec.upto fnExactBitsIfSpec)) fnExactBitsIfUptoCard

/-- THE SECOND FORM's CARD OF 'laws.FnBitsIf'. -/
def fnBitsIfUptoCard : Claim7 := { stood := { row := fnBitsIfUptoRow, standIns := [], harness := (true, "e3a8e3e14def341ba20328a20817adc90ae888011cecc18252c043580f20f29b"), looks := true }, kinds := [], alts := [], laidByText := true, laidKinds := [.sentinel, .sentinel], laidTests := true, laidLooks := .later }
def FnBitsIfUptoCardSaid : Prop := Claim7.holds Tryd.pinned (.plain (OpenSpec.upto fnBitsIfSpec)) fnBitsIfUptoCard
end Rows
end Go.Proofs.YtcdlfnhjpjpbjaaDoor
