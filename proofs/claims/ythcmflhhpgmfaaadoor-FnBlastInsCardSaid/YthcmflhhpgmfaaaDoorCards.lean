/-
  DERIVED. GIVEN WITH THE SEED: THE CARDS: each row of YthcmflhhpgmfaaaDoorRows.lean that lists a variable, with what it lists TIED to the program's text (the seventh form; the later family's looks); each row that meets fmt, with fmt's text TOLD by the authors' own Lean function (tested against real Go, not proved from fmt's source: count such statements apart). THE CARD IS WHAT COUNTS. Prove the row's statement (the work); the ties are given (YthcmflhhpgmfaaaDoorTie.lean); close each card by the builder's one call (the guide's Derived/Test/ToyasCard.lean, 'card_holds'). Laid BY PROGRAM, IN A SANDBOX (cutbox-door.mjs). By AI agents, Wed Nov 11 2026. No macro, syntax, notation, axiom, sorry.
-/
import Derived.Test.YthcmflhhpgmfaaaDoorRows
import GoSem.ClaimSeven
namespace Go.Proofs.YthcmflhhpgmfaaaDoor
namespace Rows

/-- THE TIED CARD OF 'laws.FnExactBlastEnv'. -/
def fnExactBlastEnvCard : Claim7 := { stood := { row := fnExactBlastEnvRow, standIns := [], harness := (true, "a1360e7360e848686561f77d056dca4a4981b4dd39447ffa59906eb5fc7d287c"), looks := false }, kinds := [], alts := [], laidByText := true, laidKinds := [.data, .pinned], laidTests := true, laidLooks := .later }
def FnExactBlastEnvCardSaid : Prop := Claim7.holds Tryd.pinned (.plain (OpenSpec.ofChange fnExactBlastEnvSpec)) fnExactBlastEnvCard

/-- THE TIED CARD OF 'laws.FnExactBlastIns'. -/
def fnExactBlastInsCard : Claim7 := { stood := { row := fnExactBlastInsRow, standIns := [], harness := (true, "a1360e7360e848686561f77d056dca4a4981b4dd39447ffa59906eb5fc7d287c"), looks := false }, kinds := [], alts := [], laidByText := true, laidKinds := [.data, .pinned], laidTests := true, laidLooks := .later }
def FnExactBlastInsCardSaid : Prop := Claim7.holds Tryd.pinned (.plain (OpenSpec.ofChange fnExactBlastInsSpec)) fnExactBlastInsCard

/-- THE TIED CARD OF 'laws.FnBlastIns'. -/
def fnBlastInsCard : Claim7 := { stood := { row := fnBlastInsRow, standIns := [], harness := (true, "a1360e7360e848686561f77d056dca4a4981b4dd39447ffa59906eb5fc7d287c"), looks := false }, kinds := [], alts := [], laidByText := true, laidKinds := [.data, .pinned], laidTests := true, laidLooks := .later }
def FnBlastInsCardSaid : Prop := Claim7.holds Tryd.pinned (.plain (OpenSpec.ofChange fnBlastInsSpec)) fnBlastInsCard

/-- THE SECOND FORM's CARD OF 'laws.FnExactBlastEnv'. -/
def fnExactBlastEnvUptoCard : Claim7 := { stood := { row := fnExactBlastEnvUptoRow, standIns := [], harness := (true, "a1360e7360e848686561f77d056dca4a4981b4dd39447ffa59906eb5fc7d287c"), looks := false }, kinds := [], alts := [], laidByText := true, laidKinds := [.data, .pinned], laidTests := true, laidLooks := .later }
def FnExactBlastEnvUptoCardSaid : Prop := Claim7.holds Tryd.pinned (.plain (OpenSpec.upto fnExactBlastEnvSpec)) fnExactBlastEnvUptoCard

/-- THE SECOND FORM's CARD OF 'laws.FnExactBlastIns'. -/
def fnExactBlastInsUptoCard : Claim7 := { stood := { row := fnExactBlastInsUptoRow, standIns := [], harness := (true, "a1360e7360e848686561f77d056dca4a4981b4dd39447ffa59906eb5fc7d287c"), looks := false }, kinds := [], alts := [], laidByText := true, laidKinds := [.data, .pinned], laidTests := true, laidLooks := .later }
def FnExactBlastInsUptoCardSaid : Prop := Claim7.holds Tryd.pinned (.plain (OpenSpec.upto fnExactBlastInsSpec)) fnExactBlastInsUptoCard

/-- THE SECOND FORM's CARD OF 'laws.FnBlastIns'. -/
def fnBlastInsUptoCard : Claim7 := { stood := { row := fnBlastInsUptoRow, standIns := [], harness := (true, "a1360e7360e848686561f77d056dca4a4981b4dd39447ffa59906eb5fc7d287c"), looks := false }, kinds := [], alts := [], laidByText := true, laidKinds := [.data, .pinned], laidTests := true, laidLooks := .later }
def FnBlastInsUptoCardSaid : Prop := Claim7.holds Tryd.pinned (.plain (OpenSpec.upto fnBlastInsSpec)) fnBlastInsUptoCard
end Rows
end Go.Proofs.YthcmflhhpgmfaaaDoor
