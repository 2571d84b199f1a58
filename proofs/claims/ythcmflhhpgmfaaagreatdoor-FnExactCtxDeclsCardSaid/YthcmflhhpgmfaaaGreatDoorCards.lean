/-
  DERIVED. GIVEN WITH THE SEED: THE CARDS: each row of YthcmflhhpgmfaaaGreatDoorRows.lean that lists a variable, with what it lists TIED to the program's text (the seventh form; the later family's looks); each row that meets fmt, with fmt's text TOLD by the authors' own Lean function (tested against real Go, not proved from fmt's source: count such statements apart). THE CARD IS WHAT COUNTS. Prove the row's statement (the work); the ties are given (YthcmflhhpgmfaaaGreatDoorTie.lean); close each card by the builder's one call (the guide's Derived/Test/ToyasCard.lean, 'card_holds'). Laid BY PROGRAM, IN A SANDBOX (cutbox-door.mjs). By AI agents, Wed Nov 11 2026. No macro, syntax, notation, axiom, sorry.
-/
import Derived.Test.YthcmflhhpgmfaaaGreatDoorRows
import GoSem.ClaimSeven
namespace Go.Proofs.YthcmflhhpgmfaaaGreatDoor
namespace Rows

/-- THE TIED CARD OF 'laws.FnExactCtxOk'. -/
def fnExactCtxOkCard : Claim7 := { stood := { row := fnExactCtxOkRow, standIns := [], harness := (true, "a15df3f61582f14d75dd265d3eb13282714c725198e4c550b4c2b60b5a1e6642"), looks := false }, kinds := [], alts := [], laidByText := true, laidKinds := [.data, .pinned], laidTests := true, laidLooks := .later }
def FnExactCtxOkCardSaid : Prop := Claim7.holds Tryz.pinned (.plain (OpenSpec.ofChange fnExactCtxOkSpec)) fnExactCtxOkCard

/-- THE TIED CARD OF 'laws.FnExactCtxDecls'. -/
def fnExactCtxDeclsCard : Claim7 := { stood := { row := fnExactCtxDeclsRow, standIns := [], harness := (true, "a15df3f61582f14d75dd265d3eb13282714c725198e4c550b4c2b60b5a1e6642"), looks := false }, kinds := [], alts := [], laidByText := true, laidKinds := [.data, .pinned], laidTests := true, laidLooks := .later }
def FnExactCtxDeclsCardSaid : Prop := Claim7.holds Tryz.pinned (.plain (OpenSpec.ofChange fnExactCtxDeclsSpec)) fnExactCtxDeclsCard

/-- THE TIED CARD OF 'laws.FnExactCtxTerms'. -/
def fnExactCtxTermsCard : Claim7 := { stood := { row := fnExactCtxTermsRow, standIns := [], harness := (true, "a15df3f61582f14d75dd265d3eb13282714c725198e4c550b4c2b60b5a1e6642"), looks := false }, kinds := [], alts := [], laidByText := true, laidKinds := [.data, .pinned], laidTests := true, laidLooks := .later }
def FnExactCtxTermsCardSaid : Prop := Claim7.holds Tryz.pinned (.plain (OpenSpec.ofChange fnExactCtxTermsSpec)) fnExactCtxTermsCard

/-- THE TIED CARD OF 'laws.FnExactCtxPush'. -/
def fnExactCtxPushCard : Claim7 := { stood := { row := fnExactCtxPushRow, standIns := [], harness := (true, "a15df3f61582f14d75dd265d3eb13282714c725198e4c550b4c2b60b5a1e6642"), looks := false }, kinds := [], alts := [], laidByText := true, laidKinds := [.data, .pinned], laidTests := true, laidLooks := .later }
def FnExactCtxPushCardSaid : Prop := Claim7.holds Tryz.pinned (.plain (OpenSpec.ofChange fnExactCtxPushSpec)) fnExactCtxPushCard

/-- THE TIED CARD OF 'laws.FnExactCtxName'. -/
def fnExactCtxNameCard : Claim7 := { stood := { row := fnExactCtxNameRow, standIns := [], harness := (true, "a15df3f61582f14d75dd265d3eb13282714c725198e4c550b4c2b60b5a1e6642"), looks := false }, kinds := [], alts := [], laidByText := true, laidKinds := [.data, .pinned], laidTests := true, laidLooks := .later }
def FnExactCtxNameCardSaid : Prop := Claim7.holds Tryz.pinned (.plain (OpenSpec.ofChange fnExactCtxNameSpec)) fnExactCtxNameCard

/-- THE TIED CARD OF 'laws.FnExactCtxPop'. -/
def fnExactCtxPopCard : Claim7 := { stood := { row := fnExactCtxPopRow, standIns := [], harness := (true, "a15df3f61582f14d75dd265d3eb13282714c725198e4c550b4c2b60b5a1e6642"), looks := false }, kinds := [], alts := [], laidByText := true, laidKinds := [.data, .pinned], laidTests := true, laidLooks := .later }
def FnExactCtxPopCardSaid : Prop := Claim7.holds Tryz.pinned (.plain (OpenSpec.ofChange fnExactCtxPopSpec)) fnExactCtxPopCard

/-- THE TIED CARD OF 'laws.FnExactCtxAssert'. -/
def fnExactCtxAssertCard : Claim7 := { stood := { row := fnExactCtxAssertRow, standIns := [], harness := (true, "a15df3f61582f14d75dd265d3eb13282714c725198e4c550b4c2b60b5a1e6642"), looks := false }, kinds := [], alts := [], laidByText := true, laidKinds := [.data, .pinned], laidTests := true, laidLooks := .later }
def FnExactCtxAssertCardSaid : Prop := Claim7.holds Tryz.pinned (.plain (OpenSpec.ofChange fnExactCtxAssertSpec)) fnExactCtxAssertCard

/-- THE SECOND FORM's CARD OF 'laws.FnExactCtxOk'. -/
def fnExactCtxOkUptoCard : Claim7 := { stood := { row := fnExactCtxOkUptoRow, standIns := [], harness := (true, "a15df3f61582f14d75dd265d3eb13282714c725198e4c550b4c2b60b5a1e6642"), looks := false }, kinds := [], alts := [], laidByText := true, laidKinds := [.data, .pinned], laidTests := true, laidLooks := .later }
def FnExactCtxOkUptoCardSaid : Prop := Claim7.holds Tryz.pinned (.plain (OpenSpec.upto fnExactCtxOkSpec)) fnExactCtxOkUptoCard

/-- THE SECOND FORM's CARD OF 'laws.FnExactCtxDecls'. -/
def fnExactCtxDeclsUptoCard : Claim7 := { stood := { row := fnExactCtxDeclsUptoRow, standIns := [], harness := (true, "a15df3f61582f14d75dd265d3eb13282714c725198e4c550b4c2b60b5a1e6642"), looks := false }, kinds := [], alts := [], laidByText := true, laidKinds := [.data, .pinned], laidTests := true, laidLooks := .later }
def FnExactCtxDeclsUptoCardSaid : Prop := Claim7.holds Tryz.pinned (.plain (OpenSpec.upto fnExactCtxDeclsSpec)) fnExactCtxDeclsUptoCard

/-- THE SECOND FORM's CARD OF 'laws.FnExactCtxTerms'. -/
def fnExactCtxTermsUptoCard : Claim7 := { stood := { row := fnExactCtxTermsUptoRow, standIns := [], harness := (true, "a15df3f61582f14d75dd265d3eb13282714c725198e4c550b4c2b60b5a1e6642"), looks := false }, kinds := [], alts := [], laidByText := true, laidKinds := [.data, .pinned], laidTests := true, laidLooks := .later }
def FnExactCtxTermsUptoCardSaid : Prop := Claim7.holds Tryz.pinned (.plain (OpenSpec.upto fnExactCtxTermsSpec)) fnExactCtxTermsUptoCard

/-- THE SECOND FORM's CARD OF 'laws.FnExactCtxPush'. -/
def fnExactCtxPushUptoCard : Claim7 := { stood := { row := fnExactCtxPushUptoRow, standIns := [], harness := (true, "a15df3f61582f14d75dd265d3eb13282714c725198e4c550b4c2b60b5a1e6642"), looks := false }, kinds := [], alts := [], laidByText := true, laidKinds := [.data, .pinned], laidTests := true, laidLooks := .later }
def FnExactCtxPushUptoCardSaid : Prop := Claim7.holds Tryz.pinned (.plain (OpenSpec.upto fnExactCtxPushSpec)) fnExactCtxPushUptoCard

/-- THE SECOND FORM's CARD OF 'laws.FnExactCtxName'. -/
def fnExactCtxNameUptoCard : Claim7 := { stood := { row := fnExactCtxNameUptoRow, standIns := [], harness := (true, "a15df3f61582f14d75dd265d3eb13282714c725198e4c550b4c2b60b5a1e6642"), looks := false }, kinds := [], alts := [], laidByText := true, laidKinds := [.data, .pinned], laidTests := true, laidLooks := .later }
def FnExactCtxNameUptoCardSaid : Prop := Claim7.holds Tryz.pinned (.plain (OpenSpec.upto fnExactCtxNameSpec)) fnExactCtxNameUptoCard

/-- THE SECOND FORM's CARD OF 'laws.FnExactCtxPop'. -/
def fnExactCtxPopUptoCard : Claim7 := { stood := { row := fnExactCtxPopUptoRow, standIns := [], harness := (true, "a15df3f61582f14d75dd265d3eb13282714c725198e4c550b4c2b60b5a1e6642"), looks := false }, kinds := [], alts := [], laidByText := true, laidKinds := [.data, .pinned], laidTests := true, laidLooks := .later }
def FnExactCtxPopUptoCardSaid : Prop := Claim7.holds Tryz.pinned (.plain (OpenSpec.upto fnExactCtxPopSpec)) fnExactCtxPopUptoCard

/-- THE SECOND FORM's CARD OF 'laws.FnExactCtxAssert'. -/
def fnExactCtxAssertUptoCard : Claim7 := { stood := { row := fnExactCtxAssertUptoRow, standIns := [], harness := (true, "a15df3f61582f14d75dd265d3eb13282714c725198e4c550b4c2b60b5a1e6642"), looks := false }, kinds := [], alts := [], laidByText := true, laidKinds := [.data, .pinned], laidTests := true, laidLooks := .later }
def FnExactCtxAssertUptoCardSaid : Prop := Claim7.holds Tryz.pinned (.plain (OpenSpec.upto fnExactCtxAssertSpec)) fnExactCtxAssertUptoCard
end Rows
end Go.Proofs.YthcmflhhpgmfaaaGreatDoor
