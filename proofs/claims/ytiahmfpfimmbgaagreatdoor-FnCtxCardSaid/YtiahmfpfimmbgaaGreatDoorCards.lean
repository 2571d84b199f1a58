/-
  DERIVED. GIVEN WITH THE SEED: THE CARDS: each row of YtiahmfpfimmbgaaGreatDoorRows.lean that lists a variable, with what it lists TIED to the program's text (the seventh form; the later family's looks); each row that meets fmt, with fmt's text TOLD by the authors' own Lean function (tested against real Go, not proved from fmt's source: count such statements apart). THE CARD IS WHAT COUNTS. Prove the row's statement (the work); the ties are given (YtiahmfpfimmbgaaGreatDoorTie.lean); close each card by the builder's one call (the guide's Derived/Test/ToyasCard.lean, 'card_holds'). Laid BY PROGRAM, IN A SANDBOX (cutbox-door.mjs). By AI agents, Wed Nov 11 2026. No macro, syntax, notation, axiom, sorry.
-/
import Derived.Test.YtiahmfpfimmbgaaGreatDoorRows
import GoSem.ClaimSeven
namespace Go.Proofs.YtiahmfpfimmbgaaGreatDoor
namespace Rows

/-- THE TIED CARD OF 'laws.FnExactCtxTerms'. -/
def fnExactCtxTermsCard : Claim7 := { stood := { row := fnExactCtxTermsRow, standIns := [], harness := (true, "fa7c2d269064db101b516471099433e3f12ab655d2db7d2de2728ecd31214435"), looks := false }, kinds := [], alts := [], laidByText := true, laidKinds := [.data, .pinned], laidTests := true, laidLooks := .later }
def FnExactCtxTermsCardSaid : Prop := Claim7.holds Tryz.pinned (.plain (OpenSpec.ofChange fnExactCtxTermsSpec)) fnExactCtxTermsCard

/-- THE TIED CARD OF 'laws.FnExactCtxPush'. -/
def fnExactCtxPushCard : Claim7 := { stood := { row := fnExactCtxPushRow, standIns := [], harness := (true, "fa7c2d269064db101b516471099433e3f12ab655d2db7d2de2728ecd31214435"), looks := false }, kinds := [], alts := [], laidByText := true, laidKinds := [.data, .pinned], laidTests := true, laidLooks := .later }
def FnExactCtxPushCardSaid : Prop := Claim7.holds Tryz.pinned (.plain (OpenSpec.ofChange fnExactCtxPushSpec)) fnExactCtxPushCard

/-- THE TIED CARD OF 'laws.FnExactCtxName'. -/
def fnExactCtxNameCard : Claim7 := { stood := { row := fnExactCtxNameRow, standIns := [], harness := (true, "fa7c2d269064db101b516471099433e3f12ab655d2db7d2de2728ecd31214435"), looks := false }, kinds := [], alts := [], laidByText := true, laidKinds := [.data, .pinned], laidTests := true, laidLooks := .later }
def FnExactCtxNameCardSaid : Prop := Claim7.holds Tryz.pinned (.plain (OpenSpec.ofChange fnExactCtxNameSpec)) fnExactCtxNameCard

/-- THE TIED CARD OF 'laws.FnExactCtxPop'. -/
def fnExactCtxPopCard : Claim7 := { stood := { row := fnExactCtxPopRow, standIns := [], harness := (true, "fa7c2d269064db101b516471099433e3f12ab655d2db7d2de2728ecd31214435"), looks := false }, kinds := [], alts := [], laidByText := true, laidKinds := [.data, .pinned], laidTests := true, laidLooks := .later }
def FnExactCtxPopCardSaid : Prop := Claim7.holds Tryz.pinned (.plain (OpenSpec.ofChange fnExactCtxPopSpec)) fnExactCtxPopCard

/-- THE TIED CARD OF 'laws.FnExactCtxAssert'. -/
def fnExactCtxAssertCard : Claim7 := { stood := { row := fnExactCtxAssertRow, standIns := [], harness := (true, "fa7c2d269064db101b516471099433e3f12ab655d2db7d2de2728ecd31214435"), looks := false }, kinds := [], alts := [], laidByText := true, laidKinds := [.data, .pinned], laidTests := true, laidLooks := .later }
def FnExactCtxAssertCardSaid : Prop := Claim7.holds Tryz.pinned (.plain (OpenSpec.ofChange fnExactCtxAssertSpec)) fnExactCtxAssertCard

/-- THE TIED CARD OF 'laws.FnCtxList'. -/
def fnCtxListCard : Claim7 := { stood := { row := fnCtxListRow, standIns := [], harness := (true, "fa7c2d269064db101b516471099433e3f12ab655d2db7d2de2728ecd31214435"), looks := false }, kinds := [], alts := [], laidByText := true, laidKinds := [.data, .pinned], laidTests := true, laidLooks := .later }
def FnCtxListCardSaid : Prop := Claim7.holds Tryz.pinned (.plain (OpenSpec.ofChange fnCtxListSpec)) fnCtxListCard

/-- THE TIED CARD OF 'laws.FnCtxBent'. -/
def fnCtxBentCard : Claim7 := { stood := { row := fnCtxBentRow, standIns := [], harness := (true, "fa7c2d269064db101b516471099433e3f12ab655d2db7d2de2728ecd31214435"), looks := false }, kinds := [], alts := [], laidByText := true, laidKinds := [.data, .pinned], laidTests := true, laidLooks := .later }
def FnCtxBentCardSaid : Prop := Claim7.holds Tryz.pinned (.plain (OpenSpec.ofChange fnCtxBentSpec)) fnCtxBentCard

/-- THE TIED CARD OF 'laws.FnCtxPop'. -/
def fnCtxPopCard : Claim7 := { stood := { row := fnCtxPopRow, standIns := [], harness := (true, "fa7c2d269064db101b516471099433e3f12ab655d2db7d2de2728ecd31214435"), looks := false }, kinds := [], alts := [], laidByText := true, laidKinds := [.data, .pinned], laidTests := true, laidLooks := .later }
def FnCtxPopCardSaid : Prop := Claim7.holds Tryz.pinned (.plain (OpenSpec.ofChange fnCtxPopSpec)) fnCtxPopCard

/-- THE TIED CARD OF 'laws.FnCtx'. -/
def fnCtxCard : Claim7 := { stood := { row := fnCtxRow, standIns := [], harness := (true, "fa7c2d269064db101b516471099433e3f12ab655d2db7d2de2728ecd31214435"), looks := false }, kinds := [], alts := [], laidByText := true, laidKinds := [.data, .pinned], laidTests := true, laidLooks := .later }
def FnCtxCardSaid : Prop := Claim7.holds Tryz.pinned (.plain (OpenSpec.ofChange fnCtxSpec)) fnCtxCard

/-- THE SECOND FORM's CARD OF 'laws.FnExactCtxTerms'. -/
def fnExactCtxTermsUptoCard : Claim7 := { stood := { row := fnExactCtxTermsUptoRow, standIns := [], harness := (true, "fa7c2d269064db101b516471099433e3f12ab655d2db7d2de2728ecd31214435"), looks := false }, kinds := [], alts := [], laidByText := true, laidKinds := [.data, .pinned], laidTests := true, laidLooks := .later }
def FnExactCtxTermsUptoCardSaid : Prop := Claim7.holds Tryz.pinned (.plain (OpenSpec.upto fnExactCtxTermsSpec)) fnExactCtxTermsUptoCard

/-- THE SECOND FORM's CARD OF 'laws.FnExactCtxPush'. -/
def fnExactCtxPushUptoCard : Claim7 := { stood := { row := fnExactCtxPushUptoRow, standIns := [], harness := (true, "fa7c2d269064db101b516471099433e3f12ab655d2db7d2de2728ecd31214435"), looks := false }, kinds := [], alts := [], laidByText := true, laidKinds := [.data, .pinned], laidTests := true, laidLooks := .later }
def FnExactCtxPushUptoCardSaid : Prop := Claim7.holds Tryz.pinned (.plain (OpenSpec.upto fnExactCtxPushSpec)) fnExactCtxPushUptoCard

/-- THE SECOND FORM's CARD OF 'laws.FnExactCtxName'. -/
def fnExactCtxNameUptoCard : Claim7 := { stood := { row := fnExactCtxNameUptoRow, standIns := [], harness := (true, "fa7c2d269064db101b516471099433e3f12ab655d2db7d2de2728ecd31214435"), looks := false }, kinds := [], alts := [], laidByText := true, laidKinds := [.data, .pinned], laidTests := true, laidLooks := .later }
def FnExactCtxNameUptoCardSaid : Prop := Claim7.holds Tryz.pinned (.plain (OpenSpec.upto fnExactCtxNameSpec)) fnExactCtxNameUptoCard

/-- THE SECOND FORM's CARD OF 'laws.FnExactCtxPop'. -/
def fnExactCtxPopUptoCard : Claim7 := { stood := { row := fnExactCtxPopUptoRow, standIns := [], harness := (true, "fa7c2d269064db101b516471099433e3f12ab655d2db7d2de2728ecd31214435"), looks := false }, kinds := [], alts := [], laidByText := true, laidKinds := [.data, .pinned], laidTests := true, laidLooks := .later }
def FnExactCtxPopUptoCardSaid : Prop := Claim7.holds Tryz.pinned (.plain (OpenSpec.upto fnExactCtxPopSpec)) fnExactCtxPopUptoCard

/-- THE SECOND FORM's CARD OF 'laws.FnExactCtxAssert'. -/
def fnExactCtxAssertUptoCard : Claim7 := { stood := { row := fnExactCtxAssertUptoRow, standIns := [], harness := (true, "fa7c2d269064db101b516471099433e3f12ab655d2db7d2de2728ecd31214435"), looks := false }, kinds := [], alts := [], laidByText := true, laidKinds := [.data, .pinned], laidTests := true, laidLooks := .later }
def FnExactCtxAssertUptoCardSaid : Prop := Claim7.holds Tryz.pinned (.plain (OpenSpec.upto fnExactCtxAssertSpec)) fnExactCtxAssertUptoCard

/-- THE SECOND FORM's CARD OF 'laws.FnCtxList'. -/
def fnCtxListUptoCard : Claim7 := { stood := { row := fnCtxListUptoRow, standIns := [], harness := (true, "fa7c2d269064db101b516471099433e3f12ab655d2db7d2de2728ecd31214435"), looks := false }, kinds := [], alts := [], laidByText := true, laidKinds := [.data, .pinned], laidTests := true, laidLooks := .later }
def FnCtxListUptoCardSaid : Prop := Claim7.holds Tryz.pinned (.plain (OpenSpec.upto fnCtxListSpec)) fnCtxListUptoCard

/-- THE SECOND FORM's CARD OF 'laws.FnCtxBent'. -/
def fnCtxBentUptoCard : Claim7 := { stood := { row := fnCtxBentUptoRow, standIns := [], harness := (true, "fa7c2d269064db101b516471099433e3f12ab655d2db7d2de2728ecd31214435"), looks := false }, kinds := [], alts := [], laidByText := true, laidKinds := [.data, .pinned], laidTests := true, laidLooks := .later }
def FnCtxBentUptoCardSaid : Prop := Claim7.holds Tryz.pinned (.plain (OpenSpec.upto fnCtxBentSpec)) fnCtxBentUptoCard

/-- THE SECOND FORM's CARD OF 'laws.FnCtxPop'. -/
def fnCtxPopUptoCard : Claim7 := { stood := { row := fnCtxPopUptoRow, standIns := [], harness := (true, "fa7c2d269064db101b516471099433e3f12ab655d2db7d2de2728ecd31214435"), looks := false }, kinds := [], alts := [], laidByText := true, laidKinds := [.data, .pinned], laidTests := true, laidLooks := .later }
def FnCtxPopUptoCardSaid : Prop := Claim7.holds Tryz.pinned (.plain (OpenSpec.upto fnCtxPopSpec)) fnCtxPopUptoCard

/-- THE SECOND FORM's CARD OF 'laws.FnCtx'. -/
def fnCtxUptoCard : Claim7 := { stood := { row := fnCtxUptoRow, standIns := [], harness := (true, "fa7c2d269064db101b516471099433e3f12ab655d2db7d2de2728ecd31214435"), looks := false }, kinds := [], alts := [], laidByText := true, laidKinds := [.data, .pinned], laidTests := true, laidLooks := .later }
def FnCtxUptoCardSaid : Prop := Claim7.holds Tryz.pinned (.plain (OpenSpec.upto fnCtxSpec)) fnCtxUptoCard
end Rows
end Go.Proofs.YtiahmfpfimmbgaaGreatDoor
