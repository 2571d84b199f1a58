/-
  NARROWER THAN 'FOR EVERY INPUT', by the rows' own cells (each row's printed sentence says how): FnExactCtxTerms: loops, laid · FnExactCtxPush: loops, laid · FnExactCtxName: loops, laid · FnExactCtxPop: loops, laid · FnExactCtxAssert: loops, laid · FnCtxList: laid · FnCtxBent: laid · FnCtxPop: laid · FnCtx: laid.
  DERIVED. THE GIVEN ROWS OF THIS SEAT. 9 by the template 'for every input the law returns true; each argument reads behind the call as it read before'; 0 by the template 'total and deterministic' (their statements: YtiahmfpfimmbgaaGreatDoorTotals.lean).
  GIVEN WITH THE SEED: the statements are not yours to turn. If you find one false, say at which input.
  Laid BY PROGRAM, IN A SANDBOX (cutbox-rows.mjs): the forced cells as the released guide's own fill.sh prints them over the translation 06dd4e5cea43116b… (all of the seat's roots in one cut). By AI agents, Wed Nov 11 2026. No macro, syntax, notation, axiom, sorry.
-/
import Derived.Test.YtiahmfpfimmbgaaGreatDoorChecked
import GoSem.PinnedTables
import GoSem.Claim
import GoSem.ClaimJoined
import GoSem.ClaimMapViews
import Derived.JoinedTies
import Derived.KernelRfl
namespace Go.Proofs.YtiahmfpfimmbgaaGreatDoor
/- THE CELL 'sum', in the pinned program and in every row, IS THE sha256 OF THE DUMP (.gsa) THAT YtiahmfpfimmbgaaGreatDoorProg.lean LOADS. Nothing in Lean hashes anything: it is a label: what it is worth is what the hold of that sum in a sandbox is worth. -/
noncomputable def Tryz.pinned : Pinned := { name := "ytiahmfpfimmbgaagreatdoor", sum := "06dd4e5cea43116b8412925adb470cba505b8e0bbf3ca184ffe88b4fdbae4612", checked := Tryz.checked }
namespace Rows
def none {H : Type} : Left H := { results := [], args := [] }

/- WHAT THE LISTED PACKAGE-LEVEL VARIABLES READ AS WHEN THE CALL BEGINS. Each datum BY PROGRAM (the guide's laid-datum.mjs) off the statement by which the dump's own 'gosem.cut.vars' lays the variable. In a bare row this is a premise. The card (YtiahmfpfimmbgaaGreatDoorCards.lean) ties it to the program's text. -/
def laid_unicode_utf8_acceptRanges {H : Type} : DataW H := .agg [.agg [.lit (.int .u8 128), .lit (.int .u8 191)], .agg [.lit (.int .u8 160), .lit (.int .u8 191)], .agg [.lit (.int .u8 128), .lit (.int .u8 159)], .agg [.lit (.int .u8 144), .lit (.int .u8 191)], .agg [.lit (.int .u8 128), .lit (.int .u8 143)], .agg [.lit (.int .u8 0), .lit (.int .u8 0)], .agg [.lit (.int .u8 0), .lit (.int .u8 0)], .agg [.lit (.int .u8 0), .lit (.int .u8 0)], .agg [.lit (.int .u8 0), .lit (.int .u8 0)], .agg [.lit (.int .u8 0), .lit (.int .u8 0)], .agg [.lit (.int .u8 0), .lit (.int .u8 0)], .agg [.lit (.int .u8 0), .lit (.int .u8 0)], .agg [.lit (.int .u8 0), .lit (.int .u8 0)], .agg [.lit (.int .u8 0), .lit (.int .u8 0)], .agg [.lit (.int .u8 0), .lit (.int .u8 0)], .agg [.lit (.int .u8 0), .lit (.int .u8 0)]]
/-- One of Go's own tables, pinned by name: the form's constant. -/
def laid_unicode_utf8_first : DataW Unit := Go.Pinned.utf8First

/-- 'laws.FnExactCtxTerms': WHATEVER THE INPUT: true; the input reads as it did. -/
def fnExactCtxTermsSpec : ChangeSpec := { name := "fnExactCtxTerms", fn := fun _ => fun
  | [d] => { results := [.lit (.bool true)], args := [d] }
  | _ => none }
def fnExactCtxTermsRow : OpenClaim := { program := "ytiahmfpfimmbgaagreatdoor", sum := "06dd4e5cea43116b8412925adb470cba505b8e0bbf3ca184ffe88b4fdbae4612", func := "loop.example/seedlip/laws.FnExactCtxTerms", spec := "fnExactCtxTerms", inPlace := ["internal/bytealg.IndexByteString", "internal/bytealg.IndexString"], unfollowed := true, recurses := true, named := ["unicode/utf8.first", "unicode/utf8.acceptRanges", "internal/bytealg.MaxLen"], loops := true, apart := false, laid := [("unicode/utf8.acceptRanges", laid_unicode_utf8_acceptRanges), ("unicode/utf8.first", laid_unicode_utf8_first)] }
def FnExactCtxTermsSaid : Prop := fnExactCtxTermsRow.holds Tryz.pinned (OpenSpec.ofChange fnExactCtxTermsSpec)

/-- ITS FALSE NEIGHBOUR: 'it returns false'. Refute it at one input. -/
def fnExactCtxTermsWrong : ChangeSpec := { name := "fnExactCtxTerms", fn := fun _ => fun
  | [d] => { results := [.lit (.bool false)], args := [d] }
  | _ => none }
def FnExactCtxTermsWrongFalsely : Prop := fnExactCtxTermsRow.holds Tryz.pinned (OpenSpec.ofChange fnExactCtxTermsWrong)

/-- 'laws.FnExactCtxPush': WHATEVER THE INPUT: true; the input reads as it did. -/
def fnExactCtxPushSpec : ChangeSpec := { name := "fnExactCtxPush", fn := fun _ => fun
  | [d] => { results := [.lit (.bool true)], args := [d] }
  | _ => none }
def fnExactCtxPushRow : OpenClaim := { program := "ytiahmfpfimmbgaagreatdoor", sum := "06dd4e5cea43116b8412925adb470cba505b8e0bbf3ca184ffe88b4fdbae4612", func := "loop.example/seedlip/laws.FnExactCtxPush", spec := "fnExactCtxPush", inPlace := ["internal/bytealg.IndexByteString", "internal/bytealg.IndexString"], unfollowed := true, recurses := true, named := ["unicode/utf8.first", "unicode/utf8.acceptRanges", "internal/bytealg.MaxLen"], loops := true, apart := false, laid := [("unicode/utf8.acceptRanges", laid_unicode_utf8_acceptRanges), ("unicode/utf8.first", laid_unicode_utf8_first)] }
def FnExactCtxPushSaid : Prop := fnExactCtxPushRow.holds Tryz.pinned (OpenSpec.ofChange fnExactCtxPushSpec)

/-- ITS FALSE NEIGHBOUR: 'it returns false'. Refute it at one input. -/
def fnExactCtxPushWrong : ChangeSpec := { name := "fnExactCtxPush", fn := fun _ => fun
  | [d] => { results := [.lit (.bool false)], args := [d] }
  | _ => none }
def FnExactCtxPushWrongFalsely : Prop := fnExactCtxPushRow.holds Tryz.pinned (OpenSpec.ofChange fnExactCtxPushWrong)

/-- 'laws.FnExactCtxName': WHATEVER THE INPUT: true; the input reads as it did. -/
def fnExactCtxNameSpec : ChangeSpec := { name := "fnExactCtxName", fn := fun _ => fun
  | [d1, d2] => { results := [.lit (.bool true)], args := [d1, d2] }
  | _ => none }
def fnExactCtxNameRow : OpenClaim := { program := "ytiahmfpfimmbgaagreatdoor", sum := "06dd4e5cea43116b8412925adb470cba505b8e0bbf3ca184ffe88b4fdbae4612", func := "loop.example/seedlip/laws.FnExactCtxName", spec := "fnExactCtxName", inPlace := ["internal/bytealg.IndexByteString", "internal/bytealg.IndexString"], unfollowed := true, recurses := true, named := ["unicode/utf8.first", "unicode/utf8.acceptRanges", "internal/bytealg.MaxLen"], loops := true, apart := false, laid := [("unicode/utf8.acceptRanges", laid_unicode_utf8_acceptRanges), ("unicode/utf8.first", laid_unicode_utf8_first)] }
def FnExactCtxNameSaid : Prop := fnExactCtxNameRow.holds Tryz.pinned (OpenSpec.ofChange fnExactCtxNameSpec)

/-- ITS FALSE NEIGHBOUR: 'it returns false'. Refute it at one input. -/
def fnExactCtxNameWrong : ChangeSpec := { name := "fnExactCtxName", fn := fun _ => fun
  | [d1, d2] => { results := [.lit (.bool false)], args := [d1, d2] }
  | _ => none }
def FnExactCtxNameWrongFalsely : Prop := fnExactCtxNameRow.holds Tryz.pinned (OpenSpec.ofChange fnExactCtxNameWrong)

/-- 'laws.FnExactCtxPop': WHATEVER THE INPUT: true; the input reads as it did. -/
def fnExactCtxPopSpec : ChangeSpec := { name := "fnExactCtxPop", fn := fun _ => fun
  | [d] => { results := [.lit (.bool true)], args := [d] }
  | _ => none }
def fnExactCtxPopRow : OpenClaim := { program := "ytiahmfpfimmbgaagreatdoor", sum := "06dd4e5cea43116b8412925adb470cba505b8e0bbf3ca184ffe88b4fdbae4612", func := "loop.example/seedlip/laws.FnExactCtxPop", spec := "fnExactCtxPop", inPlace := ["internal/bytealg.IndexByteString", "internal/bytealg.IndexString"], unfollowed := true, recurses := true, named := ["unicode/utf8.first", "unicode/utf8.acceptRanges", "internal/bytealg.MaxLen"], loops := true, apart := false, laid := [("unicode/utf8.acceptRanges", laid_unicode_utf8_acceptRanges), ("unicode/utf8.first", laid_unicode_utf8_first)] }
def FnExactCtxPopSaid : Prop := fnExactCtxPopRow.holds Tryz.pinned (OpenSpec.ofChange fnExactCtxPopSpec)

/-- ITS FALSE NEIGHBOUR: 'it returns false'. Refute it at one input. -/
def fnExactCtxPopWrong : ChangeSpec := { name := "fnExactCtxPop", fn := fun _ => fun
  | [d] => { results := [.lit (.bool false)], args := [d] }
  | _ => none }
def FnExactCtxPopWrongFalsely : Prop := fnExactCtxPopRow.holds Tryz.pinned (OpenSpec.ofChange fnExactCtxPopWrong)

/-- 'laws.FnExactCtxAssert': WHATEVER THE INPUT: true; the input reads as it did. -/
def fnExactCtxAssertSpec : ChangeSpec := { name := "fnExactCtxAssert", fn := fun _ => fun
  | [d1, d2] => { results := [.lit (.bool true)], args := [d1, d2] }
  | _ => none }
def fnExactCtxAssertRow : OpenClaim := { program := "ytiahmfpfimmbgaagreatdoor", sum := "06dd4e5cea43116b8412925adb470cba505b8e0bbf3ca184ffe88b4fdbae4612", func := "loop.example/seedlip/laws.FnExactCtxAssert", spec := "fnExactCtxAssert", inPlace := ["internal/bytealg.IndexByteString", "internal/bytealg.IndexString"], unfollowed := true, recurses := true, named := ["unicode/utf8.first", "unicode/utf8.acceptRanges", "internal/bytealg.MaxLen"], loops := true, apart := false, laid := [("unicode/utf8.acceptRanges", laid_unicode_utf8_acceptRanges), ("unicode/utf8.first", laid_unicode_utf8_first)] }
def FnExactCtxAssertSaid : Prop := fnExactCtxAssertRow.holds Tryz.pinned (OpenSpec.ofChange fnExactCtxAssertSpec)

/-- ITS FALSE NEIGHBOUR: 'it returns false'. Refute it at one input. -/
def fnExactCtxAssertWrong : ChangeSpec := { name := "fnExactCtxAssert", fn := fun _ => fun
  | [d1, d2] => { results := [.lit (.bool false)], args := [d1, d2] }
  | _ => none }
def FnExactCtxAssertWrongFalsely : Prop := fnExactCtxAssertRow.holds Tryz.pinned (OpenSpec.ofChange fnExactCtxAssertWrong)

/-- 'laws.FnCtxList': WHATEVER THE INPUT: true; the input reads as it did. -/
def fnCtxListSpec : ChangeSpec := { name := "fnCtxList", fn := fun _ => fun
  | [d] => { results := [.lit (.bool true)], args := [d] }
  | _ => none }
def fnCtxListRow : OpenClaim := { program := "ytiahmfpfimmbgaagreatdoor", sum := "06dd4e5cea43116b8412925adb470cba505b8e0bbf3ca184ffe88b4fdbae4612", func := "loop.example/seedlip/laws.FnCtxList", spec := "fnCtxList", inPlace := ["internal/bytealg.IndexByteString", "internal/bytealg.IndexString"], unfollowed := true, recurses := true, named := ["unicode/utf8.first", "unicode/utf8.acceptRanges", "internal/bytealg.MaxLen"], apart := false, laid := [("unicode/utf8.acceptRanges", laid_unicode_utf8_acceptRanges), ("unicode/utf8.first", laid_unicode_utf8_first)] }
def FnCtxListSaid : Prop := fnCtxListRow.holds Tryz.pinned (OpenSpec.ofChange fnCtxListSpec)

/-- ITS FALSE NEIGHBOUR: 'it returns false'. Refute it at one input. -/
def fnCtxListWrong : ChangeSpec := { name := "fnCtxList", fn := fun _ => fun
  | [d] => { results := [.lit (.bool false)], args := [d] }
  | _ => none }
def FnCtxListWrongFalsely : Prop := fnCtxListRow.holds Tryz.pinned (OpenSpec.ofChange fnCtxListWrong)

/-- 'laws.FnCtxBent': WHATEVER THE INPUT: true; the input reads as it did. -/
def fnCtxBentSpec : ChangeSpec := { name := "fnCtxBent", fn := fun _ => fun
  | [d] => { results := [.lit (.bool true)], args := [d] }
  | _ => none }
def fnCtxBentRow : OpenClaim := { program := "ytiahmfpfimmbgaagreatdoor", sum := "06dd4e5cea43116b8412925adb470cba505b8e0bbf3ca184ffe88b4fdbae4612", func := "loop.example/seedlip/laws.FnCtxBent", spec := "fnCtxBent", inPlace := ["internal/bytealg.IndexByteString", "internal/bytealg.IndexString"], unfollowed := true, recurses := true, named := ["unicode/utf8.first", "unicode/utf8.acceptRanges", "internal/bytealg.MaxLen"], apart := false, laid := [("unicode/utf8.acceptRanges", laid_unicode_utf8_acceptRanges), ("unicode/utf8.first", laid_unicode_utf8_first)] }
def FnCtxBentSaid : Prop := fnCtxBentRow.holds Tryz.pinned (OpenSpec.ofChange fnCtxBentSpec)

/-- ITS FALSE NEIGHBOUR: 'it returns false'. Refute it at one input. -/
def fnCtxBentWrong : ChangeSpec := { name := "fnCtxBent", fn := fun _ => fun
  | [d] => { results := [.lit (.bool false)], args := [d] }
  | _ => none }
def FnCtxBentWrongFalsely : Prop := fnCtxBentRow.holds Tryz.pinned (OpenSpec.ofChange fnCtxBentWrong)

/-- 'laws.FnCtxPop': WHATEVER THE INPUT: true; the input reads as it did. -/
def fnCtxPopSpec : ChangeSpec := { name := "fnCtxPop", fn := fun _ => fun
  | [d] => { results := [.lit (.bool true)], args := [d] }
  | _ => none }
def fnCtxPopRow : OpenClaim := { program := "ytiahmfpfimmbgaagreatdoor", sum := "06dd4e5cea43116b8412925adb470cba505b8e0bbf3ca184ffe88b4fdbae4612", func := "loop.example/seedlip/laws.FnCtxPop", spec := "fnCtxPop", inPlace := ["internal/bytealg.IndexByteString", "internal/bytealg.IndexString"], unfollowed := true, recurses := true, named := ["unicode/utf8.first", "unicode/utf8.acceptRanges", "internal/bytealg.MaxLen"], apart := false, laid := [("unicode/utf8.acceptRanges", laid_unicode_utf8_acceptRanges), ("unicode/utf8.first", laid_unicode_utf8_first)] }
def FnCtxPopSaid : Prop := fnCtxPopRow.holds Tryz.pinned (OpenSpec.ofChange fnCtxPopSpec)

/-- ITS FALSE NEIGHBOUR: 'it returns false'. Refute it at one input. -/
def fnCtxPopWrong : ChangeSpec := { name := "fnCtxPop", fn := fun _ => fun
  | [d] => { results := [.lit (.bool false)], args := [d] }
  | _ => none }
def FnCtxPopWrongFalsely : Prop := fnCtxPopRow.holds Tryz.pinned (OpenSpec.ofChange fnCtxPopWrong)

/-- 'laws.FnCtx': WHATEVER THE INPUT: true; the input reads as it did. -/
def fnCtxSpec : ChangeSpec := { name := "fnCtx", fn := fun _ => fun
  | [d1, d2] => { results := [.lit (.bool true)], args := [d1, d2] }
  | _ => none }
def fnCtxRow : OpenClaim := { program := "ytiahmfpfimmbgaagreatdoor", sum := "06dd4e5cea43116b8412925adb470cba505b8e0bbf3ca184ffe88b4fdbae4612", func := "loop.example/seedlip/laws.FnCtx", spec := "fnCtx", inPlace := ["internal/bytealg.IndexByteString", "internal/bytealg.IndexString"], unfollowed := true, recurses := true, named := ["unicode/utf8.first", "unicode/utf8.acceptRanges", "internal/bytealg.MaxLen"], apart := false, laid := [("unicode/utf8.acceptRanges", laid_unicode_utf8_acceptRanges), ("unicode/utf8.first", laid_unicode_utf8_first)] }
def FnCtxSaid : Prop := fnCtxRow.holds Tryz.pinned (OpenSpec.ofChange fnCtxSpec)

/-- ITS FALSE NEIGHBOUR: 'it returns false'. Refute it at one input. -/
def fnCtxWrong : ChangeSpec := { name := "fnCtx", fn := fun _ => fun
  | [d1, d2] => { results := [.lit (.bool false)], args := [d1, d2] }
  | _ => none }
def FnCtxWrongFalsely : Prop := fnCtxRow.holds Tryz.pinned (OpenSpec.ofChange fnCtxWrong)

/- THE SECOND FORM. 'bulk': how many values and letters a reading holds, each counted each time it is reached (what is shared counts as often as it is met; a slice's spare places count too). A statement '..UptoSaid' is the law's where the arguments, and the package variables that the reading takes, are together of bulk at most 1048576: NARROWER than '..Said'. Prove '..Said' where nothing that the law and all that it calls make is longer than what came in: it says more and counts as full. Else prove '..UptoSaid'. A law counts once. -/
mutual
def uptoBulk {H : Type} : DataW H → Nat
  | .lit (.string bytes) => bytes.length + 1
  | .lit _ => 1
  | .nil => 1
  | .ptr d => uptoBulk d + 1
  | .slice elems spare => uptoBulkAll elems + uptoBulkAll spare + 1
  | .agg parts => uptoBulkAll parts + 1
  | .iface _ d => uptoBulk d + 1
  | .map entries => uptoBulkEntries entries + 1
  | .held _ => 1
def uptoBulkAll {H : Type} : List (DataW H) → Nat
  | [] => 0
  | d :: r => uptoBulk d + uptoBulkAll r
def uptoBulkEntries {H : Type} : List (Lit × DataW H) → Nat
  | [] => 0
  | x :: r => uptoBulkEntry x + uptoBulkEntries r
def uptoBulkEntry {H : Type} : Lit × DataW H → Nat
  | (.string bytes, d) => bytes.length + uptoBulk d + 1
  | (_, d) => uptoBulk d + 1
 end
def uptoSmall : (H : Type) → List (DataW H) → Bool := fun _ ds => decide (uptoBulkAll ds ≤ 1048576)
def OpenSpec.upto (s : _root_.Go.ChangeSpec) : _root_.Go.OpenSpec := { _root_.Go.OpenSpec.ofChange s with cond := some uptoSmall }

/-- 'laws.FnExactCtxTerms', WHERE WHAT IT READS IS OF BULK AT MOST 1048576: true; the input reads as it did. -/
def fnExactCtxTermsUptoRow : OpenClaim := { program := "ytiahmfpfimmbgaagreatdoor", sum := "06dd4e5cea43116b8412925adb470cba505b8e0bbf3ca184ffe88b4fdbae4612", func := "loop.example/seedlip/laws.FnExactCtxTerms", spec := "fnExactCtxTerms", inPlace := ["internal/bytealg.IndexByteString", "internal/bytealg.IndexString"], unfollowed := true, recurses := true, named := ["unicode/utf8.first", "unicode/utf8.acceptRanges", "internal/bytealg.MaxLen"], loops := true, apart := false, laid := [("unicode/utf8.acceptRanges", laid_unicode_utf8_acceptRanges), ("unicode/utf8.first", laid_unicode_utf8_first)], narrowed := true }
def FnExactCtxTermsUptoSaid : Prop := fnExactCtxTermsUptoRow.holds Tryz.pinned (OpenSpec.upto fnExactCtxTermsSpec)

/-- 'laws.FnExactCtxPush', WHERE WHAT IT READS IS OF BULK AT MOST 1048576: true; the input reads as it did. -/
def fnExactCtxPushUptoRow : OpenClaim := { program := "ytiahmfpfimmbgaagreatdoor", sum := "06dd4e5cea43116b8412925adb470cba505b8e0bbf3ca184ffe88b4fdbae4612", func := "loop.example/seedlip/laws.FnExactCtxPush", spec := "fnExactCtxPush", inPlace := ["internal/bytealg.IndexByteString", "internal/bytealg.IndexString"], unfollowed := true, recurses := true, named := ["unicode/utf8.first", "unicode/utf8.acceptRanges", "internal/bytealg.MaxLen"], loops := true, apart := false, laid := [("unicode/utf8.acceptRanges", laid_unicode_utf8_acceptRanges), ("unicode/utf8.first", laid_unicode_utf8_first)], narrowed := true }
def FnExactCtxPushUptoSaid : Prop := fnExactCtxPushUptoRow.holds Tryz.pinned (OpenSpec.upto fnExactCtxPushSpec)

/-- 'laws.FnExactCtxName', WHERE WHAT IT READS IS OF BULK AT MOST 1048576: true; the input reads as it did. -/
def fnExactCtxNameUptoRow : OpenClaim := { program := "ytiahmfpfimmbgaagreatdoor", sum := "06dd4e5cea43116b8412925adb470cba505b8e0bbf3ca184ffe88b4fdbae4612", func := "loop.example/seedlip/laws.FnExactCtxName", spec := "fnExactCtxName", inPlace := ["internal/bytealg.IndexByteString", "internal/bytealg.IndexString"], unfollowed := true, recurses := true, named := ["unicode/utf8.first", "unicode/utf8.acceptRanges", "internal/bytealg.MaxLen"], loops := true, apart := false, laid := [("unicode/utf8.acceptRanges", laid_unicode_utf8_acceptRanges), ("unicode/utf8.first", laid_unicode_utf8_first)], narrowed := true }
def FnExactCtxNameUptoSaid : Prop := fnExactCtxNameUptoRow.holds Tryz.pinned (OpenSpec.upto fnExactCtxNameSpec)

/-- 'laws.FnExactCtxPop', WHERE WHAT IT READS IS OF BULK AT MOST 1048576: true; the input reads as it did. -/
def fnExactCtxPopUptoRow : OpenClaim := { program := "ytiahmfpfimmbgaagreatdoor", sum := "06dd4e5cea43116b8412925adb470cba505b8e0bbf3ca184ffe88b4fdbae4612", func := "loop.example/seedlip/laws.FnExactCtxPop", spec := "fnExactCtxPop", inPlace := ["internal/bytealg.IndexByteString", "internal/bytealg.IndexString"], unfollowed := true, recurses := true, named := ["unicode/utf8.first", "unicode/utf8.acceptRanges", "internal/bytealg.MaxLen"], loops := true, apart := false, laid := [("unicode/utf8.acceptRanges", laid_unicode_utf8_acceptRanges), ("unicode/utf8.first", laid_unicode_utf8_first)], narrowed := true }
def FnExactCtxPopUptoSaid : Prop := fnExactCtxPopUptoRow.holds Tryz.pinned (OpenSpec.upto fnExactCtxPopSpec)

/-- 'laws.FnExactCtxAssert', WHERE WHAT IT READS IS OF BULK AT MOST 1048576: true; the input reads as it did. -/
def fnExactCtxAssertUptoRow : OpenClaim := { program := "ytiahmfpfimmbgaagreatdoor", sum := "06dd4e5cea43116b8412925adb470cba505b8e0bbf3ca184ffe88b4fdbae4612", func := "loop.example/seedlip/laws.FnExactCtxAssert", spec := "fnExactCtxAssert", inPlace := ["internal/bytealg.IndexByteString", "internal/bytealg.IndexString"], unfollowed := true, recurses := true, named := ["unicode/utf8.first", "unicode/utf8.acceptRanges", "internal/bytealg.MaxLen"], loops := true, apart := false, laid := [("unicode/utf8.acceptRanges", laid_unicode_utf8_acceptRanges), ("unicode/utf8.first", laid_unicode_utf8_first)], narrowed := true }
def FnExactCtxAssertUptoSaid : Prop := fnExactCtxAssertUptoRow.holds Tryz.pinned (OpenSpec.upto fnExactCtxAssertSpec)

/-- 'laws.FnCtxList', WHERE WHAT IT READS IS OF BULK AT MOST 1048576: true; the input reads as it did. -/
def fnCtxListUptoRow : OpenClaim := { program := "ytiahmfpfimmbgaagreatdoor", sum := "06dd4e5cea43116b8412925adb470cba505b8e0bbf3ca184ffe88b4fdbae4612", func := "loop.example/seedlip/laws.FnCtxList", spec := "fnCtxList", inPlace := ["internal/bytealg.IndexByteString", "internal/bytealg.IndexString"], unfollowed := true, recurses := true, named := ["unicode/utf8.first", "unicode/utf8.acceptRanges", "internal/bytealg.MaxLen"], apart := false, laid := [("unicode/utf8.acceptRanges", laid_unicode_utf8_acceptRanges), ("unicode/utf8.first", laid_unicode_utf8_first)], narrowed := true }
def FnCtxListUptoSaid : Prop := fnCtxListUptoRow.holds Tryz.pinned (OpenSpec.upto fnCtxListSpec)

/-- 'laws.FnCtxBent', WHERE WHAT IT READS IS OF BULK AT MOST 1048576: true; the input reads as it did. -/
def fnCtxBentUptoRow : OpenClaim := { program := "ytiahmfpfimmbgaagreatdoor", sum := "06dd4e5cea43116b8412925adb470cba505b8e0bbf3ca184ffe88b4fdbae4612", func := "loop.example/seedlip/laws.FnCtxBent", spec := "fnCtxBent", inPlace := ["internal/bytealg.IndexByteString", "internal/bytealg.IndexString"], unfollowed := true, recurses := true, named := ["unicode/utf8.first", "unicode/utf8.acceptRanges", "internal/bytealg.MaxLen"], apart := false, laid := [("unicode/utf8.acceptRanges", laid_unicode_utf8_acceptRanges), ("unicode/utf8.first", laid_unicode_utf8_first)], narrowed := true }
def FnCtxBentUptoSaid : Prop := fnCtxBentUptoRow.holds Tryz.pinned (OpenSpec.upto fnCtxBentSpec)

/-- 'laws.FnCtxPop', WHERE WHAT IT READS IS OF BULK AT MOST 1048576: true; the input reads as it did. -/
def fnCtxPopUptoRow : OpenClaim := { program := "ytiahmfpfimmbgaagreatdoor", sum := "06dd4e5cea43116b8412925adb470cba505b8e0bbf3ca184ffe88b4fdbae4612", func := "loop.example/seedlip/laws.FnCtxPop", spec := "fnCtxPop", inPlace := ["internal/bytealg.IndexByteString", "internal/bytealg.IndexString"], unfollowed := true, recurses := true, named := ["unicode/utf8.first", "unicode/utf8.acceptRanges", "internal/bytealg.MaxLen"], apart := false, laid := [("unicode/utf8.acceptRanges", laid_unicode_utf8_acceptRanges), ("unicode/utf8.first", laid_unicode_utf8_first)], narrowed := true }
def FnCtxPopUptoSaid : Prop := fnCtxPopUptoRow.holds Tryz.pinned (OpenSpec.upto fnCtxPopSpec)

/-- 'laws.FnCtx', WHERE WHAT IT READS IS OF BULK AT MOST 1048576: true; the input reads as it did. -/
def fnCtxUptoRow : OpenClaim := { program := "ytiahmfpfimmbgaagreatdoor", sum := "06dd4e5cea43116b8412925adb470cba505b8e0bbf3ca184ffe88b4fdbae4612", func := "loop.example/seedlip/laws.FnCtx", spec := "fnCtx", inPlace := ["internal/bytealg.IndexByteString", "internal/bytealg.IndexString"], unfollowed := true, recurses := true, named := ["unicode/utf8.first", "unicode/utf8.acceptRanges", "internal/bytealg.MaxLen"], apart := false, laid := [("unicode/utf8.acceptRanges", laid_unicode_utf8_acceptRanges), ("unicode/utf8.first", laid_unicode_utf8_first)], narrowed := true }
def FnCtxUptoSaid : Prop := fnCtxUptoRow.holds Tryz.pinned (OpenSpec.upto fnCtxSpec)

end Rows
end Go.Proofs.YtiahmfpfimmbgaaGreatDoor
