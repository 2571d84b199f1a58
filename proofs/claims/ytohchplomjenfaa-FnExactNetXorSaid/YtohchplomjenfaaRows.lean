/-
  NARROWER THAN 'FOR EVERY INPUT', by the rows' own cells (each row's printed sentence says how): FnExactCtxSame: loops.
  DERIVED. THE GIVEN ROWS OF THIS SEAT. 6 by the template 'for every input the law returns true; each argument reads behind the call as it read before'; 0 by the template 'total and deterministic' (their statements: YtohchplomjenfaaTotals.lean).
  GIVEN WITH THE SEED: the statements are not yours to turn. If you find one false, say at which input.
  Laid BY PROGRAM, IN A SANDBOX (cutbox-rows.mjs): the forced cells as the released guide's own fill.sh prints them over the translation aa9f740f3495cb62… (all of the seat's roots in one cut). By AI agents, Wed Nov 11 2026. No macro, syntax, notation, axiom, sorry.
-/
import Derived.Test.YtohchplomjenfaaChecked
import GoSem.Claim
import GoSem.ClaimJoined
import GoSem.ClaimMapViews
import Derived.JoinedTies
import Derived.KernelRfl
namespace Go.Proofs.Ytohchplomjenfaa
/- THE CELL 'sum', in the pinned program and in every row, IS THE sha256 OF THE DUMP (.gsa) THAT YtohchplomjenfaaProg.lean LOADS. Nothing in Lean hashes anything: it is a label: what it is worth is what the hold of that sum in a sandbox is worth. -/
noncomputable def Try.pinned : Pinned := { name := "ytohchplomjenfaa", sum := "aa9f740f3495cb62e4720b8ff928218224bec1d6e49f96dc778570173f92cc36", checked := Try.checked }
namespace Rows
def none {H : Type} : Left H := { results := [], args := [] }

/-- 'laws.FnBitsVal': WHATEVER THE INPUT: true; the input reads as it did. -/
def fnBitsValSpec : ChangeSpec := { name := "fnBitsVal", fn := fun _ => fun
  | [d] => { results := [.lit (.bool true)], args := [d] }
  | _ => none }
def fnBitsValRow : OpenClaim := { program := "ytohchplomjenfaa", sum := "aa9f740f3495cb62e4720b8ff928218224bec1d6e49f96dc778570173f92cc36", func := "loop.example/seedlip/laws.FnBitsVal", spec := "fnBitsVal", plainKeys := false, apart := false }
def FnBitsValSaid : Prop := fnBitsValRow.holds Try.pinned (OpenSpec.ofChange fnBitsValSpec)

/-- ITS FALSE NEIGHBOUR: 'it returns false'. Refute it at one input. -/
def fnBitsValWrong : ChangeSpec := { name := "fnBitsVal", fn := fun _ => fun
  | [d] => { results := [.lit (.bool false)], args := [d] }
  | _ => none }
def FnBitsValWrongFalsely : Prop := fnBitsValRow.holds Try.pinned (OpenSpec.ofChange fnBitsValWrong)

/-- 'laws.FnExactBitsVal': WHATEVER THE INPUT: true; the input reads as it did. -/
def fnExactBitsValSpec : ChangeSpec := { name := "fnExactBitsVal", fn := fun _ => fun
  | [d1, d2] => { results := [.lit (.bool true)], args := [d1, d2] }
  | _ => none }
def fnExactBitsValRow : OpenClaim := { program := "ytohchplomjenfaa", sum := "aa9f740f3495cb62e4720b8ff928218224bec1d6e49f96dc778570173f92cc36", func := "loop.example/seedlip/laws.FnExactBitsVal", spec := "fnExactBitsVal", plainKeys := false, apart := false }
def FnExactBitsValSaid : Prop := fnExactBitsValRow.holds Try.pinned (OpenSpec.ofChange fnExactBitsValSpec)

/-- ITS FALSE NEIGHBOUR: 'it returns false'. Refute it at one input. -/
def fnExactBitsValWrong : ChangeSpec := { name := "fnExactBitsVal", fn := fun _ => fun
  | [d1, d2] => { results := [.lit (.bool false)], args := [d1, d2] }
  | _ => none }
def FnExactBitsValWrongFalsely : Prop := fnExactBitsValRow.holds Try.pinned (OpenSpec.ofChange fnExactBitsValWrong)

/-- 'laws.FnExactCtxNew': WHATEVER THE INPUT: true; the input reads as it did. -/
def fnExactCtxNewSpec : ChangeSpec := { name := "fnExactCtxNew", fn := fun _ => fun
  | [] => { results := [.lit (.bool true)], args := [] }
  | _ => none }
def fnExactCtxNewRow : OpenClaim := { program := "ytohchplomjenfaa", sum := "aa9f740f3495cb62e4720b8ff928218224bec1d6e49f96dc778570173f92cc36", func := "loop.example/seedlip/laws.FnExactCtxNew", spec := "fnExactCtxNew", recurses := true, plainKeys := false, apart := false }
def FnExactCtxNewSaid : Prop := fnExactCtxNewRow.holds Try.pinned (OpenSpec.ofChange fnExactCtxNewSpec)

/-- ITS FALSE NEIGHBOUR: 'it returns false'. Refute it at one input. -/
def fnExactCtxNewWrong : ChangeSpec := { name := "fnExactCtxNew", fn := fun _ => fun
  | [] => { results := [.lit (.bool false)], args := [] }
  | _ => none }
def FnExactCtxNewWrongFalsely : Prop := fnExactCtxNewRow.holds Try.pinned (OpenSpec.ofChange fnExactCtxNewWrong)

/-- 'laws.FnExactCtxSame': WHATEVER THE INPUT: true; the input reads as it did. -/
def fnExactCtxSameSpec : ChangeSpec := { name := "fnExactCtxSame", fn := fun _ => fun
  | [d1, d2] => { results := [.lit (.bool true)], args := [d1, d2] }
  | _ => none }
def fnExactCtxSameRow : OpenClaim := { program := "ytohchplomjenfaa", sum := "aa9f740f3495cb62e4720b8ff928218224bec1d6e49f96dc778570173f92cc36", func := "loop.example/seedlip/laws.FnExactCtxSame", spec := "fnExactCtxSame", unfollowed := true, recurses := true, loops := true, plainKeys := false, apart := false }
def FnExactCtxSameSaid : Prop := fnExactCtxSameRow.holds Try.pinned (OpenSpec.ofChange fnExactCtxSameSpec)

/-- ITS FALSE NEIGHBOUR: 'it returns false'. Refute it at one input. -/
def fnExactCtxSameWrong : ChangeSpec := { name := "fnExactCtxSame", fn := fun _ => fun
  | [d1, d2] => { results := [.lit (.bool false)], args := [d1, d2] }
  | _ => none }
def FnExactCtxSameWrongFalsely : Prop := fnExactCtxSameRow.holds Try.pinned (OpenSpec.ofChange fnExactCtxSameWrong)

/-- 'laws.FnExactNetAnd': WHATEVER THE INPUT: true; the input reads as it did. -/
def fnExactNetAndSpec : ChangeSpec := { name := "fnExactNetAnd", fn := fun _ => fun
  | [d1, d2, d3] => { results := [.lit (.bool true)], args := [d1, d2, d3] }
  | _ => none }
def fnExactNetAndRow : OpenClaim := { program := "ytohchplomjenfaa", sum := "aa9f740f3495cb62e4720b8ff928218224bec1d6e49f96dc778570173f92cc36", func := "loop.example/seedlip/laws.FnExactNetAnd", spec := "fnExactNetAnd", unfollowed := true, recurses := true, plainKeys := false, apart := false }
def FnExactNetAndSaid : Prop := fnExactNetAndRow.holds Try.pinned (OpenSpec.ofChange fnExactNetAndSpec)

/-- ITS FALSE NEIGHBOUR: 'it returns false'. Refute it at one input. -/
def fnExactNetAndWrong : ChangeSpec := { name := "fnExactNetAnd", fn := fun _ => fun
  | [d1, d2, d3] => { results := [.lit (.bool false)], args := [d1, d2, d3] }
  | _ => none }
def FnExactNetAndWrongFalsely : Prop := fnExactNetAndRow.holds Try.pinned (OpenSpec.ofChange fnExactNetAndWrong)

/-- 'laws.FnExactNetXor': WHATEVER THE INPUT: true; the input reads as it did. -/
def fnExactNetXorSpec : ChangeSpec := { name := "fnExactNetXor", fn := fun _ => fun
  | [d1, d2, d3] => { results := [.lit (.bool true)], args := [d1, d2, d3] }
  | _ => none }
def fnExactNetXorRow : OpenClaim := { program := "ytohchplomjenfaa", sum := "aa9f740f3495cb62e4720b8ff928218224bec1d6e49f96dc778570173f92cc36", func := "loop.example/seedlip/laws.FnExactNetXor", spec := "fnExactNetXor", unfollowed := true, recurses := true, plainKeys := false, apart := false }
def FnExactNetXorSaid : Prop := fnExactNetXorRow.holds Try.pinned (OpenSpec.ofChange fnExactNetXorSpec)

/-- ITS FALSE NEIGHBOUR: 'it returns false'. Refute it at one input. -/
def fnExactNetXorWrong : ChangeSpec := { name := "fnExactNetXor", fn := fun _ => fun
  | [d1, d2, d3] => { results := [.lit (.bool false)], args := [d1, d2, d3] }
  | _ => none }
def FnExactNetXorWrongFalsely : Prop := fnExactNetXorRow.holds Try.pinned (OpenSpec.ofChange fnExactNetXorWrong)

/- THE SECOND FORM. 'bulk': how many values and letters a reading holds, each counted each time it is reached (what is shared counts as often as it is met; a slice's spare places count too). A statement '..UptoSaid' is the law's where the arguments, and the package variables that the reading takes, are together of bulk at most 1048576: NARROWER than '..Said'. Prove '..Said' where nothing that the law and all that it calls make is longer than what came in: it says more and counts as full. Else prove '..UptoSaid'. A law counts once. -/
mutual
def uptoBulk {H : Type} : DataW H → Nat
  | .lit (.string bytes) => bytes.length + 1
  | .lit _ => 1
  | .nil => 1
  | .ptr d => uptoBulk d + 1
  | .slice elems spare => uptoBulkAll elems + uptoBulkAll spare + 1
  | .agg parts => uptoBulkAll parts + 1
  | .iface _ d => uptoBulk d + 1
  | .map entries => uptoBulkEntries entries + 1
  | .held _ => 1
def uptoBulkAll {H : Type} : List (DataW H) → Nat
  | [] => 0
  | d :: r => uptoBulk d + uptoBulkAll r
def uptoBulkEntries {H : Type} : List (Lit × DataW H) → Nat
  | [] => 0
  | x :: r => uptoBulkEntry x + uptoBulkEntries r
def uptoBulkEntry {H : Type} : Lit × DataW H → Nat
  | (.string bytes, d) => bytes.length + uptoBulk d + 1
  | (_, d) => uptoBulk d + 1
 end
def uptoSmall : (H : Type) → List (DataW H) → Bool := fun _ ds => decide (uptoBulkAll ds ≤ 1048576)
def OpenSpec.upto (s : _root_.Go.ChangeSpec) : _root_.Go.OpenSpec := { _root_.Go.OpenSpec.ofChange s with cond := some uptoSmall }

/-- 'laws.FnBitsVal', WHERE WHAT IT READS IS OF BULK AT MOST 1048576: true; the input reads as it did. -/
def fnBitsValUptoRow : OpenClaim := { program := "ytohchplomjenfaa", sum := "aa9f740f3495cb62e4720b8ff928218224bec1d6e49f96dc778570173f92cc36", func := "loop.example/seedlip/laws.FnBitsVal", spec := "fnBitsVal", plainKeys := false, apart := false, narrowed := true }
def FnBitsValUptoSaid : Prop := fnBitsValUptoRow.holds Try.pinned (OpenSpec.upto fnBitsValSpec)

/-- 'laws.FnExactBitsVal', WHERE WHAT IT READS IS OF BULK AT MOST 1048576: true; the input reads as it did. -/
def fnExactBitsValUptoRow : OpenClaim := { program := "ytohchplomjenfaa", sum := "aa9f740f3495cb62e4720b8ff928218224bec1d6e49f96dc778570173f92cc36", func := "loop.example/seedlip/laws.FnExactBitsVal", spec := "fnExactBitsVal", plainKeys := false, apart := false, narrowed := true }
def FnExactBitsValUptoSaid : Prop := fnExactBitsValUptoRow.holds Try.pinned (OpenSpec.upto fnExactBitsValSpec)

/-- 'laws.FnExactCtxNew', WHERE WHAT IT READS IS OF BULK AT MOST 1048576: true; the input reads as it did. -/
def fnExactCtxNewUptoRow : OpenClaim := { program := "ytohchplomjenfaa", sum := "aa9f740f3495cb62e4720b8ff928218224bec1d6e49f96dc778570173f92cc36", func := "loop.example/seedlip/laws.FnExactCtxNew", spec := "fnExactCtxNew", recurses := true, plainKeys := false, apart := false, narrowed := true }
def FnExactCtxNewUptoSaid : Prop := fnExactCtxNewUptoRow.holds Try.pinned (OpenSpec.upto fnExactCtxNewSpec)

/-- 'laws.FnExactCtxSame', WHERE WHAT IT READS IS OF BULK AT MOST 1048576: true; the input reads as it did. -/
def fnExactCtxSameUptoRow : OpenClaim := { program := "ytohchplomjenfaa", sum := "aa9f740f3495cb62e4720b8ff928218224bec1d6e49f96dc778570173f92cc36", func := "loop.example/seedlip/laws.FnExactCtxSame", spec := "fnExactCtxSame", unfollowed := true, recurses := true, loops := true, plainKeys := false, apart := false, narrowed := true }
def FnExactCtxSameUptoSaid : Prop := fnExactCtxSameUptoRow.holds Try.pinned (OpenSpec.upto fnExactCtxSameSpec)

/-- 'laws.FnExactNetAnd', WHERE WHAT IT READS IS OF BULK AT MOST 1048576: true; the input reads as it did. -/
def fnExactNetAndUptoRow : OpenClaim := { program := "ytohchplomjenfaa", sum := "aa9f740f3495cb62e4720b8ff928218224bec1d6e49f96dc778570173f92cc36", func := "loop.example/seedlip/laws.FnExactNetAnd", spec := "fnExactNetAnd", unfollowed := true, recurses := true, plainKeys := false, apart := false, narrowed := true }
def FnExactNetAndUptoSaid : Prop := fnExactNetAndUptoRow.holds Try.pinned (OpenSpec.upto fnExactNetAndSpec)

/-- 'laws.FnExactNetXor', WHERE WHAT IT READS IS OF BULK AT MOST 1048576: true; the input reads as it did. -/
def fnExactNetXorUptoRow : OpenClaim := { program := "ytohchplomjenfaa", sum := "aa9f740f3495cb62e4720b8ff928218224bec1d6e49f96dc778570173f92cc36", func := "loop.example/seedlip/laws.FnExactNetXor", spec := "fnExactNetXor", unfollowed := true, recurses := true, plainKeys := false, apart := false, narrowed := true }
def FnExactNetXorUptoSaid : Prop := fnExactNetXorUptoRow.holds Try.pinned (OpenSpec.upto fnExactNetXorSpec)

end Rows
end Go.Proofs.Ytohchplomjenfaa
