/-
  NARROWER THAN 'FOR EVERY INPUT', by the rows' own cells (each row's printed sentence says how): FnExactBitsIf: ifaces, laid · FnBitsIf: ifaces, laid · FnExactBitsCmp: ifaces, laid · FnExactBitsUn: ifaces, laid · FnBitsCmp: ifaces, laid · FnBitsUn: ifaces, laid · FnBitsBent: ifaces, laid.
  DERIVED. THE GIVEN ROWS OF THIS SEAT. 7 by the template 'for every input the law returns true; each argument reads behind the call as it read before'; 0 by the template 'total and deterministic' (their statements: YtjghcaghigebjaaDoorTotals.lean).
  GIVEN WITH THE SEED: the statements are not yours to turn. If you find one false, say at which input.
  Laid BY PROGRAM, IN A SANDBOX (cutbox-rows.mjs): the forced cells as the released guide's own fill.sh prints them over the translation 6ec41d1ccdedf0b3… (all of the seat's roots in one cut). By AI agents, Wed Nov 11 2026. No macro, syntax, notation, axiom, sorry.
-/
import Derived.Test.YtjghcaghigebjaaDoorChecked
import GoSem.Claim
import GoSem.ClaimJoined
import GoSem.ClaimMapViews
import Derived.JoinedTies
import Derived.KernelRfl
namespace Go.Proofs.YtjghcaghigebjaaDoor
/- THE CELL 'sum', in the pinned program and in every row, IS THE sha256 OF THE DUMP (.gsa) THAT YtjghcaghigebjaaDoorProg.lean LOADS. Nothing in Lean hashes anything: it is a label: what it is worth is what the hold of that sum in a sandbox is worth. -/
noncomputable def Tryd.pinned : Pinned := { name := "ytjghcaghigebjaadoor", sum := "6ec41d1ccdedf0b39734ff5628e7a8b7fb3deede401fa3d6810918737d5cc02c", checked := Tryd.checked }
namespace Rows
def none {H : Type} : Left H := { results := [], args := [] }

/- WHAT THE LISTED PACKAGE-LEVEL VARIABLES READ AS WHEN THE CALL BEGINS. Each datum BY PROGRAM (the guide's laid-datum.mjs) off the statement by which the dump's own 'gosem.cut.vars' lays the variable. In a bare row this is a premise. The card (YtjghcaghigebjaaDoorCards.lean) ties it to the program's text. -/
def laid_loop_example_seedlip_impl_errRoom {H : Type} : DataW H := .iface "*errors.errorString" (.ptr (.agg [.lit (.string [110, 111, 32, 114, 111, 111, 109, 32, 102, 111, 114, 32, 97, 32, 103, 97, 116, 101])]))
def laid_loop_example_seedlip_impl_errBits {H : Type} : DataW H := .iface "*errors.errorString" (.ptr (.agg [.lit (.string [105, 110, 118, 97, 108, 105, 100, 32, 111, 112, 101, 114, 97, 110, 100, 115])]))

/-- 'laws.FnExactBitsIf': WHATEVER THE INPUT: true; the input reads as it did. -/
def fnExactBitsIfSpec : ChangeSpec := { name := "fnExactBitsIf", vars := ["loop.example/seedlip/impl.errBits", "loop.example/seedlip/impl.errRoom"], fn := fun _ => fun
  | [d1, d2, d3, d4, g1, g2] => { results := [.lit (.bool true)], args := [d1, d2, d3, d4], vars := [g1, g2] }
  | _ => none }
def fnExactBitsIfRow : OpenClaim := { program := "ytjghcaghigebjaadoor", sum := "6ec41d1ccdedf0b39734ff5628e7a8b7fb3deede401fa3d6810918737d5cc02c", func := "loop.example/seedlip/laws.FnExactBitsIf", spec := "fnExactBitsIf", inPlace := ["internal/reflectlite.TypeOf"], unfollowed := true, recurses := true, named := ["loop.example/seedlip/impl.errBits", "loop.example/seedlip/impl.errRoom"], ifaces := true, plainKeys := false, apart := false, laid := [("loop.example/seedlip/impl.errRoom", laid_loop_example_seedlip_impl_errRoom), ("loop.example/seedlip/impl.errBits", laid_loop_example_seedlip_impl_errBits)] }
def FnExactBitsIfSaid : Prop := fnExactBitsIfRow.holds Tryd.pinned (OpenSpec.ofChange fnExactBitsIfSpec)

/-- ITS FALSE NEIGHBOUR: 'it returns false'. Refute it at one input. -/
def fnExactBitsIfWrong : ChangeSpec := { name := "fnExactBitsIf", vars := ["loop.example/seedlip/impl.errBits", "loop.example/seedlip/impl.errRoom"], fn := fun _ => fun
  | [d1, d2, d3, d4, g1, g2] => { results := [.lit (.bool false)], args := [d1, d2, d3, d4], vars := [g1, g2] }
  | _ => none }
def FnExactBitsIfWrongFalsely : Prop := fnExactBitsIfRow.holds Tryd.pinned (OpenSpec.ofChange fnExactBitsIfWrong)

/-- 'laws.FnBitsIf': WHATEVER THE INPUT: true; the input reads as it did. -/
def fnBitsIfSpec : ChangeSpec := { name := "fnBitsIf", vars := ["loop.example/seedlip/impl.errBits", "loop.example/seedlip/impl.errRoom"], fn := fun _ => fun
  | [d1, d2, g1, g2] => { results := [.lit (.bool true)], args := [d1, d2], vars := [g1, g2] }
  | _ => none }
def fnBitsIfRow : OpenClaim := { program := "ytjghcaghigebjaadoor", sum := "6ec41d1ccdedf0b39734ff5628e7a8b7fb3deede401fa3d6810918737d5cc02c", func := "loop.example/seedlip/laws.FnBitsIf", spec := "fnBitsIf", inPlace := ["internal/reflectlite.TypeOf"], unfollowed := true, recurses := true, named := ["loop.example/seedlip/impl.errBits", "loop.example/seedlip/impl.errRoom"], ifaces := true, plainKeys := false, apart := false, laid := [("loop.example/seedlip/impl.errRoom", laid_loop_example_seedlip_impl_errRoom), ("loop.example/seedlip/impl.errBits", laid_loop_example_seedlip_impl_errBits)] }
def FnBitsIfSaid : Prop := fnBitsIfRow.holds Tryd.pinned (OpenSpec.ofChange fnBitsIfSpec)

/-- ITS FALSE NEIGHBOUR: 'it returns false'. Refute it at one input. -/
def fnBitsIfWrong : ChangeSpec := { name := "fnBitsIf", vars := ["loop.example/seedlip/impl.errBits", "loop.example/seedlip/impl.errRoom"], fn := fun _ => fun
  | [d1, d2, g1, g2] => { results := [.lit (.bool false)], args := [d1, d2], vars := [g1, g2] }
  | _ => none }
def FnBitsIfWrongFalsely : Prop := fnBitsIfRow.holds Tryd.pinned (OpenSpec.ofChange fnBitsIfWrong)

/-- 'laws.FnExactBitsCmp': WHATEVER THE INPUT: true; the input reads as it did. -/
def fnExactBitsCmpSpec : ChangeSpec := { name := "fnExactBitsCmp", vars := ["loop.example/seedlip/impl.errBits", "loop.example/seedlip/impl.errRoom"], fn := fun _ => fun
  | [d1, d2, d3, d4, g1, g2] => { results := [.lit (.bool true)], args := [d1, d2, d3, d4], vars := [g1, g2] }
  | _ => none }
def fnExactBitsCmpRow : OpenClaim := { program := "ytjghcaghigebjaadoor", sum := "6ec41d1ccdedf0b39734ff5628e7a8b7fb3deede401fa3d6810918737d5cc02c", func := "loop.example/seedlip/laws.FnExactBitsCmp", spec := "fnExactBitsCmp", inPlace := ["internal/reflectlite.TypeOf"], unfollowed := true, recurses := true, named := ["loop.example/seedlip/impl.errBits", "loop.example/seedlip/impl.errRoom"], ifaces := true, plainKeys := false, apart := false, laid := [("loop.example/seedlip/impl.errRoom", laid_loop_example_seedlip_impl_errRoom), ("loop.example/seedlip/impl.errBits", laid_loop_example_seedlip_impl_errBits)] }
def FnExactBitsCmpSaid : Prop := fnExactBitsCmpRow.holds Tryd.pinned (OpenSpec.ofChange fnExactBitsCmpSpec)

/-- ITS FALSE NEIGHBOUR: 'it returns false'. Refute it at one input. -/
def fnExactBitsCmpWrong : ChangeSpec := { name := "fnExactBitsCmp", vars := ["loop.example/seedlip/impl.errBits", "loop.example/seedlip/impl.errRoom"], fn := fun _ => fun
  | [d1, d2, d3, d4, g1, g2] => { results := [.lit (.bool false)], args := [d1, d2, d3, d4], vars := [g1, g2] }
  | _ => none }
def FnExactBitsCmpWrongFalsely : Prop := fnExactBitsCmpRow.holds Tryd.pinned (OpenSpec.ofChange fnExactBitsCmpWrong)

/-- 'laws.FnExactBitsUn': WHATEVER THE INPUT: true; the input reads as it did. -/
def fnExactBitsUnSpec : ChangeSpec := { name := "fnExactBitsUn", vars := ["loop.example/seedlip/impl.errBits", "loop.example/seedlip/impl.errRoom"], fn := fun _ => fun
  | [d1, d2, d3, g1, g2] => { results := [.lit (.bool true)], args := [d1, d2, d3], vars := [g1, g2] }
  | _ => none }
def fnExactBitsUnRow : OpenClaim := { program := "ytjghcaghigebjaadoor", sum := "6ec41d1ccdedf0b39734ff5628e7a8b7fb3deede401fa3d6810918737d5cc02c", func := "loop.example/seedlip/laws.FnExactBitsUn", spec := "fnExactBitsUn", inPlace := ["internal/reflectlite.TypeOf"], unfollowed := true, recurses := true, named := ["loop.example/seedlip/impl.errBits", "loop.example/seedlip/impl.errRoom"], ifaces := true, plainKeys := false, apart := false, laid := [("loop.example/seedlip/impl.errRoom", laid_loop_example_seedlip_impl_errRoom), ("loop.example/seedlip/impl.errBits", laid_loop_example_seedlip_impl_errBits)] }
def FnExactBitsUnSaid : Prop := fnExactBitsUnRow.holds Tryd.pinned (OpenSpec.ofChange fnExactBitsUnSpec)

/-- ITS FALSE NEIGHBOUR: 'it returns false'. Refute it at one input. -/
def fnExactBitsUnWrong : ChangeSpec := { name := "fnExactBitsUn", vars := ["loop.example/seedlip/impl.errBits", "loop.example/seedlip/impl.errRoom"], fn := fun _ => fun
  | [d1, d2, d3, g1, g2] => { results := [.lit (.bool false)], args := [d1, d2, d3], vars := [g1, g2] }
  | _ => none }
def FnExactBitsUnWrongFalsely : Prop := fnExactBitsUnRow.holds Tryd.pinned (OpenSpec.ofChange fnExactBitsUnWrong)

/-- 'laws.FnBitsCmp': WHATEVER THE INPUT: true; the input reads as it did. -/
def fnBitsCmpSpec : ChangeSpec := { name := "fnBitsCmp", vars := ["loop.example/seedlip/impl.errBits", "loop.example/seedlip/impl.errRoom"], fn := fun _ => fun
  | [d1, d2, g1, g2] => { results := [.lit (.bool true)], args := [d1, d2], vars := [g1, g2] }
  | _ => none }
def fnBitsCmpRow : OpenClaim := { program := "ytjghcaghigebjaadoor", sum := "6ec41d1ccdedf0b39734ff5628e7a8b7fb3deede401fa3d6810918737d5cc02c", func := "loop.example/seedlip/laws.FnBitsCmp", spec := "fnBitsCmp", inPlace := ["internal/reflectlite.TypeOf"], unfollowed := true, recurses := true, named := ["loop.example/seedlip/impl.errBits", "loop.example/seedlip/impl.errRoom"], ifaces := true, plainKeys := false, apart := false, laid := [("loop.example/seedlip/impl.errRoom", laid_loop_example_seedlip_impl_errRoom), ("loop.example/seedlip/impl.errBits", laid_loop_example_seedlip_impl_errBits)] }
def FnBitsCmpSaid : Prop := fnBitsCmpRow.holds Tryd.pinned (OpenSpec.ofChange fnBitsCmpSpec)

/-- ITS FALSE NEIGHBOUR: 'it returns false'. Refute it at one input. -/
def fnBitsCmpWrong : ChangeSpec := { name := "fnBitsCmp", vars := ["loop.example/seedlip/impl.errBits", "loop.example/seedlip/impl.errRoom"], fn := fun _ => fun
  | [d1, d2, g1, g2] => { results := [.lit (.bool false)], args := [d1, d2], vars := [g1, g2] }
  | _ => none }
def FnBitsCmpWrongFalsely : Prop := fnBitsCmpRow.holds Tryd.pinned (OpenSpec.ofChange fnBitsCmpWrong)

/-- 'laws.FnBitsUn': WHATEVER THE INPUT: true; the input reads as it did. -/
def fnBitsUnSpec : ChangeSpec := { name := "fnBitsUn", vars := ["loop.example/seedlip/impl.errBits", "loop.example/seedlip/impl.errRoom"], fn := fun _ => fun
  | [d1, d2, g1, g2] => { results := [.lit (.bool true)], args := [d1, d2], vars := [g1, g2] }
  | _ => none }
def fnBitsUnRow : OpenClaim := { program := "ytjghcaghigebjaadoor", sum := "6ec41d1ccdedf0b39734ff5628e7a8b7fb3deede401fa3d6810918737d5cc02c", func := "loop.example/seedlip/laws.FnBitsUn", spec := "fnBitsUn", inPlace := ["internal/reflectlite.TypeOf"], unfollowed := true, recurses := true, named := ["loop.example/seedlip/impl.errBits", "loop.example/seedlip/impl.errRoom"], ifaces := true, plainKeys := false, apart := false, laid := [("loop.example/seedlip/impl.errRoom", laid_loop_example_seedlip_impl_errRoom), ("loop.example/seedlip/impl.errBits", laid_loop_example_seedlip_impl_errBits)] }
def FnBitsUnSaid : Prop := fnBitsUnRow.holds Tryd.pinned (OpenSpec.ofChange fnBitsUnSpec)

/-- ITS FALSE NEIGHBOUR: 'it returns false'. Refute it at one input. -/
def fnBitsUnWrong : ChangeSpec := { name := "fnBitsUn", vars := ["loop.example/seedlip/impl.errBits", "loop.example/seedlip/impl.errRoom"], fn := fun _ => fun
  | [d1, d2, g1, g2] => { results := [.lit (.bool false)], args := [d1, d2], vars := [g1, g2] }
  | _ => none }
def FnBitsUnWrongFalsely : Prop := fnBitsUnRow.holds Tryd.pinned (OpenSpec.ofChange fnBitsUnWrong)

/-- 'laws.FnBitsBent': WHATEVER THE INPUT: true; the input reads as it did. -/
def fnBitsBentSpec : ChangeSpec := { name := "fnBitsBent", vars := ["loop.example/seedlip/impl.errBits", "loop.example/seedlip/impl.errRoom"], fn := fun _ => fun
  | [d, g1, g2] => { results := [.lit (.bool true)], args := [d], vars := [g1, g2] }
  | _ => none }
def fnBitsBentRow : OpenClaim := { program := "ytjghcaghigebjaadoor", sum := "6ec41d1ccdedf0b39734ff5628e7a8b7fb3deede401fa3d6810918737d5cc02c", func := "loop.example/seedlip/laws.FnBitsBent", spec := "fnBitsBent", inPlace := ["internal/reflectlite.TypeOf"], unfollowed := true, recurses := true, named := ["loop.example/seedlip/impl.errBits", "loop.example/seedlip/impl.errRoom"], ifaces := true, plainKeys := false, apart := false, laid := [("loop.example/seedlip/impl.errRoom", laid_loop_example_seedlip_impl_errRoom), ("loop.example/seedlip/impl.errBits", laid_loop_example_seedlip_impl_errBits)] }
def FnBitsBentSaid : Prop := fnBitsBentRow.holds Tryd.pinned (OpenSpec.ofChange fnBitsBentSpec)

/-- ITS FALSE NEIGHBOUR: 'it returns false'. Refute it at one input. -/
def fnBitsBentWrong : ChangeSpec := { name := "fnBitsBent", vars := ["loop.example/seedlip/impl.errBits", "loop.example/seedlip/impl.errRoom"], fn := fun _ => fun
  | [d, g1, g2] => { results := [.lit (.bool false)], args := [d], vars := [g1, g2] }
  | _ => none }
def FnBitsBentWrongFalsely : Prop := fnBitsBentRow.holds Tryd.pinned (OpenSpec.ofChange fnBitsBentWrong)

/- THE SECOND FORM. 'bulk': how many values and letters a reading holds, each counted each time it is reached (what is shared counts as often as it is met; a slice's spare places count too). A statement '..UptoSaid' is the law's where the arguments, and the package variables that the reading takes, are together of bulk at most 1048576: NARROWER than '..Said'. Prove '..Said' where nothing that the law and all that it calls make is longer than what came in: it says more and counts as full. Else prove '..UptoSaid'. A law counts once. -/
mutual
def uptoBulk {H : Type} : DataW H → Nat
  | .lit (.string bytes) => bytes.length + 1
  | .lit _ => 1
  | .nil => 1
  | .ptr d => uptoBulk d + 1
  | .slice elems spare => uptoBulkAll elems + uptoBulkAll spare + 1
  | .agg parts => uptoBulkAll parts + 1
  | .iface _ d => uptoBulk d + 1
  | .map entries => uptoBulkEntries entries + 1
  | .held _ => 1
def uptoBulkAll {H : Type} : List (DataW H) → Nat
  | [] => 0
  | d :: r => uptoBulk d + uptoBulkAll r
def uptoBulkEntries {H : Type} : List (Lit × DataW H) → Nat
  | [] => 0
  | x :: r => uptoBulkEntry x + uptoBulkEntries r
def uptoBulkEntry {H : Type} : Lit × DataW H → Nat
  | (.string bytes, d) => bytes.length + uptoBulk d + 1
  | (_, d) => uptoBulk d + 1
 end
def uptoSmall : (H : Type) → List (DataW H) → Bool := fun _ ds => decide (uptoBulkAll ds ≤ 1048576)
def OpenSpec.upto (s : _root_.Go.ChangeSpec) : _root_.Go.OpenSpec := { _root_.Go.OpenSpec.ofChange s with cond := some uptoSmall }

/-- 'laws.FnExactBitsIf', WHERE WHAT IT READS IS OF BULK AT MOST 1048576: true; the input reads as it did. -/
def fnExactBitsIfUptoRow : OpenClaim := { program := "ytjghcaghigebjaadoor", sum := "6ec41d1ccdedf0b39734ff5628e7a8b7fb3deede401fa3d6810918737d5cc02c", func := "loop.example/seedlip/laws.FnExactBitsIf", spec := "fnExactBitsIf", inPlace := ["internal/reflectlite.TypeOf"], unfollowed := true, recurses := true, named := ["loop.example/seedlip/impl.errBits", "loop.example/seedlip/impl.errRoom"], ifaces := true, plainKeys := false, apart := false, laid := [("loop.example/seedlip/impl.errRoom", laid_loop_example_seedlip_impl_errRoom), ("loop.example/seedlip/impl.errBits", laid_loop_example_seedlip_impl_errBits)], narrowed := true }
def FnExactBitsIfUptoSaid : Prop := fnExactBitsIfUptoRow.holds Tryd.pinned (OpenSpec.upto fnExactBitsIfSpec)

/-- 'laws.FnBitsIf', WHERE WHAT IT READS IS OF BULK AT MOST 1048576: true; the input reads as it did. -/
def fnBitsIfUptoRow : OpenClaim := { program := "ytjghcaghigebjaadoor", sum := "6ec41d1ccdedf0b39734ff5628e7a8b7fb3deede401fa3d6810918737d5cc02c", func := "loop.example/seedlip/laws.FnBitsIf", spec := "fnBitsIf", inPlace := ["internal/reflectlite.TypeOf"], unfollowed := true, recurses := true, named := ["loop.example/seedlip/impl.errBits", "loop.example/seedlip/impl.errRoom"], ifaces := true, plainKeys := false, apart := false, laid := [("loop.example/seedlip/impl.errRoom", laid_loop_example_seedlip_impl_errRoom), ("loop.example/seedlip/impl.errBits", laid_loop_example_seedlip_impl_errBits)], narrowed := true }
def FnBitsIfUptoSaid : Prop := fnBitsIfUptoRow.holds Tryd.pinned (OpenSpec.upto fnBitsIfSpec)

/-- 'laws.FnExactBitsCmp', WHERE WHAT IT READS IS OF BULK AT MOST 1048576: true; the input reads as it did. -/
def fnExactBitsCmpUptoRow : OpenClaim := { program := "ytjghcaghigebjaadoor", sum := "6ec41d1ccdedf0b39734ff5628e7a8b7fb3deede401fa3d6810918737d5cc02c", func := "loop.example/seedlip/laws.FnExactBitsCmp", spec := "fnExactBitsCmp", inPlace := ["internal/reflectlite.TypeOf"], unfollowed := true, recurses := true, named := ["loop.example/seedlip/impl.errBits", "loop.example/seedlip/impl.errRoom"], ifaces := true, plainKeys := false, apart := false, laid := [("loop.example/seedlip/impl.errRoom", laid_loop_example_seedlip_impl_errRoom), ("loop.example/seedlip/impl.errBits", laid_loop_example_seedlip_impl_errBits)], narrowed := true }
def FnExactBitsCmpUptoSaid : Prop := fnExactBitsCmpUptoRow.holds Tryd.pinned (OpenSpec.upto fnExactBitsCmpSpec)

/-- 'laws.FnExactBitsUn', WHERE WHAT IT READS IS OF BULK AT MOST 1048576: true; the input reads as it did. -/
def fnExactBitsUnUptoRow : OpenClaim := { program := "ytjghcaghigebjaadoor", sum := "6ec41d1ccdedf0b39734ff5628e7a8b7fb3deede401fa3d6810918737d5cc02c", func := "loop.example/seedlip/laws.FnExactBitsUn", spec := "fnExactBitsUn", inPlace := ["internal/reflectlite.TypeOf"], unfollowed := true, recurses := true, named := ["loop.example/seedlip/impl.errBits", "loop.example/seedlip/impl.errRoom"], ifaces := true, plainKeys := false, apart := false, laid := [("loop.example/seedlip/impl.errRoom", laid_loop_example_seedlip_impl_errRoom), ("loop.example/seedlip/impl.errBits", laid_loop_example_seedlip_impl_errBits)], narrowed := true }
def FnExactBitsUnUptoSaid : Prop := fnExactBitsUnUptoRow.holds Tryd.pinned (OpenSpec.upto fnExactBitsUnSpec)

/-- 'laws.FnBitsCmp', WHERE WHAT IT READS IS OF BULK AT MOST 1048576: true; the input reads as it did. -/
def fnBitsCmpUptoRow : OpenClaim := { program := "ytjghcaghigebjaadoor", sum := "6ec41d1ccdedf0b39734ff5628e7a8b7fb3deede401fa3d6810918737d5cc02c", func := "loop.example/seedlip/laws.FnBitsCmp", spec := "fnBitsCmp", inPlace := ["internal/reflectlite.TypeOf"], unfollowed := true, recurses := true, named := ["loop.example/seedlip/impl.errBits", "loop.example/seedlip/impl.errRoom"], ifaces := true, plainKeys := false, apart := false, laid := [("loop.example/seedlip/impl.errRoom", laid_loop_example_seedlip_impl_errRoom), ("loop.example/seedlip/impl.errBits", laid_loop_example_seedlip_impl_errBits)], narrowed := true }
def FnBitsCmpUptoSaid : Prop := fnBitsCmpUptoRow.holds Tryd.pinned (OpenSpec.upto fnBitsCmpSpec)

/-- 'laws.FnBitsUn', WHERE WHAT IT READS IS OF BULK AT MOST 1048576: true; the input reads as it did. -/
def fnBitsUnUptoRow : OpenClaim := { program := "ytjghcaghigebjaadoor", sum := "6ec41d1ccdedf0b39734ff5628e7a8b7fb3deede401fa3d6810918737d5cc02c", func := "loop.example/seedlip/laws.FnBitsUn", spec := "fnBitsUn", inPlace := ["internal/reflectlite.TypeOf"], unfollowed := true, recurses := true, named := ["loop.example/seedlip/impl.errBits", "loop.example/seedlip/impl.errRoom"], ifaces := true, plainKeys := false, apart := false, laid := [("loop.example/seedlip/impl.errRoom", laid_loop_example_seedlip_impl_errRoom), ("loop.example/seedlip/impl.errBits", laid_loop_example_seedlip_impl_errBits)], narrowed := true }
def FnBitsUnUptoSaid : Prop := fnBitsUnUptoRow.holds Tryd.pinned (OpenSpec.upto fnBitsUnSpec)

/-- 'laws.FnBitsBent', WHERE WHAT IT READS IS OF BULK AT MOST 1048576: true; the input reads as it did. -/
def fnBitsBentUptoRow : OpenClaim := { program := "ytjghcaghigebjaadoor", sum := "6ec41d1ccdedf0b39734ff5628e7a8b7fb3deede401fa3d6810918737d5cc02c", func := "loop.example/seedlip/laws.FnBitsBent", spec := "fnBitsBent", inPlace := ["internal/reflectlite.TypeOf"], unfollowed := true, recurses := true, named := ["loop.example/seedlip/impl.errBits", "loop.example/seedlip/impl.errRoom"], ifaces := true, plainKeys := false, apart := false, laid := [("loop.example/seedlip/impl.errRoom", laid_loop_example_seedlip_impl_errRoom), ("loop.example/seedlip/impl.errBits", laid_loop_example_seedlip_impl_errBits)], narrowed := true }
def FnBitsBentUptoSaid : Prop := fnBitsBentUptoRow.holds Tryd.pinned (OpenSpec.upto fnBitsBentSpec)

end Rows
end Go.Proofs.YtjghcaghigebjaaDoor
