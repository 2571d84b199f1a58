/-
  NARROWER THAN 'FOR EVERY INPUT', by the rows' own cells (each row's printed sentence says how): FnExactBitsIf: ifaces, laid · FnBitsIf: ifaces, laid.
  DERIVED. THE GIVEN ROWS OF THIS SEAT. 2 by the template 'for every input the law returns true; each argument reads behind the call as it read before'; 0 by the template 'total and deterministic' (their statements: YtcdlfnhjpjpbjaaDoorTotals.lean).
  GIVEN WITH THE SEED: the statements are not yours to turn. If you find one false, say at which input.
  Laid BY PROGRAM, IN A SANDBOX (cutbox-rows.mjs): the forced cells as the released guide's own fill.sh prints them over the translation a52c291ad7afa6f5… (all of the seat's roots in one cut). By AI agents, Wed Nov 11 2026. No macro, syntax, notation, axiom, sorry.
-/
import Derived.Test.YtcdlfnhjpjpbjaaDoorChecked
import GoSem.Claim
import GoSem.ClaimJoined
import GoSem.ClaimMapViews
import Derived.JoinedTies
import Derived.KernelRfl
namespace Go.Proofs.YtcdlfnhjpjpbjaaDoor
/- THE CELL 'sum', in the pinned program and in every row, IS THE sha256 OF THE DUMP (.gsa) THAT YtcdlfnhjpjpbjaaDoorProg.lean LOADS. Nothing in Lean hashes anything: it is a label: what it is worth is what the hold of that sum in a sandbox is worth. -/
noncomputable def Tryd.pinned : Pinned := { name := "ytcdlfnhjpjpbjaadoor", sum := "a52c291ad7afa6f5fc1c510b56d945764ca4882f143032d935788d1b8a1102a0", checked := Tryd.checked }
namespace Rows
def none {H : Type} : Left H := { results := [], args := [] }

/- WHAT THE LISTED PACKAGE-LEVEL VARIABLES READ AS WHEN THE CALL BEGINS. Each datum BY PROGRAM (the guide's laid-datum.mjs) off the statement by which the dump's own 'gosem.cut.vars' lays the variable. In a bare row this is a premise. The card (YtcdlfnhjpjpbjaaDoorCards.lean) ties it to the program's text. -/
def laid_loop_example_seedlip_impl_errRoom {H : Type} : DataW H := .iface "*errors.errorString" (.ptr (.agg [.lit (.string [110, 111, 32, 114, 111, 111, 109, 32, 102, 111, 114, 32, 97, 32, 103, 97, 116, 101])]))
def laid_loop_example_seedlip_impl_errBits {H : Type} : DataW H := .iface "*errors.errorString" (.ptr (.agg [.lit (.string [105, 110, 118, 97, 108, 105, 100, 32, 111, 112, 101, 114, 97, 110, 100, 115])]))

/-- 'laws.FnExactBitsIf': WHATEVER THE INPUT: true; the input reads as it did. -/
def fnExactBitsIfSpec : ChangeSpec := { name := "fnExactBitsIf", vars := ["loop.example/seedlip/impl.errBits", "loop.example/seedlip/impl.errRoom"], fn := fun _ => fun
  | [d1, d2, d3, d4, g1, g2] => { results := [.lit (.bool true)], args := [d1, d2, d3, d4], vars := [g1, g2] }
  | _ => none }
def fnExactBitsIfRow : OpenClaim := { program := "ytcdlfnhjpjpbjaadoor", sum := "a52c291ad7afa6f5fc1c510b56d945764ca4882f143032d935788d1b8a1102a0", func := "loop.example/seedlip/laws.FnExactBitsIf", spec := "fnExactBitsIf", inPlace := ["internal/reflectlite.TypeOf"], unfollowed := true, recurses := true, named := ["loop.example/seedlip/impl.errBits", "loop.example/seedlip/impl.errRoom"], ifaces := true, plainKeys := false, apart := false, laid := [("loop.example/seedlip/impl.errRoom", laid_loop_example_seedlip_impl_errRoom), ("loop.example/seedlip/impl.errBits", laid_loop_example_seedlip_impl_errBits)] }
def FnExactBitsIfSaid : Prop := fnExactBitsIfRow.holds Tryd.pinned (OpenSpec.ofChange fnExactBitsIfSpec)

/-- ITS FALSE NEIGHBOUR: 'it returns false'. Refute it at one input. -/
def fnExactBitsIfWrong : ChangeSpec := { name := "fnExactBitsIf", vars := ["loop.example/seedlip/impl.errBits", "loop.example/seedlip/impl.errRoom"], fn := fun _ => fun
  | [d1, d2, d3, d4, g1, g2] => { results := [.lit (.bool false)], args := [d1, d2, d3, d4], vars := [g1, g2] }
  | _ => none }
def FnExactBitsIfWrongFalsely : Prop := fnExactBitsIfRow.holds Tryd.pinned (OpenSpec.ofChange fnExactBitsIfWrong)

/-- 'laws.FnBitsIf': WHATEVER THE INPUT: true; the input reads as it did. -/
def fnBitsIfSpec : ChangeSpec := { name := "fnBitsIf", vars := ["loop.example/seedlip/impl.errBits", "loop.example/seedlip/impl.errRoom"], fn := fun _ => fun
  | [d1, d2, g1, g2] => { results := [.lit (.bool true)], args := [d1, d2], vars := [g1, g2] }
  | _ => none }
def fnBitsIfRow : OpenClaim := { program := "ytcdlfnhjpjpbjaadoor", sum := "a52c291ad7afa6f5fc1c510b56d945764ca4882f143032d935788d1b8a1102a0", func := "loop.example/seedlip/laws.FnBitsIf", spec := "fnBitsIf", inPlace := ["internal/reflectlite.TypeOf"], unfollowed := true, recurses := true, named := ["loop.example/seedlip/impl.errBits", "loop.example/seedlip/impl.errRoom"], ifaces := true, plainKeys := false, apart := false, laid := [("loop.example/seedlip/impl.errRoom", laid_loop_example_seedlip_impl_errRoom), ("loop.example/seedlip/impl.errBits", laid_loop_example_seedlip_impl_errBits)] }
def FnBitsIfSaid : Prop := fnBitsIfRow.holds Tryd.pinned (OpenSpec.ofChange fnBitsIfSpec)

/-- ITS FALSE NEIGHBOUR: 'it returns false'. Refute it at one input. -/
def fnBitsIfWrong : ChangeSpec := { name := "fnBitsIf", vars := ["loop.example/seedlip/impl.errBits", "loop.example/seedlip/impl.errRoom"], fn := fun _ => fun
  | [d1, d2, g1, g2] => { results := [.lit (.bool false)], args := [d1, d2], vars := [g1, g2] }
  | _ => none }
def FnBitsIfWrongFalsely : Prop := fnBitsIfRow.holds Tryd.pinned (OpenSpec.ofChange fnBitsIfWrong)

/- THE SECOND FORM. 'bulk': how many values and letters a reading holds, each counted each time it is reached (what is shared counts as often as it is met; a slice's spare places count too). A statement '..UptoSaid' is the law's where the arguments, and the package variables that the reading takes, are together of bulk at most 1048576: NARROWER than '..Said'. Prove '..Said' where nothing that the law and all that it calls make is longer than what came in: it says more and counts as full. Else prove '..UptoSaid'. A law counts once. -/
mutual
def uptoBulk {H : Type} : DataW H → Nat
  | .lit (.string bytes) => bytes.length + 1
  | .lit _ => 1
  | .nil => 1
  | .ptr d => uptoBulk d + 1
  | .slice elems spare => uptoBulkAll elems + uptoBulkAll spare + 1
  | .agg parts => uptoBulkAll parts + 1
  | .iface _ d => uptoBulk d + 1
  | .map entries => uptoBulkEntries entries + 1
  | .held _ => 1
def uptoBulkAll {H : Type} : List (DataW H) → Nat
  | [] => 0
  | d :: r => uptoBulk d + uptoBulkAll r
def uptoBulkEntries {H : Type} : List (Lit × DataW H) → Nat
  | [] => 0
  | x :: r => uptoBulkEntry x + uptoBulkEntries r
def uptoBulkEntry {H : Type} : Lit × DataW H → Nat
  | (.string bytes, d) => bytes.length + uptoBulk d + 1
  | (_, d) => uptoBulk d + 1
 end
def uptoSmall : (H : Type) → List (DataW H) → Bool := fun _ ds => decide (uptoBulkAll ds ≤ 1048576)
def OpenSpec.upto (s : _root_.Go.ChangeSpec) : _root_.Go.OpenSpec := { _root_.Go.OpenSpec.ofChange s with cond := some uptoSmall }

/-- 'laws.FnExactBitsIf', WHERE WHAT IT READS IS OF BULK AT MOST 1048576: true; the input reads as it did. -/
def fnExactBitsIfUptoRow : OpenClaim := { program := "ytcdlfnhjpjpbjaadoor", sum := "a52c291ad7afa6f5fc1c510b56d945764ca4882f143032d935788d1b8a1102a0", func := "loop.example/seedlip/laws.FnExactBitsIf", spec := "fnExactBitsIf", inPlace := ["internal/reflectlite.TypeOf"], unfollowed := true, recurses := true, named := ["loop.example/seedlip/impl.errBits", "loop.example/seedlip/impl.errRoom"], ifaces := true, plainKeys := false, apart := false, laid := [("loop.example/seedlip/impl.errRoom", laid_loop_example_seedlip_impl_errRoom), ("loop.example/seedlip/impl.errBits", laid_loop_example_seedlip_impl_errBits)], narrowed := true }
def FnExactBitsIfUptoSaid : Prop := fnExactBitsIfUptoRow.holds Tryd.pinned (OpenSpec.upto fnExactBitsIfSpec)

/-- 'laws.FnBitsIf', WHERE WHAT IT READS IS OF BULK AT MOST 1048576: true; the input reads as it did. -/
def fnBitsIfUptoRow : OpenClaim := { program := "ytcdlfnhjpjpbjaadoor", sum := "a52c291ad7afa6f5fc1c510b56d945764ca4882f143032d935788d1b8a1102a0", func := "loop.example/seedlip/laws.FnBitsIf", spec := "fnBitsIf", inPlace := ["internal/reflectlite.TypeOf"], unfollowed := true, recurses := true, named := ["loop.example/seedlip/impl.errBits", "loop.example/seedlip/impl.errRoom"], ifaces := true, plainKeys := false, apart := false, laid := [("loop.example/seedlip/impl.errRoom", laid_loop_example_seedlip_impl_errRoom), ("loop.example/seedlip/impl.errBits", laid_loop_example_seedlip_impl_errBits)], narrowed := true }
def FnBitsIfUptoSaid : Prop := fnBitsIfUptoRow.holds Tryd.pinned (OpenSpec.upto fnBitsIfSpec)

end Rows
end Go.Proofs.YtcdlfnhjpjpbjaaDoor
