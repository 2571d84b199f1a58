/-
  NARROWER THAN 'FOR EVERY INPUT', by the rows' own cells (each row's printed sentence says how): FnBitsFixed: ifaces, laid · FnBitsBin: ifaces, laid.
  DERIVED. THE GIVEN ROWS OF THIS SEAT. 2 by the template 'for every input the law returns true; each argument reads behind the call as it read before'; 0 by the template 'total and deterministic' (their statements: YtemdmlmcidfodaaGreatDoorTotals.lean).
  GIVEN WITH THE SEED: the statements are not yours to turn. If you find one false, say at which input.
  Laid BY PROGRAM, IN A SANDBOX (cutbox-rows.mjs): the forced cells as the released guide's own fill.sh prints them over the translation 4e0afc5efa751761… (all of the seat's roots in one cut). By AI agents, Wed Nov 11 2026. No macro, syntax, notation, axiom, sorry.
-/
import Derived.Test.YtemdmlmcidfodaaGreatDoorChecked
import GoSem.Claim
import GoSem.ClaimJoined
import GoSem.ClaimMapViews
import Derived.JoinedTies
import Derived.KernelRfl
namespace Go.Proofs.YtemdmlmcidfodaaGreatDoor
/- THE CELL 'sum', in the pinned program and in every row, IS THE sha256 OF THE DUMP (.gsa) THAT YtemdmlmcidfodaaGreatDoorProg.lean LOADS. Nothing in Lean hashes anything: it is a label: what it is worth is what the hold of that sum in a sandbox is worth. -/
noncomputable def Tryz.pinned : Pinned := { name := "ytemdmlmcidfodaagreatdoor", sum := "4e0afc5efa751761151679e8130da2cdd5500f8ec66479b4115f948ef3364612", checked := Tryz.checked }
namespace Rows
def none {H : Type} : Left H := { results := [], args := [] }

/- WHAT THE LISTED PACKAGE-LEVEL VARIABLES READ AS WHEN THE CALL BEGINS. Each datum BY PROGRAM (the guide's laid-datum.mjs) off the statement by which the dump's own 'gosem.cut.vars' lays the variable. In a bare row this is a premise. The card (YtemdmlmcidfodaaGreatDoorCards.lean) ties it to the program's text. -/
def laid_loop_example_seedlip_impl_errRoom {H : Type} : DataW H := .iface "*errors.errorString" (.ptr (.agg [.lit (.string [110, 111, 32, 114, 111, 111, 109, 32, 102, 111, 114, 32, 97, 32, 103, 97, 116, 101])]))
def laid_loop_example_seedlip_impl_errBits {H : Type} : DataW H := .iface "*errors.errorString" (.ptr (.agg [.lit (.string [105, 110, 118, 97, 108, 105, 100, 32, 111, 112, 101, 114, 97, 110, 100, 115])]))

/-- 'laws.FnBitsFixed': WHATEVER THE INPUT: true; the input reads as it did. -/
def fnBitsFixedSpec : ChangeSpec := { name := "fnBitsFixed", vars := ["loop.example/seedlip/impl.errBits", "loop.example/seedlip/impl.errRoom"], fn := fun _ => fun
  | [d1, d2, g1, g2] => { results := [.lit (.bool true)], args := [d1, d2], vars := [g1, g2] }
  | _ => none }
def fnBitsFixedRow : OpenClaim := { program := "ytemdmlmcidfodaagreatdoor", sum := "4e0afc5efa751761151679e8130da2cdd5500f8ec66479b4115f948ef3364612", func := "loop.example/seedlip/laws.FnBitsFixed", spec := "fnBitsFixed", inPlace := ["internal/reflectlite.TypeOf"], unfollowed := true, recurses := true, named := ["loop.example/seedlip/impl.errBits", "loop.example/seedlip/impl.errRoom"], ifaces := true, plainKeys := false, apart := false, laid := [("loop.example/seedlip/impl.errRoom", laid_loop_example_seedlip_impl_errRoom), ("loop.example/seedlip/impl.errBits", laid_loop_example_seedlip_impl_errBits)] }
def FnBitsFixedSaid : Prop := fnBitsFixedRow.holds Tryz.pinned (OpenSpec.ofChange fnBitsFixedSpec)

/-- ITS FALSE NEIGHBOUR: 'it returns false'. Refute it at one input. -/
def fnBitsFixedWrong : ChangeSpec := { name := "fnBitsFixed", vars := ["loop.example/seedlip/impl.errBits", "loop.example/seedlip/impl.errRoom"], fn := fun _ => fun
  | [d1, d2, g1, g2] => { results := [.lit (.bool false)], args := [d1, d2], vars := [g1, g2] }
  | _ => none }
def FnBitsFixedWrongFalsely : Prop := fnBitsFixedRow.holds Tryz.pinned (OpenSpec.ofChange fnBitsFixedWrong)

/-- 'laws.FnBitsBin': WHATEVER THE INPUT: true; the input reads as it did. -/
def fnBitsBinSpec : ChangeSpec := { name := "fnBitsBin", vars := ["loop.example/seedlip/impl.errBits", "loop.example/seedlip/impl.errRoom"], fn := fun _ => fun
  | [d1, d2, g1, g2] => { results := [.lit (.bool true)], args := [d1, d2], vars := [g1, g2] }
  | _ => none }
def fnBitsBinRow : OpenClaim := { program := "ytemdmlmcidfodaagreatdoor", sum := "4e0afc5efa751761151679e8130da2cdd5500f8ec66479b4115f948ef3364612", func := "loop.example/seedlip/laws.FnBitsBin", spec := "fnBitsBin", inPlace := ["internal/reflectlite.TypeOf"], unfollowed := true, recurses := true, named := ["loop.example/seedlip/impl.errBits", "loop.example/seedlip/impl.errRoom"], ifaces := true, plainKeys := false, apart := false, laid := [("loop.example/seedlip/impl.errRoom", laid_loop_example_seedlip_impl_errRoom), ("loop.example/seedlip/impl.errBits", laid_loop_example_seedlip_impl_errBits)] }
def FnBitsBinSaid : Prop := fnBitsBinRow.holds Tryz.pinned (OpenSpec.ofChange fnBitsBinSpec)

/-- ITS FALSE NEIGHBOUR: 'it returns false'. Refute it at one input. -/
def fnBitsBinWrong : ChangeSpec := { name := "fnBitsBin", vars := ["loop.example/seedlip/impl.errBits", "loop.example/seedlip/impl.errRoom"], fn := fun _ => fun
  | [d1, d2, g1, g2] => { results := [.lit (.bool false)], args := [d1, d2], vars := [g1, g2] }
  | _ => none }
def FnBitsBinWrongFalsely : Prop := fnBitsBinRow.holds Tryz.pinned (OpenSpec.ofChange fnBitsBinWrong)

/- THE SECOND FORM. 'bulk': how many values and letters a reading holds, each counted each time it is reached (what is shared counts as often as it is met; a slice's spare places count too). A statement '..UptoSaid' is the law's where the arguments, and the package variables that the reading takes, are together of bulk at most 1048576: NARROWER than '..Said'. Prove '..Said' where nothing that the law and all that it calls make is longer than what came in: it says more and counts as full. Else prove '..UptoSaid'. A law counts once. -/
mutual
def uptoBulk {H : Type} : DataW H → Nat
  | .lit (.string bytes) => bytes.length + 1
  | .lit _ => 1
  | .nil => 1
  | .ptr d => uptoBulk d + 1
  | .slice elems spare => uptoBulkAll elems + uptoBulkAll spare + 1
  | .agg parts => uptoBulkAll parts + 1
  | .iface _ d => uptoBulk d + 1
  | .map entries => uptoBulkEntries entries + 1
  | .held _ => 1
def uptoBulkAll {H : Type} : List (DataW H) → Nat
  | [] => 0
  | d :: r => uptoBulk d + uptoBulkAll r
def uptoBulkEntries {H : Type} : List (Lit × DataW H) → Nat
  | [] => 0
  | x :: r => uptoBulkEntry x + uptoBulkEntries r
def uptoBulkEntry {H : Type} : Lit × DataW H → Nat
  | (.string bytes, d) => bytes.length + uptoBulk d + 1
  | (_, d) => uptoBulk d + 1
 end
def uptoSmall : (H : Type) → List (DataW H) → Bool := fun _ ds => decide (uptoBulkAll ds ≤ 1048576)
def OpenSpec.upto (s : _root_.Go.ChangeSpec) : _root_.Go.OpenSpec := { _root_.Go.OpenSpec.ofChange s with cond := some uptoSmall }

/-- 'laws.FnBitsFixed', WHERE WHAT IT READS IS OF BULK AT MOST 1048576: true; the input reads as it did. -/
def fnBitsFixedUptoRow : OpenClaim := { program := "ytemdmlmcidfodaagreatdoor", sum := "4e0afc5efa751761151679e8130da2cdd5500f8ec66479b4115f948ef3364612", func := "loop.example/seedlip/laws.FnBitsFixed", spec := "fnBitsFixed", inPlace := ["internal/reflectlite.TypeOf"], unfollowed := true, recurses := true, named := ["loop.example/seedlip/impl.errBits", "loop.example/seedlip/impl.errRoom"], ifaces := true, plainKeys := false, apart := false, laid := [("loop.example/seedlip/impl.errRoom", laid_loop_example_seedlip_impl_errRoom), ("loop.example/seedlip/impl.errBits", laid_loop_example_seedlip_impl_errBits)], narrowed := true }
def FnBitsFixedUptoSaid : Prop := fnBitsFixedUptoRow.holds Tryz.pinned (OpenSpec.upto fnBitsFixedSpec)

/-- 'laws.FnBitsBin', WHERE WHAT IT READS IS OF BULK AT MOST 1048576: true; the input reads as it did. -/
def fnBitsBinUptoRow : OpenClaim := { program := "ytemdmlmcidfodaagreatdoor", sum := "4e0afc5efa751761151679e8130da2cdd5500f8ec66479b4115f948ef3364612", func := "loop.example/seedlip/laws.FnBitsBin", spec := "fnBitsBin", inPlace := ["internal/reflectlite.TypeOf"], unfollowed := true, recurses := true, named := ["loop.example/seedlip/impl.errBits", "loop.example/seedlip/impl.errRoom"], ifaces := true, plainKeys := false, apart := false, laid := [("loop.example/seedlip/impl.errRoom", laid_loop_example_seedlip_impl_errRoom), ("loop.example/seedlip/impl.errBits", laid_loop_example_seedlip_impl_errBits)], narrowed := true }
def FnBitsBinUptoSaid : Prop := fnBitsBinUptoRow.holds Tryz.pinned (OpenSpec.upto fnBitsBinSpec)

end Rows
end Go.Proofs.YtemdmlmcidfodaaGreatDoor
