/-
  No cell of these rows narrows 'for every input' (looked for: loops, veiled, ifaces, maps, wideKeys, modest, calm, conditions, laid).
  DERIVED. THE GIVEN ROWS OF THIS SEAT. 6 by the template 'for every input the law returns true; each argument reads behind the call as it read before'; 0 by the template 'total and deterministic' (their statements: YtndolbplkjhooaaTotals.lean).
  GIVEN WITH THE SEED: the statements are not yours to turn. If you find one false, say at which input.
  Laid BY PROGRAM, IN A SANDBOX (cutbox-rows.mjs): the forced cells as the released guide's own fill.sh prints them over the translation 091abb3a42f0824c… (all of the seat's roots in one cut). By AI agents, Wed Nov 11 2026. No macro, syntax, notation, axiom, sorry.
-/
import Derived.Test.YtndolbplkjhooaaChecked
import GoSem.Claim
import GoSem.ClaimJoined
import GoSem.ClaimMapViews
import Derived.JoinedTies
import Derived.KernelRfl
namespace Go.Proofs.Ytndolbplkjhooaa
/- THE CELL 'sum', in the pinned program and in every row, IS THE sha256 OF THE DUMP (.gsa) THAT YtndolbplkjhooaaProg.lean LOADS. Nothing in Lean hashes anything: it is a label: what it is worth is what the hold of that sum in a sandbox is worth. -/
noncomputable def Try.pinned : Pinned := { name := "ytndolbplkjhooaa", sum := "091abb3a42f0824c999667306c1457f6e7eb8bf00d8517c2ee251eefea5d3b1d", checked := Try.checked }
namespace Rows
def none {H : Type} : Left H := { results := [], args := [] }

/-- 'laws.FnExactRupOk': WHATEVER THE INPUT: true; the input reads as it did. -/
def fnExactRupOkSpec : ChangeSpec := { name := "fnExactRupOk", fn := fun _ => fun
  | [d1, d2] => { results := [.lit (.bool true)], args := [d1, d2] }
  | _ => none }
def fnExactRupOkRow : OpenClaim := { program := "ytndolbplkjhooaa", sum := "091abb3a42f0824c999667306c1457f6e7eb8bf00d8517c2ee251eefea5d3b1d", func := "loop.example/seedlip/laws.FnExactRupOk", spec := "fnExactRupOk", unfollowed := true, recurses := true, apart := false }
def FnExactRupOkSaid : Prop := fnExactRupOkRow.holds Try.pinned (OpenSpec.ofChange fnExactRupOkSpec)

/-- ITS FALSE NEIGHBOUR: 'it returns false'. Refute it at one input. -/
def fnExactRupOkWrong : ChangeSpec := { name := "fnExactRupOk", fn := fun _ => fun
  | [d1, d2] => { results := [.lit (.bool false)], args := [d1, d2] }
  | _ => none }
def FnExactRupOkWrongFalsely : Prop := fnExactRupOkRow.holds Try.pinned (OpenSpec.ofChange fnExactRupOkWrong)

/-- 'laws.FnUnitTurn': WHATEVER THE INPUT: true; the input reads as it did. -/
def fnUnitTurnSpec : ChangeSpec := { name := "fnUnitTurn", fn := fun _ => fun
  | [d] => { results := [.lit (.bool true)], args := [d] }
  | _ => none }
def fnUnitTurnRow : OpenClaim := { program := "ytndolbplkjhooaa", sum := "091abb3a42f0824c999667306c1457f6e7eb8bf00d8517c2ee251eefea5d3b1d", func := "loop.example/seedlip/laws.FnUnitTurn", spec := "fnUnitTurn", unfollowed := true, recurses := true, apart := false }
def FnUnitTurnSaid : Prop := fnUnitTurnRow.holds Try.pinned (OpenSpec.ofChange fnUnitTurnSpec)

/-- ITS FALSE NEIGHBOUR: 'it returns false'. Refute it at one input. -/
def fnUnitTurnWrong : ChangeSpec := { name := "fnUnitTurn", fn := fun _ => fun
  | [d] => { results := [.lit (.bool false)], args := [d] }
  | _ => none }
def FnUnitTurnWrongFalsely : Prop := fnUnitTurnRow.holds Try.pinned (OpenSpec.ofChange fnUnitTurnWrong)

/-- 'laws.FnExactUnitAll': WHATEVER THE INPUT: true; the input reads as it did. -/
def fnExactUnitAllSpec : ChangeSpec := { name := "fnExactUnitAll", fn := fun _ => fun
  | [d1, d2] => { results := [.lit (.bool true)], args := [d1, d2] }
  | _ => none }
def fnExactUnitAllRow : OpenClaim := { program := "ytndolbplkjhooaa", sum := "091abb3a42f0824c999667306c1457f6e7eb8bf00d8517c2ee251eefea5d3b1d", func := "loop.example/seedlip/laws.FnExactUnitAll", spec := "fnExactUnitAll", unfollowed := true, recurses := true, apart := false }
def FnExactUnitAllSaid : Prop := fnExactUnitAllRow.holds Try.pinned (OpenSpec.ofChange fnExactUnitAllSpec)

/-- ITS FALSE NEIGHBOUR: 'it returns false'. Refute it at one input. -/
def fnExactUnitAllWrong : ChangeSpec := { name := "fnExactUnitAll", fn := fun _ => fun
  | [d1, d2] => { results := [.lit (.bool false)], args := [d1, d2] }
  | _ => none }
def FnExactUnitAllWrongFalsely : Prop := fnExactUnitAllRow.holds Try.pinned (OpenSpec.ofChange fnExactUnitAllWrong)

/-- 'laws.FnExactSatOk': WHATEVER THE INPUT: true; the input reads as it did. -/
def fnExactSatOkSpec : ChangeSpec := { name := "fnExactSatOk", fn := fun _ => fun
  | [d1, d2] => { results := [.lit (.bool true)], args := [d1, d2] }
  | _ => none }
def fnExactSatOkRow : OpenClaim := { program := "ytndolbplkjhooaa", sum := "091abb3a42f0824c999667306c1457f6e7eb8bf00d8517c2ee251eefea5d3b1d", func := "loop.example/seedlip/laws.FnExactSatOk", spec := "fnExactSatOk", unfollowed := true, recurses := true, apart := false }
def FnExactSatOkSaid : Prop := fnExactSatOkRow.holds Try.pinned (OpenSpec.ofChange fnExactSatOkSpec)

/-- ITS FALSE NEIGHBOUR: 'it returns false'. Refute it at one input. -/
def fnExactSatOkWrong : ChangeSpec := { name := "fnExactSatOk", fn := fun _ => fun
  | [d1, d2] => { results := [.lit (.bool false)], args := [d1, d2] }
  | _ => none }
def FnExactSatOkWrongFalsely : Prop := fnExactSatOkRow.holds Try.pinned (OpenSpec.ofChange fnExactSatOkWrong)

/-- 'laws.FnUnit': WHATEVER THE INPUT: true; the input reads as it did. -/
def fnUnitSpec : ChangeSpec := { name := "fnUnit", fn := fun _ => fun
  | [d] => { results := [.lit (.bool true)], args := [d] }
  | _ => none }
def fnUnitRow : OpenClaim := { program := "ytndolbplkjhooaa", sum := "091abb3a42f0824c999667306c1457f6e7eb8bf00d8517c2ee251eefea5d3b1d", func := "loop.example/seedlip/laws.FnUnit", spec := "fnUnit", unfollowed := true, recurses := true, apart := false }
def FnUnitSaid : Prop := fnUnitRow.holds Try.pinned (OpenSpec.ofChange fnUnitSpec)

/-- ITS FALSE NEIGHBOUR: 'it returns false'. Refute it at one input. -/
def fnUnitWrong : ChangeSpec := { name := "fnUnit", fn := fun _ => fun
  | [d] => { results := [.lit (.bool false)], args := [d] }
  | _ => none }
def FnUnitWrongFalsely : Prop := fnUnitRow.holds Try.pinned (OpenSpec.ofChange fnUnitWrong)

/-- 'laws.FnExactSatVals': WHATEVER THE INPUT: true; the input reads as it did. -/
def fnExactSatValsSpec : ChangeSpec := { name := "fnExactSatVals", fn := fun _ => fun
  | [d1, d2] => { results := [.lit (.bool true)], args := [d1, d2] }
  | _ => none }
def fnExactSatValsRow : OpenClaim := { program := "ytndolbplkjhooaa", sum := "091abb3a42f0824c999667306c1457f6e7eb8bf00d8517c2ee251eefea5d3b1d", func := "loop.example/seedlip/laws.FnExactSatVals", spec := "fnExactSatVals", unfollowed := true, recurses := true, apart := false }
def FnExactSatValsSaid : Prop := fnExactSatValsRow.holds Try.pinned (OpenSpec.ofChange fnExactSatValsSpec)

/-- ITS FALSE NEIGHBOUR: 'it returns false'. Refute it at one input. -/
def fnExactSatValsWrong : ChangeSpec := { name := "fnExactSatVals", fn := fun _ => fun
  | [d1, d2] => { results := [.lit (.bool false)], args := [d1, d2] }
  | _ => none }
def FnExactSatValsWrongFalsely : Prop := fnExactSatValsRow.holds Try.pinned (OpenSpec.ofChange fnExactSatValsWrong)

/- THE SECOND FORM. 'bulk': how many values and letters a reading holds, each counted each time it is reached (what is shared counts as often as it is met; a slice's spare places count too). A statement '..UptoSaid' is the law's where the arguments, and the package variables that the reading takes, are together of bulk at most 1048576: NARROWER than '..Said'. Prove '..Said' where nothing that the law and all that it calls make is longer than what came in: it says more and counts as full. Else prove '..UptoSaid'. A law counts once. -/
mutual
def uptoBulk {H : Type} : DataW H → Nat
  | .lit (.string bytes) => bytes.length + 1
  | .lit _ => 1
  | .nil => 1
  | .ptr d => uptoBulk d + 1
  | .slice elems spare => uptoBulkAll elems + uptoBulkAll spare + 1
  | .agg parts => uptoBulkAll parts + 1
  | .iface _ d => uptoBulk d + 1
  | .map entries => uptoBulkEntries entries + 1
  | .held _ => 1
def uptoBulkAll {H : Type} : List (DataW H) → Nat
  | [] => 0
  | d :: r => uptoBulk d + uptoBulkAll r
def uptoBulkEntries {H : Type} : List (Lit × DataW H) → Nat
  | [] => 0
  | x :: r => uptoBulkEntry x + uptoBulkEntries r
def uptoBulkEntry {H : Type} : Lit × DataW H → Nat
  | (.string bytes, d) => bytes.length + uptoBulk d + 1
  | (_, d) => uptoBulk d + 1
 end
def uptoSmall : (H : Type) → List (DataW H) → Bool := fun _ ds => decide (uptoBulkAll ds ≤ 1048576)
def OpenSpec.upto (s : _root_.Go.ChangeSpec) : _root_.Go.OpenSpec := { _root_.Go.OpenSpec.ofChange s with cond := some uptoSmall }

/-- 'laws.FnExactRupOk', WHERE WHAT IT READS IS OF BULK AT MOST 1048576: true; the input reads as it did. -/
def fnExactRupOkUptoRow : OpenClaim := { program := "ytndolbplkjhooaa", sum := "091abb3a42f0824c999667306c1457f6e7eb8bf00d8517c2ee251eefea5d3b1d", func := "loop.example/seedlip/laws.FnExactRupOk", spec := "fnExactRupOk", unfollowed := true, recurses := true, apart := false, narrowed := true }
def FnExactRupOkUptoSaid : Prop := fnExactRupOkUptoRow.holds Try.pinned (OpenSpec.upto fnExactRupOkSpec)

/-- 'laws.FnUnitTurn', WHERE WHAT IT READS IS OF BULK AT MOST 1048576: true; the input reads as it did. -/
def fnUnitTurnUptoRow : OpenClaim := { program := "ytndolbplkjhooaa", sum := "091abb3a42f0824c999667306c1457f6e7eb8bf00d8517c2ee251eefea5d3b1d", func := "loop.example/seedlip/laws.FnUnitTurn", spec := "fnUnitTurn", unfollowed := true, recurses := true, apart := false, narrowed := true }
def FnUnitTurnUptoSaid : Prop := fnUnitTurnUptoRow.holds Try.pinned (OpenSpec.upto fnUnitTurnSpec)

/-- 'laws.FnExactUnitAll', WHERE WHAT IT READS IS OF BULK AT MOST 1048576: true; the input reads as it did. -/
def fnExactUnitAllUptoRow : OpenClaim := { program := "ytndolbplkjhooaa", sum := "091abb3a42f0824c999667306c1457f6e7eb8bf00d8517c2ee251eefea5d3b1d", func := "loop.example/seedlip/laws.FnExactUnitAll", spec := "fnExactUnitAll", unfollowed := true, recurses := true, apart := false, narrowed := true }
def FnExactUnitAllUptoSaid : Prop := fnExactUnitAllUptoRow.holds Try.pinned (OpenSpec.upto fnExactUnitAllSpec)

/-- 'laws.FnExactSatOk', WHERE WHAT IT READS IS OF BULK AT MOST 1048576: true; the input reads as it did. -/
def fnExactSatOkUptoRow : OpenClaim := { program := "ytndolbplkjhooaa", sum := "091abb3a42f0824c999667306c1457f6e7eb8bf00d8517c2ee251eefea5d3b1d", func := "loop.example/seedlip/laws.FnExactSatOk", spec := "fnExactSatOk", unfollowed := true, recurses := true, apart := false, narrowed := true }
def FnExactSatOkUptoSaid : Prop := fnExactSatOkUptoRow.holds Try.pinned (OpenSpec.upto fnExactSatOkSpec)

/-- 'laws.FnUnit', WHERE WHAT IT READS IS OF BULK AT MOST 1048576: true; the input reads as it did. -/
def fnUnitUptoRow : OpenClaim := { program := "ytndolbplkjhooaa", sum := "091abb3a42f0824c999667306c1457f6e7eb8bf00d8517c2ee251eefea5d3b1d", func := "loop.example/seedlip/laws.FnUnit", spec := "fnUnit", unfollowed := true, recurses := true, apart := false, narrowed := true }
def FnUnitUptoSaid : Prop := fnUnitUptoRow.holds Try.pinned (OpenSpec.upto fnUnitSpec)

/-- 'laws.FnExactSatVals', WHERE WHAT IT READS IS OF BULK AT MOST 1048576: true; the input reads as it did. -/
def fnExactSatValsUptoRow : OpenClaim := { program := "ytndolbplkjhooaa", sum := "091abb3a42f0824c999667306c1457f6e7eb8bf00d8517c2ee251eefea5d3b1d", func := "loop.example/seedlip/laws.FnExactSatVals", spec := "fnExactSatVals", unfollowed := true, recurses := true, apart := false, narrowed := true }
def FnExactSatValsUptoSaid : Prop := fnExactSatValsUptoRow.holds Try.pinned (OpenSpec.upto fnExactSatValsSpec)

end Rows
end Go.Proofs.Ytndolbplkjhooaa
