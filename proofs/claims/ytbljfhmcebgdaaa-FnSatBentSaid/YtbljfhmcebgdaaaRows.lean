/-
  No cell of these rows narrows 'for every input' (looked for: loops, veiled, ifaces, maps, wideKeys, modest, calm, conditions, laid).
  DERIVED. THE GIVEN ROWS OF THIS SEAT. 6 by the template 'for every input the law returns true; each argument reads behind the call as it read before'; 0 by the template 'total and deterministic' (their statements: YtbljfhmcebgdaaaTotals.lean).
  GIVEN WITH THE SEED: the statements are not yours to turn. If you find one false, say at which input.
  Laid BY PROGRAM, IN A SANDBOX (cutbox-rows.mjs): the forced cells as the released guide's own fill.sh prints them over the translation e1056320d60da60f… (all of the seat's roots in one cut). By AI agents, Wed Nov 11 2026. No macro, syntax, notation, axiom, sorry.
-/
import Derived.Test.YtbljfhmcebgdaaaChecked
import GoSem.Claim
import GoSem.ClaimJoined
import GoSem.ClaimMapViews
import Derived.JoinedTies
import Derived.KernelRfl
namespace Go.Proofs.Ytbljfhmcebgdaaa
/- THE CELL 'sum', in the pinned program and in every row, IS THE sha256 OF THE DUMP (.gsa) THAT YtbljfhmcebgdaaaProg.lean LOADS. Nothing in Lean hashes anything: it is a label: what it is worth is what the hold of that sum in a sandbox is worth. -/
noncomputable def Try.pinned : Pinned := { name := "ytbljfhmcebgdaaa", sum := "e1056320d60da60f640f6268d0cfb1056c3d23101253885ff3bf7598ee7a37f5", checked := Try.checked }
namespace Rows
def none {H : Type} : Left H := { results := [], args := [] }

/-- 'laws.FnRup': WHATEVER THE INPUT: true; the input reads as it did. -/
def fnRupSpec : ChangeSpec := { name := "fnRup", fn := fun _ => fun
  | [d1, d2] => { results := [.lit (.bool true)], args := [d1, d2] }
  | _ => none }
def fnRupRow : OpenClaim := { program := "ytbljfhmcebgdaaa", sum := "e1056320d60da60f640f6268d0cfb1056c3d23101253885ff3bf7598ee7a37f5", func := "loop.example/seedlip/laws.FnRup", spec := "fnRup", unfollowed := true, recurses := true, apart := false }
def FnRupSaid : Prop := fnRupRow.holds Try.pinned (OpenSpec.ofChange fnRupSpec)

/-- ITS FALSE NEIGHBOUR: 'it returns false'. Refute it at one input. -/
def fnRupWrong : ChangeSpec := { name := "fnRup", fn := fun _ => fun
  | [d1, d2] => { results := [.lit (.bool false)], args := [d1, d2] }
  | _ => none }
def FnRupWrongFalsely : Prop := fnRupRow.holds Try.pinned (OpenSpec.ofChange fnRupWrong)

/-- 'laws.FnProof': WHATEVER THE INPUT: true; the input reads as it did. -/
def fnProofSpec : ChangeSpec := { name := "fnProof", fn := fun _ => fun
  | [d1, d2] => { results := [.lit (.bool true)], args := [d1, d2] }
  | _ => none }
def fnProofRow : OpenClaim := { program := "ytbljfhmcebgdaaa", sum := "e1056320d60da60f640f6268d0cfb1056c3d23101253885ff3bf7598ee7a37f5", func := "loop.example/seedlip/laws.FnProof", spec := "fnProof", unfollowed := true, recurses := true, apart := false }
def FnProofSaid : Prop := fnProofRow.holds Try.pinned (OpenSpec.ofChange fnProofSpec)

/-- ITS FALSE NEIGHBOUR: 'it returns false'. Refute it at one input. -/
def fnProofWrong : ChangeSpec := { name := "fnProof", fn := fun _ => fun
  | [d1, d2] => { results := [.lit (.bool false)], args := [d1, d2] }
  | _ => none }
def FnProofWrongFalsely : Prop := fnProofRow.holds Try.pinned (OpenSpec.ofChange fnProofWrong)

/-- 'laws.FnSatVals': WHATEVER THE INPUT: true; the input reads as it did. -/
def fnSatValsSpec : ChangeSpec := { name := "fnSatVals", fn := fun _ => fun
  | [d] => { results := [.lit (.bool true)], args := [d] }
  | _ => none }
def fnSatValsRow : OpenClaim := { program := "ytbljfhmcebgdaaa", sum := "e1056320d60da60f640f6268d0cfb1056c3d23101253885ff3bf7598ee7a37f5", func := "loop.example/seedlip/laws.FnSatVals", spec := "fnSatVals", unfollowed := true, recurses := true, apart := false }
def FnSatValsSaid : Prop := fnSatValsRow.holds Try.pinned (OpenSpec.ofChange fnSatValsSpec)

/-- ITS FALSE NEIGHBOUR: 'it returns false'. Refute it at one input. -/
def fnSatValsWrong : ChangeSpec := { name := "fnSatVals", fn := fun _ => fun
  | [d] => { results := [.lit (.bool false)], args := [d] }
  | _ => none }
def FnSatValsWrongFalsely : Prop := fnSatValsRow.holds Try.pinned (OpenSpec.ofChange fnSatValsWrong)

/-- 'laws.FnSatBent': WHATEVER THE INPUT: true; the input reads as it did. -/
def fnSatBentSpec : ChangeSpec := { name := "fnSatBent", fn := fun _ => fun
  | [d] => { results := [.lit (.bool true)], args := [d] }
  | _ => none }
def fnSatBentRow : OpenClaim := { program := "ytbljfhmcebgdaaa", sum := "e1056320d60da60f640f6268d0cfb1056c3d23101253885ff3bf7598ee7a37f5", func := "loop.example/seedlip/laws.FnSatBent", spec := "fnSatBent", unfollowed := true, recurses := true, apart := false }
def FnSatBentSaid : Prop := fnSatBentRow.holds Try.pinned (OpenSpec.ofChange fnSatBentSpec)

/-- ITS FALSE NEIGHBOUR: 'it returns false'. Refute it at one input. -/
def fnSatBentWrong : ChangeSpec := { name := "fnSatBent", fn := fun _ => fun
  | [d] => { results := [.lit (.bool false)], args := [d] }
  | _ => none }
def FnSatBentWrongFalsely : Prop := fnSatBentRow.holds Try.pinned (OpenSpec.ofChange fnSatBentWrong)

/-- 'laws.FnExactSatRun': WHATEVER THE INPUT: true; the input reads as it did. -/
def fnExactSatRunSpec : ChangeSpec := { name := "fnExactSatRun", fn := fun _ => fun
  | [d1, d2] => { results := [.lit (.bool true)], args := [d1, d2] }
  | _ => none }
def fnExactSatRunRow : OpenClaim := { program := "ytbljfhmcebgdaaa", sum := "e1056320d60da60f640f6268d0cfb1056c3d23101253885ff3bf7598ee7a37f5", func := "loop.example/seedlip/laws.FnExactSatRun", spec := "fnExactSatRun", unfollowed := true, recurses := true, apart := false }
def FnExactSatRunSaid : Prop := fnExactSatRunRow.holds Try.pinned (OpenSpec.ofChange fnExactSatRunSpec)

/-- ITS FALSE NEIGHBOUR: 'it returns false'. Refute it at one input. -/
def fnExactSatRunWrong : ChangeSpec := { name := "fnExactSatRun", fn := fun _ => fun
  | [d1, d2] => { results := [.lit (.bool false)], args := [d1, d2] }
  | _ => none }
def FnExactSatRunWrongFalsely : Prop := fnExactSatRunRow.holds Try.pinned (OpenSpec.ofChange fnExactSatRunWrong)

/-- 'laws.FnSatChosen': WHATEVER THE INPUT: true; the input reads as it did. -/
def fnSatChosenSpec : ChangeSpec := { name := "fnSatChosen", fn := fun _ => fun
  | [d] => { results := [.lit (.bool true)], args := [d] }
  | _ => none }
def fnSatChosenRow : OpenClaim := { program := "ytbljfhmcebgdaaa", sum := "e1056320d60da60f640f6268d0cfb1056c3d23101253885ff3bf7598ee7a37f5", func := "loop.example/seedlip/laws.FnSatChosen", spec := "fnSatChosen", unfollowed := true, recurses := true, apart := false }
def FnSatChosenSaid : Prop := fnSatChosenRow.holds Try.pinned (OpenSpec.ofChange fnSatChosenSpec)

/-- ITS FALSE NEIGHBOUR: 'it returns false'. Refute it at one input. -/
def fnSatChosenWrong : ChangeSpec := { name := "fnSatChosen", fn := fun _ => fun
  | [d] => { results := [.lit (.bool false)], args := [d] }
  | _ => none }
def FnSatChosenWrongFalsely : Prop := fnSatChosenRow.holds Try.pinned (OpenSpec.ofChange fnSatChosenWrong)

/- THE SECOND FORM. 'bulk': how many values and letters a reading holds, each counted each time it is reached (what is shared counts as often as it is met; a slice's spare places count too). A statement '..UptoSaid' is the law's where the arguments, and the package variables that the reading takes, are together of bulk at most 1048576: NARROWER than '..Said'. Prove '..Said' where nothing that the law and all that it calls make is longer than what came in: it says more and counts as full. Else prove '..UptoSaid'. A law counts once. -/
mutual
def uptoBulk {H : Type} : DataW H → Nat
  | .lit (.string bytes) => bytes.length + 1
  | .lit _ => 1
  | .nil => 1
  | .ptr d => uptoBulk d + 1
  | .slice elems spare => uptoBulkAll elems + uptoBulkAll spare + 1
  | .agg parts => uptoBulkAll parts + 1
  | .iface _ d => uptoBulk d + 1
  | .map entries => uptoBulkEntries entries + 1
  | .held _ => 1
def uptoBulkAll {H : Type} : List (DataW H) → Nat
  | [] => 0
  | d :: r => uptoBulk d + uptoBulkAll r
def uptoBulkEntries {H : Type} : List (Lit × DataW H) → Nat
  | [] => 0
  | x :: r => uptoBulkEntry x + uptoBulkEntries r
def uptoBulkEntry {H : Type} : Lit × DataW H → Nat
  | (.string bytes, d) => bytes.length + uptoBulk d + 1
  | (_, d) => uptoBulk d + 1
 end
def uptoSmall : (H : Type) → List (DataW H) → Bool := fun _ ds => decide (uptoBulkAll ds ≤ 1048576)
def OpenSpec.upto (s : _root_.Go.ChangeSpec) : _root_.Go.OpenSpec := { _root_.Go.OpenSpec.ofChange s with cond := some uptoSmall }

/-- 'laws.FnRup', WHERE WHAT IT READS IS OF BULK AT MOST 1048576: true; the input reads as it did. -/
def fnRupUptoRow : OpenClaim := { program := "ytbljfhmcebgdaaa", sum := "e1056320d60da60f640f6268d0cfb1056c3d23101253885ff3bf7598ee7a37f5", func := "loop.example/seedlip/laws.FnRup", spec := "fnRup", unfollowed := true, recurses := true, apart := false, narrowed := true }
def FnRupUptoSaid : Prop := fnRupUptoRow.holds Try.pinned (OpenSpec.upto fnRupSpec)

/-- 'laws.FnProof', WHERE WHAT IT READS IS OF BULK AT MOST 1048576: true; the input reads as it did. -/
def fnProofUptoRow : OpenClaim := { program := "ytbljfhmcebgdaaa", sum := "e1056320d60da60f640f6268d0cfb1056c3d23101253885ff3bf7598ee7a37f5", func := "loop.example/seedlip/laws.FnProof", spec := "fnProof", unfollowed := true, recurses := true, apart := false, narrowed := true }
def FnProofUptoSaid : Prop := fnProofUptoRow.holds Try.pinned (OpenSpec.upto fnProofSpec)

/-- 'laws.FnSatVals', WHERE WHAT IT READS IS OF BULK AT MOST 1048576: true; the input reads as it did. -/
def fnSatValsUptoRow : OpenClaim := { program := "ytbljfhmcebgdaaa", sum := "e1056320d60da60f640f6268d0cfb1056c3d23101253885ff3bf7598ee7a37f5", func := "loop.example/seedlip/laws.FnSatVals", spec := "fnSatVals", unfollowed := true, recurses := true, apart := false, narrowed := true }
def FnSatValsUptoSaid : Prop := fnSatValsUptoRow.holds Try.pinned (OpenSpec.upto fnSatValsSpec)

/-- 'laws.FnSatBent', WHERE WHAT IT READS IS OF BULK AT MOST 1048576: true; the input reads as it did. -/
def fnSatBentUptoRow : OpenClaim := { program := "ytbljfhmcebgdaaa", sum := "e1056320d60da60f640f6268d0cfb1056c3d23101253885ff3bf7598ee7a37f5", func := "loop.example/seedlip/laws.FnSatBent", spec := "fnSatBent", unfollowed := true, recurses := true, apart := false, narrowed := true }
def FnSatBentUptoSaid : Prop := fnSatBentUptoRow.holds Try.pinned (OpenSpec.upto fnSatBentSpec)

/-- 'laws.FnExactSatRun', WHERE WHAT IT READS IS OF BULK AT MOST 1048576: true; the input reads as it did. -/
def fnExactSatRunUptoRow : OpenClaim := { program := "ytbljfhmcebgdaaa", sum := "e1056320d60da60f640f6268d0cfb1056c3d23101253885ff3bf7598ee7a37f5", func := "loop.example/seedlip/laws.FnExactSatRun", spec := "fnExactSatRun", unfollowed := true, recurses := true, apart := false, narrowed := true }
def FnExactSatRunUptoSaid : Prop := fnExactSatRunUptoRow.holds Try.pinned (OpenSpec.upto fnExactSatRunSpec)

/-- 'laws.FnSatChosen', WHERE WHAT IT READS IS OF BULK AT MOST 1048576: true; the input reads as it did. -/
def fnSatChosenUptoRow : OpenClaim := { program := "ytbljfhmcebgdaaa", sum := "e1056320d60da60f640f6268d0cfb1056c3d23101253885ff3bf7598ee7a37f5", func := "loop.example/seedlip/laws.FnSatChosen", spec := "fnSatChosen", unfollowed := true, recurses := true, apart := false, narrowed := true }
def FnSatChosenUptoSaid : Prop := fnSatChosenUptoRow.holds Try.pinned (OpenSpec.upto fnSatChosenSpec)

end Rows
end Go.Proofs.Ytbljfhmcebgdaaa
