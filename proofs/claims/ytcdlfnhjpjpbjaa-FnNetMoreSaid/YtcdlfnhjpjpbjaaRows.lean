/-
  No cell of these rows narrows 'for every input' (looked for: loops, veiled, ifaces, maps, wideKeys, modest, calm, conditions, laid).
  DERIVED. THE GIVEN ROWS OF THIS SEAT. 4 by the template 'for every input the law returns true; each argument reads behind the call as it read before'; 0 by the template 'total and deterministic' (their statements: YtcdlfnhjpjpbjaaTotals.lean).
  GIVEN WITH THE SEED: the statements are not yours to turn. If you find one false, say at which input.
  Laid BY PROGRAM, IN A SANDBOX (cutbox-rows.mjs): the forced cells as the released guide's own fill.sh prints them over the translation da719b9bef655348… (all of the seat's roots in one cut). By AI agents, Wed Nov 11 2026. No macro, syntax, notation, axiom, sorry.
-/
import Derived.Test.YtcdlfnhjpjpbjaaChecked
import GoSem.Claim
import GoSem.ClaimJoined
import GoSem.ClaimMapViews
import Derived.JoinedTies
import Derived.KernelRfl
namespace Go.Proofs.Ytcdlfnhjpjpbjaa
/- THE CELL 'sum', in the pinned program and in every row, IS THE sha256 OF THE DUMP (.gsa) THAT YtcdlfnhjpjpbjaaProg.lean LOADS. Nothing in Lean hashes anything: it is a label: what it is worth is what the hold of that sum in a sandbox is worth. -/
noncomputable def Try.pinned : Pinned := { name := "ytcdlfnhjpjpbjaa", sum := "da719b9bef6553488930ebba942ace61d4a0fa6a4d98811216395a8b01e070b0", checked := Try.checked }
namespace Rows
def none {H : Type} : Left H := { results := [], args := [] }

/-- 'laws.FnNetAnd': WHATEVER THE INPUT: true; the input reads as it did. -/
def fnNetAndSpec : ChangeSpec := { name := "fnNetAnd", fn := fun _ => fun
  | [d1, d2] => { results := [.lit (.bool true)], args := [d1, d2] }
  | _ => none }
def fnNetAndRow : OpenClaim := { program := "ytcdlfnhjpjpbjaa", sum := "da719b9bef6553488930ebba942ace61d4a0fa6a4d98811216395a8b01e070b0", func := "loop.example/seedlip/laws.FnNetAnd", spec := "fnNetAnd", unfollowed := true, recurses := true, plainKeys := false, apart := false }
def FnNetAndSaid : Prop := fnNetAndRow.holds Try.pinned (OpenSpec.ofChange fnNetAndSpec)

/-- ITS FALSE NEIGHBOUR: 'it returns false'. Refute it at one input. -/
def fnNetAndWrong : ChangeSpec := { name := "fnNetAnd", fn := fun _ => fun
  | [d1, d2] => { results := [.lit (.bool false)], args := [d1, d2] }
  | _ => none }
def FnNetAndWrongFalsely : Prop := fnNetAndRow.holds Try.pinned (OpenSpec.ofChange fnNetAndWrong)

/-- 'laws.FnNetXor': WHATEVER THE INPUT: true; the input reads as it did. -/
def fnNetXorSpec : ChangeSpec := { name := "fnNetXor", fn := fun _ => fun
  | [d1, d2] => { results := [.lit (.bool true)], args := [d1, d2] }
  | _ => none }
def fnNetXorRow : OpenClaim := { program := "ytcdlfnhjpjpbjaa", sum := "da719b9bef6553488930ebba942ace61d4a0fa6a4d98811216395a8b01e070b0", func := "loop.example/seedlip/laws.FnNetXor", spec := "fnNetXor", unfollowed := true, recurses := true, plainKeys := false, apart := false }
def FnNetXorSaid : Prop := fnNetXorRow.holds Try.pinned (OpenSpec.ofChange fnNetXorSpec)

/-- ITS FALSE NEIGHBOUR: 'it returns false'. Refute it at one input. -/
def fnNetXorWrong : ChangeSpec := { name := "fnNetXor", fn := fun _ => fun
  | [d1, d2] => { results := [.lit (.bool false)], args := [d1, d2] }
  | _ => none }
def FnNetXorWrongFalsely : Prop := fnNetXorRow.holds Try.pinned (OpenSpec.ofChange fnNetXorWrong)

/-- 'laws.FnNetMore': WHATEVER THE INPUT: true; the input reads as it did. -/
def fnNetMoreSpec : ChangeSpec := { name := "fnNetMore", fn := fun _ => fun
  | [d1, d2] => { results := [.lit (.bool true)], args := [d1, d2] }
  | _ => none }
def fnNetMoreRow : OpenClaim := { program := "ytcdlfnhjpjpbjaa", sum := "da719b9bef6553488930ebba942ace61d4a0fa6a4d98811216395a8b01e070b0", func := "loop.example/seedlip/laws.FnNetMore", spec := "fnNetMore", unfollowed := true, recurses := true, plainKeys := false, apart := false }
def FnNetMoreSaid : Prop := fnNetMoreRow.holds Try.pinned (OpenSpec.ofChange fnNetMoreSpec)

/-- ITS FALSE NEIGHBOUR: 'it returns false'. Refute it at one input. -/
def fnNetMoreWrong : ChangeSpec := { name := "fnNetMore", fn := fun _ => fun
  | [d1, d2] => { results := [.lit (.bool false)], args := [d1, d2] }
  | _ => none }
def FnNetMoreWrongFalsely : Prop := fnNetMoreRow.holds Try.pinned (OpenSpec.ofChange fnNetMoreWrong)

/-- 'laws.FnNetCnf': WHATEVER THE INPUT: true; the input reads as it did. -/
def fnNetCnfSpec : ChangeSpec := { name := "fnNetCnf", fn := fun _ => fun
  | [d1, d2] => { results := [.lit (.bool true)], args := [d1, d2] }
  | _ => none }
def fnNetCnfRow : OpenClaim := { program := "ytcdlfnhjpjpbjaa", sum := "da719b9bef6553488930ebba942ace61d4a0fa6a4d98811216395a8b01e070b0", func := "loop.example/seedlip/laws.FnNetCnf", spec := "fnNetCnf", unfollowed := true, recurses := true, plainKeys := false, apart := false }
def FnNetCnfSaid : Prop := fnNetCnfRow.holds Try.pinned (OpenSpec.ofChange fnNetCnfSpec)

/-- ITS FALSE NEIGHBOUR: 'it returns false'. Refute it at one input. -/
def fnNetCnfWrong : ChangeSpec := { name := "fnNetCnf", fn := fun _ => fun
  | [d1, d2] => { results := [.lit (.bool false)], args := [d1, d2] }
  | _ => none }
def FnNetCnfWrongFalsely : Prop := fnNetCnfRow.holds Try.pinned (OpenSpec.ofChange fnNetCnfWrong)

/- THE SECOND FORM. 'bulk': how many values and letters a reading holds, each counted each time it is reached (what is shared counts as often as it is met; a slice's spare places count too). A statement '..UptoSaid' is the law's where the arguments, and the package variables that the reading takes, are together of bulk at most 1048576: NARROWER than '..Said'. Prove '..Said' where nothing that the law and all that it calls make is longer than what came in: it says more and counts as full. Else prove '..UptoSaid'. A law counts once. -/
mutual
def uptoBulk {H : Type} : DataW H → Nat
  | .lit (.string bytes) => bytes.length + 1
  | .lit _ => 1
  | .nil => 1
  | .ptr d => uptoBulk d + 1
  | .slice elems spare => uptoBulkAll elems + uptoBulkAll spare + 1
  | .agg parts => uptoBulkAll parts + 1
  | .iface _ d => uptoBulk d + 1
  | .map entries => uptoBulkEntries entries + 1
  | .held _ => 1
def uptoBulkAll {H : Type} : List (DataW H) → Nat
  | [] => 0
  | d :: r => uptoBulk d + uptoBulkAll r
def uptoBulkEntries {H : Type} : List (Lit × DataW H) → Nat
  | [] => 0
  | x :: r => uptoBulkEntry x + uptoBulkEntries r
def uptoBulkEntry {H : Type} : Lit × DataW H → Nat
  | (.string bytes, d) => bytes.length + uptoBulk d + 1
  | (_, d) => uptoBulk d + 1
 end
def uptoSmall : (H : Type) → List (DataW H) → Bool := fun _ ds => decide (uptoBulkAll ds ≤ 1048576)
def OpenSpec.upto (s : _root_.Go.ChangeSpec) : _root_.Go.OpenSpec := { _root_.Go.OpenSpec.ofChange s with cond := some uptoSmall }

/-- 'laws.FnNetAnd', WHERE WHAT IT READS IS OF BULK AT MOST 1048576: true; the input reads as it did. -/
def fnNetAndUptoRow : OpenClaim := { program := "ytcdlfnhjpjpbjaa", sum := "da719b9bef6553488930ebba942ace61d4a0fa6a4d98811216395a8b01e070b0", func := "loop.example/seedlip/laws.FnNetAnd", spec := "fnNetAnd", unfollowed := true, recurses := true, plainKeys := false, apart := false, narrowed := true }
def FnNetAndUptoSaid : Prop := fnNetAndUptoRow.holds Try.pinned (OpenSpec.upto fnNetAndSpec)

/-- 'laws.FnNetXor', WHERE WHAT IT READS IS OF BULK AT MOST 1048576: true; the input reads as it did. -/
def fnNetXorUptoRow : OpenClaim := { program := "ytcdlfnhjpjpbjaa", sum := "da719b9bef6553488930ebba942ace61d4a0fa6a4d98811216395a8b01e070b0", func := "loop.example/seedlip/laws.FnNetXor", spec := "fnNetXor", unfollowed := true, recurses := true, plainKeys := false, apart := false, narrowed := true }
def FnNetXorUptoSaid : Prop := fnNetXorUptoRow.holds Try.pinned (OpenSpec.upto fnNetXorSpec)

/-- 'laws.FnNetMore', WHERE WHAT IT READS IS OF BULK AT MOST 1048576: true; the input reads as it did. -/
def fnNetMoreUptoRow : OpenClaim := { program := "ytcdlfnhjpjpbjaa", sum := "da719b9bef6553488930ebba942ace61d4a0fa6a4d98811216395a8b01e070b0", func := "loop.example/seedlip/laws.FnNetMore", spec := "fnNetMore", unfollowed := true, recurses := true, plainKeys := false, apart := false, narrowed := true }
def FnNetMoreUptoSaid : Prop := fnNetMoreUptoRow.holds Try.pinned (OpenSpec.upto fnNetMoreSpec)

/-- 'laws.FnNetCnf', WHERE WHAT IT READS IS OF BULK AT MOST 1048576: true; the input reads as it did. -/
def fnNetCnfUptoRow : OpenClaim := { program := "ytcdlfnhjpjpbjaa", sum := "da719b9bef6553488930ebba942ace61d4a0fa6a4d98811216395a8b01e070b0", func := "loop.example/seedlip/laws.FnNetCnf", spec := "fnNetCnf", unfollowed := true, recurses := true, plainKeys := false, apart := false, narrowed := true }
def FnNetCnfUptoSaid : Prop := fnNetCnfUptoRow.holds Try.pinned (OpenSpec.upto fnNetCnfSpec)

end Rows
end Go.Proofs.Ytcdlfnhjpjpbjaa
