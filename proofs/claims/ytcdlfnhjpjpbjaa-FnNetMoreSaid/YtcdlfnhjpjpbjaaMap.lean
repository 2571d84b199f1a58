/- Maps keyed by gates. -/
import Derived.Test.YtcdlfnhjpjpbjaaNetS2
import Derived.Maps.OwnSet
import Derived.DeepKeys4
namespace Go.Proofs.Ytcdlfnhjpjpbjaa
open Go Go.RowKit Go.Maps

def gval (g : G) : Value := .agg #[.bool g.x, .int .i64 g.a, .int .i64 g.b]
def keyG (g : G) : Lit := .string (keyBytes [.bool g.x, .int .i64 g.a, .int .i64 g.b])
def okGi (g : G) : Prop := (-9223372036854775808 ≤ g.a ∧ g.a ≤ 9223372036854775807) ∧ (-9223372036854775808 ≤ g.b ∧ g.b ≤ 9223372036854775807)
theorem gate_law : WideMaps.KeyLaw Try.prog 58 := deep_law_laid (by kernel_rfl) (m := 4) (by omega) (of_decide_eq_true (by kernel_rfl)) (by kernel_rfl) (by kernel_rfl)
theorem gate_keyed : Keyed Try.prog 58 := Keyed.of_law gate_law
theorem gate_types : ∃ m, Try.prog.types.size = m + 1 := ⟨Try.prog.types.size - 1, by
  have h : Try.prog.types.size ≠ 0 := of_decide_eq_true (by kernel_rfl)
  omega⟩
theorem keyG_ok (g : G) (h : okGi g) : keyOf Try.prog 58 (gval g) = some (keyG g) := by
  have wa : (Lit.int .i64 g.a).wf = true := WalkArith.wf_i64 h.1
  have wb : (Lit.int .i64 g.b).wf = true := WalkArith.wf_i64 h.2
  have hkt : Try.prog.keyType 58 = true := by kernel_rfl
  have hc : Try.prog.cellsOf 58 = 3 := by kernel_rfl
  have hcb : Try.prog.cellsOf 4 = 1 := by kernel_rfl
  have hci : Try.prog.cellsOf 3 = 1 := by kernel_rfl
  obtain ⟨m, hm⟩ := gate_types
  unfold keyOf
  simp only [Try.underlying58]
  rw [if_pos (by simp [hkt, gval, Value.formed, Try.underlying58, hc]), hm]
  unfold Program.keyLits
  simp only [Try.underlying58, gval, Value.cells]
  simp [hc, hcb, hci, Program.keyLits, Try.underlying4, Try.underlying3, wa, wb, keyG]
theorem keyG_inj {g h : G} (hg : okGi g) (hh : okGi h) (e : keyG g = keyG h) : g = h := by
  have := gate_keyed.inj (keyG_ok g hg) (by rw [e]; exact keyG_ok h hh)
  cases g; cases h
  simp [gval] at this
  obtain ⟨rfl, rfl, rfl⟩ := this
  rfl

/-- The map D says of each gate of the list its node. -/
structure Known (ins : Int) (gs : List G) (D : DataW Unit) : Prop where
  isMap : IsMap D
  has : ∀ g, okGi g → Maps.has D (keyG g) = decide (g ∈ gs)
  at_ : ∀ g, okGi g → g ∈ gs → D.atKey (keyG g) (.lit (.int .i64 0)) = .lit (.int .i64 (2 + ins + gs.idxOf g))
theorem Known.nil (ins : Int) : Known ins [] (.map []) := ⟨isMap_empty, fun g _ => by simp [Maps.has], fun g _ h => by cases h⟩
theorem Known.put {ins : Int} {gs : List G} {D : DataW Unit} (h : Known ins gs D) (g : G) (hg : okGi g) (hn : g ∉ gs) (k : Int) (hk : k = 2 + ins + gs.length) :
    Known ins (gs ++ [g]) (D.put (keyG g) (.lit (.int .i64 k))) := by
  subst hk
  refine ⟨h.isMap.put _ _, fun x hx => ?_, fun x hx hm => ?_⟩
  · by_cases e : x = g
    · subst e
      rw [has_put_same h.isMap (gate_keyed.key (keyG_ok _ hg))]; simp
    · have hne : keyG x ≠ keyG g := fun e' => e (keyG_inj hx hg e')
      rw [has_put_other hne, h.has x hx]
      simp [e]
  · by_cases e : x = g
    · subst e
      rw [atKey_put_same h.isMap (gate_keyed.key (keyG_ok _ hg)), List.idxOf_append, if_neg hn]
      simp
    · have hne : keyG x ≠ keyG g := fun e' => e (keyG_inj hx hg e')
      have hm' : x ∈ gs := by simpa [e] using hm
      rw [atKey_put_other hne, h.at_ x hx hm', List.idxOf_append, if_pos hm']

/-- The block b holds the map of the list's gates. -/
def KnownAt (w : World) (b : Nat) (ins : Int) (gs : List G) : Prop :=
  ∃ D : DataW Unit, w.ownsMap Try.prog 58 (plainElem Try.prog 3) b gs.length D ∧ Known ins gs D
end Go.Proofs.Ytcdlfnhjpjpbjaa
