/- What came in, opened: a reading of cells at a type gives the Lean value that lies there. No program is named here. -/
import Derived.Test.YtcdlfnhjpjpbjaaBase
import Derived.ProofKit
import Derived.OpenShut
import Derived.ShutString
import Derived.ChangeOld
import Derived.Deep.Slices
namespace Go.Proofs.Ytcdlfnhjpjpbjaa
open Go Go.RowKit Go.ChangeShapes Go.WideShapes Go.Deep

/-- Whatever reads at type t lies there as a Lean value that is ok. -/
def Opens {α : Type} (P : Program) (t : TypeId) (L : Lay α) (ok : α → Prop) : Prop :=
  ∀ (H : Type) (enc : TypeId × Value → H) (w : World) (base : Nat) (spare : Nat → Bool) (held : Bool) (fuel : Nat) (cs : List Value) (x : DataW H × List MemPlace),
    DataW.trod enc P w base spare held fuel t cs = some x → ∃ a, ok a ∧ L.R w (fun b => b < w.heap.size) a cs

def okInt (n : Int) : Prop := -9223372036854775808 ≤ n ∧ n ≤ 9223372036854775807

theorem Opens.int {P : Program} {t : TypeId} (ht : P.underlying t = some (.int .i64)) : Opens P t Lay.int okInt := by
  intro H enc w base spare held fuel cs x h
  obtain ⟨n, rfl, _, hwf⟩ := DataW.trod_int ht h
  refine ⟨n, ?_, rfl⟩
  have := bounds_i64 hwf
  unfold okInt; omega
theorem Opens.bool {P : Program} {t : TypeId} (ht : P.underlying t = some .bool) : Opens P t Lay.bool (fun _ => True) := by
  intro H enc w base spare held fuel cs x h
  obtain ⟨n, rfl, _⟩ := DataW.trod_bool ht h
  exact ⟨n, trivial, rfl⟩
theorem Opens.str {P : Program} {t : TypeId} (ht : P.underlying t = some .string) : Opens P t Lay.str (fun s => s.size ≤ maxLen) := by
  intro H enc w base spare held fuel cs x h
  obtain ⟨s, rfl, _, hs⟩ := DataW.trod_string ht h
  exact ⟨s, hs, rfl⟩
theorem Opens.byte {P : Program} {t : TypeId} (ht : P.underlying t = some (.int .u8)) : Opens P t Lay.byte (fun _ => True) := by
  intro H enc w base spare held fuel cs x h
  obtain ⟨n, rfl, _, hwf⟩ := DataW.trod_int ht h
  have := bounds_u8 hwf
  refine ⟨UInt8.ofNat n.toNat, trivial, ?_⟩
  have : ((UInt8.ofNat n.toNat).toNat : Int) = n := by
    rw [UInt8.toNat_ofNat']; omega
  show [Value.int .u8 n] = [Value.int .u8 _]
  rw [this]

theorem list_of_forall {α : Type} (n : Nat) (p : Nat → α → Prop) (h : ∀ i, i < n → ∃ a, p i a) : ∃ xs : List α, xs.length = n ∧ ∀ i x, xs[i]? = some x → p i x := by
  induction n with
  | zero => exact ⟨[], rfl, by simp⟩
  | succ n ih =>
    obtain ⟨xs, hl, hp⟩ := ih fun i hi => h i (by omega)
    obtain ⟨a, ha⟩ := h n (by omega)
    refine ⟨xs ++ [a], by simp [hl], fun i x hx => ?_⟩
    rcases Nat.lt_or_ge i n with hi | hi
    · rw [List.getElem?_append_left (by omega)] at hx
      exact hp i x hx
    · rw [List.getElem?_append_right (by omega), hl] at hx
      have : i = n := by
        rcases Nat.eq_or_lt_of_le hi with e | e
        · exact e.symm
        · rw [List.getElem?_eq_none (by simp; omega)] at hx; cases hx
      subst this
      simp at hx; subst hx; exact ha

theorem Opens.slice {α : Type} {P : Program} {t e : TypeId} {L : Lay α} {ok : α → Prop} (ht : P.underlying t = some (.slice e)) (hc : P.cellsOf e = L.size) (hs : 0 < L.size) (ho : Opens P e L ok) :
    Opens P t L.slice (fun xs => xs.length ≤ maxLen ∧ ∀ x ∈ xs, ok x) := by
  intro H enc w base spare held fuel cs x h
  rcases open_slice ht h with ⟨rfl, _⟩ | ⟨a, len, cap, m, n, D, Pl, rfl, _, hl, hm, hmm, _, hi⟩
  · exact ⟨[], ⟨by simp, by simp⟩, none, 0, rfl, by simp, .nil L w _ _⟩
  · have hle : len ≤ m := by rw [hmm]; split <;> omega
    obtain ⟨xs, hxl, hx⟩ := list_of_forall len (fun i a' => ok a' ∧ ∃ vs, L.R w (fun b => b < w.heap.size) a' vs ∧ ∀ j u, vs[j]? = some u → w.cell? (a.add (i * L.size + j)) = some u) (by
      intro i hil
      obtain ⟨cs', hcell, htr⟩ := hi i (by omega)
      obtain ⟨a', hok, hr⟩ := ho H enc w base spare held n cs' _ htr
      refine ⟨a', hok, cs', hr, fun j u hu => ?_⟩
      obtain ⟨_, hcl, hat⟩ := World.cells?_some hcell
      have hj : j < cs'.length := by
        rcases Nat.lt_or_ge j cs'.length with hj | hj
        · exact hj
        · rw [List.getElem?_eq_none hj] at hu; cases hu
      have h1 := hat j (by omega)
      rw [hc, add_of_add] at h1
      rw [h1, hu])
    refine ⟨xs, ⟨by omega, fun x hmem => ?_⟩, some a, cap, by rw [hxl], by omega, fun h0 => ⟨a, rfl, ?_, fun k x hk => (hx k x hk).2⟩⟩
    · obtain ⟨i, hi', rfl⟩ := List.getElem_of_mem hmem
      exact (hx i _ (List.getElem?_eq_getElem hi')).1
    · obtain ⟨_, vs, hr, hcell⟩ := hx 0 xs[0] (List.getElem?_eq_getElem h0)
      have hvl := L.len hr
      have h1 := hcell 0 vs[0] (List.getElem?_eq_getElem (by omega))
      have := World.block_lt_of_cell? w _ h1
      rwa [block_of_add] at this

theorem Opens.field {α : Type} {P : Program} {t : TypeId} {fs : Array Field} {L : Lay α} {ok : α → Prop} {H : Type} {enc : TypeId × Value → H} {w : World} {base : Nat} {spare : Nat → Bool} {held : Bool} {fuel : Nat} {cs : List Value}
    {x : DataW H × List MemPlace} (ht : P.underlying t = some (.struct fs)) (h : DataW.trod enc P w base spare held fuel t cs = some x) (i : Nat) (f : Field) (hf : fs[i]? = some f) (ho : Opens P f.type L ok) :
    ∃ a, ok a ∧ L.R w (fun b => b < w.heap.size) a ((cs.drop f.offset).take (P.cellsOf f.type)) := by
  obtain ⟨xs, n, _, _, _, hxl, hfld⟩ := DataW.trod_struct ht h
  have h1 := hfld i f hf
  have hi : i < fs.size := (Array.getElem?_eq_some_iff.1 hf).1
  rw [List.getElem?_eq_getElem (by omega)] at h1
  exact ho H enc w base spare held n _ _ h1
theorem trod_cells {P : Program} {t : TypeId} {fs : Array Field} {H : Type} {enc : TypeId × Value → H} {w : World} {base : Nat} {spare : Nat → Bool} {held : Bool} {fuel : Nat} {cs : List Value}
    {x : DataW H × List MemPlace} (ht : P.underlying t = some (.struct fs)) (h : DataW.trod enc P w base spare held fuel t cs = some x) : cs.length = P.cellsOf t := by
  obtain ⟨xs, n, _, _, hl, _, _⟩ := DataW.trod_struct ht h
  exact hl

/-- An argument that is a slice. -/
theorem open_arg {α : Type} {P : Program} {t e : TypeId} {L : Lay α} {ok : List α → Prop} (ht : P.underlying t = some (.slice e)) (ho : Opens P t L.slice ok) {H : Type} {enc : TypeId × Value → H} {r : Reach} {b0 : Nat} {w : World} {base : Nat}
    {spare : Nat → Bool} {held : Bool} {v : Value} {d : DataW H} {p : List MemPlace} (hv : Value.okWide P w r b0 t v) (h : DataW.Trod enc P w base spare held t v d p) :
    ∃ A c xs, v = .slice A xs.length c ∧ xs.length ≤ c ∧ ok xs ∧ L.Rd w A xs := by
  obtain ⟨A, n, c, rfl⟩ := okWide_slice ht hv
  obtain ⟨fuel, hf⟩ := h
  obtain ⟨xs, hok, A', c', hcs, hl, hr⟩ := ho H enc w base spare held fuel _ _ hf
  simp [Value.cells] at hcs
  obtain ⟨rfl, rfl, rfl⟩ := hcs
  exact ⟨A, c, xs, rfl, hl, hok, hr⟩
end Go.Proofs.Ytcdlfnhjpjpbjaa
