/- Words on sizes and copies. No program is named here. -/
import Derived.Test.YtcdlfnhjpjpbjaaOpenT
namespace Go.Proofs.Ytcdlfnhjpjpbjaa
open Go Go.RowKit
def szRes (left : Int) (n : Nat) : Int := if left < n then -1 else left - n
theorem szRes_lt {l : Int} {n : Nat} (h : l < n) : szRes l n = -1 := by simp [szRes, h]
theorem szRes_ge {l : Int} {n : Nat} (h : ¬ l < n) : szRes l n = l - n := by simp [szRes, h]
def wsum {α : Type} (f : α → Nat) : List α → Nat
  | [] => 0
  | x :: xs => f x + wsum f xs
theorem wsum_take {α : Type} (f : α → Nat) : ∀ (xs : List α) (k : Nat) (h : k < xs.length), wsum f (xs.take (k + 1)) = wsum f (xs.take k) + f xs[k]
  | x :: xs, 0, h => by simp [wsum]
  | x :: xs, k + 1, h => by
    have := wsum_take f xs k (by simpa using h)
    simp only [List.take_succ_cons, wsum, List.getElem_cons_succ] at this ⊢
    omega
theorem wsum_le {α : Type} (f : α → Nat) : ∀ (xs : List α) (k : Nat), wsum f (xs.take k) ≤ wsum f xs
  | [], k => by simp [wsum]
  | x :: xs, 0 => by simp [wsum]
  | x :: xs, k + 1 => by
    have := wsum_le f xs k
    simp only [List.take_succ_cons, wsum]; omega
theorem wsum_mem {α : Type} (f : α → Nat) : ∀ {xs : List α} {x : α}, x ∈ xs → f x ≤ wsum f xs
  | y :: xs, x, h => by
    simp only [wsum]
    rcases List.mem_cons.1 h with rfl | h
    · omega
    · have := wsum_mem f h; omega
/-- The block is the call's own, and may be written. -/
def Own (lo : Nat) (w : World) (b : Nat) : Prop := lo ≤ b ∧ b < w.heap.size ∧ ∀ o, w.frozen? ⟨b, o, none⟩ = false
theorem Own.up {lo : Nat} {w w' : World} {b : Nat} (h : Own lo w b) (hb : Below w.heap.size w w') : Own lo w' b :=
  ⟨h.1, Nat.lt_of_lt_of_le h.2.1 hb.size, fun o => ((bcell hb).2 b o h.2.1).trans (h.2.2 o)⟩
theorem Own.set {lo : Nat} {w : World} {b : Nat} (h : Own lo w b) (p : Addr) (u : Value) : Own lo (w.setCell p u) b :=
  ⟨h.1, by simpa [World.setCell] using h.2.1, fun o => by rw [World.frozen?_setCell]; exact h.2.2 o⟩
theorem Own.mono {lo lo' : Nat} {w : World} {b : Nat} (h : Own lo w b) (hl : lo' ≤ lo) : Own lo' w b := ⟨Nat.le_trans hl h.1, h.2.1, h.2.2⟩
theorem Lay.Sl.own_up {α : Type} {L : Lay α} {w w' : World} {lo : Nat} {A : Option Addr} {xs : List α} (h : L.Sl w (Own lo w) A xs) (hb : Below w.heap.size w w') : L.Sl w' (Own lo w') A xs :=
  (h.below hb (fun _ h => h.2.1)).mono fun _ h => h.up hb
theorem Lay.Sl.own_set {α : Type} {L : Lay α} {w : World} {lo : Nat} {A : Option Addr} {xs : List α} (h : L.Sl w (Own lo w) A xs) (p : Addr) (u : Value) (hp : p.block < lo) : L.Sl (w.setCell p u) (Own lo (w.setCell p u)) A xs :=
  (h.far p u fun b hb e => by have := hb.1; omega).mono fun _ h => h.set p u
theorem Lay.Sl.own_mono {α : Type} {L : Lay α} {w : World} {lo lo' : Nat} {A : Option Addr} {xs : List α} (h : L.Sl w (Own lo w) A xs) (hl : lo' ≤ lo) : L.Sl w (Own lo' w) A xs := h.mono fun _ h => h.mono hl
theorem Own.ofRow {w : World} {base lo g n c : Nat} {e : TypeId} {size : Nat} {cs : List Value} (h : w.ownsRow base e size (.slice (some ⟨g, 0, none⟩) n c) n cs) (hl : lo ≤ g) : Own lo w g :=
  ⟨hl, (h.lt g rfl).2, fun o => h.frozenAt o⟩

/-- What a function returns that makes a slice of its own, which may be written. -/
def RetO {α : Type} (L : Lay α) (w : World) (xs : List α) (e : Ending) (w' : World) : Prop :=
  ∃ A c, e = .returned (.slice A xs.length c) ∧ xs.length ≤ c ∧ L.Sl w' (Own w.heap.size w') A xs ∧ Below w.heap.size w w'

def setAt : List Value → Nat → List Value → List Value
  | cs, _, [] => cs
  | cs, p, v :: vs => setAt (cs.set p v) (p + 1) vs
theorem setAt_out : ∀ (vs cs : List Value) (p i : Nat), i < p ∨ p + vs.length ≤ i → (setAt cs p vs)[i]? = cs[i]?
  | [], _, _, _, _ => rfl
  | v :: vs, cs, p, i, h => by
    simp only [setAt]
    simp only [List.length_cons] at h
    rw [setAt_out vs _ _ i (by omega), List.getElem?_set_ne (by omega)]
theorem setAt_in : ∀ (vs cs : List Value) (p j : Nat), j < vs.length → p + vs.length ≤ cs.length → (setAt cs p vs)[p + j]? = vs[j]?
  | v :: vs, cs, p, 0, _, h => by
    simp only [List.length_cons] at h
    simp only [setAt]
    rw [setAt_out vs _ _ _ (by omega), Nat.add_zero, List.getElem?_set_self (by omega)]
    rfl
  | v :: vs, cs, p, j + 1, hj, h => by
    simp only [List.length_cons] at h hj
    simp only [setAt]
    have := setAt_in vs (cs.set p v) (p + 1) j (by omega) (by simp; omega)
    rw [show p + (j + 1) = p + 1 + j by omega, this]
    rfl
/-- The first k elements of the row lie laid, behind lo. -/
def Laid {α : Type} (L : Lay α) (lo : Nat) (w : World) (k : Nat) (xs : List α) (cs : List Value) : Prop :=
  ∀ i x, i < k → xs[i]? = some x → ∃ vs, L.R w (Own lo w) x vs ∧ ∀ j u, vs[j]? = some u → cs[i * L.size + j]? = some u
theorem Laid.up {α : Type} {L : Lay α} {lo : Nat} {w w' : World} {k : Nat} {xs : List α} {cs : List Value} (h : Laid L lo w k xs cs) (hb : Below w.heap.size w w') : Laid L lo w' k xs cs := fun i x hi hx => by
  obtain ⟨vs, hr, hu⟩ := h i x hi hx
  exact ⟨vs, L.mono (fun _ h => h.up hb) (L.keep (fun b hB => hb.block b hB.2.1) hr), hu⟩
theorem Laid.set {α : Type} {L : Lay α} {lo : Nat} {w : World} {k : Nat} {xs : List α} {cs : List Value} (h : Laid L lo w k xs cs) (p : Addr) (u : Value) (hp : p.block < lo) : Laid L lo (w.setCell p u) k xs cs := fun i x hi hx => by
  obtain ⟨vs, hr, hu⟩ := h i x hi hx
  exact ⟨vs, L.mono (fun _ h => h.set p u) (L.keep (fun b hB => Below.heap_setCell w p u b (fun e => by have := hB.1; omega)) hr), hu⟩
/-- One element more. -/
theorem Laid.next {α : Type} {L : Lay α} {lo : Nat} {w : World} {k : Nat} {xs : List α} {cs vs : List Value} {x : α} (h : Laid L lo w k xs cs) (hx : xs[k]? = some x) (hr : L.R w (Own lo w) x vs) (hl : k * L.size + L.size ≤ cs.length) :
    Laid L lo w (k + 1) xs (setAt cs (k * L.size) vs) := fun i y hi hy => by
  have hvl := L.len hr
  rcases Nat.lt_or_ge i k with h' | h'
  · obtain ⟨us, hr', hu⟩ := h i y h' hy
    have hul := L.len hr'
    refine ⟨us, hr', fun j u hj => ?_⟩
    have hjl : j < L.size := by
      rcases Nat.lt_or_ge j us.length with h | h
      · omega
      · rw [List.getElem?_eq_none h] at hj; cases hj
    have hm : (i + 1) * L.size ≤ k * L.size := Nat.mul_le_mul_right _ h'
    rw [Nat.add_mul, Nat.one_mul] at hm
    rw [setAt_out _ _ _ _ (by omega)]
    exact hu j u hj
  · have : i = k := by omega
    subst this
    rw [hx] at hy; cases hy
    refine ⟨vs, hr, fun j u hj => ?_⟩
    have hjl : j < vs.length := by
      rcases Nat.lt_or_ge j vs.length with h | h
      · exact h
      · rw [List.getElem?_eq_none h] at hj; cases hj
    rw [setAt_in _ _ _ _ hjl (by omega)]
    exact hj
theorem Laid.done {α : Type} {L : Lay α} {w w' : World} {xs : List α} {cs : List Value} {e : TypeId} {n : Nat} (hn : n = xs.length) (h : Laid L (w.heap.size + 1) w' n xs cs)
    (ho : w'.ownsRow w.heap.size e L.size (.slice (some ⟨w.heap.size, 0, none⟩) n n) n cs) (hb : Below w.heap.size w w') : RetO L w xs (.returned (.slice (some ⟨w.heap.size, 0, none⟩) n n)) w' := by
  subst hn
  refine ⟨_, _, rfl, Nat.le_refl _, fun _ => ⟨_, rfl, Own.ofRow ho (Nat.le_refl _), fun k x hx => ?_⟩, hb⟩
  have hk : k < xs.length := by
    rcases Nat.lt_or_ge k xs.length with h | h
    · exact h
    · rw [List.getElem?_eq_none h] at hx; cases hx
  obtain ⟨vs, hr, hu⟩ := h k x hk hx
  exact ⟨vs, L.mono (fun _ h => h.mono (Nat.le_succ _)) hr, fun j u hj => ho.cells (g := w.heap.size) rfl _ _ (hu j u hj)⟩

end Go.Proofs.Ytcdlfnhjpjpbjaa
