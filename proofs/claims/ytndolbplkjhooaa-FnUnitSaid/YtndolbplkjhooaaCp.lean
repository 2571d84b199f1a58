/- Copies of the call's own, made between two sizes of the heap; what stays over calls and over marks. -/
import Derived.Test.YtndolbplkjhooaaDab
import Derived.Test.YtndolbplkjhooaaTTo0
namespace Go.Proofs.Ytndolbplkjhooaa
open Go Go.RowKit

/-- Between two sizes. -/
def Rng (lo hi b : Nat) : Prop := lo ≤ b ∧ b < hi
/-- A block of a copy: made between two sizes of the heap, may be written. -/
def Cp (lo hi : Nat) (w : World) (b : Nat) : Prop := lo ≤ b ∧ b < hi ∧ hi ≤ w.heap.size ∧ ∀ o, w.frozen? ⟨b, o, none⟩ = false
theorem Cp.up {lo hi : Nat} {w w' : World} {b : Nat} (h : Cp lo hi w b) (hb : Below w.heap.size w w') : Cp lo hi w' b :=
  ⟨h.1, h.2.1, Nat.le_trans h.2.2.1 hb.size, fun o => (World.frozen?_of_block (a := ⟨b, o, none⟩) (hb.block b (by have := h.2.1; have := h.2.2.1; omega))).trans (h.2.2.2 o)⟩
theorem Cp.lt {lo hi : Nat} {w : World} {b : Nat} (h : Cp lo hi w b) : b < w.heap.size := Nat.lt_of_lt_of_le h.2.1 h.2.2.1
section
variable {α : Type} {L : Lay α} {w w' : World} {lo hi : Nat} {A : Option Addr} {xs : List α}
theorem Lay.Sl.cp_of (h : L.Sl w (Own lo w) A xs) : L.Sl w (Cp lo w.heap.size w) A xs := h.mono fun _ h => ⟨h.1, h.2.1, Nat.le_refl _, h.2.2⟩
theorem Lay.Sl.own_rd (h : L.Sl w (Own lo w) A xs) : L.Rd w A xs := h.mono fun _ h => h.2.1
theorem Lay.Sl.cp_up (h : L.Sl w (Cp lo hi w) A xs) (hb : Below w.heap.size w w') : L.Sl w' (Cp lo hi w') A xs :=
  (h.below hb (fun _ h => h.lt)).mono fun _ h => h.up hb
theorem Lay.Sl.cp_rd (h : L.Sl w (Cp lo hi w) A xs) : L.Rd w A xs := h.mono fun _ h => h.lt
theorem Cp.dab {G : Nat → Prop} {b : Nat} (h : Cp lo hi w b) (hd : Dab G w w') : Cp lo hi w' b :=
  ⟨h.1, h.2.1, Nat.le_trans h.2.2.1 hd.size, fun o => (hd.frz ⟨b, o, none⟩ h.lt).trans (h.2.2.2 o)⟩
theorem Lay.Sl.cp_dab {G : Nat → Prop} (h : L.Sl w (Cp lo hi w) A xs) (hd : Dab G w w') (hG : ∀ b, lo ≤ b → b < hi → ¬ G b) : L.Sl w' (Cp lo hi w') A xs :=
  (h.dab hd (fun b h => ⟨h.lt, hG b h.1 h.2.1⟩)).mono fun _ h => h.dab hd
theorem Lay.Sl.cp_mk {G : Nat → Prop} (h : L.Sl w' (Cp lo hi w) A xs) (hd : Dab G w w') : L.Sl w' (Cp lo hi w') A xs := h.mono fun _ h => h.dab hd
theorem Dab.rng (hd : Dab (Cp lo hi w) w w') : Dab (Rng lo hi) w w' := hd.mono fun _ h => ⟨h.1, h.2.1⟩
end
theorem box_dab {G : Nat → Prop} {w w' : World} {i : Nat} {cs : Array Value} {t : TypeId} (h : w.heap[i]? = some (.cells cs t (0, 0))) (hd : Dab G w w') (hG : ¬ G i) : w'.heap[i]? = some (.cells cs t (0, 0)) :=
  (hd.block i (by have := Array.getElem?_eq_some_iff.1 h; exact this.1) hG).trans h
theorem below_rng {B lo hi : Nat} {a w w' : World} (h : Below B a w) (k : Dab (Rng lo hi) w w') (hB : B ≤ w.heap.size) (hl : B ≤ lo) : Below B a w' :=
  below_dab h k hB fun _ hb => Nat.le_trans hl hb.1
/-- A row of the call's own may be written. -/
theorem own_of_row {α : Type} {L : Lay α} {w : World} {base n c : Nat} {e : TypeId} {size : Nat} {A : Option Addr} {cs : List Value} {xs : List α} (h : w.ownsRow base e size (.slice A n c) n cs) (hs : L.Sl w (fun b => base ≤ b ∧ b < w.heap.size) A xs) (hflat : ∀ (F G : Nat → Prop) x vs, L.R w F x vs → L.R w G x vs) : L.Sl w (Own base w) A xs := fun hn => by
  obtain ⟨ad, e, hf, hc⟩ := hs hn
  subst e
  have hfz : ∀ o, w.frozen? ⟨ad.block, o, none⟩ = false := fun o => by
    rcases h.2 with ⟨e, _⟩ | ⟨g, cap, cur, e, _, hg, _⟩
    · cases e
    · injection e with e1 e2 e3
      injection e1 with e1
      subst e1
      unfold World.frozen?
      rw [hg]
      simp
  refine ⟨ad, rfl, ⟨hf.1, hf.2, hfz⟩, fun k x hx => ?_⟩
  obtain ⟨vs, hr, hcell⟩ := hc k x hx
  exact ⟨vs, hflat _ _ _ _ hr, hcell⟩
end Go.Proofs.Ytndolbplkjhooaa
