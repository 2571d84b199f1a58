/- Draws: what a reader's user leaves; a number of a list. -/
import Derived.Test.YtcdlfnhjpjpbjaaRdr
import Derived.Test.YtcdlfnhjpjpbjaaRow
namespace Go.Proofs.Ytcdlfnhjpjpbjaa
open Go Go.RowKit

theorem own_of_heap {w w' : World} {base : Nat} {e : TypeId} {size n : Nat} {v : Value} {xs : List Value} (h : w.ownsRow base e size v n xs) (hk : ∀ g, v.ownBlock = some g → w'.heap[g]? = w.heap[g]?) : w'.ownsRow base e size v n xs := by
  refine ⟨h.1, ?_⟩
  rcases h.2 with hn | ⟨g, cap, cur, rfl, hb, hgg, rest⟩
  · exact .inl hn
  · exact .inr ⟨g, cap, cur, rfl, hb, (hk g rfl).trans hgg, rest⟩
/-- But for the blocks S nothing turned. -/
structure Gr (S : Nat → Prop) (w w' : World) : Prop where
  os : w'.os = w.os
  tape : w'.tape = w.tape
  output : w'.output = w.output
  size : w.heap.size ≤ w'.heap.size
  block : ∀ i, i < w.heap.size → ¬ S i → w'.heap[i]? = w.heap[i]?
theorem Gr.refl (S : Nat → Prop) (w : World) : Gr S w w := ⟨rfl, rfl, rfl, Nat.le_refl _, fun _ _ _ => rfl⟩
theorem Gr.trans {S : Nat → Prop} {a b c : World} (h : Gr S a b) (k : Gr S b c) : Gr S a c :=
  ⟨k.os.trans h.os, k.tape.trans h.tape, k.output.trans h.output, Nat.le_trans h.size k.size, fun i hi hn => (k.block i (Nat.lt_of_lt_of_le hi h.size) hn).trans (h.block i hi hn)⟩
theorem Gr.mono {S T : Nat → Prop} {a b : World} (h : Gr S a b) (hST : ∀ x, S x → T x) : Gr T a b := ⟨h.os, h.tape, h.output, h.size, fun i hi hn => h.block i hi (fun e => hn (hST i e))⟩
theorem Gr.below {S : Nat → Prop} {w w' : World} (h : Below w.heap.size w w') : Gr S w w' := ⟨h.os, h.tape, h.output, h.size, fun i hi _ => h.block i hi⟩
theorem Gr.up {S : Nat → Prop} {a w w' : World} (h : Gr S a w) (hb : Below w.heap.size w w') : Gr S a w' := h.trans (.below hb)
theorem Gr.one {S : Nat → Prop} {w w' : World} {g : Nat} (h : w.grownBy w' (some g)) (hg : S g) : Gr S w w' := ⟨h.os, h.tape, h.output, h.size, fun i hi hn => h.block i hi (fun e => by injection e with e; exact hn (e ▸ hg))⟩
theorem Gr.set {S : Nat → Prop} {a w : World} (h : Gr S a w) (g o : Nat) (u : Value) (hg : S g ∨ a.heap.size ≤ g) : Gr S a (w.setCell ⟨g, o, none⟩ u) :=
  ⟨h.os, h.tape, h.output, by rw [size_setCell]; exact h.size, fun i hi hn => (Below.heap_setCell w ⟨g, o, none⟩ u i (fun e => hg.elim (fun h9 => hn (by rw [e]; exact h9)) (fun h9 => by rw [e] at hi; exact absurd hi (by show ¬ g < _; omega)))).trans (h.block i hi hn)⟩
/-- A row of one's own has grown. -/
theorem Gr.own {S : Nat → Prop} {a w w' : World} {row : Option Nat} (h : Gr S a w) (k : w.grownBy w' row) (hr : ∀ g, row = some g → a.heap.size ≤ g) : Gr S a w' :=
  ⟨k.os.trans h.os, k.tape.trans h.tape, k.output.trans h.output, Nat.le_trans h.size k.size, fun i hi hn => (k.block i (Nat.lt_of_lt_of_le hi h.size) (fun e => by have := hr i e.symm; omega)).trans (h.block i hi hn)⟩
/-- From the blocks of a later start on, all is the caller's gain. -/
theorem Gr.then {S T : Nat → Prop} {a b c : World} (h : Gr S a b) (k : Gr T b c) (hT : ∀ x, T x → S x ∨ a.heap.size ≤ x) : Gr S a c :=
  ⟨k.os.trans h.os, k.tape.trans h.tape, k.output.trans h.output, Nat.le_trans h.size k.size, fun i hi hn => (k.block i (Nat.lt_of_lt_of_le hi h.size) (fun e => (hT i e).elim hn (fun h9 => by omega))).trans (h.block i hi hn)⟩
theorem Gr.to_below {S : Nat → Prop} {a b : World} (h : Gr S a b) (hS : ∀ x, S x → a.heap.size ≤ x) : Below a.heap.size a b := ⟨h.os, h.tape, h.output, h.size, fun i hi => h.block i hi (fun e => by have := hS i e; omega)⟩
theorem Gr.to_below' {S : Nat → Prop} {B : Nat} {a b : World} (h : Gr S a b) (hB : B ≤ a.heap.size) (hS : ∀ x, S x → B ≤ x) : Below B a b := ⟨h.os, h.tape, h.output, h.size, fun i hi => h.block i (by omega) (fun e => by have := hS i e; omega)⟩
theorem Gr.heap {S : Nat → Prop} {w w' : World} {g : Nat} {o : Obj} (h : Gr S w w') (hg : ¬ S g) (hb : w.heap[g]? = some o) : w'.heap[g]? = some o := (h.block g (Array.getElem?_eq_some_iff.1 hb).1 hg).trans hb
theorem Rdr.gr {S : Nat → Prop} {w w' : World} {r : Nat} {p : Int} (h : Rdr w r p) (k : Gr S w w') (hS : ∀ x, S x → r < x) : Rdr w' r p :=
  h.keep fun b hb => k.block b (Nat.lt_of_le_of_lt hb h.lt) (fun e => by have := hS b e; omega)
theorem Rdr.own {w w' : World} {r : Nat} {p : Int} {row : Option Nat} (h : Rdr w r p) (k : w.grownBy w' row) (hr : ∀ g, row = some g → r < g) : Rdr w' r p :=
  h.keep fun b hb => k.block b (Nat.lt_of_le_of_lt hb h.lt) (fun e => by have := hr b e.symm; omega)
theorem Rdr.set {w : World} {r g o : Nat} {p : Int} {u : Value} (h : Rdr w r p) (hg : r < g) : Rdr (w.setCell ⟨g, o, none⟩ u) r p :=
  h.keep fun b hb => Below.heap_setCell w ⟨g, o, none⟩ u b (fun e => by have : b = g := e; omega)
/-- What stays: data that do not lie in the blocks S. -/
def Ab (S : Nat → Prop) (w : World) (b : Nat) : Prop := b < w.heap.size ∧ ¬ S b
theorem Lay.Sl.gr {α : Type} {L : Lay α} {w w' : World} {S : Nat → Prop} {A : Option Addr} {xs : List α} (h : L.Sl w (Ab S w) A xs) (hg : Gr S w w') : L.Sl w' (Ab S w') A xs :=
  (h.keep fun b hb => hg.block b hb.1 hb.2).mono fun b hb => ⟨Nat.lt_of_lt_of_le hb.1 hg.size, hb.2⟩
theorem Lay.Sl.ab_rd {α : Type} {L : Lay α} {w : World} {S : Nat → Prop} {A : Option Addr} {xs : List α} (h : L.Sl w (Ab S w) A xs) : L.Rd w A xs := h.mono fun _ h => h.1
theorem Lay.Sl.ab_mono {α : Type} {L : Lay α} {w : World} {S T : Nat → Prop} {A : Option Addr} {xs : List α} (h : L.Sl w (Ab S w) A xs) (hT : ∀ b, b < w.heap.size → T b → S b) : L.Sl w (Ab T w) A xs := h.mono fun b h => ⟨h.1, fun e => h.2 (hT b h.1 e)⟩
abbrev NotIn (S : Nat → Prop) : World → Nat → Prop := fun _ b => ¬ S b
theorem Stay.notIn (S : Nat → Prop) : Stay (NotIn S) := fun _ _ _ _ h => h
theorem OwnL.gr {α : Type} {L : Lay α} {e : TypeId} {w w' : World} {lo : Nat} {S : Nat → Prop} {v : Value} {xs : List α} (h : OwnL L (NotIn S) e w lo v xs) (hg : Gr S w w') (hr : ∀ b, S b → b < lo) : OwnL L (NotIn S) e w' lo v xs := by
  obtain ⟨cs, h1, h2⟩ := h
  refine ⟨cs, own_of_heap h1 fun g hg' => hg.block g (h1.lt g hg').2 (fun e => by have := hr g e; have := (h1.lt g hg').1; omega), fun i x hx => ?_⟩
  obtain ⟨vs, hr, hu⟩ := h2 i x hx
  exact ⟨vs, L.mono (fun b hb => ⟨Nat.lt_of_lt_of_le hb.1 hg.size, hb.2.1, hb.2.2⟩) (L.keep (fun b hb => hg.block b hb.1 hb.2.2) hr), hu⟩
theorem OwnL.ab {α : Type} {L : Lay α} {e : TypeId} {w : World} {lo : Nat} {S : Nat → Prop} {A : Option Addr} {c : Nat} {xs : List α} (h : OwnL L (NotIn S) e w lo (.slice A xs.length c) xs) (hr : ∀ b, S b → b < lo) : L.Sl w (Ab S w) A xs :=
  h.sl.mono fun b hb => ⟨hb.1, hb.2.elim (fun h e => by have := hr b e; have := h.1; omega) id⟩
/-- The reader has gone on by at most N places; but for its block nothing turned. -/
def Drawn (r : Nat) (p N : Int) (w w' : World) : Prop := ∃ p', p ≤ p' ∧ p' ≤ p + N ∧ Rdr w' r p' ∧ Gr (fun b => b = r) w w'
theorem num_any (r : Nat) (p : Int) (B : Option Addr) (d : Nat) (xs : List Int) (w : World) (h : Rdr w r p) (hs : Lay.int.Sl w (Ab (fun b => b = r) w) B xs) (h0 : 0 < xs.length) (hn : xs.length ≤ 1048576) (p0 : 0 ≤ p) (p1 : p ≤ 1000000000) :
    Calls Try.prog 53 #[.pointer (some ⟨r, 0, none⟩), .slice B xs.length d] w fun e w' => ∃ x ∈ xs, e = .returned (.int .i64 x) ∧ Rdr w' r (p + 1) ∧ Gr (fun b => b = r) w w' := by
  go_enter Try.func53, Try.ntmps53
  go_wp2_with fail
  refine (pick_any r p xs.length w h p0 p1 (by omega) (by omega)).mono ?_
  rintro e w' ⟨k, rfl, k0, k1, _, hR, hg⟩
  have hk := k1 (by omega)
  have hg := Gr.one (S := fun b => b = r) hg rfl
  obtain ⟨n, rfl⟩ := Int.eq_ofNat_of_zero_le k0
  have hnl : n < xs.length := by omega
  obtain ⟨ad, rfl, _, hc⟩ := (hs.gr hg).at_int hnl
  have hm : xs[n] ∈ xs := List.getElem_mem hnl
  generalize xs[n] = x at *
  have HR := Lib.hid (And.intro hm (And.intro hR hg))
  clear hR hg hm k1 hs h
  go_wp2
  go_ret
  exact ⟨x, HR.out.1, rfl, HR.out.2⟩
end Go.Proofs.Ytcdlfnhjpjpbjaa
