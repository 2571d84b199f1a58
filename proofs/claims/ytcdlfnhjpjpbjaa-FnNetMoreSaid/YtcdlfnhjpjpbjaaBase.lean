/- Words for memory: what a slice of a value type reads as; frames. No program is named here. -/
import Derived.WalkKit
import Derived.WalkSpells
import Derived.WalkLawsBesides
import Derived.Lib.Hide
import Derived.BigQuiet
import Derived.Deep.QuietTactic
import Derived.Laws.OwnMore
import Derived.Deep.AppendLies
import Derived.Deep.Draws
import Derived.Maps.AppendAt
namespace Go.Proofs.Ytcdlfnhjpjpbjaa
open Go Go.RowKit

theorem block_of_add (a : Addr) (n : Nat) : (a.add n).block = a.block := by unfold Addr.add; split <;> rfl
theorem add_of_add (a : Addr) (i j : Nat) : (a.add i).add j = a.add (i + j) := by
  unfold Addr.add
  by_cases hi : i = 0 <;> by_cases hj : j = 0 <;> simp [hi, hj, Nat.add_assoc]

/-- How a Lean value lies in cells: 'R w F x vs': the cells vs are x, read in the world w, and all that they lead to lies in the blocks F. -/
structure Lay (α : Type) where
  size : Nat
  R : World → (Nat → Prop) → α → List Value → Prop
  len : ∀ {w F x vs}, R w F x vs → vs.length = size
  keep : ∀ {w w' F x vs}, (∀ b, F b → w'.heap[b]? = w.heap[b]?) → R w F x vs → R w' F x vs
  mono : ∀ {w F G x vs}, (∀ b, F b → G b) → R w F x vs → R w G x vs

/-- The slice value '.slice A xs.length c' reads as xs. -/
def Lay.Sl {α : Type} (L : Lay α) (w : World) (F : Nat → Prop) (A : Option Addr) (xs : List α) : Prop :=
  0 < xs.length → ∃ ad, A = some ad ∧ F ad.block ∧ ∀ k x, xs[k]? = some x → ∃ vs, L.R w F x vs ∧ ∀ j u, vs[j]? = some u → w.cell? (ad.add (k * L.size + j)) = some u

theorem Lay.Sl.nil {α : Type} (L : Lay α) (w : World) (F : Nat → Prop) (A : Option Addr) : L.Sl w F A [] := fun h => absurd h (by simp)
theorem Lay.Sl.keep {α : Type} {L : Lay α} {w w' : World} {F : Nat → Prop} {A : Option Addr} {xs : List α} (h : L.Sl w F A xs) (hk : ∀ b, F b → w'.heap[b]? = w.heap[b]?) : L.Sl w' F A xs := fun hn => by
  obtain ⟨ad, e, hf, hc⟩ := h hn
  refine ⟨ad, e, hf, fun k x hx => ?_⟩
  obtain ⟨vs, hr, hcell⟩ := hc k x hx
  exact ⟨vs, L.keep hk hr, fun j u hu => (World.cell?_of_block (w := w) (by rw [block_of_add]; exact hk _ hf)).trans (hcell j u hu)⟩
theorem Lay.Sl.mono {α : Type} {L : Lay α} {w : World} {F G : Nat → Prop} {A : Option Addr} {xs : List α} (h : L.Sl w F A xs) (hk : ∀ b, F b → G b) : L.Sl w G A xs := fun hn => by
  obtain ⟨ad, e, hf, hc⟩ := h hn
  refine ⟨ad, e, hk _ hf, fun k x hx => ?_⟩
  obtain ⟨vs, hr, hcell⟩ := hc k x hx
  exact ⟨vs, L.mono hk hr, hcell⟩

theorem Lay.Sl.take {α : Type} {L : Lay α} {w : World} {F : Nat → Prop} {A : Option Addr} {xs : List α} (h : L.Sl w F A xs) (n : Nat) : L.Sl w F A (xs.take n) := fun hn => by
  obtain ⟨ad, e, hf, hc⟩ := h (by simp at hn; omega)
  refine ⟨ad, e, hf, fun k x hx => hc k x ?_⟩
  rw [List.getElem?_take] at hx
  split at hx
  · exact hx
  · cases hx

/-- A slice as an element: one cell. -/
def Lay.slice {α : Type} (L : Lay α) : Lay (List α) where
  size := 1
  R w F xs vs := ∃ A c, vs = [.slice A xs.length c] ∧ xs.length ≤ c ∧ L.Sl w F A xs
  len := by rintro w F x vs ⟨A, c, rfl, _⟩; rfl
  keep := by rintro w w' F x vs hk ⟨A, c, rfl, hl, h⟩; exact ⟨A, c, rfl, hl, h.keep hk⟩
  mono := by rintro w F G x vs hk ⟨A, c, rfl, hl, h⟩; exact ⟨A, c, rfl, hl, h.mono hk⟩

/-- A value whose cells lead nowhere. -/
def Lay.flat {α : Type} (n : Nat) (cells : α → List Value) (h : ∀ x, (cells x).length = n) : Lay α where
  size := n
  R _ _ x vs := vs = cells x
  len := by rintro w F x vs rfl; exact h x
  keep := by rintro w w' F x vs _ h; exact h
  mono := by rintro w F G x vs _ h; exact h

def Lay.int : Lay Int := Lay.flat 1 (fun x => [.int .i64 x]) (fun _ => rfl)
def Lay.bool : Lay Bool := Lay.flat 1 (fun x => [.bool x]) (fun _ => rfl)
def Lay.byte : Lay UInt8 := Lay.flat 1 (fun x => [.int .u8 (x.toNat : Int)]) (fun _ => rfl)
def Lay.str : Lay ByteArray := Lay.flat 1 (fun x => [.string x]) (fun _ => rfl)

theorem Lay.Sl.at_int {w : World} {F : Nat → Prop} {A : Option Addr} {xs : List Int} (h : Lay.int.Sl w F A xs) {k : Nat} (hk : k < xs.length) :
    ∃ ad, A = some ad ∧ F ad.block ∧ w.cell? (ad.add k) = some (.int .i64 xs[k]) := by
  obtain ⟨ad, e, hf, hc⟩ := h (by omega)
  obtain ⟨vs, rfl, hcell⟩ := hc k xs[k] (List.getElem?_eq_getElem hk)
  exact ⟨ad, e, hf, by simpa [Lay.int, Lay.flat] using hcell 0 _ rfl⟩
theorem Lay.Sl.at_bool {w : World} {F : Nat → Prop} {A : Option Addr} {xs : List Bool} (h : Lay.bool.Sl w F A xs) {k : Nat} (hk : k < xs.length) :
    ∃ ad, A = some ad ∧ F ad.block ∧ w.cell? (ad.add k) = some (.bool xs[k]) := by
  obtain ⟨ad, e, hf, hc⟩ := h (by omega)
  obtain ⟨vs, rfl, hcell⟩ := hc k xs[k] (List.getElem?_eq_getElem hk)
  exact ⟨ad, e, hf, by simpa [Lay.bool, Lay.flat] using hcell 0 _ rfl⟩
theorem Lay.Sl.at_byte {w : World} {F : Nat → Prop} {A : Option Addr} {xs : List UInt8} (h : Lay.byte.Sl w F A xs) {k : Nat} (hk : k < xs.length) :
    ∃ ad, A = some ad ∧ F ad.block ∧ w.cell? (ad.add k) = some (.int .u8 (xs[k].toNat : Int)) := by
  obtain ⟨ad, e, hf, hc⟩ := h (by omega)
  obtain ⟨vs, rfl, hcell⟩ := hc k xs[k] (List.getElem?_eq_getElem hk)
  exact ⟨ad, e, hf, by simpa [Lay.byte, Lay.flat] using hcell 0 _ rfl⟩
theorem Lay.Sl.at_slice {α : Type} {L : Lay α} {w : World} {F : Nat → Prop} {A : Option Addr} {xs : List (List α)} (h : L.slice.Sl w F A xs) {k : Nat} (hk : k < xs.length) :
    ∃ ad A' c', A = some ad ∧ F ad.block ∧ w.cell? (ad.add k) = some (.slice A' xs[k].length c') ∧ xs[k].length ≤ c' ∧ L.Sl w F A' xs[k] := by
  obtain ⟨ad, e, hf, hc⟩ := h (by omega)
  obtain ⟨vs, ⟨A', c', rfl, hl, hs⟩, hcell⟩ := hc k xs[k] (List.getElem?_eq_getElem hk)
  exact ⟨ad, A', c', e, hf, by simpa [Lay.slice] using hcell 0 _ rfl, hl, hs⟩

/-- What the call owns reads so. -/
theorem Lay.Sl.of_own {α : Type} {L : Lay α} {w : World} {F : Nat → Prop} {base : Nat} {e : TypeId} {A : Option Addr} {n c : Nat} {cs : List Value} {xs : List α}
    (h : w.ownsRow base e L.size (.slice A n c) n cs) (hn : n = xs.length) (hF : ∀ g, base ≤ g → g < w.heap.size → F g)
    (hx : ∀ k x, xs[k]? = some x → ∃ vs, L.R w F x vs ∧ ∀ j u, vs[j]? = some u → cs[k * L.size + j]? = some u) : L.Sl w F A xs := by
  intro h0
  obtain ⟨g, cap, hv, hg, hlt⟩ := h.form (by omega)
  have hA : A = some ⟨g, 0, none⟩ := by injection hv
  subst hA
  refine ⟨_, rfl, hF _ hg hlt, fun k x hk => ?_⟩
  obtain ⟨vs, hr, hcs⟩ := hx k x hk
  exact ⟨vs, hr, fun j u hu => h.cells (g := g) rfl _ _ (hcs j u hu)⟩

theorem bcell {W w1 : World} {B : Nat} (hb : Below B W w1) : (∀ b o, b < B → w1.cell? ⟨b, o, none⟩ = W.cell? ⟨b, o, none⟩) ∧ (∀ b o, b < B → w1.frozen? ⟨b, o, none⟩ = W.frozen? ⟨b, o, none⟩) :=
  ⟨fun b o h => hb.cell (p := ⟨b, o, none⟩) h, fun b o h => hb.frozen (p := ⟨b, o, none⟩) h⟩

theorem Lay.Sl.below {α : Type} {L : Lay α} {w w' : World} {B : Nat} {F : Nat → Prop} {A : Option Addr} {xs : List α} (h : L.Sl w F A xs) (hb : Below B w w') (hF : ∀ b, F b → b < B) : L.Sl w' F A xs :=
  h.keep fun b hf => hb.block b (hF b hf)

/-- Read-only: all that the slice leads to is there. -/
abbrev Lay.Rd {α : Type} (L : Lay α) (w : World) (A : Option Addr) (xs : List α) : Prop := L.Sl w (fun b => b < w.heap.size) A xs
theorem Lay.Sl.up {α : Type} {L : Lay α} {w w' : World} {A : Option Addr} {xs : List α} (h : L.Rd w A xs) (hb : Below w.heap.size w w') : L.Rd w' A xs :=
  (h.below hb (fun _ h => h)).mono fun b hlt => Nat.lt_of_lt_of_le hlt hb.size
theorem Lay.Sl.rd {α : Type} {L : Lay α} {w : World} {lo : Nat} {A : Option Addr} {xs : List α} (h : L.Sl w (fun b => lo ≤ b ∧ b < w.heap.size) A xs) : L.Rd w A xs := h.mono fun _ h => h.2
theorem below_drewN {B : Nat} {a w : World} (h : Below B a w) (n : Nat) : Below B a (w.drewN n) := ⟨h.os, h.tape, h.output, h.size, h.block⟩
/-- One call behind another. -/
theorem bthen {a w w' : World} (h : Below a.heap.size a w) (h' : Below w.heap.size w w') : Below a.heap.size a w' := h.trans (h'.mono h.size)

theorem own_kept_lt {w w' : World} {base r : Nat} {e : TypeId} {size n : Nat} {v : Value} {xs : List Value} (h : w.ownsRow base e size v n xs) (hg : w.grownBy w' (some r)) (hr : r < base) : w'.ownsRow base e size v n xs :=
  h.kept hg (by
    rcases hv : v.ownBlock with _ | g
    · exact .inl rfl
    · refine .inr (fun e => ?_)
      have := (h.lt g hv).1
      injection e with e; omega)
theorem below_one {B r : Nat} {a w w' : World} (h : Below B a w) (hg : w.grownBy w' (some r)) (hr : B ≤ r) (hB : B ≤ w.heap.size) : Below B a w' :=
  h.grown hg hB (fun k hk => by injection hk with hk; omega)
theorem own_below {w w' : World} {base B : Nat} {e : TypeId} {size n : Nat} {v : Value} {xs : List Value} (h : w.ownsRow base e size v n xs) (hb : Below B w w') (hB : w.heap.size ≤ B) : w'.ownsRow base e size v n xs :=
  h.kept (row := none) ⟨hb.os, hb.tape, hb.output, hb.size, fun k hk _ => hb.block k (Nat.lt_of_lt_of_le hk hB)⟩ (by
    rcases v.ownBlock with _ | g
    · exact .inl rfl
    · exact .inr (by simp))

/-- 'append(s, x)' of one element of one cell, onto a row of the call's own; x lies in the block that was just laid for it. -/
theorem wpList_append1 {P : Program} {W : World} {ops : Array Oper} {rest : List Oper} {o : Oper} {a : Act} {Q : Exit → Act → World → Prop} (hgd : o.guard = none) (s x : Operand) (t : TypeId)
    (ho : o.op = .call { callee := .builtin .append, args := #[s, x], argTypes := #[t, t] })
    (base : Nat) (e : TypeId) (i : TypeInfo) (z : Value) (bytes : Nat) (ht : P.underlying t = some (.slice e)) (hi : P.info? e = some i) (hz : i.zero = some z)
    (hsize : i.size = 1) (hby : i.bytes = bytes) (hzs : z.cells.size = 1)
    (v : Value) (n : Nat) (xs : List Value) (u : Value) (e' : TypeId) (hs : a.eval s = v) (hown : W.ownsRow base e 1 v n xs)
    (hx : a.eval x = .slice (some ⟨W.heap.size, 0, none⟩) 1 1) (h1 : u.oneCell' = true)
    (h63 : n + 1 ≤ maxLen) (hbytes : (n + 1) * bytes ≤ 140737488355328) (hbase : base ≤ W.heap.size)
    (h : ∀ v' w', w'.ownsRow base e 1 v' (n + 1) (xs ++ [u]) → Below base W w' → wpList P ops Q rest (a.put o.dst v') w') : wpList P ops Q (o :: rest) a (W.alloc (.cells #[u] e')) := by
  refine wpList_append_own _ hgd s x t ho base e i z 1 bytes ht hi hz hsize hby hzs (by decide) v n xs hs (hown.alloc _) ⟨W.heap.size, 0, none⟩ 1 1 [u] hx rfl
    (cell_one_new _ _ _) (by simpa using h1) h63 hbytes (by simp; omega) ?_
  intro v' w' hown' hg _
  exact h v' w' hown' (((Below.refl _ _).alloc hbase _).grown hg (by simp; omega) (fun k hk => (hown.lt k hk).1))

theorem ret_int {k : IntKind} {a b : Int} (h : a = b) : Ending.returned (.int k a) = .returned (.int k b) := by rw [h]
theorem ret_bool {a b : Bool} (h : a = b) : Ending.returned (.bool a) = .returned (.bool b) := by rw [h]
def RetB (w : World) (b : Bool) (e : Ending) (w' : World) : Prop := e = .returned (.bool b) ∧ Below w.heap.size w w'
def i64s (xs : List Int) : Prop := ∀ l ∈ xs, -9223372036854775808 ≤ l ∧ l ≤ 9223372036854775807
end Go.Proofs.Ytcdlfnhjpjpbjaa
