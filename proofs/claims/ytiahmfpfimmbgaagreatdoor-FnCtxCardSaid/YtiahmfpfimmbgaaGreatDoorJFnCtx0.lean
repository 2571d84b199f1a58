/- Words for memory: what a slice of a value type reads as; frames. No program is named here. Regions that draw their order and whose callees make memory but hand back plain values: one walk in the order of the text, in every later world. No program is named here. Terms, declarations and layers, how they lie in memory. No program is named here. Declarations and environments: when they are right; their bits. No program is named here. Terms: their size and depth, when they are plain, their sort. No program is named here. What came in, opened: a reading of cells at a type gives the Lean value that lies there. No program is named here. -/
import Derived.WalkKit
import Derived.WalkSpells
import Derived.WalkLawsBesides
import Derived.Lib.Hide
import Derived.BigQuiet
import Derived.Deep.QuietTactic
import Derived.Laws.OwnMore
import Derived.Deep.AppendLies
import Derived.Deep.Draws
import Derived.Maps.AppendAt
import Derived.ProofKit
import Derived.OpenShut
import Derived.ShutString
import Derived.ChangeOld
import Derived.Deep.Slices
/-! Words for memory: what a slice of a value type reads as; frames. No program is named here. -/
namespace Go.Proofs.YtiahmfpfimmbgaaGreatDoor
open Go Go.RowKit

theorem block_of_add (a : Addr) (n : Nat) : (a.add n).block = a.block := by unfold Addr.add; split <;> rfl
theorem add_of_add (a : Addr) (i j : Nat) : (a.add i).add j = a.add (i + j) := by
  unfold Addr.add
  by_cases hi : i = 0 <;> by_cases hj : j = 0 <;> simp [hi, hj, Nat.add_assoc]

/-- How a Lean value lies in cells: 'R w F x vs': the cells vs are x, read in the world w, and all that they lead to lies in the blocks F. -/
structure Lay (α : Type) where
  size : Nat
  R : World → (Nat → Prop) → α → List Value → Prop
  len : ∀ {w F x vs}, R w F x vs → vs.length = size
  keep : ∀ {w w' F x vs}, (∀ b, F b → w'.heap[b]? = w.heap[b]?) → R w F x vs → R w' F x vs
  mono : ∀ {w F G x vs}, (∀ b, F b → G b) → R w F x vs → R w G x vs

/-- The slice value '.slice A xs.length c' reads as xs. -/
def Lay.Sl {α : Type} (L : Lay α) (w : World) (F : Nat → Prop) (A : Option Addr) (xs : List α) : Prop :=
  0 < xs.length → ∃ ad, A = some ad ∧ F ad.block ∧ ∀ k x, xs[k]? = some x → ∃ vs, L.R w F x vs ∧ ∀ j u, vs[j]? = some u → w.cell? (ad.add (k * L.size + j)) = some u

theorem Lay.Sl.nil {α : Type} (L : Lay α) (w : World) (F : Nat → Prop) (A : Option Addr) : L.Sl w F A [] := fun h => absurd h (by simp)
theorem Lay.Sl.keep {α : Type} {L : Lay α} {w w' : World} {F : Nat → Prop} {A : Option Addr} {xs : List α} (h : L.Sl w F A xs) (hk : ∀ b, F b → w'.heap[b]? = w.heap[b]?) : L.Sl w' F A xs := fun hn => by
  obtain ⟨ad, e, hf, hc⟩ := h hn
  refine ⟨ad, e, hf, fun k x hx => ?_⟩
  obtain ⟨vs, hr, hcell⟩ := hc k x hx
  exact ⟨vs, L.keep hk hr, fun j u hu => (World.cell?_of_block (w := w) (by rw [block_of_add]; exact hk _ hf)).trans (hcell j u hu)⟩
theorem Lay.Sl.mono {α : Type} {L : Lay α} {w : World} {F G : Nat → Prop} {A : Option Addr} {xs : List α} (h : L.Sl w F A xs) (hk : ∀ b, F b → G b) : L.Sl w G A xs := fun hn => by
  obtain ⟨ad, e, hf, hc⟩ := h hn
  refine ⟨ad, e, hk _ hf, fun k x hx => ?_⟩
  obtain ⟨vs, hr, hcell⟩ := hc k x hx
  exact ⟨vs, L.mono hk hr, hcell⟩

theorem Lay.Sl.take {α : Type} {L : Lay α} {w : World} {F : Nat → Prop} {A : Option Addr} {xs : List α} (h : L.Sl w F A xs) (n : Nat) : L.Sl w F A (xs.take n) := fun hn => by
  obtain ⟨ad, e, hf, hc⟩ := h (by simp at hn; omega)
  refine ⟨ad, e, hf, fun k x hx => hc k x ?_⟩
  rw [List.getElem?_take] at hx
  split at hx
  · exact hx
  · cases hx

/-- A slice as an element: one cell. -/
def Lay.slice {α : Type} (L : Lay α) : Lay (List α) where
  size := 1
  R w F xs vs := ∃ A c, vs = [.slice A xs.length c] ∧ xs.length ≤ c ∧ L.Sl w F A xs
  len := by rintro w F x vs ⟨A, c, rfl, _⟩; rfl
  keep := by rintro w w' F x vs hk ⟨A, c, rfl, hl, h⟩; exact ⟨A, c, rfl, hl, h.keep hk⟩
  mono := by rintro w F G x vs hk ⟨A, c, rfl, hl, h⟩; exact ⟨A, c, rfl, hl, h.mono hk⟩

/-- A value whose cells lead nowhere. -/
def Lay.flat {α : Type} (n : Nat) (cells : α → List Value) (h : ∀ x, (cells x).length = n) : Lay α where
  size := n
  R _ _ x vs := vs = cells x
  len := by rintro w F x vs rfl; exact h x
  keep := by rintro w w' F x vs _ h; exact h
  mono := by rintro w F G x vs _ h; exact h

def Lay.int : Lay Int := Lay.flat 1 (fun x => [.int .i64 x]) (fun _ => rfl)
def Lay.bool : Lay Bool := Lay.flat 1 (fun x => [.bool x]) (fun _ => rfl)
def Lay.byte : Lay UInt8 := Lay.flat 1 (fun x => [.int .u8 (x.toNat : Int)]) (fun _ => rfl)
def Lay.str : Lay ByteArray := Lay.flat 1 (fun x => [.string x]) (fun _ => rfl)

theorem Lay.Sl.at_int {w : World} {F : Nat → Prop} {A : Option Addr} {xs : List Int} (h : Lay.int.Sl w F A xs) {k : Nat} (hk : k < xs.length) :
    ∃ ad, A = some ad ∧ F ad.block ∧ w.cell? (ad.add k) = some (.int .i64 xs[k]) := by
  obtain ⟨ad, e, hf, hc⟩ := h (by omega)
  obtain ⟨vs, rfl, hcell⟩ := hc k xs[k] (List.getElem?_eq_getElem hk)
  exact ⟨ad, e, hf, by simpa [Lay.int, Lay.flat] using hcell 0 _ rfl⟩
theorem Lay.Sl.at_byte {w : World} {F : Nat → Prop} {A : Option Addr} {xs : List UInt8} (h : Lay.byte.Sl w F A xs) {k : Nat} (hk : k < xs.length) :
    ∃ ad, A = some ad ∧ F ad.block ∧ w.cell? (ad.add k) = some (.int .u8 (xs[k].toNat : Int)) := by
  obtain ⟨ad, e, hf, hc⟩ := h (by omega)
  obtain ⟨vs, rfl, hcell⟩ := hc k xs[k] (List.getElem?_eq_getElem hk)
  exact ⟨ad, e, hf, by simpa [Lay.byte, Lay.flat] using hcell 0 _ rfl⟩
theorem Lay.Sl.at_slice {α : Type} {L : Lay α} {w : World} {F : Nat → Prop} {A : Option Addr} {xs : List (List α)} (h : L.slice.Sl w F A xs) {k : Nat} (hk : k < xs.length) :
    ∃ ad A' c', A = some ad ∧ F ad.block ∧ w.cell? (ad.add k) = some (.slice A' xs[k].length c') ∧ xs[k].length ≤ c' ∧ L.Sl w F A' xs[k] := by
  obtain ⟨ad, e, hf, hc⟩ := h (by omega)
  obtain ⟨vs, ⟨A', c', rfl, hl, hs⟩, hcell⟩ := hc k xs[k] (List.getElem?_eq_getElem hk)
  exact ⟨ad, A', c', e, hf, by simpa [Lay.slice] using hcell 0 _ rfl, hl, hs⟩

/-- What the call owns reads so. -/
theorem Lay.Sl.of_own {α : Type} {L : Lay α} {w : World} {F : Nat → Prop} {base : Nat} {e : TypeId} {A : Option Addr} {n c : Nat} {cs : List Value} {xs : List α}
    (h : w.ownsRow base e L.size (.slice A n c) n cs) (hn : n = xs.length) (hF : ∀ g, base ≤ g → g < w.heap.size → F g)
    (hx : ∀ k x, xs[k]? = some x → ∃ vs, L.R w F x vs ∧ ∀ j u, vs[j]? = some u → cs[k * L.size + j]? = some u) : L.Sl w F A xs := by
  intro h0
  obtain ⟨g, cap, hv, hg, hlt⟩ := h.form (by omega)
  have hA : A = some ⟨g, 0, none⟩ := by injection hv
  subst hA
  refine ⟨_, rfl, hF _ hg hlt, fun k x hk => ?_⟩
  obtain ⟨vs, hr, hcs⟩ := hx k x hk
  exact ⟨vs, hr, fun j u hu => h.cells (g := g) rfl _ _ (hcs j u hu)⟩

theorem bcell {W w1 : World} {B : Nat} (hb : Below B W w1) : (∀ b o, b < B → w1.cell? ⟨b, o, none⟩ = W.cell? ⟨b, o, none⟩) ∧ (∀ b o, b < B → w1.frozen? ⟨b, o, none⟩ = W.frozen? ⟨b, o, none⟩) :=
  ⟨fun b o h => hb.cell (p := ⟨b, o, none⟩) h, fun b o h => hb.frozen (p := ⟨b, o, none⟩) h⟩

theorem Lay.Sl.below {α : Type} {L : Lay α} {w w' : World} {B : Nat} {F : Nat → Prop} {A : Option Addr} {xs : List α} (h : L.Sl w F A xs) (hb : Below B w w') (hF : ∀ b, F b → b < B) : L.Sl w' F A xs :=
  h.keep fun b hf => hb.block b (hF b hf)

/-- Read-only: all that the slice leads to is there. -/
abbrev Lay.Rd {α : Type} (L : Lay α) (w : World) (A : Option Addr) (xs : List α) : Prop := L.Sl w (fun b => b < w.heap.size) A xs
theorem Lay.Sl.up {α : Type} {L : Lay α} {w w' : World} {A : Option Addr} {xs : List α} (h : L.Rd w A xs) (hb : Below w.heap.size w w') : L.Rd w' A xs :=
  (h.below hb (fun _ h => h)).mono fun b hlt => Nat.lt_of_lt_of_le hlt hb.size
theorem Lay.Sl.rd {α : Type} {L : Lay α} {w : World} {lo : Nat} {A : Option Addr} {xs : List α} (h : L.Sl w (fun b => lo ≤ b ∧ b < w.heap.size) A xs) : L.Rd w A xs := h.mono fun _ h => h.2
theorem below_drewN {B : Nat} {a w : World} (h : Below B a w) (n : Nat) : Below B a (w.drewN n) := ⟨h.os, h.tape, h.output, h.size, h.block⟩
/-- One call behind another. -/
theorem bthen {a w w' : World} (h : Below a.heap.size a w) (h' : Below w.heap.size w w') : Below a.heap.size a w' := h.trans (h'.mono h.size)

theorem own_below {w w' : World} {base B : Nat} {e : TypeId} {size n : Nat} {v : Value} {xs : List Value} (h : w.ownsRow base e size v n xs) (hb : Below B w w') (hB : w.heap.size ≤ B) : w'.ownsRow base e size v n xs :=
  h.kept (row := none) ⟨hb.os, hb.tape, hb.output, hb.size, fun k hk _ => hb.block k (Nat.lt_of_lt_of_le hk hB)⟩ (by
    rcases v.ownBlock with _ | g
    · exact .inl rfl
    · exact .inr (by simp))

theorem ret_int {k : IntKind} {a b : Int} (h : a = b) : Ending.returned (.int k a) = .returned (.int k b) := by rw [h]
theorem ret_bool {a b : Bool} (h : a = b) : Ending.returned (.bool a) = .returned (.bool b) := by rw [h]
def RetB (w : World) (b : Bool) (e : Ending) (w' : World) : Prop := e = .returned (.bool b) ∧ Below w.heap.size w w'
end Go.Proofs.YtiahmfpfimmbgaaGreatDoor

/-! Regions that draw their order and whose callees make memory but hand back plain values: one walk in the order of the text, in every later world. No program is named here. -/
namespace Go.Proofs.YtiahmfpfimmbgaaGreatDoor
open Go Go.RowKit

/-- A world behind w: what was there is as it was. -/
structure Later (w : World) where
  W : World
  le : Below w.heap.size w W

instance (w : World) : Nonempty (Later w) := ⟨⟨w, Below.refl _ _⟩⟩

theorem Later.cell {w : World} {a : Addr} {v : Value} (h : w.cell? a = some v) (x : Later w) : x.W.cell? a = some v :=
  (x.le.cell (World.block_lt_of_cell? w a h)).trans h
theorem Later.frozen {w : World} {a : Addr} {v : Value} {b : Bool} (h : w.cell? a = some v) (hf : w.frozen? a = b) (x : Later w) : x.W.frozen? a = b :=
  (x.le.frozen (World.block_lt_of_cell? w a h)).trans hf

theorem wp_region_later {P : Program} {id : Nat} {Q : Exit → Act → World → Prop} {a : Act} {w : World} {l : List Oper} (hm : P.follows .mixedOrders = true) (hB : Region.lexB .any l.toArray = true)
    (h : wpQuiet P l.toArray (fun w' => ∃ x : Later w, w' = x.W) (fun a' => ∀ w', (∃ x : Later w, w' = x.W) → Q .normal a' w') l a) : (Code.region id l.toArray true).wp P Q a w :=
  wp_region_quiet (C := fun w' => ∃ x : Later w, w' = x.W) hm hB ⟨⟨w.drewN 1, below_drewN (Below.refl _ _) 1⟩, rfl⟩ (by simpa using h)

theorem later_of_below {P : Program} {f : FuncId} {args : Array Value} {w : World} {x : Later w} {v : Value}
    (h : Calls P f args x.W fun e w' => e = .returned v ∧ Below x.W.heap.size x.W w') : Calls P f args x.W fun e w'' => e = .returned v ∧ ∃ y : Later w, w'' = y.W :=
  h.mono fun _ _ ⟨he, hb⟩ => ⟨he, ⟨_, bthen x.le hb⟩, rfl⟩
theorem Lay.Sl.far {α : Type} {L : Lay α} {w : World} {F : Nat → Prop} {A : Option Addr} {xs : List α} (h : L.Sl w F A xs) (p : Addr) (u : Value) (hF : ∀ b, F b → b ≠ p.block) : L.Sl (w.setCell p u) F A xs :=
  h.keep fun b hb => Below.heap_setCell w p u b (hF b hb)
theorem own_mono {w : World} {base base' : Nat} {e : TypeId} {size n : Nat} {v : Value} {xs : List Value} (h : w.ownsRow base e size v n xs) (hb : base' ≤ base) : w.ownsRow base' e size v n xs := by
  refine ⟨h.1, ?_⟩
  rcases h.2 with h2 | ⟨g, cap, cur, h1, h2, h3⟩
  · exact .inl h2
  · exact .inr ⟨g, cap, cur, h1, Nat.le_trans hb h2, h3⟩
theorem Lay.Sl.drewN {α : Type} {L : Lay α} {w : World} {F : Nat → Prop} {A : Option Addr} {xs : List α} (h : L.Sl w F A xs) (n : Nat) : L.Sl (w.drewN n) F A xs := h.keep fun _ _ => rfl
theorem quiet_left {P : Program} {f : FuncId} {args : Array Value} {w : World} {n : Nat} {v : Value}
    (h : Calls P f args (w.drewN n) fun e w' => e = .returned v ∧ w.drewN n = w') : Calls P f args (w.drewN n) fun e w'' => e = .returned v ∧ ∃ m, w'' = w.drewN m :=
  h.mono fun _ _ ⟨he, hm⟩ => ⟨he, n, hm.symm⟩
end Go.Proofs.YtiahmfpfimmbgaaGreatDoor

/-! Terms, declarations and layers, how they lie in memory. No program is named here. -/
namespace Go.Proofs.YtiahmfpfimmbgaaGreatDoor
open Go Go.RowKit

inductive T where
  | mk (op a b : Int) (name : ByteArray) (kids : List T) : T
namespace T
def op : T → Int | mk o _ _ _ _ => o
def a : T → Int | mk _ a _ _ _ => a
def b : T → Int | mk _ _ b _ _ => b
def name : T → ByteArray | mk _ _ _ n _ => n
def kids : T → List T | mk _ _ _ _ k => k
end T
/-- By the kids. -/
theorem T.ind {p : T → Prop} (h : ∀ t, (∀ k ∈ t.kids, p k) → p t) (t : T) : p t := by
  refine T.rec (motive_1 := p) (motive_2 := fun l => ∀ k ∈ l, p k) ?_ ?_ ?_ t
  · intro o a b n ks ih; exact h _ ih
  · intro k hk; cases hk
  · intro x xs hx hxs k hk
    rcases List.mem_cons.1 hk with rfl | hk
    · exact hx
    · exact hxs k hk
mutual
def T.same : T → T → Bool
  | .mk o a b n k, .mk o' a' b' n' k' => o == o' && a == a' && b == b' && n.toList == n'.toList && T.sameL k k'
def T.sameL : List T → List T → Bool
  | [], [] => true
  | x :: xs, y :: ys => T.same x y && T.sameL xs ys
  | _, _ => false
end
mutual
theorem T.same_self : ∀ t : T, T.same t t = true
  | .mk o a b n k => by simp [T.same, T.sameL_self k]
theorem T.sameL_self : ∀ l : List T, T.sameL l l = true
  | [] => rfl
  | x :: xs => by simp [T.sameL, T.same_self x, T.sameL_self xs]
end
/-- The cells vs are the term t, read in w; all that they lead to lies in F. -/
inductive TermR (w : World) (F : Nat → Prop) : T → List Value → Prop
  | mk (o a b : Int) (n : ByteArray) (kids : List T) (A : Option Addr) (c : Nat) (vs : Nat → List Value) (hc : kids.length ≤ c)
      (hA : 0 < kids.length → ∃ ad, A = some ad ∧ F ad.block ∧ ∀ k, k < kids.length → ∀ j u, (vs k)[j]? = some u → w.cell? (ad.add (k * 5 + j)) = some u)
      (hk : ∀ k x, kids[k]? = some x → TermR w F x (vs k)) :
      TermR w F (.mk o a b n kids) [.int .i64 o, .int .i64 a, .int .i64 b, .string n, .slice A kids.length c]

def Lay.term : Lay T where
  size := 5
  R := TermR
  len := by rintro w F x vs ⟨⟩; rfl
  keep := by
    intro w w' F x vs hk h
    induction h with
    | mk o a b n kids A c vs hc hA hk' ih =>
      refine .mk o a b n kids A c vs hc (fun h0 => ?_) ih
      obtain ⟨ad, e, hf, hcell⟩ := hA h0
      exact ⟨ad, e, hf, fun k hk'' j u hu => (World.cell?_of_block (w := w) (by rw [block_of_add]; exact hk _ hf)).trans (hcell k hk'' j u hu)⟩
  mono := by
    intro w F G x vs hk h
    induction h with
    | mk o a b n kids A c vs hc hA hk' ih =>
      refine .mk o a b n kids A c vs hc (fun h0 => ?_) ih
      obtain ⟨ad, e, hf, hcell⟩ := hA h0
      exact ⟨ad, e, hk _ hf, hcell⟩

theorem TermR.form {w : World} {F : Nat → Prop} {t : T} {vs : List Value} (h : TermR w F t vs) :
    ∃ A c, vs = [.int .i64 t.op, .int .i64 t.a, .int .i64 t.b, .string t.name, .slice A t.kids.length c] ∧ t.kids.length ≤ c ∧ Lay.term.Sl w F A t.kids := by
  cases h with
  | mk o a b n kids A c vs hc hA hk =>
    refine ⟨A, c, rfl, hc, fun h0 => ?_⟩
    obtain ⟨ad, e, hf, hcell⟩ := hA h0
    refine ⟨ad, e, hf, fun k x hx => ⟨vs k, hk k x hx, fun j u hu => ?_⟩⟩
    have hlt : k < kids.length := by
      rcases Nat.lt_or_ge k kids.length with h | h
      · exact h
      · have hx' : kids[k]? = some x := hx
        rw [List.getElem?_eq_none h] at hx'; cases hx'
    exact hcell k hlt j u hu
theorem TermR.of {w : World} {F : Nat → Prop} {A : Option Addr} {c : Nat} {t : T} (hc : t.kids.length ≤ c) (h : Lay.term.Sl w F A t.kids) :
    TermR w F t [.int .i64 t.op, .int .i64 t.a, .int .i64 t.b, .string t.name, .slice A t.kids.length c] := by
  obtain ⟨o, a, b, n, kids⟩ := t
  change Lay.term.Sl w F A kids at h
  show TermR w F _ [.int .i64 o, .int .i64 a, .int .i64 b, .string n, .slice A kids.length c]
  by_cases h0 : 0 < kids.length
  · obtain ⟨ad, e, hf, hk⟩ := h h0
    have hk' : ∀ k, ∃ vs, ∀ x, kids[k]? = some x → TermR w F x vs ∧ ∀ j u, vs[j]? = some u → w.cell? (ad.add (k * 5 + j)) = some u := fun k => by
      cases hx : kids[k]? with
      | none => exact ⟨[], fun x h => by cases h⟩
      | some x =>
        obtain ⟨vs, h1, h2⟩ := hk k x hx
        exact ⟨vs, fun x' h => by cases h; exact ⟨h1, h2⟩⟩
    obtain ⟨f, hf'⟩ := Classical.axiomOfChoice hk'
    exact .mk o a b n kids A c f hc (fun _ => ⟨ad, e, hf, fun k hlt => (hf' k _ (List.getElem?_eq_getElem hlt)).2⟩) (fun k x hx => (hf' k x hx).1)
  · have : kids = [] := List.eq_nil_of_length_eq_zero (by omega)
    subst this
    exact .mk o a b n [] A c (fun _ => []) hc (fun h => absurd h (by simp)) (fun k x hx => by simp at hx)

theorem Lay.Sl.at_term {w : World} {F : Nat → Prop} {A : Option Addr} {xs : List T} (h : Lay.term.Sl w F A xs) {k : Nat} (hk : k < xs.length) :
    ∃ ad A' c', A = some ad ∧ F ad.block ∧ w.cell? (ad.add (k * 5)) = some (.int .i64 xs[k].op) ∧ w.cell? ⟨(ad.add (k * 5)).block, (ad.add (k * 5)).off + 1, none⟩ = some (.int .i64 xs[k].a) ∧
      w.cell? ⟨(ad.add (k * 5)).block, (ad.add (k * 5)).off + 2, none⟩ = some (.int .i64 xs[k].b) ∧ w.cell? ⟨(ad.add (k * 5)).block, (ad.add (k * 5)).off + 3, none⟩ = some (.string xs[k].name) ∧
      w.cell? ⟨(ad.add (k * 5)).block, (ad.add (k * 5)).off + 4, none⟩ = some (.slice A' xs[k].kids.length c') ∧ xs[k].kids.length ≤ c' ∧ Lay.term.Sl w F A' xs[k].kids := by
  obtain ⟨ad, e, hf, hc⟩ := h (by omega)
  obtain ⟨vs, hr, hcell⟩ := hc k xs[k] (List.getElem?_eq_getElem hk)
  obtain ⟨A', c', rfl, hl, hs⟩ := TermR.form hr
  have hc1 : ∀ j u, 0 < j → [Value.int .i64 xs[k].op, .int .i64 xs[k].a, .int .i64 xs[k].b, .string xs[k].name, .slice A' xs[k].kids.length c'][j]? = some u → w.cell? ⟨(ad.add (k * 5)).block, (ad.add (k * 5)).off + j, none⟩ = some u := fun j u hj hu => by
    have h1 : w.cell? (ad.add (k * 5 + j)) = some u := hcell j u hu
    rw [← add_of_add] at h1
    have : (ad.add (k * 5)).add j = ⟨(ad.add (k * 5)).block, (ad.add (k * 5)).off + j, none⟩ := by
      show (if j = 0 then _ else _) = _
      rw [if_neg (by omega)]
    rw [this] at h1; exact h1
  exact ⟨ad, A', c', e, hf, hcell 0 _ rfl, hc1 1 _ (by omega) rfl, hc1 2 _ (by omega) rfl, hc1 3 _ (by omega) rfl, hc1 4 _ (by omega) rfl, hl, hs⟩

structure D where
  name : ByteArray
  wide : Int
def D.same (x y : D) : Bool := x.name.toList == y.name.toList && x.wide == y.wide
theorem D.same_self (x : D) : D.same x x = true := by simp [D.same]
def Lay.decl : Lay D := Lay.flat 2 (fun d => [.string d.name, .int .i64 d.wide]) (fun _ => rfl)
theorem Lay.Sl.at_decl {w : World} {F : Nat → Prop} {A : Option Addr} {xs : List D} (h : Lay.decl.Sl w F A xs) {k : Nat} (hk : k < xs.length) :
    ∃ ad, A = some ad ∧ F ad.block ∧ w.cell? (ad.add (k * 2)) = some (.string xs[k].name) ∧ w.cell? ⟨(ad.add (k * 2)).block, (ad.add (k * 2)).off + 1, none⟩ = some (.int .i64 xs[k].wide) := by
  obtain ⟨ad, e, hf, hc⟩ := h (by omega)
  obtain ⟨vs, rfl, hcell⟩ := hc k xs[k] (List.getElem?_eq_getElem hk)
  refine ⟨ad, e, hf, hcell 0 _ rfl, ?_⟩
  show w.cell? ((ad.add (k * 2)).add 1) = _
  rw [add_of_add]; exact hcell 1 _ rfl

structure Ly where
  ds : List D
  ts : List T
/-- Two lists of as many, one by one alike. -/
def allSame {α : Type} (f : α → α → Bool) : List α → List α → Bool
  | [], [] => true
  | x :: xs, y :: ys => f x y && allSame f xs ys
  | _, _ => false
theorem allSame_self {α : Type} {f : α → α → Bool} (h : ∀ x, f x x = true) : ∀ l : List α, allSame f l l = true
  | [] => rfl
  | x :: xs => by simp [allSame, h x, allSame_self h xs]
theorem allSame_len {α : Type} {f : α → α → Bool} : ∀ {xs ys : List α}, xs.length ≠ ys.length → allSame f xs ys = false
  | [], [], h => absurd rfl h
  | [], _ :: _, _ => rfl
  | _ :: _, [], _ => rfl
  | x :: xs, y :: ys, h => by
    have : xs.length ≠ ys.length := fun e => h (by simp [e])
    simp [allSame, allSame_len this]
theorem allSame_drop {α : Type} {f : α → α → Bool} {xs ys : List α} {k : Nat} (hx : k < xs.length) (hy : k < ys.length) : allSame f (xs.drop k) (ys.drop k) = (f xs[k] ys[k] && allSame f (xs.drop (k + 1)) (ys.drop (k + 1))) := by
  rw [List.drop_eq_getElem_cons hx, List.drop_eq_getElem_cons hy]; rfl
theorem T.sameL_all : ∀ xs ys : List T, T.sameL xs ys = allSame T.same xs ys
  | [], [] => rfl
  | [], _ :: _ => rfl
  | _ :: _, [] => rfl
  | x :: xs, y :: ys => by simp [T.sameL, allSame, T.sameL_all xs ys]
def Ly.same (x y : Ly) : Bool := allSame D.same x.ds y.ds && allSame T.same x.ts y.ts
theorem Ly.same_self (x : Ly) : Ly.same x x = true := by simp [Ly.same, allSame_self D.same_self, allSame_self T.same_self]
def Lay.layer : Lay Ly where
  size := 2
  R w F x vs := ∃ A c B d, vs = [.slice A x.ds.length c, .slice B x.ts.length d] ∧ x.ds.length ≤ c ∧ x.ts.length ≤ d ∧ Lay.decl.Sl w F A x.ds ∧ Lay.term.Sl w F B x.ts
  len := by rintro w F x vs ⟨A, c, B, d, rfl, _⟩; rfl
  keep := by rintro w w' F x vs hk ⟨A, c, B, d, rfl, h1, h2, h3, h4⟩; exact ⟨A, c, B, d, rfl, h1, h2, h3.keep hk, h4.keep hk⟩
  mono := by rintro w F G x vs hk ⟨A, c, B, d, rfl, h1, h2, h3, h4⟩; exact ⟨A, c, B, d, rfl, h1, h2, h3.mono hk, h4.mono hk⟩
theorem Lay.Sl.at_layer {w : World} {F : Nat → Prop} {A : Option Addr} {xs : List Ly} (h : Lay.layer.Sl w F A xs) {k : Nat} (hk : k < xs.length) :
    ∃ ad A1 c1 A2 c2, A = some ad ∧ F ad.block ∧ w.cell? (ad.add (k * 2)) = some (.slice A1 xs[k].ds.length c1) ∧ w.cell? ⟨(ad.add (k * 2)).block, (ad.add (k * 2)).off + 1, none⟩ = some (.slice A2 xs[k].ts.length c2) ∧
      xs[k].ds.length ≤ c1 ∧ xs[k].ts.length ≤ c2 ∧ Lay.decl.Sl w F A1 xs[k].ds ∧ Lay.term.Sl w F A2 xs[k].ts := by
  obtain ⟨ad, e, hf, hc⟩ := h (by omega)
  obtain ⟨vs, ⟨A1, c1, A2, c2, rfl, h1, h2, h3, h4⟩, hcell⟩ := hc k xs[k] (List.getElem?_eq_getElem hk)
  refine ⟨ad, A1, c1, A2, c2, e, hf, hcell 0 _ rfl, ?_, h1, h2, h3, h4⟩
  show w.cell? ((ad.add (k * 2)).add 1) = _
  rw [add_of_add]; exact hcell 1 _ rfl
end Go.Proofs.YtiahmfpfimmbgaaGreatDoor

/-! Declarations and environments: when they are right; their bits. No program is named here. -/
namespace Go.Proofs.YtiahmfpfimmbgaaGreatDoor
open Go Go.RowKit

def letter (c : UInt8) : Bool := decide (97 ≤ (c.toNat : Int)) && decide ((c.toNat : Int) ≤ 122)
def allLet (s : ByteArray) : Bool := s.data.toList.all letter
def tru (s : ByteArray) : Bool := s.toList == [116, 114, 117, 101]
def nameOk (s : ByteArray) : Bool := decide (1 ≤ s.size) && decide (s.size ≤ 4) && !tru s && allLet s
def hasN (ds : List D) (s : ByteArray) : Bool := ds.any fun y => y.name.toList == s.toList
def wideOk (x : D) : Bool := decide (1 ≤ x.wide) && decide (x.wide ≤ 4)
def dOne (seen : List D) (x : D) : Bool := nameOk x.name && wideOk x && !hasN seen x.name
def dGo (seen : List D) (bits : Int) : List D → Bool
  | [] => decide (bits ≤ 8)
  | x :: xs => dOne seen x && dGo (seen ++ [x]) (bits + x.wide) xs
/-- Right declarations. -/
def declOk (ds : List D) : Bool := decide (ds.length ≤ 4) && dGo [] 0 ds
theorem dGo_step (ds : List D) (k : Nat) (b : Int) (h : k < ds.length) : dGo (ds.take k) b (ds.drop k) = (dOne (ds.take k) ds[k] && dGo (ds.take (k + 1)) (b + ds[k].wide) (ds.drop (k + 1))) := by
  rw [List.drop_eq_getElem_cons h]
  show (_ && dGo (ds.take k ++ [ds[k]]) _ _) = _
  rw [List.take_succ_eq_append_getElem h]
/-- The declarations from k on do not matter: one of them is wrong. -/
theorem declOk_bad (ds : List D) (k : Nat) (b : Int) (hk : k < ds.length) (h : dGo [] 0 ds = dGo (ds.take k) b (ds.drop k)) (hd : dOne (ds.take k) ds[k] = false) : declOk ds = false := by
  unfold declOk
  rw [h, dGo_step ds k b hk, hd]
  simp
theorem declOk_next (ds : List D) (k : Nat) (b : Int) (hk : k < ds.length) (h : dGo [] 0 ds = dGo (ds.take k) b (ds.drop k)) (hd : dOne (ds.take k) ds[k] = true) : dGo [] 0 ds = dGo (ds.take (k + 1)) (b + ds[k].wide) (ds.drop (k + 1)) := by
  rw [h, dGo_step ds k b hk, hd]
  simp
theorem declOk_end (ds : List D) (b : Int) (hl : ds.length ≤ 4) (h : dGo [] 0 ds = dGo (ds.take ds.length) b (ds.drop ds.length)) : declOk ds = decide (b ≤ 8) := by
  unfold declOk
  rw [h, List.drop_length, decide_eq_true hl]
  rfl
theorem declOk_long (ds : List D) (hl : ¬ ds.length ≤ 4) : declOk ds = false := by
  unfold declOk
  rw [decide_eq_false hl]; rfl
def dsum : List D → Int
  | [] => 0
  | x :: xs => x.wide + dsum xs
theorem dGo_facts : ∀ (ds seen : List D) (b : Int), dGo seen b ds = true → (∀ x ∈ ds, nameOk x.name = true ∧ 1 ≤ x.wide ∧ x.wide ≤ 4) ∧ b + dsum ds ≤ 8
  | [], seen, b, h => ⟨by simp, by simpa [dGo, dsum] using h⟩
  | x :: xs, seen, b, h => by
    simp only [dGo, dOne, wideOk, Bool.and_eq_true, decide_eq_true_eq] at h
    obtain ⟨h1, h2⟩ := dGo_facts xs _ _ h.2
    refine ⟨fun y hy => ?_, by simp only [dsum]; omega⟩
    rcases List.mem_cons.1 hy with rfl | hy
    · exact ⟨h.1.1.1, h.1.1.2.1, h.1.1.2.2⟩
    · exact h1 y hy
/-- What right declarations give. -/
theorem declOk_facts {ds : List D} (h : declOk ds = true) : ds.length ≤ 4 ∧ (∀ x ∈ ds, nameOk x.name = true ∧ 1 ≤ x.wide ∧ x.wide ≤ 4) ∧ dsum ds ≤ 8 := by
  simp only [declOk, Bool.and_eq_true, decide_eq_true_eq] at h
  obtain ⟨h1, h2⟩ := dGo_facts ds [] 0 h.2
  exact ⟨h.1, h1, by omega⟩
theorem dsum_nn : ∀ {ds : List D}, (∀ x ∈ ds, 1 ≤ x.wide) → 0 ≤ dsum ds
  | [], _ => Int.le_refl _
  | x :: xs, h => by
    have := h x (List.mem_cons_self ..)
    have := dsum_nn (ds := xs) fun y hy => h y (List.mem_cons_of_mem _ hy)
    simp only [dsum]; omega
/-- Where a name stands, or -1. -/
def fN (k : Nat) : List D → ByteArray → Int
  | [], _ => -1
  | x :: xs, s => if (x.name.toList == s.toList) = true then (k : Int) else fN (k + 1) xs s
theorem fN_has : ∀ (k : Nat) (ds : List D) (s : ByteArray), 0 ≤ fN k ds s ↔ hasN ds s = true
  | k, [], s => by simp [fN, hasN]
  | k, x :: xs, s => by
    have ih := fN_has (k + 1) xs s
    have e : hasN (x :: xs) s = ((x.name.toList == s.toList) || hasN xs s) := rfl
    rw [e, Bool.or_eq_true]
    by_cases h : (x.name.toList == s.toList) = true
    · have e2 : fN k (x :: xs) s = (k : Int) := if_pos h
      rw [e2]
      exact ⟨fun _ => .inl h, fun _ => by omega⟩
    · have e2 : fN k (x :: xs) s = fN (k + 1) xs s := if_neg h
      rw [e2]
      exact ⟨fun h' => .inr (ih.1 h'), fun h' => h'.elim (fun h9 => absurd h9 h) ih.2⟩
theorem fN_ge : ∀ (k : Nat) (ds : List D) (s : ByteArray), -1 ≤ fN k ds s ∧ fN k ds s < k + ds.length
  | k, [], s => by simp [fN]; omega
  | k, x :: xs, s => by
    have := fN_ge (k + 1) xs s
    simp only [fN, List.length_cons]
    split <;> omega
theorem fN_step (ds : List D) (k : Nat) (s : ByteArray) (h : k < ds.length) : fN k (ds.drop k) s = if (ds[k].name.toList == s.toList) = true then (k : Int) else fN (k + 1) (ds.drop (k + 1)) s := by
  rw [List.drop_eq_getElem_cons h]; rfl
/-- A vector's number fits its width. -/
def vecB (m n : Int) : Bool := decide (1 ≤ m) && decide (m ≤ 4) && decide (0 ≤ n) && decide (n < 2 ^ m.toNat)
theorem vecB_bounds {m n : Int} (h : vecB m n = true) : 1 ≤ m ∧ m ≤ 4 ∧ 0 ≤ n ∧ n < 16 := by
  simp only [vecB, Bool.and_eq_true, decide_eq_true_eq] at h
  obtain ⟨⟨⟨h1, h2⟩, h3⟩, h4⟩ := h
  refine ⟨h1, h2, h3, ?_⟩
  rcases (by omega : m = 1 ∨ m = 2 ∨ m = 3 ∨ m = 4) with rfl | rfl | rfl | rfl <;> simp at h4 <;> omega
end Go.Proofs.YtiahmfpfimmbgaaGreatDoor

/-! Terms: their size and depth, when they are plain, their sort. No program is named here. -/
namespace Go.Proofs.YtiahmfpfimmbgaaGreatDoor
open Go Go.RowKit

def imax (a b : Int) : Int := if b < a then a else b
mutual
/-- How many there are, and how deep: over 20 or 7: 21 and 8. -/
def T.many : T → Int × Int
  | .mk _ _ _ _ ks => if 20 < (T.manyL ks 1 0).1 ∨ 7 < (T.manyL ks 1 0).2 + 1 then (21, 8) else ((T.manyL ks 1 0).1, (T.manyL ks 1 0).2 + 1)
def T.manyL : List T → Int → Int → Int × Int
  | [], n, d => (n, d)
  | k :: ks, n, d => if n ≤ 20 then T.manyL ks (n + (T.many k).1) (imax d (T.many k).2) else (n, d)
end
mutual
/-- The program's count: how deep, how many. -/
def T.cnt : T → Int → Int → Int × Int
  | .mk _ _ _ _ ks, deep, m => if 7 < deep then (deep, m + 1) else T.cntL ks deep deep (m + 1)
def T.cntL : List T → Int → Int → Int → Int × Int
  | [], _, most, m => (most, m)
  | k :: ks, deep, most, m => if 20 < m then (most, m) else T.cntL ks deep (if most < (T.cnt k (deep + 1) m).1 then (T.cnt k (deep + 1) m).1 else most) (T.cnt k (deep + 1) m).2
end
mutual
def T.size : T → Nat
  | .mk _ _ _ _ ks => 1 + T.sizeL ks
def T.sizeL : List T → Nat
  | [] => 0
  | k :: ks => T.size k + T.sizeL ks
end
mutual
def T.deep : T → Nat
  | .mk _ _ _ _ ks => 1 + T.deepL ks
def T.deepL : List T → Nat
  | [] => 0
  | k :: ks => max (T.deep k) (T.deepL ks)
end
theorem T.size_pos : ∀ t : T, 1 ≤ T.size t
  | .mk _ _ _ _ ks => by simp only [T.size]; omega
theorem T.deep_pos : ∀ t : T, 1 ≤ T.deep t
  | .mk _ _ _ _ ks => by simp only [T.deep]; omega
theorem imax_eq (a b : Int) : imax a b = max a b := by unfold imax; split <;> omega
mutual
theorem T.many_eq : ∀ t : T, T.many t = if T.size t ≤ 20 ∧ T.deep t ≤ 7 then ((T.size t : Int), (T.deep t : Int)) else (21, 8)
  | .mk _ _ _ _ ks => by
    have h := T.manyL_eq ks 1 0 (by omega) (by omega)
    rename_i o a b nm
    have e1 : T.size (.mk o a b nm ks) = 1 + T.sizeL ks := by simp only [T.size]
    have e2 : T.deep (.mk o a b nm ks) = 1 + T.deepL ks := by simp only [T.deep]
    have e3 : T.many (.mk o a b nm ks) = if 20 < (T.manyL ks 1 0).1 ∨ 7 < (T.manyL ks 1 0).2 + 1 then (21, 8) else ((T.manyL ks 1 0).1, (T.manyL ks 1 0).2 + 1) := by simp only [T.many]
    rw [e3]
    generalize T.size (.mk o a b nm ks) = sz at *
    generalize T.deep (.mk o a b nm ks) = dp at *
    obtain ⟨h1, h2⟩ := h
    by_cases hc : sz ≤ 20 ∧ dp ≤ 7
    · have := h1 (by omega) (by omega) (by omega)
      rw [this, if_pos hc]
      dsimp only
      rw [if_neg (by omega)]
      exact Prod.ext (by dsimp only; omega) (by dsimp only; omega)
    · rw [if_neg hc]
      rw [if_pos]
      rcases Int.lt_or_le 20 (T.manyL ks 1 0).1 with h9 | h9
      · exact .inl h9
      · rcases Int.lt_or_le 7 ((T.manyL ks 1 0).2 + 1) with h8 | h8
        · exact .inr h8
        · exfalso
          have := h2 h9 (by omega)
          omega
theorem T.manyL_eq : ∀ (ks : List T) (n d : Int), 1 ≤ n → 0 ≤ d →
    (n + T.sizeL ks ≤ 20 → T.deepL ks ≤ 7 → d ≤ 7 → T.manyL ks n d = (n + T.sizeL ks, max d (T.deepL ks))) ∧
    ((T.manyL ks n d).1 ≤ 20 → (T.manyL ks n d).2 ≤ 7 → n + T.sizeL ks ≤ 20 ∧ T.deepL ks ≤ 7 ∧ (T.manyL ks n d).2 = max d (T.deepL ks))
  | [], n, d, hn, hd => by
    simp only [T.manyL, T.sizeL, T.deepL]
    refine ⟨fun _ _ _ => Prod.ext (by omega) (by omega), fun h1 h2 => ⟨by omega, by omega, by omega⟩⟩
  | k :: ks, n, d, hn, hd => by
    have hk := T.many_eq k
    have hp := T.size_pos k
    have hdp := T.deep_pos k
    simp only [T.manyL, T.sizeL, T.deepL, imax_eq]
    by_cases hc : T.size k ≤ 20 ∧ T.deep k ≤ 7
    · rw [if_pos hc] at hk
      rw [hk]
      dsimp only
      obtain ⟨i1, i2⟩ := T.manyL_eq ks (n + T.size k) (max d (T.deep k)) (by omega) (by omega)
      refine ⟨fun h1 h2 h3 => ?_, fun h1 h2 => ?_⟩
      · rw [if_pos (by omega)]
        rw [i1 (by omega) (by omega) (by omega)]
        exact Prod.ext (by push_cast; omega) (by push_cast; omega)
      · by_cases hn2 : n ≤ 20
        · rw [if_pos hn2] at h1 h2 ⊢
          obtain ⟨j1, j2, j3⟩ := i2 h1 h2
          refine ⟨by push_cast; omega, by omega, by rw [j3]; push_cast; omega⟩
        · rw [if_neg hn2] at h1
          exact absurd h1 hn2
    · rw [if_neg hc] at hk
      rw [hk]
      dsimp only
      obtain ⟨i1, i2⟩ := T.manyL_eq ks (n + 21) (max d 8) (by omega) (by omega)
      refine ⟨fun h1 h2 h3 => by omega, fun h1 h2 => ?_⟩
      by_cases hn2 : n ≤ 20
      · rw [if_pos hn2] at h1 h2
        obtain ⟨j1, j2, j3⟩ := i2 h1 h2
        omega
      · rw [if_neg hn2] at h1
        exact absurd h1 hn2
end
theorem T.many_one (t : T) : 1 ≤ t.many.1 ∧ t.many.1 ≤ 21 ∧ 1 ≤ t.many.2 ∧ t.many.2 ≤ 8 := by
  have hp := T.size_pos t
  have hdp := T.deep_pos t
  rw [T.many_eq]
  split <;> dsimp only <;> omega
theorem T.many_def (t : T) : t.many = if 20 < (T.manyL t.kids 1 0).1 ∨ 7 < (T.manyL t.kids 1 0).2 + 1 then (21, 8) else ((T.manyL t.kids 1 0).1, (T.manyL t.kids 1 0).2 + 1) := by
  obtain ⟨o, a, b, n, ks⟩ := t
  simp only [T.many, T.kids]
  rfl
theorem T.manyL_step (ks : List T) (k : Nat) (n d : Int) (hk : k < ks.length) (hn : n ≤ 20) : T.manyL (ks.drop k) n d = T.manyL (ks.drop (k + 1)) (n + ks[k].many.1) (imax d ks[k].many.2) := by
  rw [List.drop_eq_getElem_cons hk]
  simp only [T.manyL]
  rw [if_pos hn]
theorem T.manyL_stop (ks : List T) (n d : Int) (hn : ¬ n ≤ 20) : T.manyL ks n d = (n, d) := by
  cases ks with
  | nil => rfl
  | cons k ks => simp only [T.manyL]; rw [if_neg hn]
theorem T.manyL_full (ks : List T) (n d : Int) : T.manyL (ks.drop ks.length) n d = (n, d) := by rw [List.drop_length]; rfl
mutual
theorem T.cnt_eq : ∀ (t : T) (deep m : Int), 1 ≤ deep → deep ≤ 8 → 0 ≤ m → m ≤ 20 →
    (m + T.size t ≤ 20 → deep - 1 + T.deep t ≤ 7 → T.cnt t deep m = (deep - 1 + T.deep t, m + T.size t)) ∧
    ((T.cnt t deep m).1 ≤ 7 → (T.cnt t deep m).2 ≤ 20 → m + T.size t ≤ 20 ∧ deep - 1 + T.deep t ≤ 7) ∧
    m + 1 ≤ (T.cnt t deep m).2 ∧ (T.cnt t deep m).2 ≤ 21 ∧ deep ≤ (T.cnt t deep m).1 ∧ (T.cnt t deep m).1 ≤ 8
  | .mk _ _ _ _ ks, deep, m, h1, h2, h3, h4 => by
    simp only [T.cnt, T.size, T.deep]
    by_cases h7 : 7 < deep
    · rw [if_pos h7]
      dsimp only
      refine ⟨fun _ _ => by omega, fun _ _ => by omega, by omega, by omega, by omega, by omega⟩
    · rw [if_neg h7]
      obtain ⟨i1, i2, i3, i4, i5, i6⟩ := T.cntL_eq ks deep deep (m + 1) h1 (by omega) (by omega) (by omega) (by omega) (by omega)
      refine ⟨fun h5 h6 => ?_, fun h5 h6 => ?_, by omega, by omega, by omega, by omega⟩
      · rw [i1 (by omega) (by omega) (by omega)]
        exact Prod.ext (by push_cast; omega) (by push_cast; omega)
      · obtain ⟨j1, j2⟩ := i2 h5 h6
        push_cast
        omega
theorem T.cntL_eq : ∀ (ks : List T) (deep most m : Int), 1 ≤ deep → deep ≤ 7 → deep ≤ most → most ≤ 8 → 0 ≤ m → m ≤ 21 →
    (m + T.sizeL ks ≤ 20 → deep + T.deepL ks ≤ 7 → most ≤ 7 → T.cntL ks deep most m = (max most (deep + T.deepL ks), m + T.sizeL ks)) ∧
    ((T.cntL ks deep most m).1 ≤ 7 → (T.cntL ks deep most m).2 ≤ 20 → m + T.sizeL ks ≤ 20 ∧ deep + T.deepL ks ≤ 7) ∧
    m ≤ (T.cntL ks deep most m).2 ∧ (T.cntL ks deep most m).2 ≤ 21 ∧ most ≤ (T.cntL ks deep most m).1 ∧ (T.cntL ks deep most m).1 ≤ 8
  | [], deep, most, m, h1, h2, h3, h4, h5, h6 => by
    simp only [T.cntL, T.sizeL, T.deepL]
    refine ⟨fun _ _ _ => Prod.ext (by omega) (by omega), fun _ _ => by omega, by omega, by omega, by omega, by omega⟩
  | k :: ks, deep, most, m, h1, h2, h3, h4, h5, h6 => by
    have hp := T.size_pos k
    have hdp := T.deep_pos k
    simp only [T.cntL, T.sizeL, T.deepL]
    by_cases h20 : 20 < m
    · rw [if_pos h20]
      dsimp only
      refine ⟨fun _ _ _ => by omega, fun _ _ => by omega, by omega, by omega, by omega, by omega⟩
    · rw [if_neg h20]
      obtain ⟨k1, k2, k3, k4, k5, k6⟩ := T.cnt_eq k (deep + 1) m (by omega) (by omega) h5 (by omega)
      generalize T.cnt k (deep + 1) m = r at *
      have hmx : (if most < r.1 then r.1 else most) = max most r.1 := by split <;> omega
      rw [hmx]
      obtain ⟨i1, i2, i3, i4, i5, i6⟩ := T.cntL_eq ks deep (max most r.1) r.2 h1 h2 (by omega) (by omega) (by omega) (by omega)
      refine ⟨fun h7 h8 h9 => ?_, fun h7 h8 => ?_, by omega, by omega, by omega, by omega⟩
      · have e := k1 (by omega) (by omega)
        have e1 : r.1 = deep + 1 - 1 + T.deep k := by rw [e]
        have e2 : r.2 = m + T.size k := by rw [e]
        rw [i1 (by omega) (by omega) (by omega)]
        exact Prod.ext (by push_cast; omega) (by push_cast; omega)
      · obtain ⟨j1, j2⟩ := i2 h7 h8
        obtain ⟨l1, l2⟩ := k2 (by omega) (by omega)
        have e := k1 l1 (by omega)
        have e1 : r.1 = deep + 1 - 1 + T.deep k := by rw [e]
        have e2 : r.2 = m + T.size k := by rw [e]
        push_cast
        omega
end
/-- The two counts say the same. -/
theorem T.cnt_many (t : T) : t.many = if 20 < (T.cnt t 1 0).2 ∨ 7 < (T.cnt t 1 0).1 then (21, 8) else ((T.cnt t 1 0).2, (T.cnt t 1 0).1) := by
  obtain ⟨h1, h2, h3, h4, h5, h6⟩ := T.cnt_eq t 1 0 (by omega) (by omega) (by omega) (by omega)
  rw [T.many_eq]
  by_cases hc : T.size t ≤ 20 ∧ T.deep t ≤ 7
  · have e := h1 (by omega) (by omega)
    rw [if_pos hc, e]
    dsimp only
    rw [if_neg (by omega)]
    exact Prod.ext (by omega) (by omega)
  · rw [if_neg hc, if_pos]
    rcases Int.lt_or_le 20 (T.cnt t 1 0).2 with h9 | h9
    · exact .inl h9
    · rcases Int.lt_or_le 7 (T.cnt t 1 0).1 with h8 | h8
      · exact .inr h8
      · exfalso
        have := h2 h8 h9
        omega
theorem T.cnt_def (t : T) (deep m : Int) : t.cnt deep m = if 7 < deep then (deep, m + 1) else T.cntL t.kids deep deep (m + 1) := by
  obtain ⟨o, a, b, n, ks⟩ := t
  simp only [T.cnt, T.kids]
theorem T.cntL_step (ks : List T) (k : Nat) (deep most m : Int) (hk : k < ks.length) (hm : ¬ 20 < m) : T.cntL (ks.drop k) deep most m = T.cntL (ks.drop (k + 1)) deep (if most < (ks[k].cnt (deep + 1) m).1 then (ks[k].cnt (deep + 1) m).1 else most) (ks[k].cnt (deep + 1) m).2 := by
  rw [List.drop_eq_getElem_cons hk]
  simp only [T.cntL]
  rw [if_neg hm]
theorem T.cntL_stop (ks : List T) (deep most m : Int) (hm : 20 < m) : T.cntL ks deep most m = (most, m) := by
  cases ks with
  | nil => rfl
  | cons k ks => simp only [T.cntL]; rw [if_pos hm]
theorem T.cntL_full (ks : List T) (deep most m : Int) : T.cntL (ks.drop ks.length) deep most m = (most, m) := by rw [List.drop_length]; rfl

/-- How many terms a kind is of, or -1. -/
def arity (op : Int) : Int :=
  if op = 20 then 0 else if op = 21 then 0 else if op = 24 then 0 else if op = 1 then 1 else if op = 2 then 1 else if op = 22 then 1 else if op = 25 then 1 else if op = 23 then 3 else if op = 26 then 2 else if op = 27 then 2
  else if 3 ≤ op then (if op ≤ 17 then 2 else -1) else -1
def plainN (op : Int) (nm : ByteArray) : Bool := op == 21 || nm.toList == []
def plainV (op a b : Int) : Bool := op == 20 || op == 22 || (a == 0 && b == 0)
def plainT (t : T) : Bool := plainN t.op t.name && plainV t.op t.a t.b && ((t.kids.length : Int) == arity t.op)
/-- The sort of a term of one. -/
def oneK (op a b s : Int) : Int :=
  if op = 25 then (if s = 0 then 0 else -1) else if s < 1 then -1 else if op = 22 then (if 0 ≤ b then (if b ≤ a then (if a < s then a - b + 1 else -1) else -1) else -1) else s
/-- The sort of a term of two. -/
def bothK (op s r : Int) : Int :=
  if op = 26 ∨ op = 27 then (if s = 0 then (if r = 0 then 0 else -1) else -1) else if s < 1 ∨ r < 1 then -1 else if op = 14 then (if s + r ≤ 4 then s + r else -1) else if s = r then (if 15 ≤ op then 0 else s) else -1
/-- The sort of a term of three. -/
def threeK (s r q : Int) : Int := if s = 0 then (if r = q then r else -1) else -1
def nameK (ds : List D) (nm : ByteArray) : Int := (ds.find? fun d => d.name.toList == nm.toList).elim (-1) D.wide
mutual
/-- The sort of a term, or -1. -/
def srt (ds : List D) : T → Int
  | .mk op a b nm ks => if plainT (.mk op a b nm ks) = true then
      match srtL ds ks with
      | [] => if op = 20 then (if vecB a b = true then a else -1) else if op = 21 then nameK ds nm else 0
      | [s] => oneK op a b s
      | [s, r] => bothK op s r
      | s :: r :: q :: _ => threeK s r q
    else -1
def srtL (ds : List D) : List T → List Int
  | [] => []
  | k :: ks => srt ds k :: srtL ds ks
end
theorem srt_def (ds : List D) (t : T) : srt ds t = if plainT t = true then
      match srtL ds t.kids with
      | [] => if t.op = 20 then (if vecB t.a t.b = true then t.a else -1) else if t.op = 21 then nameK ds t.name else 0
      | [s] => oneK t.op t.a t.b s
      | [s, r] => bothK t.op s r
      | s :: r :: q :: _ => threeK s r q
    else -1 := by
  obtain ⟨o, a, b, n, ks⟩ := t
  simp only [srt, T.op, T.a, T.b, T.name, T.kids]
  rfl
theorem srtL_map (ds : List D) : ∀ ks : List T, srtL ds ks = ks.map (srt ds)
  | [] => rfl
  | k :: ks => by simp only [srtL, List.map_cons, srtL_map ds ks]
theorem nameK_bounds {ds : List D} (h : ∀ x ∈ ds, 1 ≤ x.wide ∧ x.wide ≤ 4) (nm : ByteArray) : -1 ≤ nameK ds nm ∧ nameK ds nm ≤ 4 := by
  unfold nameK
  cases hf : ds.find? fun d => d.name.toList == nm.toList with
  | none => simp
  | some d =>
    have := h d (List.mem_of_find?_eq_some hf)
    simp only [Option.elim]
    omega
theorem nameK_fN : ∀ (ds : List D) (nm : ByteArray) (k : Nat), (fN k ds nm < 0 → nameK ds nm = -1) ∧ (0 ≤ fN k ds nm → ∃ (j : Nat) (h : j < ds.length), fN k ds nm = k + j ∧ nameK ds nm = ds[j].wide)
  | [], nm, k => ⟨fun _ => rfl, fun h => by simp [fN] at h⟩
  | x :: xs, nm, k => by
    unfold nameK
    simp only [fN, List.find?_cons]
    cases hx : x.name.toList == nm.toList with
    | true =>
      refine ⟨fun h => ?_, fun _ => ⟨0, by simp, by simp, by simp⟩⟩
      simp at h; omega
    | false =>
      obtain ⟨h1, h2⟩ := nameK_fN xs nm (k + 1)
      refine ⟨fun h => h1 (by simpa using h), fun h => ?_⟩
      obtain ⟨j, hj, e1, e2⟩ := h2 (by simpa using h)
      exact ⟨j + 1, by simpa using hj, by simp only [Bool.false_eq_true, if_false, e1]; push_cast; omega, by simpa [nameK] using e2⟩
theorem oneK_bounds {op a b s : Int} (h : -1 ≤ s ∧ s ≤ 4) : -1 ≤ oneK op a b s ∧ oneK op a b s ≤ 4 := by
  unfold oneK; (repeat' split) <;> omega
theorem bothK_bounds {op s r : Int} (h : -1 ≤ s ∧ s ≤ 4) (h' : -1 ≤ r ∧ r ≤ 4) : -1 ≤ bothK op s r ∧ bothK op s r ≤ 4 := by
  unfold bothK; (repeat' split) <;> omega
theorem threeK_bounds {s r q : Int} (h' : -1 ≤ r ∧ r ≤ 4) : -1 ≤ threeK s r q ∧ threeK s r q ≤ 4 := by
  unfold threeK; (repeat' split) <;> omega
theorem srt_bounds {ds : List D} (h : ∀ x ∈ ds, 1 ≤ x.wide ∧ x.wide ≤ 4) (t : T) : -1 ≤ srt ds t ∧ srt ds t ≤ 4 := by
  refine T.ind (p := fun t => -1 ≤ srt ds t ∧ srt ds t ≤ 4) (fun t ih => ?_) t
  rw [srt_def, srtL_map]
  split
  · have hm : ∀ s ∈ t.kids.map (srt ds), -1 ≤ s ∧ s ≤ 4 := fun s hs => by
      obtain ⟨k, hk, rfl⟩ := List.mem_map.1 hs
      exact ih k hk
    generalize t.kids.map (srt ds) = ss at *
    match ss with
    | [] =>
      dsimp only
      split
      · split
        · have := vecB_bounds (by assumption); omega
        · omega
      · split
        · exact nameK_bounds h _
        · omega
    | [s] => exact oneK_bounds (hm s (by simp))
    | [s, r] => exact bothK_bounds (hm s (by simp)) (hm r (by simp))
    | s :: r :: q :: _ => exact threeK_bounds (hm r (by simp))
  · omega
/-- The sort of a right term under right declarations. -/
def tsort (ds : List D) (t : T) : Int := if declOk ds = true ∧ t.many.1 ≤ 20 then srt ds t else -1
end Go.Proofs.YtiahmfpfimmbgaaGreatDoor

/-! What came in, opened: a reading of cells at a type gives the Lean value that lies there. No program is named here. -/
namespace Go.Proofs.YtiahmfpfimmbgaaGreatDoor
open Go Go.RowKit Go.ChangeShapes Go.WideShapes Go.Deep

/-- Whatever reads at type t lies there as a Lean value that is ok. -/
def Opens {α : Type} (P : Program) (t : TypeId) (L : Lay α) (ok : α → Prop) : Prop :=
  ∀ (H : Type) (enc : TypeId × Value → H) (w : World) (base : Nat) (spare : Nat → Bool) (held : Bool) (fuel : Nat) (cs : List Value) (x : DataW H × List MemPlace),
    DataW.trod enc P w base spare held fuel t cs = some x → ∃ a, ok a ∧ L.R w (fun b => b < w.heap.size) a cs

def okInt (n : Int) : Prop := -9223372036854775808 ≤ n ∧ n ≤ 9223372036854775807

theorem Opens.int {P : Program} {t : TypeId} (ht : P.underlying t = some (.int .i64)) : Opens P t Lay.int okInt := by
  intro H enc w base spare held fuel cs x h
  obtain ⟨n, rfl, _, hwf⟩ := DataW.trod_int ht h
  refine ⟨n, ?_, rfl⟩
  have := bounds_i64 hwf
  unfold okInt; omega
theorem Opens.bool {P : Program} {t : TypeId} (ht : P.underlying t = some .bool) : Opens P t Lay.bool (fun _ => True) := by
  intro H enc w base spare held fuel cs x h
  obtain ⟨n, rfl, _⟩ := DataW.trod_bool ht h
  exact ⟨n, trivial, rfl⟩
theorem Opens.str {P : Program} {t : TypeId} (ht : P.underlying t = some .string) : Opens P t Lay.str (fun s => s.size ≤ maxLen) := by
  intro H enc w base spare held fuel cs x h
  obtain ⟨s, rfl, _, hs⟩ := DataW.trod_string ht h
  exact ⟨s, hs, rfl⟩
theorem Opens.byte {P : Program} {t : TypeId} (ht : P.underlying t = some (.int .u8)) : Opens P t Lay.byte (fun _ => True) := by
  intro H enc w base spare held fuel cs x h
  obtain ⟨n, rfl, _, hwf⟩ := DataW.trod_int ht h
  have := bounds_u8 hwf
  refine ⟨UInt8.ofNat n.toNat, trivial, ?_⟩
  have : ((UInt8.ofNat n.toNat).toNat : Int) = n := by
    rw [UInt8.toNat_ofNat']; omega
  show [Value.int .u8 n] = [Value.int .u8 _]
  rw [this]

theorem list_of_forall {α : Type} (n : Nat) (p : Nat → α → Prop) (h : ∀ i, i < n → ∃ a, p i a) : ∃ xs : List α, xs.length = n ∧ ∀ i x, xs[i]? = some x → p i x := by
  induction n with
  | zero => exact ⟨[], rfl, by simp⟩
  | succ n ih =>
    obtain ⟨xs, hl, hp⟩ := ih fun i hi => h i (by omega)
    obtain ⟨a, ha⟩ := h n (by omega)
    refine ⟨xs ++ [a], by simp [hl], fun i x hx => ?_⟩
    rcases Nat.lt_or_ge i n with hi | hi
    · rw [List.getElem?_append_left (by omega)] at hx
      exact hp i x hx
    · rw [List.getElem?_append_right (by omega), hl] at hx
      have : i = n := by
        rcases Nat.eq_or_lt_of_le hi with e | e
        · exact e.symm
        · rw [List.getElem?_eq_none (by simp; omega)] at hx; cases hx
      subst this
      simp at hx; subst hx; exact ha

theorem Opens.slice {α : Type} {P : Program} {t e : TypeId} {L : Lay α} {ok : α → Prop} (ht : P.underlying t = some (.slice e)) (hc : P.cellsOf e = L.size) (hs : 0 < L.size) (ho : Opens P e L ok) :
    Opens P t L.slice (fun xs => xs.length ≤ maxLen ∧ ∀ x ∈ xs, ok x) := by
  intro H enc w base spare held fuel cs x h
  rcases open_slice ht h with ⟨rfl, _⟩ | ⟨a, len, cap, m, n, D, Pl, rfl, _, hl, hm, hmm, _, hi⟩
  · exact ⟨[], ⟨by simp, by simp⟩, none, 0, rfl, by simp, .nil L w _ _⟩
  · have hle : len ≤ m := by rw [hmm]; split <;> omega
    obtain ⟨xs, hxl, hx⟩ := list_of_forall len (fun i a' => ok a' ∧ ∃ vs, L.R w (fun b => b < w.heap.size) a' vs ∧ ∀ j u, vs[j]? = some u → w.cell? (a.add (i * L.size + j)) = some u) (by
      intro i hil
      obtain ⟨cs', hcell, htr⟩ := hi i (by omega)
      obtain ⟨a', hok, hr⟩ := ho H enc w base spare held n cs' _ htr
      refine ⟨a', hok, cs', hr, fun j u hu => ?_⟩
      obtain ⟨_, hcl, hat⟩ := World.cells?_some hcell
      have hj : j < cs'.length := by
        rcases Nat.lt_or_ge j cs'.length with hj | hj
        · exact hj
        · rw [List.getElem?_eq_none hj] at hu; cases hu
      have h1 := hat j (by omega)
      rw [hc, add_of_add] at h1
      rw [h1, hu])
    refine ⟨xs, ⟨by omega, fun x hmem => ?_⟩, some a, cap, by rw [hxl], by omega, fun h0 => ⟨a, rfl, ?_, fun k x hk => (hx k x hk).2⟩⟩
    · obtain ⟨i, hi', rfl⟩ := List.getElem_of_mem hmem
      exact (hx i _ (List.getElem?_eq_getElem hi')).1
    · obtain ⟨_, vs, hr, hcell⟩ := hx 0 xs[0] (List.getElem?_eq_getElem h0)
      have hvl := L.len hr
      have h1 := hcell 0 vs[0] (List.getElem?_eq_getElem (by omega))
      have := World.block_lt_of_cell? w _ h1
      rwa [block_of_add] at this

theorem Opens.field {α : Type} {P : Program} {t : TypeId} {fs : Array Field} {L : Lay α} {ok : α → Prop} {H : Type} {enc : TypeId × Value → H} {w : World} {base : Nat} {spare : Nat → Bool} {held : Bool} {fuel : Nat} {cs : List Value}
    {x : DataW H × List MemPlace} (ht : P.underlying t = some (.struct fs)) (h : DataW.trod enc P w base spare held fuel t cs = some x) (i : Nat) (f : Field) (hf : fs[i]? = some f) (ho : Opens P f.type L ok) :
    ∃ a, ok a ∧ L.R w (fun b => b < w.heap.size) a ((cs.drop f.offset).take (P.cellsOf f.type)) := by
  obtain ⟨xs, n, _, _, _, hxl, hfld⟩ := DataW.trod_struct ht h
  have h1 := hfld i f hf
  have hi : i < fs.size := (Array.getElem?_eq_some_iff.1 hf).1
  rw [List.getElem?_eq_getElem (by omega)] at h1
  exact ho H enc w base spare held n _ _ h1
theorem trod_cells {P : Program} {t : TypeId} {fs : Array Field} {H : Type} {enc : TypeId × Value → H} {w : World} {base : Nat} {spare : Nat → Bool} {held : Bool} {fuel : Nat} {cs : List Value}
    {x : DataW H × List MemPlace} (ht : P.underlying t = some (.struct fs)) (h : DataW.trod enc P w base spare held fuel t cs = some x) : cs.length = P.cellsOf t := by
  obtain ⟨xs, n, _, _, hl, _, _⟩ := DataW.trod_struct ht h
  exact hl

/-- An argument that is a slice. -/
theorem open_arg {α : Type} {P : Program} {t e : TypeId} {L : Lay α} {ok : List α → Prop} (ht : P.underlying t = some (.slice e)) (ho : Opens P t L.slice ok) {H : Type} {enc : TypeId × Value → H} {r : Reach} {b0 : Nat} {w : World} {base : Nat}
    {spare : Nat → Bool} {held : Bool} {v : Value} {d : DataW H} {p : List MemPlace} (hv : Value.okWide P w r b0 t v) (h : DataW.Trod enc P w base spare held t v d p) :
    ∃ A c xs, v = .slice A xs.length c ∧ xs.length ≤ c ∧ ok xs ∧ L.Rd w A xs := by
  obtain ⟨A, n, c, rfl⟩ := okWide_slice ht hv
  obtain ⟨fuel, hf⟩ := h
  obtain ⟨xs, hok, A', c', hcs, hl, hr⟩ := ho H enc w base spare held fuel _ _ hf
  simp [Value.cells] at hcs
  obtain ⟨rfl, rfl, rfl⟩ := hcs
  exact ⟨A, c, xs, rfl, hl, hok, hr⟩
end Go.Proofs.YtiahmfpfimmbgaaGreatDoor
