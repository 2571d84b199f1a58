/- Words for memory: what a slice of a value type reads as; frames. No program is named here. What came in, opened: a reading of cells at a type gives the Lean value that lies there. No program is named here. Regions that draw their order and whose callees make memory but hand back plain values: one walk in the order of the text, in every later world. No program is named here. Terms, declarations and layers, how they lie in memory. No program is named here. What came in, opened, by the reader's fuel: for types that hold themselves. No program is named here. Clauses, what is put, unit propagation: the plain law. No program is named here. Contracts of the copies and comparisons of lists of integers and of truth values. Words on sizes and copies. No program is named here. append of a whole slice onto a row of the call's own. No program is named here. -/
import Derived.WalkKit
import Derived.WalkSpells
import Derived.WalkLawsBesides
import Derived.Lib.Hide
import Derived.BigQuiet
import Derived.Deep.QuietTactic
import Derived.Laws.OwnMore
import Derived.Deep.AppendLies
import Derived.Deep.Draws
import Derived.Maps.AppendAt
import Derived.ProofKit
import Derived.OpenShut
import Derived.ShutString
import Derived.ChangeOld
import Derived.Deep.Slices
import Derived.Test.YtbljfhmcebgdaaaProg
import Derived.Deep.RegionHeld3
import Derived.Handy
/-! Words for memory: what a slice of a value type reads as; frames. No program is named here. -/
namespace Go.Proofs.Ytbljfhmcebgdaaa
open Go Go.RowKit

theorem block_of_add (a : Addr) (n : Nat) : (a.add n).block = a.block := by unfold Addr.add; split <;> rfl
theorem add_of_add (a : Addr) (i j : Nat) : (a.add i).add j = a.add (i + j) := by
  unfold Addr.add
  by_cases hi : i = 0 <;> by_cases hj : j = 0 <;> simp [hi, hj, Nat.add_assoc]

/-- How a Lean value lies in cells: 'R w F x vs': the cells vs are x, read in the world w, and all that they lead to lies in the blocks F. -/
structure Lay (α : Type) where
  size : Nat
  R : World → (Nat → Prop) → α → List Value → Prop
  len : ∀ {w F x vs}, R w F x vs → vs.length = size
  keep : ∀ {w w' F x vs}, (∀ b, F b → w'.heap[b]? = w.heap[b]?) → R w F x vs → R w' F x vs
  mono : ∀ {w F G x vs}, (∀ b, F b → G b) → R w F x vs → R w G x vs

/-- The slice value '.slice A xs.length c' reads as xs. -/
def Lay.Sl {α : Type} (L : Lay α) (w : World) (F : Nat → Prop) (A : Option Addr) (xs : List α) : Prop :=
  0 < xs.length → ∃ ad, A = some ad ∧ F ad.block ∧ ∀ k x, xs[k]? = some x → ∃ vs, L.R w F x vs ∧ ∀ j u, vs[j]? = some u → w.cell? (ad.add (k * L.size + j)) = some u

theorem Lay.Sl.nil {α : Type} (L : Lay α) (w : World) (F : Nat → Prop) (A : Option Addr) : L.Sl w F A [] := fun h => absurd h (by simp)
theorem Lay.Sl.keep {α : Type} {L : Lay α} {w w' : World} {F : Nat → Prop} {A : Option Addr} {xs : List α} (h : L.Sl w F A xs) (hk : ∀ b, F b → w'.heap[b]? = w.heap[b]?) : L.Sl w' F A xs := fun hn => by
  obtain ⟨ad, e, hf, hc⟩ := h hn
  refine ⟨ad, e, hf, fun k x hx => ?_⟩
  obtain ⟨vs, hr, hcell⟩ := hc k x hx
  exact ⟨vs, L.keep hk hr, fun j u hu => (World.cell?_of_block (w := w) (by rw [block_of_add]; exact hk _ hf)).trans (hcell j u hu)⟩
theorem Lay.Sl.mono {α : Type} {L : Lay α} {w : World} {F G : Nat → Prop} {A : Option Addr} {xs : List α} (h : L.Sl w F A xs) (hk : ∀ b, F b → G b) : L.Sl w G A xs := fun hn => by
  obtain ⟨ad, e, hf, hc⟩ := h hn
  refine ⟨ad, e, hk _ hf, fun k x hx => ?_⟩
  obtain ⟨vs, hr, hcell⟩ := hc k x hx
  exact ⟨vs, L.mono hk hr, hcell⟩

theorem Lay.Sl.take {α : Type} {L : Lay α} {w : World} {F : Nat → Prop} {A : Option Addr} {xs : List α} (h : L.Sl w F A xs) (n : Nat) : L.Sl w F A (xs.take n) := fun hn => by
  obtain ⟨ad, e, hf, hc⟩ := h (by simp at hn; omega)
  refine ⟨ad, e, hf, fun k x hx => hc k x ?_⟩
  rw [List.getElem?_take] at hx
  split at hx
  · exact hx
  · cases hx

/-- A slice as an element: one cell. -/
def Lay.slice {α : Type} (L : Lay α) : Lay (List α) where
  size := 1
  R w F xs vs := ∃ A c, vs = [.slice A xs.length c] ∧ xs.length ≤ c ∧ L.Sl w F A xs
  len := by rintro w F x vs ⟨A, c, rfl, _⟩; rfl
  keep := by rintro w w' F x vs hk ⟨A, c, rfl, hl, h⟩; exact ⟨A, c, rfl, hl, h.keep hk⟩
  mono := by rintro w F G x vs hk ⟨A, c, rfl, hl, h⟩; exact ⟨A, c, rfl, hl, h.mono hk⟩

/-- A value whose cells lead nowhere. -/
def Lay.flat {α : Type} (n : Nat) (cells : α → List Value) (h : ∀ x, (cells x).length = n) : Lay α where
  size := n
  R _ _ x vs := vs = cells x
  len := by rintro w F x vs rfl; exact h x
  keep := by rintro w w' F x vs _ h; exact h
  mono := by rintro w F G x vs _ h; exact h

def Lay.int : Lay Int := Lay.flat 1 (fun x => [.int .i64 x]) (fun _ => rfl)
def Lay.bool : Lay Bool := Lay.flat 1 (fun x => [.bool x]) (fun _ => rfl)
def Lay.byte : Lay UInt8 := Lay.flat 1 (fun x => [.int .u8 (x.toNat : Int)]) (fun _ => rfl)
def Lay.str : Lay ByteArray := Lay.flat 1 (fun x => [.string x]) (fun _ => rfl)

theorem Lay.Sl.at_int {w : World} {F : Nat → Prop} {A : Option Addr} {xs : List Int} (h : Lay.int.Sl w F A xs) {k : Nat} (hk : k < xs.length) :
    ∃ ad, A = some ad ∧ F ad.block ∧ w.cell? (ad.add k) = some (.int .i64 xs[k]) := by
  obtain ⟨ad, e, hf, hc⟩ := h (by omega)
  obtain ⟨vs, rfl, hcell⟩ := hc k xs[k] (List.getElem?_eq_getElem hk)
  exact ⟨ad, e, hf, by simpa [Lay.int, Lay.flat] using hcell 0 _ rfl⟩
theorem Lay.Sl.at_byte {w : World} {F : Nat → Prop} {A : Option Addr} {xs : List UInt8} (h : Lay.byte.Sl w F A xs) {k : Nat} (hk : k < xs.length) :
    ∃ ad, A = some ad ∧ F ad.block ∧ w.cell? (ad.add k) = some (.int .u8 (xs[k].toNat : Int)) := by
  obtain ⟨ad, e, hf, hc⟩ := h (by omega)
  obtain ⟨vs, rfl, hcell⟩ := hc k xs[k] (List.getElem?_eq_getElem hk)
  exact ⟨ad, e, hf, by simpa [Lay.byte, Lay.flat] using hcell 0 _ rfl⟩
theorem Lay.Sl.at_slice {α : Type} {L : Lay α} {w : World} {F : Nat → Prop} {A : Option Addr} {xs : List (List α)} (h : L.slice.Sl w F A xs) {k : Nat} (hk : k < xs.length) :
    ∃ ad A' c', A = some ad ∧ F ad.block ∧ w.cell? (ad.add k) = some (.slice A' xs[k].length c') ∧ xs[k].length ≤ c' ∧ L.Sl w F A' xs[k] := by
  obtain ⟨ad, e, hf, hc⟩ := h (by omega)
  obtain ⟨vs, ⟨A', c', rfl, hl, hs⟩, hcell⟩ := hc k xs[k] (List.getElem?_eq_getElem hk)
  exact ⟨ad, A', c', e, hf, by simpa [Lay.slice] using hcell 0 _ rfl, hl, hs⟩

/-- What the call owns reads so. -/
theorem Lay.Sl.of_own {α : Type} {L : Lay α} {w : World} {F : Nat → Prop} {base : Nat} {e : TypeId} {A : Option Addr} {n c : Nat} {cs : List Value} {xs : List α}
    (h : w.ownsRow base e L.size (.slice A n c) n cs) (hn : n = xs.length) (hF : ∀ g, base ≤ g → g < w.heap.size → F g)
    (hx : ∀ k x, xs[k]? = some x → ∃ vs, L.R w F x vs ∧ ∀ j u, vs[j]? = some u → cs[k * L.size + j]? = some u) : L.Sl w F A xs := by
  intro h0
  obtain ⟨g, cap, hv, hg, hlt⟩ := h.form (by omega)
  have hA : A = some ⟨g, 0, none⟩ := by injection hv
  subst hA
  refine ⟨_, rfl, hF _ hg hlt, fun k x hk => ?_⟩
  obtain ⟨vs, hr, hcs⟩ := hx k x hk
  exact ⟨vs, hr, fun j u hu => h.cells (g := g) rfl _ _ (hcs j u hu)⟩

theorem bcell {W w1 : World} {B : Nat} (hb : Below B W w1) : (∀ b o, b < B → w1.cell? ⟨b, o, none⟩ = W.cell? ⟨b, o, none⟩) ∧ (∀ b o, b < B → w1.frozen? ⟨b, o, none⟩ = W.frozen? ⟨b, o, none⟩) :=
  ⟨fun b o h => hb.cell (p := ⟨b, o, none⟩) h, fun b o h => hb.frozen (p := ⟨b, o, none⟩) h⟩

theorem Lay.Sl.below {α : Type} {L : Lay α} {w w' : World} {B : Nat} {F : Nat → Prop} {A : Option Addr} {xs : List α} (h : L.Sl w F A xs) (hb : Below B w w') (hF : ∀ b, F b → b < B) : L.Sl w' F A xs :=
  h.keep fun b hf => hb.block b (hF b hf)

/-- Read-only: all that the slice leads to is there. -/
abbrev Lay.Rd {α : Type} (L : Lay α) (w : World) (A : Option Addr) (xs : List α) : Prop := L.Sl w (fun b => b < w.heap.size) A xs
theorem Lay.Sl.up {α : Type} {L : Lay α} {w w' : World} {A : Option Addr} {xs : List α} (h : L.Rd w A xs) (hb : Below w.heap.size w w') : L.Rd w' A xs :=
  (h.below hb (fun _ h => h)).mono fun b hlt => Nat.lt_of_lt_of_le hlt hb.size
theorem Lay.Sl.rd {α : Type} {L : Lay α} {w : World} {lo : Nat} {A : Option Addr} {xs : List α} (h : L.Sl w (fun b => lo ≤ b ∧ b < w.heap.size) A xs) : L.Rd w A xs := h.mono fun _ h => h.2
theorem below_drewN {B : Nat} {a w : World} (h : Below B a w) (n : Nat) : Below B a (w.drewN n) := ⟨h.os, h.tape, h.output, h.size, h.block⟩
/-- One call behind another. -/
theorem bthen {a w w' : World} (h : Below a.heap.size a w) (h' : Below w.heap.size w w') : Below a.heap.size a w' := h.trans (h'.mono h.size)

theorem own_below {w w' : World} {base B : Nat} {e : TypeId} {size n : Nat} {v : Value} {xs : List Value} (h : w.ownsRow base e size v n xs) (hb : Below B w w') (hB : w.heap.size ≤ B) : w'.ownsRow base e size v n xs :=
  h.kept (row := none) ⟨hb.os, hb.tape, hb.output, hb.size, fun k hk _ => hb.block k (Nat.lt_of_lt_of_le hk hB)⟩ (by
    rcases v.ownBlock with _ | g
    · exact .inl rfl
    · exact .inr (by simp))

theorem ret_int {k : IntKind} {a b : Int} (h : a = b) : Ending.returned (.int k a) = .returned (.int k b) := by rw [h]
theorem ret_bool {a b : Bool} (h : a = b) : Ending.returned (.bool a) = .returned (.bool b) := by rw [h]
def RetB (w : World) (b : Bool) (e : Ending) (w' : World) : Prop := e = .returned (.bool b) ∧ Below w.heap.size w w'
def i64s (xs : List Int) : Prop := ∀ l ∈ xs, -9223372036854775808 ≤ l ∧ l ≤ 9223372036854775807
end Go.Proofs.Ytbljfhmcebgdaaa

/-! What came in, opened: a reading of cells at a type gives the Lean value that lies there. No program is named here. -/
namespace Go.Proofs.Ytbljfhmcebgdaaa
open Go Go.RowKit Go.ChangeShapes Go.WideShapes Go.Deep

/-- Whatever reads at type t lies there as a Lean value that is ok. -/
def Opens {α : Type} (P : Program) (t : TypeId) (L : Lay α) (ok : α → Prop) : Prop :=
  ∀ (H : Type) (enc : TypeId × Value → H) (w : World) (base : Nat) (spare : Nat → Bool) (held : Bool) (fuel : Nat) (cs : List Value) (x : DataW H × List MemPlace),
    DataW.trod enc P w base spare held fuel t cs = some x → ∃ a, ok a ∧ L.R w (fun b => b < w.heap.size) a cs

def okInt (n : Int) : Prop := -9223372036854775808 ≤ n ∧ n ≤ 9223372036854775807

theorem Opens.int {P : Program} {t : TypeId} (ht : P.underlying t = some (.int .i64)) : Opens P t Lay.int okInt := by
  intro H enc w base spare held fuel cs x h
  obtain ⟨n, rfl, _, hwf⟩ := DataW.trod_int ht h
  refine ⟨n, ?_, rfl⟩
  have := bounds_i64 hwf
  unfold okInt; omega
theorem Opens.bool {P : Program} {t : TypeId} (ht : P.underlying t = some .bool) : Opens P t Lay.bool (fun _ => True) := by
  intro H enc w base spare held fuel cs x h
  obtain ⟨n, rfl, _⟩ := DataW.trod_bool ht h
  exact ⟨n, trivial, rfl⟩
theorem Opens.str {P : Program} {t : TypeId} (ht : P.underlying t = some .string) : Opens P t Lay.str (fun s => s.size ≤ maxLen) := by
  intro H enc w base spare held fuel cs x h
  obtain ⟨s, rfl, _, hs⟩ := DataW.trod_string ht h
  exact ⟨s, hs, rfl⟩
theorem Opens.byte {P : Program} {t : TypeId} (ht : P.underlying t = some (.int .u8)) : Opens P t Lay.byte (fun _ => True) := by
  intro H enc w base spare held fuel cs x h
  obtain ⟨n, rfl, _, hwf⟩ := DataW.trod_int ht h
  have := bounds_u8 hwf
  refine ⟨UInt8.ofNat n.toNat, trivial, ?_⟩
  have : ((UInt8.ofNat n.toNat).toNat : Int) = n := by
    rw [UInt8.toNat_ofNat']; omega
  show [Value.int .u8 n] = [Value.int .u8 _]
  rw [this]

theorem list_of_forall {α : Type} (n : Nat) (p : Nat → α → Prop) (h : ∀ i, i < n → ∃ a, p i a) : ∃ xs : List α, xs.length = n ∧ ∀ i x, xs[i]? = some x → p i x := by
  induction n with
  | zero => exact ⟨[], rfl, by simp⟩
  | succ n ih =>
    obtain ⟨xs, hl, hp⟩ := ih fun i hi => h i (by omega)
    obtain ⟨a, ha⟩ := h n (by omega)
    refine ⟨xs ++ [a], by simp [hl], fun i x hx => ?_⟩
    rcases Nat.lt_or_ge i n with hi | hi
    · rw [List.getElem?_append_left (by omega)] at hx
      exact hp i x hx
    · rw [List.getElem?_append_right (by omega), hl] at hx
      have : i = n := by
        rcases Nat.eq_or_lt_of_le hi with e | e
        · exact e.symm
        · rw [List.getElem?_eq_none (by simp; omega)] at hx; cases hx
      subst this
      simp at hx; subst hx; exact ha

theorem Opens.slice {α : Type} {P : Program} {t e : TypeId} {L : Lay α} {ok : α → Prop} (ht : P.underlying t = some (.slice e)) (hc : P.cellsOf e = L.size) (hs : 0 < L.size) (ho : Opens P e L ok) :
    Opens P t L.slice (fun xs => xs.length ≤ maxLen ∧ ∀ x ∈ xs, ok x) := by
  intro H enc w base spare held fuel cs x h
  rcases open_slice ht h with ⟨rfl, _⟩ | ⟨a, len, cap, m, n, D, Pl, rfl, _, hl, hm, hmm, _, hi⟩
  · exact ⟨[], ⟨by simp, by simp⟩, none, 0, rfl, by simp, .nil L w _ _⟩
  · have hle : len ≤ m := by rw [hmm]; split <;> omega
    obtain ⟨xs, hxl, hx⟩ := list_of_forall len (fun i a' => ok a' ∧ ∃ vs, L.R w (fun b => b < w.heap.size) a' vs ∧ ∀ j u, vs[j]? = some u → w.cell? (a.add (i * L.size + j)) = some u) (by
      intro i hil
      obtain ⟨cs', hcell, htr⟩ := hi i (by omega)
      obtain ⟨a', hok, hr⟩ := ho H enc w base spare held n cs' _ htr
      refine ⟨a', hok, cs', hr, fun j u hu => ?_⟩
      obtain ⟨_, hcl, hat⟩ := World.cells?_some hcell
      have hj : j < cs'.length := by
        rcases Nat.lt_or_ge j cs'.length with hj | hj
        · exact hj
        · rw [List.getElem?_eq_none hj] at hu; cases hu
      have h1 := hat j (by omega)
      rw [hc, add_of_add] at h1
      rw [h1, hu])
    refine ⟨xs, ⟨by omega, fun x hmem => ?_⟩, some a, cap, by rw [hxl], by omega, fun h0 => ⟨a, rfl, ?_, fun k x hk => (hx k x hk).2⟩⟩
    · obtain ⟨i, hi', rfl⟩ := List.getElem_of_mem hmem
      exact (hx i _ (List.getElem?_eq_getElem hi')).1
    · obtain ⟨_, vs, hr, hcell⟩ := hx 0 xs[0] (List.getElem?_eq_getElem h0)
      have hvl := L.len hr
      have h1 := hcell 0 vs[0] (List.getElem?_eq_getElem (by omega))
      have := World.block_lt_of_cell? w _ h1
      rwa [block_of_add] at this

theorem Opens.field {α : Type} {P : Program} {t : TypeId} {fs : Array Field} {L : Lay α} {ok : α → Prop} {H : Type} {enc : TypeId × Value → H} {w : World} {base : Nat} {spare : Nat → Bool} {held : Bool} {fuel : Nat} {cs : List Value}
    {x : DataW H × List MemPlace} (ht : P.underlying t = some (.struct fs)) (h : DataW.trod enc P w base spare held fuel t cs = some x) (i : Nat) (f : Field) (hf : fs[i]? = some f) (ho : Opens P f.type L ok) :
    ∃ a, ok a ∧ L.R w (fun b => b < w.heap.size) a ((cs.drop f.offset).take (P.cellsOf f.type)) := by
  obtain ⟨xs, n, _, _, _, hxl, hfld⟩ := DataW.trod_struct ht h
  have h1 := hfld i f hf
  have hi : i < fs.size := (Array.getElem?_eq_some_iff.1 hf).1
  rw [List.getElem?_eq_getElem (by omega)] at h1
  exact ho H enc w base spare held n _ _ h1
theorem trod_cells {P : Program} {t : TypeId} {fs : Array Field} {H : Type} {enc : TypeId × Value → H} {w : World} {base : Nat} {spare : Nat → Bool} {held : Bool} {fuel : Nat} {cs : List Value}
    {x : DataW H × List MemPlace} (ht : P.underlying t = some (.struct fs)) (h : DataW.trod enc P w base spare held fuel t cs = some x) : cs.length = P.cellsOf t := by
  obtain ⟨xs, n, _, _, hl, _, _⟩ := DataW.trod_struct ht h
  exact hl

/-- An argument that is a slice. -/
theorem open_arg {α : Type} {P : Program} {t e : TypeId} {L : Lay α} {ok : List α → Prop} (ht : P.underlying t = some (.slice e)) (ho : Opens P t L.slice ok) {H : Type} {enc : TypeId × Value → H} {r : Reach} {b0 : Nat} {w : World} {base : Nat}
    {spare : Nat → Bool} {held : Bool} {v : Value} {d : DataW H} {p : List MemPlace} (hv : Value.okWide P w r b0 t v) (h : DataW.Trod enc P w base spare held t v d p) :
    ∃ A c xs, v = .slice A xs.length c ∧ xs.length ≤ c ∧ ok xs ∧ L.Rd w A xs := by
  obtain ⟨A, n, c, rfl⟩ := okWide_slice ht hv
  obtain ⟨fuel, hf⟩ := h
  obtain ⟨xs, hok, A', c', hcs, hl, hr⟩ := ho H enc w base spare held fuel _ _ hf
  simp [Value.cells] at hcs
  obtain ⟨rfl, rfl, rfl⟩ := hcs
  exact ⟨A, c, xs, rfl, hl, hok, hr⟩
end Go.Proofs.Ytbljfhmcebgdaaa

/-! Regions that draw their order and whose callees make memory but hand back plain values: one walk in the order of the text, in every later world. No program is named here. -/
namespace Go.Proofs.Ytbljfhmcebgdaaa
open Go Go.RowKit

/-- A world behind w: what was there is as it was. -/
structure Later (w : World) where
  W : World
  le : Below w.heap.size w W

instance (w : World) : Nonempty (Later w) := ⟨⟨w, Below.refl _ _⟩⟩

theorem Later.cell {w : World} {a : Addr} {v : Value} (h : w.cell? a = some v) (x : Later w) : x.W.cell? a = some v :=
  (x.le.cell (World.block_lt_of_cell? w a h)).trans h
theorem Later.frozen {w : World} {a : Addr} {v : Value} {b : Bool} (h : w.cell? a = some v) (hf : w.frozen? a = b) (x : Later w) : x.W.frozen? a = b :=
  (x.le.frozen (World.block_lt_of_cell? w a h)).trans hf

theorem wp_region_later {P : Program} {id : Nat} {Q : Exit → Act → World → Prop} {a : Act} {w : World} {l : List Oper} (hm : P.follows .mixedOrders = true) (hB : Region.lexB .any l.toArray = true)
    (h : wpQuiet P l.toArray (fun w' => ∃ x : Later w, w' = x.W) (fun a' => ∀ w', (∃ x : Later w, w' = x.W) → Q .normal a' w') l a) : (Code.region id l.toArray true).wp P Q a w :=
  wp_region_quiet (C := fun w' => ∃ x : Later w, w' = x.W) hm hB ⟨⟨w.drewN 1, below_drewN (Below.refl _ _) 1⟩, rfl⟩ (by simpa using h)

theorem later_of_below {P : Program} {f : FuncId} {args : Array Value} {w : World} {x : Later w} {v : Value}
    (h : Calls P f args x.W fun e w' => e = .returned v ∧ Below x.W.heap.size x.W w') : Calls P f args x.W fun e w'' => e = .returned v ∧ ∃ y : Later w, w'' = y.W :=
  h.mono fun _ _ ⟨he, hb⟩ => ⟨he, ⟨_, bthen x.le hb⟩, rfl⟩
theorem later_of_same {P : Program} {f : FuncId} {args : Array Value} {w : World} {x : Later w} {v : Value}
    (h : Calls P f args x.W fun e w' => e = .returned v ∧ x.W = w') : Calls P f args x.W fun e w'' => e = .returned v ∧ ∃ y : Later w, w'' = y.W :=
  h.mono fun _ _ ⟨he, hb⟩ => ⟨he, x, hb.symm⟩
theorem Lay.Sl.far {α : Type} {L : Lay α} {w : World} {F : Nat → Prop} {A : Option Addr} {xs : List α} (h : L.Sl w F A xs) (p : Addr) (u : Value) (hF : ∀ b, F b → b ≠ p.block) : L.Sl (w.setCell p u) F A xs :=
  h.keep fun b hb => Below.heap_setCell w p u b (hF b hb)
theorem own_mono {w : World} {base base' : Nat} {e : TypeId} {size n : Nat} {v : Value} {xs : List Value} (h : w.ownsRow base e size v n xs) (hb : base' ≤ base) : w.ownsRow base' e size v n xs := by
  refine ⟨h.1, ?_⟩
  rcases h.2 with h2 | ⟨g, cap, cur, h1, h2, h3⟩
  · exact .inl h2
  · exact .inr ⟨g, cap, cur, h1, Nat.le_trans hb h2, h3⟩
theorem only_setCell {a w : World} {g : Nat} (h : a.grownBy w (some g)) (o : Nat) (u : Value) : a.grownBy (w.setCell ⟨g, o, none⟩ u) (some g) :=
  ⟨h.os, h.tape, h.output, by simpa [World.setCell] using h.size, fun i hi hne => (Below.heap_setCell w ⟨g, o, none⟩ u i (fun e => hne (by rw [e]))).trans (h.block i hi hne)⟩
theorem Lay.Sl.drewN {α : Type} {L : Lay α} {w : World} {F : Nat → Prop} {A : Option Addr} {xs : List α} (h : L.Sl w F A xs) (n : Nat) : L.Sl (w.drewN n) F A xs := h.keep fun _ _ => rfl
theorem quiet_left {P : Program} {f : FuncId} {args : Array Value} {w : World} {n : Nat} {v : Value}
    (h : Calls P f args (w.drewN n) fun e w' => e = .returned v ∧ w.drewN n = w') : Calls P f args (w.drewN n) fun e w'' => e = .returned v ∧ ∃ m, w'' = w.drewN m :=
  h.mono fun _ _ ⟨he, hm⟩ => ⟨he, n, hm.symm⟩
end Go.Proofs.Ytbljfhmcebgdaaa

/-! Terms, declarations and layers, how they lie in memory. No program is named here. -/
namespace Go.Proofs.Ytbljfhmcebgdaaa
open Go Go.RowKit

inductive T where
  | mk (op a b : Int) (name : ByteArray) (kids : List T) : T
namespace T
def op : T → Int | mk o _ _ _ _ => o
def a : T → Int | mk _ a _ _ _ => a
def b : T → Int | mk _ _ b _ _ => b
def name : T → ByteArray | mk _ _ _ n _ => n
def kids : T → List T | mk _ _ _ _ k => k
end T
/-- By the kids. -/
theorem T.ind {p : T → Prop} (h : ∀ t, (∀ k ∈ t.kids, p k) → p t) (t : T) : p t := by
  refine T.rec (motive_1 := p) (motive_2 := fun l => ∀ k ∈ l, p k) ?_ ?_ ?_ t
  · intro o a b n ks ih; exact h _ ih
  · intro k hk; cases hk
  · intro x xs hx hxs k hk
    rcases List.mem_cons.1 hk with rfl | hk
    · exact hx
    · exact hxs k hk
mutual
def T.same : T → T → Bool
  | .mk o a b n k, .mk o' a' b' n' k' => o == o' && a == a' && b == b' && n.toList == n'.toList && T.sameL k k'
def T.sameL : List T → List T → Bool
  | [], [] => true
  | x :: xs, y :: ys => T.same x y && T.sameL xs ys
  | _, _ => false
end
/-- The cells vs are the term t, read in w; all that they lead to lies in F. -/
inductive TermR (w : World) (F : Nat → Prop) : T → List Value → Prop
  | mk (o a b : Int) (n : ByteArray) (kids : List T) (A : Option Addr) (c : Nat) (vs : Nat → List Value) (hc : kids.length ≤ c)
      (hA : 0 < kids.length → ∃ ad, A = some ad ∧ F ad.block ∧ ∀ k, k < kids.length → ∀ j u, (vs k)[j]? = some u → w.cell? (ad.add (k * 5 + j)) = some u)
      (hk : ∀ k x, kids[k]? = some x → TermR w F x (vs k)) :
      TermR w F (.mk o a b n kids) [.int .i64 o, .int .i64 a, .int .i64 b, .string n, .slice A kids.length c]

def Lay.term : Lay T where
  size := 5
  R := TermR
  len := by rintro w F x vs ⟨⟩; rfl
  keep := by
    intro w w' F x vs hk h
    induction h with
    | mk o a b n kids A c vs hc hA hk' ih =>
      refine .mk o a b n kids A c vs hc (fun h0 => ?_) ih
      obtain ⟨ad, e, hf, hcell⟩ := hA h0
      exact ⟨ad, e, hf, fun k hk'' j u hu => (World.cell?_of_block (w := w) (by rw [block_of_add]; exact hk _ hf)).trans (hcell k hk'' j u hu)⟩
  mono := by
    intro w F G x vs hk h
    induction h with
    | mk o a b n kids A c vs hc hA hk' ih =>
      refine .mk o a b n kids A c vs hc (fun h0 => ?_) ih
      obtain ⟨ad, e, hf, hcell⟩ := hA h0
      exact ⟨ad, e, hk _ hf, hcell⟩

theorem TermR.form {w : World} {F : Nat → Prop} {t : T} {vs : List Value} (h : TermR w F t vs) :
    ∃ A c, vs = [.int .i64 t.op, .int .i64 t.a, .int .i64 t.b, .string t.name, .slice A t.kids.length c] ∧ t.kids.length ≤ c ∧ Lay.term.Sl w F A t.kids := by
  cases h with
  | mk o a b n kids A c vs hc hA hk =>
    refine ⟨A, c, rfl, hc, fun h0 => ?_⟩
    obtain ⟨ad, e, hf, hcell⟩ := hA h0
    refine ⟨ad, e, hf, fun k x hx => ⟨vs k, hk k x hx, fun j u hu => ?_⟩⟩
    have hlt : k < kids.length := by
      rcases Nat.lt_or_ge k kids.length with h | h
      · exact h
      · have hx' : kids[k]? = some x := hx
        rw [List.getElem?_eq_none h] at hx'; cases hx'
    exact hcell k hlt j u hu
theorem TermR.of {w : World} {F : Nat → Prop} {A : Option Addr} {c : Nat} {t : T} (hc : t.kids.length ≤ c) (h : Lay.term.Sl w F A t.kids) :
    TermR w F t [.int .i64 t.op, .int .i64 t.a, .int .i64 t.b, .string t.name, .slice A t.kids.length c] := by
  obtain ⟨o, a, b, n, kids⟩ := t
  change Lay.term.Sl w F A kids at h
  show TermR w F _ [.int .i64 o, .int .i64 a, .int .i64 b, .string n, .slice A kids.length c]
  by_cases h0 : 0 < kids.length
  · obtain ⟨ad, e, hf, hk⟩ := h h0
    have hk' : ∀ k, ∃ vs, ∀ x, kids[k]? = some x → TermR w F x vs ∧ ∀ j u, vs[j]? = some u → w.cell? (ad.add (k * 5 + j)) = some u := fun k => by
      cases hx : kids[k]? with
      | none => exact ⟨[], fun x h => by cases h⟩
      | some x =>
        obtain ⟨vs, h1, h2⟩ := hk k x hx
        exact ⟨vs, fun x' h => by cases h; exact ⟨h1, h2⟩⟩
    obtain ⟨f, hf'⟩ := Classical.axiomOfChoice hk'
    exact .mk o a b n kids A c f hc (fun _ => ⟨ad, e, hf, fun k hlt => (hf' k _ (List.getElem?_eq_getElem hlt)).2⟩) (fun k x hx => (hf' k x hx).1)
  · have : kids = [] := List.eq_nil_of_length_eq_zero (by omega)
    subst this
    exact .mk o a b n [] A c (fun _ => []) hc (fun h => absurd h (by simp)) (fun k x hx => by simp at hx)

structure D where
  name : ByteArray
  wide : Int
def D.same (x y : D) : Bool := x.name.toList == y.name.toList && x.wide == y.wide
structure Ly where
  ds : List D
  ts : List T
/-- Two lists of as many, one by one alike. -/
def allSame {α : Type} (f : α → α → Bool) : List α → List α → Bool
  | [], [] => true
  | x :: xs, y :: ys => f x y && allSame f xs ys
  | _, _ => false
def Ly.same (x y : Ly) : Bool := allSame D.same x.ds y.ds && allSame T.same x.ts y.ts
end Go.Proofs.Ytbljfhmcebgdaaa

/-! What came in, opened, by the reader's fuel: for types that hold themselves. No program is named here. -/
namespace Go.Proofs.Ytbljfhmcebgdaaa
open Go Go.RowKit Go.ChangeShapes Go.WideShapes Go.Deep

def OpensF {α : Type} (P : Program) (t : TypeId) (L : Lay α) (ok : α → Prop) (N : Nat) : Prop :=
  ∀ (H : Type) (enc : TypeId × Value → H) (w : World) (base : Nat) (spare : Nat → Bool) (held : Bool) (fuel : Nat) (cs : List Value) (x : DataW H × List MemPlace),
    fuel ≤ N → DataW.trod enc P w base spare held fuel t cs = some x → ∃ a, ok a ∧ L.R w (fun b => b < w.heap.size) a cs
theorem Opens.at {α : Type} {P : Program} {t : TypeId} {L : Lay α} {ok : α → Prop} (h : Opens P t L ok) (N : Nat) : OpensF P t L ok N :=
  fun H enc w base spare held fuel cs x _ hx => h H enc w base spare held fuel cs x hx
theorem Opens.of {α : Type} {P : Program} {t : TypeId} {L : Lay α} {ok : α → Prop} (h : ∀ N, OpensF P t L ok N) : Opens P t L ok :=
  fun H enc w base spare held fuel cs x hx => h fuel H enc w base spare held fuel cs x (Nat.le_refl _) hx
theorem OpensF.mono {α : Type} {P : Program} {t : TypeId} {L : Lay α} {ok : α → Prop} {N M : Nat} (h : OpensF P t L ok N) (hM : M ≤ N) : OpensF P t L ok M :=
  fun H enc w base spare held fuel cs x hl hx => h H enc w base spare held fuel cs x (Nat.le_trans hl hM) hx

theorem OpensF.slice {α : Type} {P : Program} {t e : TypeId} {L : Lay α} {ok : α → Prop} {N : Nat} (ht : P.underlying t = some (.slice e)) (hc : P.cellsOf e = L.size) (hs : 0 < L.size) (ho : OpensF P e L ok N) :
    OpensF P t L.slice (fun xs => xs.length ≤ maxLen ∧ ∀ x ∈ xs, ok x) (N + 1) := by
  intro H enc w base spare held fuel cs x hl h
  rcases DataW.trod_slice ht h with ⟨rfl, _⟩ | ⟨a, len, cap, elems, rest, n, hfu, rfl, _, _, hlc, hcm, hel, hi, _, _⟩
  · exact ⟨[], ⟨by simp, by simp⟩, none, 0, rfl, by simp, .nil L w _ _⟩
  · obtain ⟨xs, hxl, hx⟩ := list_of_forall len (fun i a' => ok a' ∧ ∃ vs, L.R w (fun b => b < w.heap.size) a' vs ∧ ∀ j u, vs[j]? = some u → w.cell? (a.add (i * L.size + j)) = some u) (by
      intro i hil
      have key := hi i hil
      rw [List.getElem?_eq_getElem (by omega)] at key
      obtain ⟨cs', hcell, htr⟩ := Option.bind_eq_some_iff.1 key
      obtain ⟨a', hok, hr⟩ := ho H enc w base spare held n cs' _ (by omega) htr
      refine ⟨a', hok, cs', hr, fun j u hu => ?_⟩
      obtain ⟨_, hcl, hat⟩ := World.cells?_some hcell
      have hj : j < cs'.length := by
        rcases Nat.lt_or_ge j cs'.length with hj | hj
        · exact hj
        · rw [List.getElem?_eq_none hj] at hu; cases hu
      have h1 := hat j (by omega)
      rw [hc, add_of_add] at h1
      rw [h1, hu])
    refine ⟨xs, ⟨by omega, fun x hmem => ?_⟩, some a, cap, by rw [hxl], by omega, fun h0 => ⟨a, rfl, ?_, fun k x hk => (hx k x hk).2⟩⟩
    · obtain ⟨i, hi', rfl⟩ := List.getElem_of_mem hmem
      exact (hx i _ (List.getElem?_eq_getElem hi')).1
    · obtain ⟨_, vs, hr, hcell⟩ := hx 0 xs[0] (List.getElem?_eq_getElem h0)
      have hvl := L.len hr
      have h1 := hcell 0 vs[0] (List.getElem?_eq_getElem (by omega))
      have := World.block_lt_of_cell? w _ h1
      rwa [block_of_add] at this

/-- What the reader finds in a field. -/
theorem OpensF.field {α : Type} {P : Program} {t : TypeId} {fs : Array Field} {L : Lay α} {ok : α → Prop} {H : Type} {enc : TypeId × Value → H} {w : World} {base : Nat} {spare : Nat → Bool} {held : Bool} {fuel N : Nat} {cs : List Value}
    {x : DataW H × List MemPlace} (ht : P.underlying t = some (.struct fs)) (h : DataW.trod enc P w base spare held fuel t cs = some x) (hN : fuel ≤ N + 1) (i : Nat) (ty : TypeId) (o : Nat) (nm : Nat)
    (hf : (fs[i]?).map (fun f : Field => (f.type, f.offset)) = some (ty, o)) (hn : P.cellsOf ty = nm) (ho : OpensF P ty L ok N) :
    ∃ a, ok a ∧ L.R w (fun b => b < w.heap.size) a ((cs.drop o).take nm) := by
  obtain ⟨xs, n, hfu, _, _, hxl, hfld⟩ := DataW.trod_struct ht h
  cases hfi : fs[i]? with
  | none => rw [hfi] at hf; cases hf
  | some f =>
    rw [hfi] at hf
    simp at hf
    obtain ⟨rfl, rfl⟩ := hf
    have h1 := hfld i f hfi
    have hi : i < fs.size := (Array.getElem?_eq_some_iff.1 hfi).1
    rw [List.getElem?_eq_getElem (by omega), hn] at h1
    exact ho H enc w base spare held n _ _ (by omega) h1

/-- Of the term and all below it. -/
inductive T.All (p : T → Prop) : T → Prop
  | mk (t : T) (h : p t) (hk : ∀ k ∈ t.kids, T.All p k) : T.All p t
theorem T.All.here {p : T → Prop} {t : T} (h : T.All p t) : p t := by cases h; assumption
theorem T.All.imp {p q : T → Prop} (hpq : ∀ t, p t → q t) {t : T} (h : T.All p t) : T.All q t := by
  induction h with
  | mk t h _ ih => exact .mk t (hpq t h) ih
def okT1 (t : T) : Prop := okInt t.op ∧ okInt t.a ∧ okInt t.b ∧ t.name.size ≤ maxLen ∧ t.kids.length ≤ maxLen
abbrev okTerm (t : T) : Prop := T.All okT1 t

theorem OpensF.term {P : Program} {t sl ti ts : TypeId} {fs : Array Field} (ht : P.underlying t = some (.struct fs)) (hc : P.cellsOf t = 5) (hsl : P.underlying sl = some (.slice t)) (hsc : P.cellsOf sl = 1)
    (hti : P.underlying ti = some (.int .i64)) (htic : P.cellsOf ti = 1) (hts : P.underlying ts = some .string) (htsc : P.cellsOf ts = 1)
    (hf : fs.toList.map (fun f : Field => (f.type, f.offset)) = [(ti, 0), (ti, 1), (ti, 2), (ts, 3), (sl, 4)]) : ∀ N, OpensF P t Lay.term okTerm N ∧ OpensF P sl Lay.term.slice (fun xs => xs.length ≤ maxLen ∧ ∀ x ∈ xs, okTerm x) N := by
  have hfi : ∀ i, (fs[i]?).map (fun f : Field => (f.type, f.offset)) = [(ti, 0), (ti, 1), (ti, 2), (ts, 3), (sl, 4)][i]? := fun i => by
    rw [← hf, List.getElem?_map, Array.getElem?_toList]
  intro N
  induction N with
  | zero =>
    refine ⟨fun H enc w base spare held fuel cs x hl h => ?_, fun H enc w base spare held fuel cs x hl h => ?_⟩
    · obtain ⟨_, n, hfu, _⟩ := DataW.trod_struct ht h
      omega
    · rcases DataW.trod_slice hsl h with ⟨rfl, _⟩ | ⟨a, len, cap, elems, rest, n, hfu, _⟩
      · exact ⟨[], ⟨by simp, by simp⟩, none, 0, rfl, by simp, .nil _ w _ _⟩
      · omega
  | succ N ih =>
    refine ⟨fun H enc w base spare held fuel cs x hl h => ?_, OpensF.slice hsl hc (by decide) ih.1⟩
    obtain ⟨o, oko, ro⟩ := OpensF.field ht h hl 0 ti 0 1 (hfi 0) htic ((Opens.int hti).at N)
    obtain ⟨a, oka, ra⟩ := OpensF.field ht h hl 1 ti 1 1 (hfi 1) htic ((Opens.int hti).at N)
    obtain ⟨b, okb, rb⟩ := OpensF.field ht h hl 2 ti 2 1 (hfi 2) htic ((Opens.int hti).at N)
    obtain ⟨s, oks, rs⟩ := OpensF.field ht h hl 3 ts 3 1 (hfi 3) htsc ((Opens.str hts).at N)
    obtain ⟨ks, ⟨okl, okk⟩, A, c, rk, rl, rsl⟩ := OpensF.field ht h hl 4 sl 4 1 (hfi 4) hsc ih.2
    have hlen := trod_cells ht h
    rw [hc] at hlen
    match cs, hlen with
    | [x0, x1, x2, x3, x4], _ =>
      simp [Lay.int, Lay.str, Lay.flat] at ro ra rb rs rk
      subst ro ra rb rs rk
      exact ⟨.mk o a b s ks, .mk _ ⟨oko, oka, okb, oks, okl⟩ okk, TermR.of (t := .mk o a b s ks) rl rsl⟩

theorem Opens.term {P : Program} {t sl ti ts : TypeId} {fs : Array Field} (ht : P.underlying t = some (.struct fs)) (hc : P.cellsOf t = 5) (hsl : P.underlying sl = some (.slice t)) (hsc : P.cellsOf sl = 1)
    (hti : P.underlying ti = some (.int .i64)) (htic : P.cellsOf ti = 1) (hts : P.underlying ts = some .string) (htsc : P.cellsOf ts = 1)
    (hf : fs.toList.map (fun f : Field => (f.type, f.offset)) = [(ti, 0), (ti, 1), (ti, 2), (ts, 3), (sl, 4)]) : Opens P t Lay.term okTerm :=
  .of fun N => (OpensF.term ht hc hsl hsc hti htic hts htsc hf N).1

end Go.Proofs.Ytbljfhmcebgdaaa

/-! Clauses, what is put, unit propagation: the plain law. No program is named here. -/
namespace Go.Proofs.Ytbljfhmcebgdaaa
open Go Go.RowKit

structure C where
  many : Int
  list : List (List Int)
/-- A clause, from a place on, behind a mark. -/
def cOk (many : Int) : Int → List Int → Bool
  | _, [] => true
  | last, l :: ls => decide (-many ≤ l) && decide (l ≤ many) && decide (last < (l.natAbs : Int)) && cOk many l.natAbs ls
def clOk (many : Int) (cl : List Int) : Bool := cOk many 0 cl
def cnfOk (c : C) : Bool := decide (0 ≤ c.many) && decide (c.many ≤ 700) && decide (c.list.length ≤ 2500) && c.list.all (clOk c.many)
theorem cOk_drop {many last : Int} {cl : List Int} {k : Nat} (h : k < cl.length) : cOk many last (cl.drop k) = (decide (-many ≤ cl[k]) && decide (cl[k] ≤ many) && decide (last < (cl[k].natAbs : Int)) && cOk many (cl[k].natAbs) (cl.drop (k + 1))) := by
  rw [List.drop_eq_getElem_cons h]; rfl
theorem cOk_mem {many last : Int} (h0 : 0 ≤ last) : ∀ {cl : List Int}, cOk many last cl = true → ∀ l ∈ cl, l ≠ 0 ∧ -many ≤ l ∧ l ≤ many ∧ last < (l.natAbs : Int)
  | l :: ls, h, x, hx => by
    simp only [cOk, Bool.and_eq_true, decide_eq_true_eq] at h
    obtain ⟨⟨⟨h1, h2⟩, h3⟩, h4⟩ := h
    rcases List.mem_cons.1 hx with rfl | hx
    · exact ⟨by omega, h1, h2, h3⟩
    · have := cOk_mem (by omega) h4 x hx
      exact ⟨this.1, this.2.1, this.2.2.1, by omega⟩

/-- What is put: marks that are there, each at most once. -/
structure Good (many : Int) (put : List Int) : Prop where
  rng : ∀ l ∈ put, l ≠ 0 ∧ -many ≤ l ∧ l ≤ many
  nodup : (put.map Int.natAbs).Nodup
theorem Good.nil (many : Int) : Good many [] := ⟨by simp, by simp⟩
theorem mem_natAbs {put : List Int} {l : Int} : l.natAbs ∈ put.map Int.natAbs ↔ l ∈ put ∨ -l ∈ put := by
  rw [List.mem_map]
  constructor
  · rintro ⟨x, hx, he⟩
    have : x = l ∨ x = -l := by omega
    rcases this with rfl | rfl
    · exact .inl hx
    · exact .inr hx
  · rintro (h | h)
    · exact ⟨l, h, rfl⟩
    · exact ⟨-l, h, by omega⟩
theorem Good.snoc {many : Int} {put : List Int} {l : Int} (h : Good many put) (h0 : l ≠ 0) (h1 : -many ≤ l) (h2 : l ≤ many) (h3 : l ∉ put) (h4 : -l ∉ put) : Good many (put ++ [l]) := by
  refine ⟨fun x hx => ?_, ?_⟩
  · rcases List.mem_append.1 hx with hx | hx
    · exact h.rng x hx
    · rw [List.mem_singleton.1 hx]; exact ⟨h0, h1, h2⟩
  · rw [List.map_append]
    refine List.nodup_append.2 ⟨h.nodup, by simp, fun a ha b hb => ?_⟩
    simp only [List.map_cons, List.map_nil, List.mem_singleton] at hb
    rintro rfl
    rw [hb] at ha
    rcases mem_natAbs.1 ha with h' | h'
    · exact h3 h'
    · exact h4 h'
theorem nodup_bound : ∀ (m : Nat) (l : List Nat), l.Nodup → (∀ x ∈ l, 1 ≤ x ∧ x ≤ m) → l.length ≤ m
  | 0, l, _, h => by
    cases l with
    | nil => simp
    | cons x xs => have := h x (by simp); omega
  | m + 1, l, hn, h => by
    have h1 : (l.filter (fun x => x != m + 1)).length ≤ m := nodup_bound m _ (hn.filter _) (fun x hx => by
      have hx' := List.mem_filter.1 hx
      have := h x hx'.1
      have hne : x ≠ m + 1 := by simpa using hx'.2
      omega)
    have h2 : (l.filter (fun x => x == m + 1)).length ≤ 1 := by
      have : ∀ (l : List Nat), l.Nodup → (l.filter (fun x => x == m + 1)).length ≤ 1 := by
        intro l hn
        induction l with
        | nil => simp
        | cons x xs ih =>
          have hx := List.nodup_cons.1 hn
          by_cases e : x = m + 1
          · subst e
            have : xs.filter (fun x => x == m + 1) = [] := List.filter_eq_nil_iff.2 (fun y hy => by
              simp only [beq_iff_eq]; rintro rfl; exact hx.1 hy)
            simp [this]
          · have hf : (x == m + 1) = false := by simp [e]
            rw [List.filter_cons, hf]
            exact ih hx.2
      exact this l hn
    have h3 : l.length = (l.filter (fun x => x == m + 1)).length + (l.filter (fun x => x != m + 1)).length := by
      clear h hn h1 h2
      induction l with
      | nil => rfl
      | cons x xs ih =>
        by_cases e : x = m + 1
        · have h1 : (x == m + 1) = true := by simp [e]
          have h2 : (x != m + 1) = false := by simp [e]
          simp only [List.filter_cons, h1, h2, List.length_cons, if_true]
          simp only [Bool.false_eq_true, if_false]
          omega
        · have h1 : (x == m + 1) = false := by simp [e]
          have h2 : (x != m + 1) = true := by simp [e]
          simp only [List.filter_cons, h1, h2, List.length_cons, if_true]
          simp only [Bool.false_eq_true, if_false]
          omega
    omega
theorem Good.length {many : Int} {put : List Int} (h : Good many put) : put.length ≤ many.toNat := by
  have := nodup_bound many.toNat (put.map Int.natAbs) h.nodup (fun x hx => by
    obtain ⟨l, hl, rfl⟩ := List.mem_map.1 hx
    have := h.rng l hl
    omega)
  simpa using this
theorem Good.apart {many : Int} {put : List Int} (h : Good many put) {l : Int} (h1 : l ∈ put) (h2 : -l ∈ put) : False := by
  have h0 := (h.rng l h1).1
  have := h.nodup
  obtain ⟨i, hi, ei⟩ := List.getElem_of_mem h1
  obtain ⟨j, hj, ej⟩ := List.getElem_of_mem h2
  have hp := List.pairwise_iff_getElem.1 this
  have hne : i ≠ j := by
    rintro rfl
    rw [ei] at ej; omega
  rcases Nat.lt_or_ge i j with hlt | hge
  · exact hp i j (by simpa using hi) (by simpa using hj) hlt (by simp only [List.getElem_map, ei, ej]; omega)
  · exact hp j i (by simpa using hj) (by simpa using hi) (by omega) (by simp only [List.getElem_map, ei, ej]; omega)
/-- How a mark is: 1 put, -1 turned, 0 free. -/
def sg (put : List Int) (m : Int) : Int := if m ∈ put then 1 else if -m ∈ put then -1 else 0

/-- The look at a clause: nothing if one is put; else how many are free, and the last one of these. -/
def lk (put : List Int) : List Int → Int → Int → Option (Int × Int)
  | [], n, f => some (n, f)
  | l :: ls, n, f => if l ∈ put then none else if -l ∈ put then lk put ls n f else lk put ls (n + 1) l
theorem lk_drop {put cl : List Int} {k : Nat} {n f : Int} (h : k < cl.length) : lk put (cl.drop k) n f = if cl[k] ∈ put then none else if -cl[k] ∈ put then lk put (cl.drop (k + 1)) n f else lk put (cl.drop (k + 1)) (n + 1) cl[k] := by
  rw [List.drop_eq_getElem_cons h]; rfl
/-- The first false clause, and the first one with a single free mark, and that one. -/
def fd (put : List Int) : List (List Int) → Int → Int → Int → Int × Int × Int
  | [], _, u, f => (-1, u, f)
  | cl :: cls, k, u, f => match lk put cl 0 0 with
    | none => fd put cls (k + 1) u f
    | some (n, m) => if n = 0 then (k, u, f) else if n = 1 ∧ u < 0 then fd put cls (k + 1) k m else fd put cls (k + 1) u f
theorem fd_drop {put : List Int} {cs : List (List Int)} {j : Nat} {k u f : Int} (h : j < cs.length) : fd put (cs.drop j) k u f = match lk put cs[j] 0 0 with
    | none => fd put (cs.drop (j + 1)) (k + 1) u f
    | some (n, m) => if n = 0 then (k, u, f) else if n = 1 ∧ u < 0 then fd put (cs.drop (j + 1)) (k + 1) k m else fd put (cs.drop (j + 1)) (k + 1) u f := by
  rw [List.drop_eq_getElem_cons h]; rfl
theorem lk_free {many : Int} {put : List Int} : ∀ {cl : List Int} {n f n' f' : Int}, (∀ l ∈ cl, l ≠ 0 ∧ -many ≤ l ∧ l ≤ many) → (0 < n → f ≠ 0 ∧ -many ≤ f ∧ f ≤ many ∧ f ∉ put ∧ -f ∉ put) → 0 ≤ n → lk put cl n f = some (n', f') → 0 < n' → f' ≠ 0 ∧ -many ≤ f' ∧ f' ≤ many ∧ f' ∉ put ∧ -f' ∉ put
  | [], n, f, n', f', _, hf, _, h, hp => by
    simp only [lk, Option.some.injEq, Prod.mk.injEq] at h
    obtain ⟨rfl, rfl⟩ := h
    exact hf hp
  | l :: ls, n, f, n', f', hc, hf, h0, h, hp => by
    have hl := hc l (by simp)
    have hls : ∀ l ∈ ls, l ≠ 0 ∧ -many ≤ l ∧ l ≤ many := fun x hx => hc x (by simp [hx])
    simp only [lk] at h
    split at h
    · cases h
    · rename_i h1
      split at h
      · exact lk_free hls hf h0 h hp
      · rename_i h2
        exact lk_free hls (fun _ => ⟨hl.1, hl.2.1, hl.2.2, h1, h2⟩) (by omega) h hp
theorem fd_free {many : Int} {put : List Int} : ∀ {cs : List (List Int)} {k u f : Int}, (∀ cl ∈ cs, ∀ l ∈ cl, l ≠ 0 ∧ -many ≤ l ∧ l ≤ many) → (0 ≤ u → f ≠ 0 ∧ -many ≤ f ∧ f ≤ many ∧ f ∉ put ∧ -f ∉ put) → 0 ≤ k →
    0 ≤ (fd put cs k u f).2.1 → (fd put cs k u f).2.2 ≠ 0 ∧ -many ≤ (fd put cs k u f).2.2 ∧ (fd put cs k u f).2.2 ≤ many ∧ (fd put cs k u f).2.2 ∉ put ∧ -(fd put cs k u f).2.2 ∉ put
  | [], k, u, f, _, hf, _, h => hf h
  | cl :: cls, k, u, f, hc, hf, hk, h => by
    have hcl := hc cl (by simp)
    have hcls : ∀ cl ∈ cls, ∀ l ∈ cl, l ≠ 0 ∧ -many ≤ l ∧ l ≤ many := fun x hx => hc x (by simp [hx])
    simp only [fd] at h ⊢
    cases hlk : lk put cl 0 0 with
    | none =>
      rw [hlk] at h
      exact fd_free hcls hf (by omega) h
    | some p =>
      obtain ⟨n, m⟩ := p
      rw [hlk] at h
      dsimp only at h ⊢
      split at h
      · rename_i hn
        rw [if_pos hn]; exact hf h
      · rename_i hn
        rw [if_neg hn]
        split at h
        · rename_i h1
          rw [if_pos h1]
          exact fd_free hcls (fun _ => lk_free hcl (fun h => absurd h (by omega)) (by omega) hlk (by omega)) (by omega) h
        · rename_i h1
          rw [if_neg h1]
          exact fd_free hcls hf (by omega) h
theorem clOk_rng {many : Int} {cl : List Int} (h : clOk many cl = true) : ∀ l ∈ cl, l ≠ 0 ∧ -many ≤ l ∧ l ≤ many := fun l hl => by
  have := cOk_mem (Int.le_refl 0) h l hl
  exact ⟨this.1, this.2.1, this.2.2.1⟩
theorem cnfOk_rng {c : C} (h : cnfOk c = true) : ∀ cl ∈ c.list, ∀ l ∈ cl, l ≠ 0 ∧ -c.many ≤ l ∧ l ≤ c.many := fun cl hc => by
  simp only [cnfOk, Bool.and_eq_true, List.all_eq_true] at h
  exact clOk_rng (h.2 cl hc)
/-- The next unit may be put. -/
theorem Good.next {many : Int} {put : List Int} {cs : List (List Int)} (h : Good many put) (hc : ∀ cl ∈ cs, ∀ l ∈ cl, l ≠ 0 ∧ -many ≤ l ∧ l ≤ many) (hu : 0 ≤ (fd put cs 0 (-1) 0).2.1) : Good many (put ++ [(fd put cs 0 (-1) 0).2.2]) := by
  have := fd_free hc (fun h => absurd h (by omega)) (Int.le_refl 0) hu
  exact h.snoc this.1 this.2.1 this.2.2.1 this.2.2.2.1 this.2.2.2.2
theorem cOk_good {many last : Int} (h0 : 0 ≤ last) : ∀ {cl : List Int}, cOk many last cl = true → Good many (cl.map fun l => -l) ∧ ∀ l ∈ cl, last < (l.natAbs : Int)
  | [], _ => ⟨Good.nil many, by simp⟩
  | l :: ls, h => by
    have hm := cOk_mem h0 h
    simp only [cOk, Bool.and_eq_true, decide_eq_true_eq] at h
    obtain ⟨⟨⟨h1, h2⟩, h3⟩, h4⟩ := h
    obtain ⟨hg, hgt⟩ := cOk_good (by omega) h4
    refine ⟨⟨fun x hx => ?_, ?_⟩, fun x hx => (hm x hx).2.2.2⟩
    · obtain ⟨y, hy, rfl⟩ := List.mem_map.1 hx
      have := hm y hy
      omega
    · simp only [List.map_cons, List.map_map]
      refine List.nodup_cons.2 ⟨fun hx => ?_, by simpa [List.map_map] using hg.nodup⟩
      obtain ⟨y, hy, e⟩ := List.mem_map.1 hx
      have := hgt y hy
      simp only [Function.comp] at e
      omega
end Go.Proofs.Ytbljfhmcebgdaaa

/-! Contracts of the copies and comparisons of lists of integers and of truth values. -/
namespace Go.Proofs.Ytbljfhmcebgdaaa
open Go Go.RowKit

theorem int_info : (Try.prog.info? 3).map (fun i => (i.zero, i.size, i.bytes)) = some (some (.int .i64 0), 1, 8) := by kernel_rfl
theorem bool_info : (Try.prog.info? 4).map (fun i => (i.zero, i.size, i.bytes)) = some (some (.bool false), 1, 1) := by kernel_rfl

theorem sl_ints_of_own {w : World} {F : Nat → Prop} {base : Nat} {e : TypeId} {A : Option Addr} {n c : Nat} {xs : List Int} (h : w.ownsRow base e 1 (.slice A n c) n (xs.map (Value.int .i64)))
    (hF : ∀ g, base ≤ g → g < w.heap.size → F g) : Lay.int.Sl w F A xs ∧ n = xs.length ∧ n ≤ c := by
  have hn : n = xs.length := by have := h.1; simp at this; omega
  refine ⟨.of_own h hn hF fun k x hx => ⟨_, rfl, fun j u hu => ?_⟩, hn, ?_⟩
  · match j, hu with
    | 0, hu => simp [Lay.int, Lay.flat, hx]; simpa using hu
  · rcases h.2 with ⟨h1, h2⟩ | ⟨g, cap, cur, h1, _, _, h2, _⟩
    · omega
    · injection h1 with _ _ h3; omega
theorem take_eq_step {α : Type} {xs ys : List α} {k : Nat} (h1 : k < xs.length) (h2 : k < ys.length) (h : xs.take k = ys.take k) (he : xs[k] = ys[k]) : xs.take (k + 1) = ys.take (k + 1) := by
  rw [List.take_succ_eq_append_getElem h1, List.take_succ_eq_append_getElem h2, h, he]
theorem eq_of_take {α : Type} {xs ys : List α} (hl : xs.length = ys.length) (h : xs.take xs.length = ys.take xs.length) : xs = ys := by
  rw [List.take_length, hl, List.take_length] at h; exact h

end Go.Proofs.Ytbljfhmcebgdaaa

/-! Words on sizes and copies. No program is named here. -/
namespace Go.Proofs.Ytbljfhmcebgdaaa
open Go Go.RowKit
/-- The block is the call's own, and may be written. -/
def Own (lo : Nat) (w : World) (b : Nat) : Prop := lo ≤ b ∧ b < w.heap.size ∧ ∀ o, w.frozen? ⟨b, o, none⟩ = false
theorem Own.up {lo : Nat} {w w' : World} {b : Nat} (h : Own lo w b) (hb : Below w.heap.size w w') : Own lo w' b :=
  ⟨h.1, Nat.lt_of_lt_of_le h.2.1 hb.size, fun o => ((bcell hb).2 b o h.2.1).trans (h.2.2 o)⟩
theorem Own.set {lo : Nat} {w : World} {b : Nat} (h : Own lo w b) (p : Addr) (u : Value) : Own lo (w.setCell p u) b :=
  ⟨h.1, by simpa [World.setCell] using h.2.1, fun o => by rw [World.frozen?_setCell]; exact h.2.2 o⟩
theorem Own.mono {lo lo' : Nat} {w : World} {b : Nat} (h : Own lo w b) (hl : lo' ≤ lo) : Own lo' w b := ⟨Nat.le_trans hl h.1, h.2.1, h.2.2⟩
theorem Lay.Sl.own_mono {α : Type} {L : Lay α} {w : World} {lo lo' : Nat} {A : Option Addr} {xs : List α} (h : L.Sl w (Own lo w) A xs) (hl : lo' ≤ lo) : L.Sl w (Own lo' w) A xs := h.mono fun _ h => h.mono hl
theorem Own.ofRow {w : World} {base lo g n c : Nat} {e : TypeId} {size : Nat} {cs : List Value} (h : w.ownsRow base e size (.slice (some ⟨g, 0, none⟩) n c) n cs) (hl : lo ≤ g) : Own lo w g :=
  ⟨hl, (h.lt g rfl).2, fun o => h.frozenAt o⟩

/-- What a function returns that makes a slice of its own, which may be written. -/
def RetO {α : Type} (L : Lay α) (w : World) (xs : List α) (e : Ending) (w' : World) : Prop :=
  ∃ A c, e = .returned (.slice A xs.length c) ∧ xs.length ≤ c ∧ L.Sl w' (Own w.heap.size w') A xs ∧ Below w.heap.size w w'

def setAt : List Value → Nat → List Value → List Value
  | cs, _, [] => cs
  | cs, p, v :: vs => setAt (cs.set p v) (p + 1) vs
theorem setAt_out : ∀ (vs cs : List Value) (p i : Nat), i < p ∨ p + vs.length ≤ i → (setAt cs p vs)[i]? = cs[i]?
  | [], _, _, _, _ => rfl
  | v :: vs, cs, p, i, h => by
    simp only [setAt]
    simp only [List.length_cons] at h
    rw [setAt_out vs _ _ i (by omega), List.getElem?_set_ne (by omega)]
theorem setAt_in : ∀ (vs cs : List Value) (p j : Nat), j < vs.length → p + vs.length ≤ cs.length → (setAt cs p vs)[p + j]? = vs[j]?
  | v :: vs, cs, p, 0, _, h => by
    simp only [List.length_cons] at h
    simp only [setAt]
    rw [setAt_out vs _ _ _ (by omega), Nat.add_zero, List.getElem?_set_self (by omega)]
    rfl
  | v :: vs, cs, p, j + 1, hj, h => by
    simp only [List.length_cons] at h hj
    simp only [setAt]
    have := setAt_in vs (cs.set p v) (p + 1) j (by omega) (by simp; omega)
    rw [show p + (j + 1) = p + 1 + j by omega, this]
    rfl
/-- The first k elements of the row lie laid, behind lo. -/
def Laid {α : Type} (L : Lay α) (lo : Nat) (w : World) (k : Nat) (xs : List α) (cs : List Value) : Prop :=
  ∀ i x, i < k → xs[i]? = some x → ∃ vs, L.R w (Own lo w) x vs ∧ ∀ j u, vs[j]? = some u → cs[i * L.size + j]? = some u
theorem Laid.up {α : Type} {L : Lay α} {lo : Nat} {w w' : World} {k : Nat} {xs : List α} {cs : List Value} (h : Laid L lo w k xs cs) (hb : Below w.heap.size w w') : Laid L lo w' k xs cs := fun i x hi hx => by
  obtain ⟨vs, hr, hu⟩ := h i x hi hx
  exact ⟨vs, L.mono (fun _ h => h.up hb) (L.keep (fun b hB => hb.block b hB.2.1) hr), hu⟩
theorem Laid.set {α : Type} {L : Lay α} {lo : Nat} {w : World} {k : Nat} {xs : List α} {cs : List Value} (h : Laid L lo w k xs cs) (p : Addr) (u : Value) (hp : p.block < lo) : Laid L lo (w.setCell p u) k xs cs := fun i x hi hx => by
  obtain ⟨vs, hr, hu⟩ := h i x hi hx
  exact ⟨vs, L.mono (fun _ h => h.set p u) (L.keep (fun b hB => Below.heap_setCell w p u b (fun e => by have := hB.1; omega)) hr), hu⟩
/-- One element more. -/
theorem Laid.next {α : Type} {L : Lay α} {lo : Nat} {w : World} {k : Nat} {xs : List α} {cs vs : List Value} {x : α} (h : Laid L lo w k xs cs) (hx : xs[k]? = some x) (hr : L.R w (Own lo w) x vs) (hl : k * L.size + L.size ≤ cs.length) :
    Laid L lo w (k + 1) xs (setAt cs (k * L.size) vs) := fun i y hi hy => by
  have hvl := L.len hr
  rcases Nat.lt_or_ge i k with h' | h'
  · obtain ⟨us, hr', hu⟩ := h i y h' hy
    have hul := L.len hr'
    refine ⟨us, hr', fun j u hj => ?_⟩
    have hjl : j < L.size := by
      rcases Nat.lt_or_ge j us.length with h | h
      · omega
      · rw [List.getElem?_eq_none h] at hj; cases hj
    have hm : (i + 1) * L.size ≤ k * L.size := Nat.mul_le_mul_right _ h'
    rw [Nat.add_mul, Nat.one_mul] at hm
    rw [setAt_out _ _ _ _ (by omega)]
    exact hu j u hj
  · have : i = k := by omega
    subst this
    rw [hx] at hy; cases hy
    refine ⟨vs, hr, fun j u hj => ?_⟩
    have hjl : j < vs.length := by
      rcases Nat.lt_or_ge j vs.length with h | h
      · exact h
      · rw [List.getElem?_eq_none h] at hj; cases hj
    rw [setAt_in _ _ _ _ hjl (by omega)]
    exact hj
theorem Laid.done {α : Type} {L : Lay α} {w w' : World} {xs : List α} {cs : List Value} {e : TypeId} {n : Nat} (hn : n = xs.length) (h : Laid L (w.heap.size + 1) w' n xs cs)
    (ho : w'.ownsRow w.heap.size e L.size (.slice (some ⟨w.heap.size, 0, none⟩) n n) n cs) (hb : Below w.heap.size w w') : RetO L w xs (.returned (.slice (some ⟨w.heap.size, 0, none⟩) n n)) w' := by
  subst hn
  refine ⟨_, _, rfl, Nat.le_refl _, fun _ => ⟨_, rfl, Own.ofRow ho (Nat.le_refl _), fun k x hx => ?_⟩, hb⟩
  have hk : k < xs.length := by
    rcases Nat.lt_or_ge k xs.length with h | h
    · exact h
    · rw [List.getElem?_eq_none h] at hx; cases hx
  obtain ⟨vs, hr, hu⟩ := h k x hk hx
  exact ⟨vs, L.mono (fun _ h => h.mono (Nat.le_succ _)) hr, fun j u hj => ho.cells (g := w.heap.size) rfl _ _ (hu j u hj)⟩

end Go.Proofs.Ytbljfhmcebgdaaa

/-! append of a whole slice onto a row of the call's own. No program is named here. -/
namespace Go.Proofs.Ytbljfhmcebgdaaa
open Go Go.RowKit

/-- The slice '.slice A m c' has the cells xs, in the world w. -/
def Src (w : World) (size : Nat) (A : Option Addr) (m : Nat) (xs : List Value) : Prop :=
  xs.length = m * size ∧ (0 < m → ∃ ad, A = some ad ∧ ∀ j u, xs[j]? = some u → w.cell? (ad.add j) = some u)

section
variable {P : Program} (w : World)

theorem run_append_of_nil (base : Nat) (t ty e : TypeId) (i : TypeInfo) (size : Nat) (ht : P.underlying t = some (.slice e)) (hi : P.info? e = some i)
    (v : Value) (n : Nat) (xs : List Value) (hown : w.ownsRow base e size v n xs) (c : Nat) : (Builtin.append_ #[t, t] ty #[v, .slice none 0 c]).run P w = .ok v w := by
  rcases hown.2 with ⟨rfl, rfl⟩ | ⟨g, cap, cur, rfl, _, _, hnc, _⟩
  · simp [Builtin.append_, run_underlying ht, sizeOf, typeInfo, hi, Builtin.lenOf, Builtin.firstCells]
  · simp [Builtin.append_, run_underlying ht, sizeOf, typeInfo, hi, Builtin.lenOf, Builtin.firstCells, hnc, storeCells]

theorem run_append_src (base : Nat) (t ty e : TypeId) (i : TypeInfo) (z : Value) (size bytes : Nat) (ht : P.underlying t = some (.slice e)) (hi : P.info? e = some i) (hz : i.zero = some z)
    (hsize : i.size = size) (hby : i.bytes = bytes) (hzs : z.cells.size = size) (hsz : 0 < size)
    (v : Value) (n : Nat) (xs : List Value) (hown : w.ownsRow base e size v n xs)
    (A : Option Addr) (m c : Nat) (news : List Value) (hr : Src w size A m news) (h1 : ∀ u ∈ news, u.oneCell' = true)
    (nm : Nat) (hnm : n + m = nm) (h63 : nm ≤ maxLen) (hbytes : nm * bytes ≤ 140737488355328) (hbase : base ≤ w.heap.size) (hA : A = none → m = 0) :
    ∃ A' c' w', (Builtin.append_ #[t, t] ty #[v, .slice A m c]).run P w = .ok (.slice A' nm c') w' ∧ w'.ownsRow base e size (.slice A' nm c') nm (xs ++ news) ∧ w.grownBy w' v.ownBlock := by
  subst hnm
  suffices H : ∃ v' w', (Builtin.append_ #[t, t] ty #[v, .slice A m c]).run P w = .ok v' w' ∧ w'.ownsRow base e size v' (n + m) (xs ++ news) ∧ w.grownBy w' v.ownBlock by
    obtain ⟨v', w', h1, h2, h3⟩ := H
    rcases h2.2 with ⟨e1, e2⟩ | ⟨g, cap, cur, e1, _⟩
    · exact ⟨none, 0, w', by rw [h1, e1, e2], by rw [e1] at h2; rw [e2] at h2 ⊢; exact h2, h3⟩
    · exact ⟨_, cap, w', by rw [h1, e1], by rw [e1] at h2; exact h2, h3⟩
  rcases A with _ | ad
  · have hm : m = 0 := hA rfl
    subst hm
    have hn : news = [] := List.eq_nil_of_length_eq_zero (by simpa using hr.1)
    subst hn
    exact ⟨v, w, run_append_of_nil w base t ty e i size ht hi v n xs hown c, by simpa using hown, World.grownBy.refl _ _⟩
  · have hcells : ∀ j u, news[j]? = some u → w.cell? (ad.add j) = some u := by
      intro j u hu
      rcases Nat.eq_zero_or_pos m with h0 | h0
      · subst h0
        have hn : news = [] := List.eq_nil_of_length_eq_zero (by simpa using hr.1)
        subst hn
        simp at hu
      · obtain ⟨ad', h, hc⟩ := hr.2 h0
        injection h with h
        subst h
        exact hc j u hu
    obtain ⟨v', w', hrun, h2, h3, _, _⟩ := run_append_own_at (P := P) w base t ty e i z size bytes ht hi hz hsize hby hzs hsz v n xs hown ad m c news hr.1 hcells h1 h63 hbytes hbase
    exact ⟨v', w', hrun, h2, h3⟩

theorem wp_append_src {o : Oper} {a : Act} {K : Act → World → Prop} {Q : Exit → Act → World → Prop} (s x : Operand) (t : TypeId)
    (ho : o.op = .call { callee := .builtin .append, args := #[s, x], argTypes := #[t, t] })
    (base : Nat) (e : TypeId) (i : TypeInfo) (z : Value) (size bytes : Nat) (ht : P.underlying t = some (.slice e)) (hi : P.info? e = some i) (hz : i.zero = some z)
    (hsize : i.size = size) (hby : i.bytes = bytes) (hzs : z.cells.size = size) (hsz : 0 < size)
    (v : Value) (n : Nat) (xs : List Value) (hs : a.eval s = v) (hown : w.ownsRow base e size v n xs)
    (A : Option Addr) (m c : Nat) (news : List Value) (hx : a.eval x = .slice A m c) (hr : Src w size A m news) (h1 : ∀ u ∈ news, u.oneCell' = true)
    (nm : Nat) (hnm : n + m = nm) (h63 : nm ≤ maxLen) (hbytes : nm * bytes ≤ 140737488355328) (hbase : base ≤ w.heap.size) (hA : A = none → m = 0)
    (h : ∀ A' c' w', w'.ownsRow base e size (.slice A' nm c') nm (xs ++ news) → Below base w w' → w.grownBy w' v.ownBlock → K (a.put o.dst (.slice A' nm c')) w') : o.wp P a w K Q := by
  obtain ⟨A', c', w', hrun, h2, h3⟩ := run_append_src (P := P) w base t o.type e i z size bytes ht hi hz hsize hby hzs hsz v n xs hown A m c news hr h1 nm hnm h63 hbytes hbase hA
  unfold Oper.wp execOp
  simp only [ho, resolve, invoke, builtin, Sem.run_bind, Sem.run_pure, Result.andThen_ok, List.map_toArray, List.map_cons, List.map_nil, hs, hx, hrun]
  exact h A' c' w' h2 ((Below.refl _ _).grown h3 hbase (fun k hk => (hown.lt k hk).1)) h3

theorem wpList_append_src {ops : Array Oper} {rest : List Oper} {o : Oper} {a : Act} {Q : Exit → Act → World → Prop} (hgd : o.guard = none) (s x : Operand) (t : TypeId)
    (ho : o.op = .call { callee := .builtin .append, args := #[s, x], argTypes := #[t, t] })
    (base : Nat) (e : TypeId) (i : TypeInfo) (z : Value) (size bytes : Nat) (ht : P.underlying t = some (.slice e)) (hi : P.info? e = some i) (hz : i.zero = some z)
    (hsize : i.size = size) (hby : i.bytes = bytes) (hzs : z.cells.size = size) (hsz : 0 < size)
    (v : Value) (n : Nat) (xs : List Value) (hs : a.eval s = v) (hown : w.ownsRow base e size v n xs)
    (A : Option Addr) (m c : Nat) (news : List Value) (hx : a.eval x = .slice A m c) (hr : Src w size A m news) (h1 : ∀ u ∈ news, u.oneCell' = true)
    (nm : Nat) (hnm : n + m = nm) (h63 : nm ≤ maxLen) (hbytes : nm * bytes ≤ 140737488355328) (hbase : base ≤ w.heap.size) (hA : A = none → m = 0)
    (h : ∀ A' c' w', w'.ownsRow base e size (.slice A' nm c') nm (xs ++ news) → Below base w w' → w.grownBy w' v.ownBlock → wpList P ops Q rest (a.put o.dst (.slice A' nm c')) w') : wpList P ops Q (o :: rest) a w :=
  wpList_plain hgd fun _ hK => wp_append_src w s x t ho base e i z size bytes ht hi hz hsize hby hzs hsz v n xs hs hown A m c news hx hr h1 nm hnm h63 hbytes hbase hA fun A' c' w' h2 h3 h4 => hK _ _ (h A' c' w' h2 h3 h4)

end
theorem src_block {W : World} {B : Nat} {e : TypeId} {cs : Array Value} {fr : Nat × Nat} {size m : Nat} (hb : W.heap[B]? = some (.cells cs e fr)) (hm : cs.size = m * size) : Src W size (some ⟨B, 0, none⟩) m cs.toList :=
  ⟨by simpa using hm, fun _ => ⟨_, rfl, World.news_of_block hb⟩⟩
theorem own_lit0 {W : World} {S : Nat} {e : TypeId} {size : Nat} (hS : W.heap.size = S) : (W.alloc (.cells #[] e)).ownsRow S e size (.slice (some ⟨S, 0, none⟩) 0 0) 0 [] := by
  subst hS; exact World.ownsRow_lit W #[] 0 (Nat.le_refl _) (by unfold maxLen; omega) (by simp)
end Go.Proofs.Ytbljfhmcebgdaaa
