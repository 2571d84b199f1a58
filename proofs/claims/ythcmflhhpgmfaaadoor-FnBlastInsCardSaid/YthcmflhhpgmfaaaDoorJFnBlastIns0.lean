/- Words for memory: what a slice of a value type reads as; frames. No program is named here. What came in, opened: a reading of cells at a type gives the Lean value that lies there. No program is named here. Regions that draw their order and whose callees make memory but hand back plain values: one walk in the order of the text, in every later world. No program is named here. Terms, declarations and layers, how they lie in memory. No program is named here. What came in, opened, by the reader's fuel: for types that hold themselves. No program is named here. Words on sizes and copies. No program is named here. Contracts of the laws' sizes: szDeclS, szTermS, szLayerS. Contracts of the copies and comparisons of lists of integers and of truth values. Contracts of the laws' copies: toDeclS, toTermS, toLayerS. Contracts of the laws' comparisons: eqDeclS, eqTermS, eqLayerS. What a law leaves. The laws' texts for marks: markText. What a mark does to memory: cells of plain values turn into others of their kind, in some blocks. Copies of the call's own, made between two sizes of the heap; what stays over calls and over marks. Marks on integers. Clauses, what is put, unit propagation: the plain law. No program is named here. append of a whole slice onto a row of the call's own. No program is named here. A drawn region whose operations but the last ones are quiet in every later world, and whose last ones come in one forced order. No program is named here. Contracts of the laws' sizes, copies and comparisons of clauses; the reference's CnfOk. The call's own rows of integers. A drawn region by facts: each operation once, in whatever world its turn comes; what it leaves is said by a fact that lives on. No program is named here. Rows of integers: what comes in, copies, comparisons, marks; one form for all. Marks on rows of bools. Declarations and environments: when they are right; their bits. No program is named here. What growing and setting leave. No program is named here. VecOk, the program's and the reference's; powers of two. The reference's declarations: l2Name, l2Find, DeclOk, l8Bits, EnvOk. Contracts of the reference's reader of codes: l12Open, pick. Rows of the call's own whose elements may lead on to other blocks; append of one element. No program is named here. Draws: what a reader's user leaves; a number of a list. Own rows of truth values; append. append of one integer onto a row of the call's own, and where the row lies then. The reference's environments: EnvOk, l1Bit, BlastIns, l2Bool, BlastEnv. -/
import Derived.WalkKit
import Derived.WalkSpells
import Derived.WalkLawsBesides
import Derived.Lib.Hide
import Derived.BigQuiet
import Derived.Deep.QuietTactic
import Derived.Laws.OwnMore
import Derived.Deep.AppendLies
import Derived.Deep.Draws
import Derived.Maps.AppendAt
import Derived.ProofKit
import Derived.OpenShut
import Derived.ShutString
import Derived.ChangeOld
import Derived.Deep.Slices
import Derived.Test.YthcmflhhpgmfaaaDoorProg
import Derived.Laws.IdiomStrings
import Derived.Test.YthcmflhhpgmfaaaDoorChecked
import Derived.Deep.RegionHeld3
import Derived.Handy
import Derived.StillTail
/-! Words for memory: what a slice of a value type reads as; frames. No program is named here. -/
namespace Go.Proofs.YthcmflhhpgmfaaaDoor
open Go Go.RowKit

theorem block_of_add (a : Addr) (n : Nat) : (a.add n).block = a.block := by unfold Addr.add; split <;> rfl
theorem add_of_add (a : Addr) (i j : Nat) : (a.add i).add j = a.add (i + j) := by
  unfold Addr.add
  by_cases hi : i = 0 <;> by_cases hj : j = 0 <;> simp [hi, hj, Nat.add_assoc]

/-- How a Lean value lies in cells: 'R w F x vs': the cells vs are x, read in the world w, and all that they lead to lies in the blocks F. -/
structure Lay (α : Type) where
  size : Nat
  R : World → (Nat → Prop) → α → List Value → Prop
  len : ∀ {w F x vs}, R w F x vs → vs.length = size
  keep : ∀ {w w' F x vs}, (∀ b, F b → w'.heap[b]? = w.heap[b]?) → R w F x vs → R w' F x vs
  mono : ∀ {w F G x vs}, (∀ b, F b → G b) → R w F x vs → R w G x vs

/-- The slice value '.slice A xs.length c' reads as xs. -/
def Lay.Sl {α : Type} (L : Lay α) (w : World) (F : Nat → Prop) (A : Option Addr) (xs : List α) : Prop :=
  0 < xs.length → ∃ ad, A = some ad ∧ F ad.block ∧ ∀ k x, xs[k]? = some x → ∃ vs, L.R w F x vs ∧ ∀ j u, vs[j]? = some u → w.cell? (ad.add (k * L.size + j)) = some u

theorem Lay.Sl.nil {α : Type} (L : Lay α) (w : World) (F : Nat → Prop) (A : Option Addr) : L.Sl w F A [] := fun h => absurd h (by simp)
theorem Lay.Sl.keep {α : Type} {L : Lay α} {w w' : World} {F : Nat → Prop} {A : Option Addr} {xs : List α} (h : L.Sl w F A xs) (hk : ∀ b, F b → w'.heap[b]? = w.heap[b]?) : L.Sl w' F A xs := fun hn => by
  obtain ⟨ad, e, hf, hc⟩ := h hn
  refine ⟨ad, e, hf, fun k x hx => ?_⟩
  obtain ⟨vs, hr, hcell⟩ := hc k x hx
  exact ⟨vs, L.keep hk hr, fun j u hu => (World.cell?_of_block (w := w) (by rw [block_of_add]; exact hk _ hf)).trans (hcell j u hu)⟩
theorem Lay.Sl.mono {α : Type} {L : Lay α} {w : World} {F G : Nat → Prop} {A : Option Addr} {xs : List α} (h : L.Sl w F A xs) (hk : ∀ b, F b → G b) : L.Sl w G A xs := fun hn => by
  obtain ⟨ad, e, hf, hc⟩ := h hn
  refine ⟨ad, e, hk _ hf, fun k x hx => ?_⟩
  obtain ⟨vs, hr, hcell⟩ := hc k x hx
  exact ⟨vs, L.mono hk hr, hcell⟩

theorem Lay.Sl.take {α : Type} {L : Lay α} {w : World} {F : Nat → Prop} {A : Option Addr} {xs : List α} (h : L.Sl w F A xs) (n : Nat) : L.Sl w F A (xs.take n) := fun hn => by
  obtain ⟨ad, e, hf, hc⟩ := h (by simp at hn; omega)
  refine ⟨ad, e, hf, fun k x hx => hc k x ?_⟩
  rw [List.getElem?_take] at hx
  split at hx
  · exact hx
  · cases hx

/-- A slice as an element: one cell. -/
def Lay.slice {α : Type} (L : Lay α) : Lay (List α) where
  size := 1
  R w F xs vs := ∃ A c, vs = [.slice A xs.length c] ∧ xs.length ≤ c ∧ L.Sl w F A xs
  len := by rintro w F x vs ⟨A, c, rfl, _⟩; rfl
  keep := by rintro w w' F x vs hk ⟨A, c, rfl, hl, h⟩; exact ⟨A, c, rfl, hl, h.keep hk⟩
  mono := by rintro w F G x vs hk ⟨A, c, rfl, hl, h⟩; exact ⟨A, c, rfl, hl, h.mono hk⟩

/-- A value whose cells lead nowhere. -/
def Lay.flat {α : Type} (n : Nat) (cells : α → List Value) (h : ∀ x, (cells x).length = n) : Lay α where
  size := n
  R _ _ x vs := vs = cells x
  len := by rintro w F x vs rfl; exact h x
  keep := by rintro w w' F x vs _ h; exact h
  mono := by rintro w F G x vs _ h; exact h

def Lay.int : Lay Int := Lay.flat 1 (fun x => [.int .i64 x]) (fun _ => rfl)
def Lay.bool : Lay Bool := Lay.flat 1 (fun x => [.bool x]) (fun _ => rfl)
def Lay.byte : Lay UInt8 := Lay.flat 1 (fun x => [.int .u8 (x.toNat : Int)]) (fun _ => rfl)
def Lay.str : Lay ByteArray := Lay.flat 1 (fun x => [.string x]) (fun _ => rfl)

theorem Lay.Sl.at_int {w : World} {F : Nat → Prop} {A : Option Addr} {xs : List Int} (h : Lay.int.Sl w F A xs) {k : Nat} (hk : k < xs.length) :
    ∃ ad, A = some ad ∧ F ad.block ∧ w.cell? (ad.add k) = some (.int .i64 xs[k]) := by
  obtain ⟨ad, e, hf, hc⟩ := h (by omega)
  obtain ⟨vs, rfl, hcell⟩ := hc k xs[k] (List.getElem?_eq_getElem hk)
  exact ⟨ad, e, hf, by simpa [Lay.int, Lay.flat] using hcell 0 _ rfl⟩
theorem Lay.Sl.at_bool {w : World} {F : Nat → Prop} {A : Option Addr} {xs : List Bool} (h : Lay.bool.Sl w F A xs) {k : Nat} (hk : k < xs.length) :
    ∃ ad, A = some ad ∧ F ad.block ∧ w.cell? (ad.add k) = some (.bool xs[k]) := by
  obtain ⟨ad, e, hf, hc⟩ := h (by omega)
  obtain ⟨vs, rfl, hcell⟩ := hc k xs[k] (List.getElem?_eq_getElem hk)
  exact ⟨ad, e, hf, by simpa [Lay.bool, Lay.flat] using hcell 0 _ rfl⟩
theorem Lay.Sl.at_byte {w : World} {F : Nat → Prop} {A : Option Addr} {xs : List UInt8} (h : Lay.byte.Sl w F A xs) {k : Nat} (hk : k < xs.length) :
    ∃ ad, A = some ad ∧ F ad.block ∧ w.cell? (ad.add k) = some (.int .u8 (xs[k].toNat : Int)) := by
  obtain ⟨ad, e, hf, hc⟩ := h (by omega)
  obtain ⟨vs, rfl, hcell⟩ := hc k xs[k] (List.getElem?_eq_getElem hk)
  exact ⟨ad, e, hf, by simpa [Lay.byte, Lay.flat] using hcell 0 _ rfl⟩
theorem Lay.Sl.at_slice {α : Type} {L : Lay α} {w : World} {F : Nat → Prop} {A : Option Addr} {xs : List (List α)} (h : L.slice.Sl w F A xs) {k : Nat} (hk : k < xs.length) :
    ∃ ad A' c', A = some ad ∧ F ad.block ∧ w.cell? (ad.add k) = some (.slice A' xs[k].length c') ∧ xs[k].length ≤ c' ∧ L.Sl w F A' xs[k] := by
  obtain ⟨ad, e, hf, hc⟩ := h (by omega)
  obtain ⟨vs, ⟨A', c', rfl, hl, hs⟩, hcell⟩ := hc k xs[k] (List.getElem?_eq_getElem hk)
  exact ⟨ad, A', c', e, hf, by simpa [Lay.slice] using hcell 0 _ rfl, hl, hs⟩

/-- What the call owns reads so. -/
theorem Lay.Sl.of_own {α : Type} {L : Lay α} {w : World} {F : Nat → Prop} {base : Nat} {e : TypeId} {A : Option Addr} {n c : Nat} {cs : List Value} {xs : List α}
    (h : w.ownsRow base e L.size (.slice A n c) n cs) (hn : n = xs.length) (hF : ∀ g, base ≤ g → g < w.heap.size → F g)
    (hx : ∀ k x, xs[k]? = some x → ∃ vs, L.R w F x vs ∧ ∀ j u, vs[j]? = some u → cs[k * L.size + j]? = some u) : L.Sl w F A xs := by
  intro h0
  obtain ⟨g, cap, hv, hg, hlt⟩ := h.form (by omega)
  have hA : A = some ⟨g, 0, none⟩ := by injection hv
  subst hA
  refine ⟨_, rfl, hF _ hg hlt, fun k x hk => ?_⟩
  obtain ⟨vs, hr, hcs⟩ := hx k x hk
  exact ⟨vs, hr, fun j u hu => h.cells (g := g) rfl _ _ (hcs j u hu)⟩

theorem bcell {W w1 : World} {B : Nat} (hb : Below B W w1) : (∀ b o, b < B → w1.cell? ⟨b, o, none⟩ = W.cell? ⟨b, o, none⟩) ∧ (∀ b o, b < B → w1.frozen? ⟨b, o, none⟩ = W.frozen? ⟨b, o, none⟩) :=
  ⟨fun b o h => hb.cell (p := ⟨b, o, none⟩) h, fun b o h => hb.frozen (p := ⟨b, o, none⟩) h⟩

theorem Lay.Sl.below {α : Type} {L : Lay α} {w w' : World} {B : Nat} {F : Nat → Prop} {A : Option Addr} {xs : List α} (h : L.Sl w F A xs) (hb : Below B w w') (hF : ∀ b, F b → b < B) : L.Sl w' F A xs :=
  h.keep fun b hf => hb.block b (hF b hf)

/-- Read-only: all that the slice leads to is there. -/
abbrev Lay.Rd {α : Type} (L : Lay α) (w : World) (A : Option Addr) (xs : List α) : Prop := L.Sl w (fun b => b < w.heap.size) A xs
theorem Lay.Sl.up {α : Type} {L : Lay α} {w w' : World} {A : Option Addr} {xs : List α} (h : L.Rd w A xs) (hb : Below w.heap.size w w') : L.Rd w' A xs :=
  (h.below hb (fun _ h => h)).mono fun b hlt => Nat.lt_of_lt_of_le hlt hb.size
theorem Lay.Sl.rd {α : Type} {L : Lay α} {w : World} {lo : Nat} {A : Option Addr} {xs : List α} (h : L.Sl w (fun b => lo ≤ b ∧ b < w.heap.size) A xs) : L.Rd w A xs := h.mono fun _ h => h.2
theorem below_drewN {B : Nat} {a w : World} (h : Below B a w) (n : Nat) : Below B a (w.drewN n) := ⟨h.os, h.tape, h.output, h.size, h.block⟩
/-- One call behind another. -/
theorem bthen {a w w' : World} (h : Below a.heap.size a w) (h' : Below w.heap.size w w') : Below a.heap.size a w' := h.trans (h'.mono h.size)

theorem own_below {w w' : World} {base B : Nat} {e : TypeId} {size n : Nat} {v : Value} {xs : List Value} (h : w.ownsRow base e size v n xs) (hb : Below B w w') (hB : w.heap.size ≤ B) : w'.ownsRow base e size v n xs :=
  h.kept (row := none) ⟨hb.os, hb.tape, hb.output, hb.size, fun k hk _ => hb.block k (Nat.lt_of_lt_of_le hk hB)⟩ (by
    rcases v.ownBlock with _ | g
    · exact .inl rfl
    · exact .inr (by simp))

/-- 'append(s, x)' of one element of one cell, onto a row of the call's own; x lies in the block that was just laid for it. -/
theorem wpList_append1 {P : Program} {W : World} {ops : Array Oper} {rest : List Oper} {o : Oper} {a : Act} {Q : Exit → Act → World → Prop} (hgd : o.guard = none) (s x : Operand) (t : TypeId)
    (ho : o.op = .call { callee := .builtin .append, args := #[s, x], argTypes := #[t, t] })
    (base : Nat) (e : TypeId) (i : TypeInfo) (z : Value) (bytes : Nat) (ht : P.underlying t = some (.slice e)) (hi : P.info? e = some i) (hz : i.zero = some z)
    (hsize : i.size = 1) (hby : i.bytes = bytes) (hzs : z.cells.size = 1)
    (v : Value) (n : Nat) (xs : List Value) (u : Value) (e' : TypeId) (hs : a.eval s = v) (hown : W.ownsRow base e 1 v n xs)
    (hx : a.eval x = .slice (some ⟨W.heap.size, 0, none⟩) 1 1) (h1 : u.oneCell' = true)
    (h63 : n + 1 ≤ maxLen) (hbytes : (n + 1) * bytes ≤ 140737488355328) (hbase : base ≤ W.heap.size)
    (h : ∀ v' w', w'.ownsRow base e 1 v' (n + 1) (xs ++ [u]) → Below base W w' → wpList P ops Q rest (a.put o.dst v') w') : wpList P ops Q (o :: rest) a (W.alloc (.cells #[u] e')) := by
  refine wpList_append_own _ hgd s x t ho base e i z 1 bytes ht hi hz hsize hby hzs (by decide) v n xs hs (hown.alloc _) ⟨W.heap.size, 0, none⟩ 1 1 [u] hx rfl
    (cell_one_new _ _ _) (by simpa using h1) h63 hbytes (by simp; omega) ?_
  intro v' w' hown' hg _
  exact h v' w' hown' (((Below.refl _ _).alloc hbase _).grown hg (by simp; omega) (fun k hk => (hown.lt k hk).1))

theorem ret_int {k : IntKind} {a b : Int} (h : a = b) : Ending.returned (.int k a) = .returned (.int k b) := by rw [h]
theorem ret_bool {a b : Bool} (h : a = b) : Ending.returned (.bool a) = .returned (.bool b) := by rw [h]
def RetB (w : World) (b : Bool) (e : Ending) (w' : World) : Prop := e = .returned (.bool b) ∧ Below w.heap.size w w'
end Go.Proofs.YthcmflhhpgmfaaaDoor

/-! What came in, opened: a reading of cells at a type gives the Lean value that lies there. No program is named here. -/
namespace Go.Proofs.YthcmflhhpgmfaaaDoor
open Go Go.RowKit Go.ChangeShapes Go.WideShapes Go.Deep

/-- Whatever reads at type t lies there as a Lean value that is ok. -/
def Opens {α : Type} (P : Program) (t : TypeId) (L : Lay α) (ok : α → Prop) : Prop :=
  ∀ (H : Type) (enc : TypeId × Value → H) (w : World) (base : Nat) (spare : Nat → Bool) (held : Bool) (fuel : Nat) (cs : List Value) (x : DataW H × List MemPlace),
    DataW.trod enc P w base spare held fuel t cs = some x → ∃ a, ok a ∧ L.R w (fun b => b < w.heap.size) a cs

def okInt (n : Int) : Prop := -9223372036854775808 ≤ n ∧ n ≤ 9223372036854775807

theorem Opens.int {P : Program} {t : TypeId} (ht : P.underlying t = some (.int .i64)) : Opens P t Lay.int okInt := by
  intro H enc w base spare held fuel cs x h
  obtain ⟨n, rfl, _, hwf⟩ := DataW.trod_int ht h
  refine ⟨n, ?_, rfl⟩
  have := bounds_i64 hwf
  unfold okInt; omega
theorem Opens.bool {P : Program} {t : TypeId} (ht : P.underlying t = some .bool) : Opens P t Lay.bool (fun _ => True) := by
  intro H enc w base spare held fuel cs x h
  obtain ⟨n, rfl, _⟩ := DataW.trod_bool ht h
  exact ⟨n, trivial, rfl⟩
theorem Opens.str {P : Program} {t : TypeId} (ht : P.underlying t = some .string) : Opens P t Lay.str (fun s => s.size ≤ maxLen) := by
  intro H enc w base spare held fuel cs x h
  obtain ⟨s, rfl, _, hs⟩ := DataW.trod_string ht h
  exact ⟨s, hs, rfl⟩
theorem Opens.byte {P : Program} {t : TypeId} (ht : P.underlying t = some (.int .u8)) : Opens P t Lay.byte (fun _ => True) := by
  intro H enc w base spare held fuel cs x h
  obtain ⟨n, rfl, _, hwf⟩ := DataW.trod_int ht h
  have := bounds_u8 hwf
  refine ⟨UInt8.ofNat n.toNat, trivial, ?_⟩
  have : ((UInt8.ofNat n.toNat).toNat : Int) = n := by
    rw [UInt8.toNat_ofNat']; omega
  show [Value.int .u8 n] = [Value.int .u8 _]
  rw [this]

theorem list_of_forall {α : Type} (n : Nat) (p : Nat → α → Prop) (h : ∀ i, i < n → ∃ a, p i a) : ∃ xs : List α, xs.length = n ∧ ∀ i x, xs[i]? = some x → p i x := by
  induction n with
  | zero => exact ⟨[], rfl, by simp⟩
  | succ n ih =>
    obtain ⟨xs, hl, hp⟩ := ih fun i hi => h i (by omega)
    obtain ⟨a, ha⟩ := h n (by omega)
    refine ⟨xs ++ [a], by simp [hl], fun i x hx => ?_⟩
    rcases Nat.lt_or_ge i n with hi | hi
    · rw [List.getElem?_append_left (by omega)] at hx
      exact hp i x hx
    · rw [List.getElem?_append_right (by omega), hl] at hx
      have : i = n := by
        rcases Nat.eq_or_lt_of_le hi with e | e
        · exact e.symm
        · rw [List.getElem?_eq_none (by simp; omega)] at hx; cases hx
      subst this
      simp at hx; subst hx; exact ha

theorem Opens.slice {α : Type} {P : Program} {t e : TypeId} {L : Lay α} {ok : α → Prop} (ht : P.underlying t = some (.slice e)) (hc : P.cellsOf e = L.size) (hs : 0 < L.size) (ho : Opens P e L ok) :
    Opens P t L.slice (fun xs => xs.length ≤ maxLen ∧ ∀ x ∈ xs, ok x) := by
  intro H enc w base spare held fuel cs x h
  rcases open_slice ht h with ⟨rfl, _⟩ | ⟨a, len, cap, m, n, D, Pl, rfl, _, hl, hm, hmm, _, hi⟩
  · exact ⟨[], ⟨by simp, by simp⟩, none, 0, rfl, by simp, .nil L w _ _⟩
  · have hle : len ≤ m := by rw [hmm]; split <;> omega
    obtain ⟨xs, hxl, hx⟩ := list_of_forall len (fun i a' => ok a' ∧ ∃ vs, L.R w (fun b => b < w.heap.size) a' vs ∧ ∀ j u, vs[j]? = some u → w.cell? (a.add (i * L.size + j)) = some u) (by
      intro i hil
      obtain ⟨cs', hcell, htr⟩ := hi i (by omega)
      obtain ⟨a', hok, hr⟩ := ho H enc w base spare held n cs' _ htr
      refine ⟨a', hok, cs', hr, fun j u hu => ?_⟩
      obtain ⟨_, hcl, hat⟩ := World.cells?_some hcell
      have hj : j < cs'.length := by
        rcases Nat.lt_or_ge j cs'.length with hj | hj
        · exact hj
        · rw [List.getElem?_eq_none hj] at hu; cases hu
      have h1 := hat j (by omega)
      rw [hc, add_of_add] at h1
      rw [h1, hu])
    refine ⟨xs, ⟨by omega, fun x hmem => ?_⟩, some a, cap, by rw [hxl], by omega, fun h0 => ⟨a, rfl, ?_, fun k x hk => (hx k x hk).2⟩⟩
    · obtain ⟨i, hi', rfl⟩ := List.getElem_of_mem hmem
      exact (hx i _ (List.getElem?_eq_getElem hi')).1
    · obtain ⟨_, vs, hr, hcell⟩ := hx 0 xs[0] (List.getElem?_eq_getElem h0)
      have hvl := L.len hr
      have h1 := hcell 0 vs[0] (List.getElem?_eq_getElem (by omega))
      have := World.block_lt_of_cell? w _ h1
      rwa [block_of_add] at this

theorem Opens.field {α : Type} {P : Program} {t : TypeId} {fs : Array Field} {L : Lay α} {ok : α → Prop} {H : Type} {enc : TypeId × Value → H} {w : World} {base : Nat} {spare : Nat → Bool} {held : Bool} {fuel : Nat} {cs : List Value}
    {x : DataW H × List MemPlace} (ht : P.underlying t = some (.struct fs)) (h : DataW.trod enc P w base spare held fuel t cs = some x) (i : Nat) (f : Field) (hf : fs[i]? = some f) (ho : Opens P f.type L ok) :
    ∃ a, ok a ∧ L.R w (fun b => b < w.heap.size) a ((cs.drop f.offset).take (P.cellsOf f.type)) := by
  obtain ⟨xs, n, _, _, _, hxl, hfld⟩ := DataW.trod_struct ht h
  have h1 := hfld i f hf
  have hi : i < fs.size := (Array.getElem?_eq_some_iff.1 hf).1
  rw [List.getElem?_eq_getElem (by omega)] at h1
  exact ho H enc w base spare held n _ _ h1
theorem trod_cells {P : Program} {t : TypeId} {fs : Array Field} {H : Type} {enc : TypeId × Value → H} {w : World} {base : Nat} {spare : Nat → Bool} {held : Bool} {fuel : Nat} {cs : List Value}
    {x : DataW H × List MemPlace} (ht : P.underlying t = some (.struct fs)) (h : DataW.trod enc P w base spare held fuel t cs = some x) : cs.length = P.cellsOf t := by
  obtain ⟨xs, n, _, _, hl, _, _⟩ := DataW.trod_struct ht h
  exact hl

/-- An argument that is a slice. -/
theorem open_arg {α : Type} {P : Program} {t e : TypeId} {L : Lay α} {ok : List α → Prop} (ht : P.underlying t = some (.slice e)) (ho : Opens P t L.slice ok) {H : Type} {enc : TypeId × Value → H} {r : Reach} {b0 : Nat} {w : World} {base : Nat}
    {spare : Nat → Bool} {held : Bool} {v : Value} {d : DataW H} {p : List MemPlace} (hv : Value.okWide P w r b0 t v) (h : DataW.Trod enc P w base spare held t v d p) :
    ∃ A c xs, v = .slice A xs.length c ∧ xs.length ≤ c ∧ ok xs ∧ L.Rd w A xs := by
  obtain ⟨A, n, c, rfl⟩ := okWide_slice ht hv
  obtain ⟨fuel, hf⟩ := h
  obtain ⟨xs, hok, A', c', hcs, hl, hr⟩ := ho H enc w base spare held fuel _ _ hf
  simp [Value.cells] at hcs
  obtain ⟨rfl, rfl, rfl⟩ := hcs
  exact ⟨A, c, xs, rfl, hl, hok, hr⟩
end Go.Proofs.YthcmflhhpgmfaaaDoor

/-! Regions that draw their order and whose callees make memory but hand back plain values: one walk in the order of the text, in every later world. No program is named here. -/
namespace Go.Proofs.YthcmflhhpgmfaaaDoor
open Go Go.RowKit

/-- A world behind w: what was there is as it was. -/
structure Later (w : World) where
  W : World
  le : Below w.heap.size w W

instance (w : World) : Nonempty (Later w) := ⟨⟨w, Below.refl _ _⟩⟩

theorem Later.cell {w : World} {a : Addr} {v : Value} (h : w.cell? a = some v) (x : Later w) : x.W.cell? a = some v :=
  (x.le.cell (World.block_lt_of_cell? w a h)).trans h
theorem Later.frozen {w : World} {a : Addr} {v : Value} {b : Bool} (h : w.cell? a = some v) (hf : w.frozen? a = b) (x : Later w) : x.W.frozen? a = b :=
  (x.le.frozen (World.block_lt_of_cell? w a h)).trans hf

theorem wp_region_later {P : Program} {id : Nat} {Q : Exit → Act → World → Prop} {a : Act} {w : World} {l : List Oper} (hm : P.follows .mixedOrders = true) (hB : Region.lexB .any l.toArray = true)
    (h : wpQuiet P l.toArray (fun w' => ∃ x : Later w, w' = x.W) (fun a' => ∀ w', (∃ x : Later w, w' = x.W) → Q .normal a' w') l a) : (Code.region id l.toArray true).wp P Q a w :=
  wp_region_quiet (C := fun w' => ∃ x : Later w, w' = x.W) hm hB ⟨⟨w.drewN 1, below_drewN (Below.refl _ _) 1⟩, rfl⟩ (by simpa using h)

theorem later_of_below {P : Program} {f : FuncId} {args : Array Value} {w : World} {x : Later w} {v : Value}
    (h : Calls P f args x.W fun e w' => e = .returned v ∧ Below x.W.heap.size x.W w') : Calls P f args x.W fun e w'' => e = .returned v ∧ ∃ y : Later w, w'' = y.W :=
  h.mono fun _ _ ⟨he, hb⟩ => ⟨he, ⟨_, bthen x.le hb⟩, rfl⟩
theorem own_mono {w : World} {base base' : Nat} {e : TypeId} {size n : Nat} {v : Value} {xs : List Value} (h : w.ownsRow base e size v n xs) (hb : base' ≤ base) : w.ownsRow base' e size v n xs := by
  refine ⟨h.1, ?_⟩
  rcases h.2 with h2 | ⟨g, cap, cur, h1, h2, h3⟩
  · exact .inl h2
  · exact .inr ⟨g, cap, cur, h1, Nat.le_trans hb h2, h3⟩
theorem Lay.Sl.drewN {α : Type} {L : Lay α} {w : World} {F : Nat → Prop} {A : Option Addr} {xs : List α} (h : L.Sl w F A xs) (n : Nat) : L.Sl (w.drewN n) F A xs := h.keep fun _ _ => rfl
theorem quiet_left {P : Program} {f : FuncId} {args : Array Value} {w : World} {n : Nat} {v : Value}
    (h : Calls P f args (w.drewN n) fun e w' => e = .returned v ∧ w.drewN n = w') : Calls P f args (w.drewN n) fun e w'' => e = .returned v ∧ ∃ m, w'' = w.drewN m :=
  h.mono fun _ _ ⟨he, hm⟩ => ⟨he, n, hm.symm⟩
end Go.Proofs.YthcmflhhpgmfaaaDoor

/-! Terms, declarations and layers, how they lie in memory. No program is named here. -/
namespace Go.Proofs.YthcmflhhpgmfaaaDoor
open Go Go.RowKit

inductive T where
  | mk (op a b : Int) (name : ByteArray) (kids : List T) : T
namespace T
def op : T → Int | mk o _ _ _ _ => o
def a : T → Int | mk _ a _ _ _ => a
def b : T → Int | mk _ _ b _ _ => b
def name : T → ByteArray | mk _ _ _ n _ => n
def kids : T → List T | mk _ _ _ _ k => k
end T
mutual
def T.same : T → T → Bool
  | .mk o a b n k, .mk o' a' b' n' k' => o == o' && a == a' && b == b' && n.toList == n'.toList && T.sameL k k'
def T.sameL : List T → List T → Bool
  | [], [] => true
  | x :: xs, y :: ys => T.same x y && T.sameL xs ys
  | _, _ => false
end
/-- The cells vs are the term t, read in w; all that they lead to lies in F. -/
inductive TermR (w : World) (F : Nat → Prop) : T → List Value → Prop
  | mk (o a b : Int) (n : ByteArray) (kids : List T) (A : Option Addr) (c : Nat) (vs : Nat → List Value) (hc : kids.length ≤ c)
      (hA : 0 < kids.length → ∃ ad, A = some ad ∧ F ad.block ∧ ∀ k, k < kids.length → ∀ j u, (vs k)[j]? = some u → w.cell? (ad.add (k * 5 + j)) = some u)
      (hk : ∀ k x, kids[k]? = some x → TermR w F x (vs k)) :
      TermR w F (.mk o a b n kids) [.int .i64 o, .int .i64 a, .int .i64 b, .string n, .slice A kids.length c]

def Lay.term : Lay T where
  size := 5
  R := TermR
  len := by rintro w F x vs ⟨⟩; rfl
  keep := by
    intro w w' F x vs hk h
    induction h with
    | mk o a b n kids A c vs hc hA hk' ih =>
      refine .mk o a b n kids A c vs hc (fun h0 => ?_) ih
      obtain ⟨ad, e, hf, hcell⟩ := hA h0
      exact ⟨ad, e, hf, fun k hk'' j u hu => (World.cell?_of_block (w := w) (by rw [block_of_add]; exact hk _ hf)).trans (hcell k hk'' j u hu)⟩
  mono := by
    intro w F G x vs hk h
    induction h with
    | mk o a b n kids A c vs hc hA hk' ih =>
      refine .mk o a b n kids A c vs hc (fun h0 => ?_) ih
      obtain ⟨ad, e, hf, hcell⟩ := hA h0
      exact ⟨ad, e, hk _ hf, hcell⟩

theorem TermR.form {w : World} {F : Nat → Prop} {t : T} {vs : List Value} (h : TermR w F t vs) :
    ∃ A c, vs = [.int .i64 t.op, .int .i64 t.a, .int .i64 t.b, .string t.name, .slice A t.kids.length c] ∧ t.kids.length ≤ c ∧ Lay.term.Sl w F A t.kids := by
  cases h with
  | mk o a b n kids A c vs hc hA hk =>
    refine ⟨A, c, rfl, hc, fun h0 => ?_⟩
    obtain ⟨ad, e, hf, hcell⟩ := hA h0
    refine ⟨ad, e, hf, fun k x hx => ⟨vs k, hk k x hx, fun j u hu => ?_⟩⟩
    have hlt : k < kids.length := by
      rcases Nat.lt_or_ge k kids.length with h | h
      · exact h
      · have hx' : kids[k]? = some x := hx
        rw [List.getElem?_eq_none h] at hx'; cases hx'
    exact hcell k hlt j u hu
theorem TermR.of {w : World} {F : Nat → Prop} {A : Option Addr} {c : Nat} {t : T} (hc : t.kids.length ≤ c) (h : Lay.term.Sl w F A t.kids) :
    TermR w F t [.int .i64 t.op, .int .i64 t.a, .int .i64 t.b, .string t.name, .slice A t.kids.length c] := by
  obtain ⟨o, a, b, n, kids⟩ := t
  change Lay.term.Sl w F A kids at h
  show TermR w F _ [.int .i64 o, .int .i64 a, .int .i64 b, .string n, .slice A kids.length c]
  by_cases h0 : 0 < kids.length
  · obtain ⟨ad, e, hf, hk⟩ := h h0
    have hk' : ∀ k, ∃ vs, ∀ x, kids[k]? = some x → TermR w F x vs ∧ ∀ j u, vs[j]? = some u → w.cell? (ad.add (k * 5 + j)) = some u := fun k => by
      cases hx : kids[k]? with
      | none => exact ⟨[], fun x h => by cases h⟩
      | some x =>
        obtain ⟨vs, h1, h2⟩ := hk k x hx
        exact ⟨vs, fun x' h => by cases h; exact ⟨h1, h2⟩⟩
    obtain ⟨f, hf'⟩ := Classical.axiomOfChoice hk'
    exact .mk o a b n kids A c f hc (fun _ => ⟨ad, e, hf, fun k hlt => (hf' k _ (List.getElem?_eq_getElem hlt)).2⟩) (fun k x hx => (hf' k x hx).1)
  · have : kids = [] := List.eq_nil_of_length_eq_zero (by omega)
    subst this
    exact .mk o a b n [] A c (fun _ => []) hc (fun h => absurd h (by simp)) (fun k x hx => by simp at hx)

structure D where
  name : ByteArray
  wide : Int
def D.same (x y : D) : Bool := x.name.toList == y.name.toList && x.wide == y.wide
def Lay.decl : Lay D := Lay.flat 2 (fun d => [.string d.name, .int .i64 d.wide]) (fun _ => rfl)
theorem Lay.Sl.at_decl {w : World} {F : Nat → Prop} {A : Option Addr} {xs : List D} (h : Lay.decl.Sl w F A xs) {k : Nat} (hk : k < xs.length) :
    ∃ ad, A = some ad ∧ F ad.block ∧ w.cell? (ad.add (k * 2)) = some (.string xs[k].name) ∧ w.cell? ⟨(ad.add (k * 2)).block, (ad.add (k * 2)).off + 1, none⟩ = some (.int .i64 xs[k].wide) := by
  obtain ⟨ad, e, hf, hc⟩ := h (by omega)
  obtain ⟨vs, rfl, hcell⟩ := hc k xs[k] (List.getElem?_eq_getElem hk)
  refine ⟨ad, e, hf, hcell 0 _ rfl, ?_⟩
  show w.cell? ((ad.add (k * 2)).add 1) = _
  rw [add_of_add]; exact hcell 1 _ rfl

structure Ly where
  ds : List D
  ts : List T
/-- Two lists of as many, one by one alike. -/
def allSame {α : Type} (f : α → α → Bool) : List α → List α → Bool
  | [], [] => true
  | x :: xs, y :: ys => f x y && allSame f xs ys
  | _, _ => false
def Ly.same (x y : Ly) : Bool := allSame D.same x.ds y.ds && allSame T.same x.ts y.ts
end Go.Proofs.YthcmflhhpgmfaaaDoor

/-! What came in, opened, by the reader's fuel: for types that hold themselves. No program is named here. -/
namespace Go.Proofs.YthcmflhhpgmfaaaDoor
open Go Go.RowKit Go.ChangeShapes Go.WideShapes Go.Deep

def OpensF {α : Type} (P : Program) (t : TypeId) (L : Lay α) (ok : α → Prop) (N : Nat) : Prop :=
  ∀ (H : Type) (enc : TypeId × Value → H) (w : World) (base : Nat) (spare : Nat → Bool) (held : Bool) (fuel : Nat) (cs : List Value) (x : DataW H × List MemPlace),
    fuel ≤ N → DataW.trod enc P w base spare held fuel t cs = some x → ∃ a, ok a ∧ L.R w (fun b => b < w.heap.size) a cs
theorem Opens.at {α : Type} {P : Program} {t : TypeId} {L : Lay α} {ok : α → Prop} (h : Opens P t L ok) (N : Nat) : OpensF P t L ok N :=
  fun H enc w base spare held fuel cs x _ hx => h H enc w base spare held fuel cs x hx
theorem Opens.of {α : Type} {P : Program} {t : TypeId} {L : Lay α} {ok : α → Prop} (h : ∀ N, OpensF P t L ok N) : Opens P t L ok :=
  fun H enc w base spare held fuel cs x hx => h fuel H enc w base spare held fuel cs x (Nat.le_refl _) hx
theorem OpensF.mono {α : Type} {P : Program} {t : TypeId} {L : Lay α} {ok : α → Prop} {N M : Nat} (h : OpensF P t L ok N) (hM : M ≤ N) : OpensF P t L ok M :=
  fun H enc w base spare held fuel cs x hl hx => h H enc w base spare held fuel cs x (Nat.le_trans hl hM) hx

theorem OpensF.slice {α : Type} {P : Program} {t e : TypeId} {L : Lay α} {ok : α → Prop} {N : Nat} (ht : P.underlying t = some (.slice e)) (hc : P.cellsOf e = L.size) (hs : 0 < L.size) (ho : OpensF P e L ok N) :
    OpensF P t L.slice (fun xs => xs.length ≤ maxLen ∧ ∀ x ∈ xs, ok x) (N + 1) := by
  intro H enc w base spare held fuel cs x hl h
  rcases DataW.trod_slice ht h with ⟨rfl, _⟩ | ⟨a, len, cap, elems, rest, n, hfu, rfl, _, _, hlc, hcm, hel, hi, _, _⟩
  · exact ⟨[], ⟨by simp, by simp⟩, none, 0, rfl, by simp, .nil L w _ _⟩
  · obtain ⟨xs, hxl, hx⟩ := list_of_forall len (fun i a' => ok a' ∧ ∃ vs, L.R w (fun b => b < w.heap.size) a' vs ∧ ∀ j u, vs[j]? = some u → w.cell? (a.add (i * L.size + j)) = some u) (by
      intro i hil
      have key := hi i hil
      rw [List.getElem?_eq_getElem (by omega)] at key
      obtain ⟨cs', hcell, htr⟩ := Option.bind_eq_some_iff.1 key
      obtain ⟨a', hok, hr⟩ := ho H enc w base spare held n cs' _ (by omega) htr
      refine ⟨a', hok, cs', hr, fun j u hu => ?_⟩
      obtain ⟨_, hcl, hat⟩ := World.cells?_some hcell
      have hj : j < cs'.length := by
        rcases Nat.lt_or_ge j cs'.length with hj | hj
        · exact hj
        · rw [List.getElem?_eq_none hj] at hu; cases hu
      have h1 := hat j (by omega)
      rw [hc, add_of_add] at h1
      rw [h1, hu])
    refine ⟨xs, ⟨by omega, fun x hmem => ?_⟩, some a, cap, by rw [hxl], by omega, fun h0 => ⟨a, rfl, ?_, fun k x hk => (hx k x hk).2⟩⟩
    · obtain ⟨i, hi', rfl⟩ := List.getElem_of_mem hmem
      exact (hx i _ (List.getElem?_eq_getElem hi')).1
    · obtain ⟨_, vs, hr, hcell⟩ := hx 0 xs[0] (List.getElem?_eq_getElem h0)
      have hvl := L.len hr
      have h1 := hcell 0 vs[0] (List.getElem?_eq_getElem (by omega))
      have := World.block_lt_of_cell? w _ h1
      rwa [block_of_add] at this

/-- What the reader finds in a field. -/
theorem OpensF.field {α : Type} {P : Program} {t : TypeId} {fs : Array Field} {L : Lay α} {ok : α → Prop} {H : Type} {enc : TypeId × Value → H} {w : World} {base : Nat} {spare : Nat → Bool} {held : Bool} {fuel N : Nat} {cs : List Value}
    {x : DataW H × List MemPlace} (ht : P.underlying t = some (.struct fs)) (h : DataW.trod enc P w base spare held fuel t cs = some x) (hN : fuel ≤ N + 1) (i : Nat) (ty : TypeId) (o : Nat) (nm : Nat)
    (hf : (fs[i]?).map (fun f : Field => (f.type, f.offset)) = some (ty, o)) (hn : P.cellsOf ty = nm) (ho : OpensF P ty L ok N) :
    ∃ a, ok a ∧ L.R w (fun b => b < w.heap.size) a ((cs.drop o).take nm) := by
  obtain ⟨xs, n, hfu, _, _, hxl, hfld⟩ := DataW.trod_struct ht h
  cases hfi : fs[i]? with
  | none => rw [hfi] at hf; cases hf
  | some f =>
    rw [hfi] at hf
    simp at hf
    obtain ⟨rfl, rfl⟩ := hf
    have h1 := hfld i f hfi
    have hi : i < fs.size := (Array.getElem?_eq_some_iff.1 hfi).1
    rw [List.getElem?_eq_getElem (by omega), hn] at h1
    exact ho H enc w base spare held n _ _ (by omega) h1

/-- Of the term and all below it. -/
inductive T.All (p : T → Prop) : T → Prop
  | mk (t : T) (h : p t) (hk : ∀ k ∈ t.kids, T.All p k) : T.All p t
def okT1 (t : T) : Prop := okInt t.op ∧ okInt t.a ∧ okInt t.b ∧ t.name.size ≤ maxLen ∧ t.kids.length ≤ maxLen
abbrev okTerm (t : T) : Prop := T.All okT1 t

theorem OpensF.term {P : Program} {t sl ti ts : TypeId} {fs : Array Field} (ht : P.underlying t = some (.struct fs)) (hc : P.cellsOf t = 5) (hsl : P.underlying sl = some (.slice t)) (hsc : P.cellsOf sl = 1)
    (hti : P.underlying ti = some (.int .i64)) (htic : P.cellsOf ti = 1) (hts : P.underlying ts = some .string) (htsc : P.cellsOf ts = 1)
    (hf : fs.toList.map (fun f : Field => (f.type, f.offset)) = [(ti, 0), (ti, 1), (ti, 2), (ts, 3), (sl, 4)]) : ∀ N, OpensF P t Lay.term okTerm N ∧ OpensF P sl Lay.term.slice (fun xs => xs.length ≤ maxLen ∧ ∀ x ∈ xs, okTerm x) N := by
  have hfi : ∀ i, (fs[i]?).map (fun f : Field => (f.type, f.offset)) = [(ti, 0), (ti, 1), (ti, 2), (ts, 3), (sl, 4)][i]? := fun i => by
    rw [← hf, List.getElem?_map, Array.getElem?_toList]
  intro N
  induction N with
  | zero =>
    refine ⟨fun H enc w base spare held fuel cs x hl h => ?_, fun H enc w base spare held fuel cs x hl h => ?_⟩
    · obtain ⟨_, n, hfu, _⟩ := DataW.trod_struct ht h
      omega
    · rcases DataW.trod_slice hsl h with ⟨rfl, _⟩ | ⟨a, len, cap, elems, rest, n, hfu, _⟩
      · exact ⟨[], ⟨by simp, by simp⟩, none, 0, rfl, by simp, .nil _ w _ _⟩
      · omega
  | succ N ih =>
    refine ⟨fun H enc w base spare held fuel cs x hl h => ?_, OpensF.slice hsl hc (by decide) ih.1⟩
    obtain ⟨o, oko, ro⟩ := OpensF.field ht h hl 0 ti 0 1 (hfi 0) htic ((Opens.int hti).at N)
    obtain ⟨a, oka, ra⟩ := OpensF.field ht h hl 1 ti 1 1 (hfi 1) htic ((Opens.int hti).at N)
    obtain ⟨b, okb, rb⟩ := OpensF.field ht h hl 2 ti 2 1 (hfi 2) htic ((Opens.int hti).at N)
    obtain ⟨s, oks, rs⟩ := OpensF.field ht h hl 3 ts 3 1 (hfi 3) htsc ((Opens.str hts).at N)
    obtain ⟨ks, ⟨okl, okk⟩, A, c, rk, rl, rsl⟩ := OpensF.field ht h hl 4 sl 4 1 (hfi 4) hsc ih.2
    have hlen := trod_cells ht h
    rw [hc] at hlen
    match cs, hlen with
    | [x0, x1, x2, x3, x4], _ =>
      simp [Lay.int, Lay.str, Lay.flat] at ro ra rb rs rk
      subst ro ra rb rs rk
      exact ⟨.mk o a b s ks, .mk _ ⟨oko, oka, okb, oks, okl⟩ okk, TermR.of (t := .mk o a b s ks) rl rsl⟩

theorem Opens.term {P : Program} {t sl ti ts : TypeId} {fs : Array Field} (ht : P.underlying t = some (.struct fs)) (hc : P.cellsOf t = 5) (hsl : P.underlying sl = some (.slice t)) (hsc : P.cellsOf sl = 1)
    (hti : P.underlying ti = some (.int .i64)) (htic : P.cellsOf ti = 1) (hts : P.underlying ts = some .string) (htsc : P.cellsOf ts = 1)
    (hf : fs.toList.map (fun f : Field => (f.type, f.offset)) = [(ti, 0), (ti, 1), (ti, 2), (ts, 3), (sl, 4)]) : Opens P t Lay.term okTerm :=
  .of fun N => (OpensF.term ht hc hsl hsc hti htic hts htsc hf N).1

def okDecl (d : D) : Prop := d.name.size ≤ maxLen ∧ okInt d.wide
theorem Opens.decl {P : Program} {t ti ts : TypeId} {fs : Array Field} (ht : P.underlying t = some (.struct fs)) (hc : P.cellsOf t = 2)
    (hti : P.underlying ti = some (.int .i64)) (htic : P.cellsOf ti = 1) (hts : P.underlying ts = some .string) (htsc : P.cellsOf ts = 1)
    (hf : fs.toList.map (fun f : Field => (f.type, f.offset)) = [(ts, 0), (ti, 1)]) : Opens P t Lay.decl okDecl := by
  have hfi : ∀ i, (fs[i]?).map (fun f : Field => (f.type, f.offset)) = [(ts, 0), (ti, 1)][i]? := fun i => by
    rw [← hf, List.getElem?_map, Array.getElem?_toList]
  intro H enc w base spare held fuel cs x h
  obtain ⟨s, oks, rs⟩ := OpensF.field ht h (Nat.le_succ _) 0 ts 0 1 (hfi 0) htsc ((Opens.str hts).at _)
  obtain ⟨a, oka, ra⟩ := OpensF.field ht h (Nat.le_succ _) 1 ti 1 1 (hfi 1) htic ((Opens.int hti).at _)
  have hlen := trod_cells ht h
  rw [hc] at hlen
  match cs, hlen with
  | [x0, x1], _ =>
    simp [Lay.int, Lay.str, Lay.flat] at rs ra
    subst rs ra
    exact ⟨⟨s, a⟩, ⟨oks, oka⟩, rfl⟩

end Go.Proofs.YthcmflhhpgmfaaaDoor

/-! Words on sizes and copies. No program is named here. -/
namespace Go.Proofs.YthcmflhhpgmfaaaDoor
open Go Go.RowKit
def wsum {α : Type} (f : α → Nat) : List α → Nat
  | [] => 0
  | x :: xs => f x + wsum f xs
/-- The block is the call's own, and may be written. -/
def Own (lo : Nat) (w : World) (b : Nat) : Prop := lo ≤ b ∧ b < w.heap.size ∧ ∀ o, w.frozen? ⟨b, o, none⟩ = false
theorem Own.up {lo : Nat} {w w' : World} {b : Nat} (h : Own lo w b) (hb : Below w.heap.size w w') : Own lo w' b :=
  ⟨h.1, Nat.lt_of_lt_of_le h.2.1 hb.size, fun o => ((bcell hb).2 b o h.2.1).trans (h.2.2 o)⟩
theorem Own.set {lo : Nat} {w : World} {b : Nat} (h : Own lo w b) (p : Addr) (u : Value) : Own lo (w.setCell p u) b :=
  ⟨h.1, by simpa [World.setCell] using h.2.1, fun o => by rw [World.frozen?_setCell]; exact h.2.2 o⟩
theorem Own.mono {lo lo' : Nat} {w : World} {b : Nat} (h : Own lo w b) (hl : lo' ≤ lo) : Own lo' w b := ⟨Nat.le_trans hl h.1, h.2.1, h.2.2⟩
theorem Lay.Sl.own_mono {α : Type} {L : Lay α} {w : World} {lo lo' : Nat} {A : Option Addr} {xs : List α} (h : L.Sl w (Own lo w) A xs) (hl : lo' ≤ lo) : L.Sl w (Own lo' w) A xs := h.mono fun _ h => h.mono hl
/-- What a function returns that makes a slice of its own, which may be written. -/
def RetO {α : Type} (L : Lay α) (w : World) (xs : List α) (e : Ending) (w' : World) : Prop :=
  ∃ A c, e = .returned (.slice A xs.length c) ∧ xs.length ≤ c ∧ L.Sl w' (Own w.heap.size w') A xs ∧ Below w.heap.size w w'

/-- The first k elements of the row lie laid, behind lo. -/
def Laid {α : Type} (L : Lay α) (lo : Nat) (w : World) (k : Nat) (xs : List α) (cs : List Value) : Prop :=
  ∀ i x, i < k → xs[i]? = some x → ∃ vs, L.R w (Own lo w) x vs ∧ ∀ j u, vs[j]? = some u → cs[i * L.size + j]? = some u
theorem Laid.up {α : Type} {L : Lay α} {lo : Nat} {w w' : World} {k : Nat} {xs : List α} {cs : List Value} (h : Laid L lo w k xs cs) (hb : Below w.heap.size w w') : Laid L lo w' k xs cs := fun i x hi hx => by
  obtain ⟨vs, hr, hu⟩ := h i x hi hx
  exact ⟨vs, L.mono (fun _ h => h.up hb) (L.keep (fun b hB => hb.block b hB.2.1) hr), hu⟩
theorem Laid.set {α : Type} {L : Lay α} {lo : Nat} {w : World} {k : Nat} {xs : List α} {cs : List Value} (h : Laid L lo w k xs cs) (p : Addr) (u : Value) (hp : p.block < lo) : Laid L lo (w.setCell p u) k xs cs := fun i x hi hx => by
  obtain ⟨vs, hr, hu⟩ := h i x hi hx
  exact ⟨vs, L.mono (fun _ h => h.set p u) (L.keep (fun b hB => Below.heap_setCell w p u b (fun e => by have := hB.1; omega)) hr), hu⟩
end Go.Proofs.YthcmflhhpgmfaaaDoor

/-! Contracts of the laws' sizes: szDeclS, szTermS, szLayerS. -/
namespace Go.Proofs.YthcmflhhpgmfaaaDoor
open Go Go.RowKit

mutual
def T.w : T → Nat
  | .mk _ _ _ n k => n.size + T.wl k
def T.wl : List T → Nat
  | [] => 0
  | x :: xs => 1 + T.w x + T.wl xs
end
def D.w (d : D) : Nat := d.name.size
def Ly.w (l : Ly) : Nat := (l.ds.length + wsum D.w l.ds) + (l.ts.length + wsum T.w l.ts)
end Go.Proofs.YthcmflhhpgmfaaaDoor

/-! Contracts of the copies and comparisons of lists of integers and of truth values. -/
namespace Go.Proofs.YthcmflhhpgmfaaaDoor
open Go Go.RowKit

theorem int_info : (Tryd.prog.info? 3).map (fun i => (i.zero, i.size, i.bytes)) = some (some (.int .i64 0), 1, 8) := by kernel_rfl
theorem bool_info : (Tryd.prog.info? 4).map (fun i => (i.zero, i.size, i.bytes)) = some (some (.bool false), 1, 1) := by kernel_rfl

theorem sl_ints_of_own {w : World} {F : Nat → Prop} {base : Nat} {e : TypeId} {A : Option Addr} {n c : Nat} {xs : List Int} (h : w.ownsRow base e 1 (.slice A n c) n (xs.map (Value.int .i64)))
    (hF : ∀ g, base ≤ g → g < w.heap.size → F g) : Lay.int.Sl w F A xs ∧ n = xs.length ∧ n ≤ c := by
  have hn : n = xs.length := by have := h.1; simp at this; omega
  refine ⟨.of_own h hn hF fun k x hx => ⟨_, rfl, fun j u hu => ?_⟩, hn, ?_⟩
  · match j, hu with
    | 0, hu => simp [Lay.int, Lay.flat, hx]; simpa using hu
  · rcases h.2 with ⟨h1, h2⟩ | ⟨g, cap, cur, h1, _, _, h2, _⟩
    · omega
    · injection h1 with _ _ h3; omega
theorem sl_bools_of_own {w : World} {F : Nat → Prop} {base : Nat} {e : TypeId} {A : Option Addr} {n c : Nat} {xs : List Bool} (h : w.ownsRow base e 1 (.slice A n c) n (xs.map Value.bool))
    (hF : ∀ g, base ≤ g → g < w.heap.size → F g) : Lay.bool.Sl w F A xs ∧ n = xs.length ∧ n ≤ c := by
  have hn : n = xs.length := by have := h.1; simp at this; omega
  refine ⟨.of_own h hn hF fun k x hx => ⟨_, rfl, fun j u hu => ?_⟩, hn, ?_⟩
  · match j, hu with
    | 0, hu => simp [Lay.bool, Lay.flat, hx]; simpa using hu
  · rcases h.2 with ⟨h1, h2⟩ | ⟨g, cap, cur, h1, _, _, h2, _⟩
    · omega
    · injection h1 with _ _ h3; omega
theorem take_eq_step {α : Type} {xs ys : List α} {k : Nat} (h1 : k < xs.length) (h2 : k < ys.length) (h : xs.take k = ys.take k) (he : xs[k] = ys[k]) : xs.take (k + 1) = ys.take (k + 1) := by
  rw [List.take_succ_eq_append_getElem h1, List.take_succ_eq_append_getElem h2, h, he]
theorem eq_of_take {α : Type} {xs ys : List α} (hl : xs.length = ys.length) (h : xs.take xs.length = ys.take xs.length) : xs = ys := by
  rw [List.take_length, hl, List.take_length] at h; exact h

end Go.Proofs.YthcmflhhpgmfaaaDoor

/-! Contracts of the laws' copies: toDeclS, toTermS, toLayerS. -/
namespace Go.Proofs.YthcmflhhpgmfaaaDoor
open Go Go.RowKit

end Go.Proofs.YthcmflhhpgmfaaaDoor

/-! Contracts of the laws' comparisons: eqDeclS, eqTermS, eqLayerS. -/
namespace Go.Proofs.YthcmflhhpgmfaaaDoor
open Go Go.RowKit

end Go.Proofs.YthcmflhhpgmfaaaDoor

/-! What a law leaves. -/
namespace Go.Proofs.YthcmflhhpgmfaaaDoor
open Go Go.RowKit

def LawC (w : World) (e : Ending) (w' : World) : Prop := e = .returned (.bool true) ∧ Below w.heap.size w w'
end Go.Proofs.YthcmflhhpgmfaaaDoor

/-! The laws' texts for marks: markText. -/
namespace Go.Proofs.YthcmflhhpgmfaaaDoor
open Go Go.RowKit

end Go.Proofs.YthcmflhhpgmfaaaDoor

/-! What a mark does to memory: cells of plain values turn into others of their kind, in some blocks. -/
namespace Go.Proofs.YthcmflhhpgmfaaaDoor
open Go Go.RowKit

/-- One value for another of its kind; a slice or a pointer for itself alone. -/
inductive Kin : Value → Value → Prop
  | same (v : Value) : Kin v v
  | int (a b : Int) : Kin (.int .i64 a) (.int .i64 b)
  | bool (a b : Bool) : Kin (.bool a) (.bool b)
  | str (a b : ByteArray) : Kin (.string a) (.string b)
theorem Kin.trans {a b c : Value} (h : Kin a b) (h' : Kin b c) : Kin a c := by
  cases h <;> cases h' <;> constructor
theorem Kin.ofInt {a : Int} {v : Value} (h : Kin (.int .i64 a) v) : ∃ b, v = .int .i64 b := by
  cases h
  · exact ⟨a, rfl⟩
  · exact ⟨_, rfl⟩
/-- Nothing turned but plain values in the blocks F. -/
structure Dab (F : Nat → Prop) (w w' : World) : Prop where
  os : w'.os = w.os
  tape : w'.tape = w.tape
  output : w'.output = w.output
  size : w.heap.size ≤ w'.heap.size
  block : ∀ b, b < w.heap.size → ¬ F b → w'.heap[b]? = w.heap[b]?
  kin : ∀ a v, w.cell? a = some v → ∃ v', w'.cell? a = some v' ∧ Kin v v'
  frz : ∀ a : Addr, a.block < w.heap.size → w'.frozen? a = w.frozen? a
theorem Dab.refl (F : Nat → Prop) (w : World) : Dab F w w := ⟨rfl, rfl, rfl, Nat.le_refl _, fun _ _ _ => rfl, fun _ v h => ⟨v, h, .same v⟩, fun _ _ => rfl⟩
theorem Dab.trans {F : Nat → Prop} {a b c : World} (h : Dab F a b) (k : Dab F b c) : Dab F a c := by
  refine ⟨k.os.trans h.os, k.tape.trans h.tape, k.output.trans h.output, Nat.le_trans h.size k.size, fun i hi hn => (k.block i (Nat.lt_of_lt_of_le hi h.size) hn).trans (h.block i hi hn), fun p v hv => ?_, fun p hp => (k.frz p (Nat.lt_of_lt_of_le hp h.size)).trans (h.frz p hp)⟩
  obtain ⟨v1, h1, k1⟩ := h.kin p v hv
  obtain ⟨v2, h2, k2⟩ := k.kin p v1 h1
  exact ⟨v2, h2, k1.trans k2⟩
theorem Dab.mono {F G : Nat → Prop} {w w' : World} (h : Dab F w w') (hFG : ∀ b, F b → G b) : Dab G w w' := ⟨h.os, h.tape, h.output, h.size, fun b hb hn => h.block b hb (fun hf => hn (hFG b hf)), h.kin, h.frz⟩
theorem Dab.of {F : Nat → Prop} {w w' : World} (h : Below w.heap.size w w') : Dab F w w' := by
  have hlt : ∀ p v, w.cell? p = some v → p.block < w.heap.size := fun p v hv => World.block_lt_of_cell? w p hv
  exact ⟨h.os, h.tape, h.output, h.size, fun b hb _ => h.block b hb, fun p v hv => ⟨v, (World.cell?_of_block (h.block _ (hlt p v hv))).trans hv, .same v⟩, fun p hp => World.frozen?_of_block (h.block _ hp)⟩
theorem Dab.set {F : Nat → Prop} {w : World} {p : Addr} {u z : Value} (hF : F p.block) (hz : w.cell? p = some z) (hk : Kin z u) : Dab F w (w.setCell p u) := by
  refine ⟨rfl, rfl, rfl, by simp [World.setCell], fun b _ hn => Below.heap_setCell w p _ b (fun e => hn (e ▸ hF)), fun a v hv => ?_, fun a _ => World.frozen?_setCell _ _ _ _⟩
  by_cases e : p = a
  · subst e
    rw [hz] at hv
    injection hv with hv
    subst hv
    exact ⟨u, World.cell?_setCell_same _ _ _ hz, hk⟩
  · exact ⟨v, (World.cell?_setCell_other _ _ _ _ e).trans hv, .same v⟩
theorem Dab.then {F : Nat → Prop} {a b c : World} (h : Below a.heap.size a b) (k : Dab F b c) : Dab F a c := (Dab.of h).trans k
theorem Dab.below {F : Nat → Prop} {w w' : World} {B : Nat} (h : Dab F w w') (hB : B ≤ w.heap.size) (hF : ∀ b, F b → B ≤ b) : Below B w w' :=
  ⟨h.os, h.tape, h.output, h.size, fun b hb => h.block b (Nat.lt_of_lt_of_le hb hB) (fun hf => absurd (hF b hf) (by omega))⟩
/-- n integers lie there, and may be written. -/
def IntsAt (w : World) (F : Nat → Prop) (A : Option Addr) (n : Nat) : Prop :=
  0 < n → ∃ ad, A = some ad ∧ F ad.block ∧ ∀ k, k < n → (∃ z, w.cell? (ad.add k) = some (.int .i64 z)) ∧ w.frozen? (ad.add k) = false
theorem IntsAt.mono {w : World} {F G : Nat → Prop} {A : Option Addr} {n : Nat} (h : IntsAt w F A n) (hFG : ∀ b, F b → G b) : IntsAt w G A n := fun hn => by
  obtain ⟨ad, e, hf, hc⟩ := h hn
  exact ⟨ad, e, hFG _ hf, hc⟩
theorem IntsAt.of {w : World} {F G : Nat → Prop} {A : Option Addr} {xs : List Int} (h : Lay.int.Sl w F A xs) (hF : ∀ b, F b → G b ∧ ∀ o, w.frozen? ⟨b, o, none⟩ = false) : IntsAt w G A xs.length := fun hn => by
  obtain ⟨ad, e, hf, hc⟩ := h hn
  refine ⟨ad, e, (hF _ hf).1, fun k hk => ?_⟩
  obtain ⟨vs, rfl, hcell⟩ := hc k xs[k] (List.getElem?_eq_getElem hk)
  refine ⟨⟨xs[k], by simpa [Lay.int, Lay.flat] using hcell 0 _ rfl⟩, ?_⟩
  have := (hF _ hf).2 (ad.add k).off
  rw [← this]
  unfold World.frozen?
  rw [block_of_add]
/-- Rows of integers lie there. -/
def RowsAt (w : World) (F : Nat → Prop) (A : Option Addr) (ns : List Nat) : Prop :=
  0 < ns.length → ∃ ad, A = some ad ∧ ∀ k (h : k < ns.length), ∃ A' c', w.cell? (ad.add k) = some (.slice A' ns[k] c') ∧ IntsAt w F A' ns[k]
theorem RowsAt.of {w : World} {F G : Nat → Prop} {A : Option Addr} {xs : List (List Int)} (h : Lay.int.slice.Sl w F A xs) (hF : ∀ b, F b → G b ∧ ∀ o, w.frozen? ⟨b, o, none⟩ = false) : RowsAt w G A (xs.map List.length) := fun hn => by
  obtain ⟨ad, e, _, _⟩ := h (by simpa using hn)
  refine ⟨ad, e, fun k hk => ?_⟩
  obtain ⟨ad2, A', c', e2, _, hc, _, hs⟩ := h.at_slice (k := k) (by simpa using hk)
  rw [e] at e2
  injection e2 with e2
  subst e2
  rw [List.getElem_map]
  exact ⟨A', c', hc, IntsAt.of hs hF⟩
end Go.Proofs.YthcmflhhpgmfaaaDoor

/-! Copies of the call's own, made between two sizes of the heap; what stays over calls and over marks. -/
namespace Go.Proofs.YthcmflhhpgmfaaaDoor
open Go Go.RowKit

/-- Between two sizes. -/
def Rng (lo hi b : Nat) : Prop := lo ≤ b ∧ b < hi
/-- A block of a copy: made between two sizes of the heap, may be written. -/
def Cp (lo hi : Nat) (w : World) (b : Nat) : Prop := lo ≤ b ∧ b < hi ∧ hi ≤ w.heap.size ∧ ∀ o, w.frozen? ⟨b, o, none⟩ = false
theorem Cp.up {lo hi : Nat} {w w' : World} {b : Nat} (h : Cp lo hi w b) (hb : Below w.heap.size w w') : Cp lo hi w' b :=
  ⟨h.1, h.2.1, Nat.le_trans h.2.2.1 hb.size, fun o => (World.frozen?_of_block (a := ⟨b, o, none⟩) (hb.block b (by have := h.2.1; have := h.2.2.1; omega))).trans (h.2.2.2 o)⟩
theorem Cp.lt {lo hi : Nat} {w : World} {b : Nat} (h : Cp lo hi w b) : b < w.heap.size := Nat.lt_of_lt_of_le h.2.1 h.2.2.1
section
variable {α : Type} {L : Lay α} {w w' : World} {lo hi : Nat} {A : Option Addr} {xs : List α}
theorem Dab.rng (hd : Dab (Cp lo hi w) w w') : Dab (Rng lo hi) w w' := hd.mono fun _ h => ⟨h.1, h.2.1⟩
end
end Go.Proofs.YthcmflhhpgmfaaaDoor

/-! Marks on integers. -/
namespace Go.Proofs.YthcmflhhpgmfaaaDoor
open Go Go.RowKit

end Go.Proofs.YthcmflhhpgmfaaaDoor

/-! Clauses, what is put, unit propagation: the plain law. No program is named here. -/
namespace Go.Proofs.YthcmflhhpgmfaaaDoor
open Go Go.RowKit

structure C where
  many : Int
  list : List (List Int)
/-- What is put: marks that are there, each at most once. -/
structure Good (many : Int) (put : List Int) : Prop where
  rng : ∀ l ∈ put, l ≠ 0 ∧ -many ≤ l ∧ l ≤ many
  nodup : (put.map Int.natAbs).Nodup
theorem Good.nil (many : Int) : Good many [] := ⟨by simp, by simp⟩
theorem mem_natAbs {put : List Int} {l : Int} : l.natAbs ∈ put.map Int.natAbs ↔ l ∈ put ∨ -l ∈ put := by
  rw [List.mem_map]
  constructor
  · rintro ⟨x, hx, he⟩
    have : x = l ∨ x = -l := by omega
    rcases this with rfl | rfl
    · exact .inl hx
    · exact .inr hx
  · rintro (h | h)
    · exact ⟨l, h, rfl⟩
    · exact ⟨-l, h, by omega⟩
theorem Good.snoc {many : Int} {put : List Int} {l : Int} (h : Good many put) (h0 : l ≠ 0) (h1 : -many ≤ l) (h2 : l ≤ many) (h3 : l ∉ put) (h4 : -l ∉ put) : Good many (put ++ [l]) := by
  refine ⟨fun x hx => ?_, ?_⟩
  · rcases List.mem_append.1 hx with hx | hx
    · exact h.rng x hx
    · rw [List.mem_singleton.1 hx]; exact ⟨h0, h1, h2⟩
  · rw [List.map_append]
    refine List.nodup_append.2 ⟨h.nodup, by simp, fun a ha b hb => ?_⟩
    simp only [List.map_cons, List.map_nil, List.mem_singleton] at hb
    rintro rfl
    rw [hb] at ha
    rcases mem_natAbs.1 ha with h' | h'
    · exact h3 h'
    · exact h4 h'
theorem nodup_bound : ∀ (m : Nat) (l : List Nat), l.Nodup → (∀ x ∈ l, 1 ≤ x ∧ x ≤ m) → l.length ≤ m
  | 0, l, _, h => by
    cases l with
    | nil => simp
    | cons x xs => have := h x (by simp); omega
  | m + 1, l, hn, h => by
    have h1 : (l.filter (fun x => x != m + 1)).length ≤ m := nodup_bound m _ (hn.filter _) (fun x hx => by
      have hx' := List.mem_filter.1 hx
      have := h x hx'.1
      have hne : x ≠ m + 1 := by simpa using hx'.2
      omega)
    have h2 : (l.filter (fun x => x == m + 1)).length ≤ 1 := by
      have : ∀ (l : List Nat), l.Nodup → (l.filter (fun x => x == m + 1)).length ≤ 1 := by
        intro l hn
        induction l with
        | nil => simp
        | cons x xs ih =>
          have hx := List.nodup_cons.1 hn
          by_cases e : x = m + 1
          · subst e
            have : xs.filter (fun x => x == m + 1) = [] := List.filter_eq_nil_iff.2 (fun y hy => by
              simp only [beq_iff_eq]; rintro rfl; exact hx.1 hy)
            simp [this]
          · have hf : (x == m + 1) = false := by simp [e]
            rw [List.filter_cons, hf]
            exact ih hx.2
      exact this l hn
    have h3 : l.length = (l.filter (fun x => x == m + 1)).length + (l.filter (fun x => x != m + 1)).length := by
      clear h hn h1 h2
      induction l with
      | nil => rfl
      | cons x xs ih =>
        by_cases e : x = m + 1
        · have h1 : (x == m + 1) = true := by simp [e]
          have h2 : (x != m + 1) = false := by simp [e]
          simp only [List.filter_cons, h1, h2, List.length_cons, if_true]
          simp only [Bool.false_eq_true, if_false]
          omega
        · have h1 : (x == m + 1) = false := by simp [e]
          have h2 : (x != m + 1) = true := by simp [e]
          simp only [List.filter_cons, h1, h2, List.length_cons, if_true]
          simp only [Bool.false_eq_true, if_false]
          omega
    omega
theorem Good.length {many : Int} {put : List Int} (h : Good many put) : put.length ≤ many.toNat := by
  have := nodup_bound many.toNat (put.map Int.natAbs) h.nodup (fun x hx => by
    obtain ⟨l, hl, rfl⟩ := List.mem_map.1 hx
    have := h.rng l hl
    omega)
  simpa using this
end Go.Proofs.YthcmflhhpgmfaaaDoor

/-! append of a whole slice onto a row of the call's own. No program is named here. -/
namespace Go.Proofs.YthcmflhhpgmfaaaDoor
open Go Go.RowKit

/-- The slice '.slice A m c' has the cells xs, in the world w. -/
def Src (w : World) (size : Nat) (A : Option Addr) (m : Nat) (xs : List Value) : Prop :=
  xs.length = m * size ∧ (0 < m → ∃ ad, A = some ad ∧ ∀ j u, xs[j]? = some u → w.cell? (ad.add j) = some u)

section
variable {P : Program} (w : World)

theorem run_append_of_nil (base : Nat) (t ty e : TypeId) (i : TypeInfo) (size : Nat) (ht : P.underlying t = some (.slice e)) (hi : P.info? e = some i)
    (v : Value) (n : Nat) (xs : List Value) (hown : w.ownsRow base e size v n xs) (c : Nat) : (Builtin.append_ #[t, t] ty #[v, .slice none 0 c]).run P w = .ok v w := by
  rcases hown.2 with ⟨rfl, rfl⟩ | ⟨g, cap, cur, rfl, _, _, hnc, _⟩
  · simp [Builtin.append_, run_underlying ht, sizeOf, typeInfo, hi, Builtin.lenOf, Builtin.firstCells]
  · simp [Builtin.append_, run_underlying ht, sizeOf, typeInfo, hi, Builtin.lenOf, Builtin.firstCells, hnc, storeCells]

theorem run_append_src (base : Nat) (t ty e : TypeId) (i : TypeInfo) (z : Value) (size bytes : Nat) (ht : P.underlying t = some (.slice e)) (hi : P.info? e = some i) (hz : i.zero = some z)
    (hsize : i.size = size) (hby : i.bytes = bytes) (hzs : z.cells.size = size) (hsz : 0 < size)
    (v : Value) (n : Nat) (xs : List Value) (hown : w.ownsRow base e size v n xs)
    (A : Option Addr) (m c : Nat) (news : List Value) (hr : Src w size A m news) (h1 : ∀ u ∈ news, u.oneCell' = true)
    (nm : Nat) (hnm : n + m = nm) (h63 : nm ≤ maxLen) (hbytes : nm * bytes ≤ 140737488355328) (hbase : base ≤ w.heap.size) (hA : A = none → m = 0) :
    ∃ A' c' w', (Builtin.append_ #[t, t] ty #[v, .slice A m c]).run P w = .ok (.slice A' nm c') w' ∧ w'.ownsRow base e size (.slice A' nm c') nm (xs ++ news) ∧ w.grownBy w' v.ownBlock := by
  subst hnm
  suffices H : ∃ v' w', (Builtin.append_ #[t, t] ty #[v, .slice A m c]).run P w = .ok v' w' ∧ w'.ownsRow base e size v' (n + m) (xs ++ news) ∧ w.grownBy w' v.ownBlock by
    obtain ⟨v', w', h1, h2, h3⟩ := H
    rcases h2.2 with ⟨e1, e2⟩ | ⟨g, cap, cur, e1, _⟩
    · exact ⟨none, 0, w', by rw [h1, e1, e2], by rw [e1] at h2; rw [e2] at h2 ⊢; exact h2, h3⟩
    · exact ⟨_, cap, w', by rw [h1, e1], by rw [e1] at h2; exact h2, h3⟩
  rcases A with _ | ad
  · have hm : m = 0 := hA rfl
    subst hm
    have hn : news = [] := List.eq_nil_of_length_eq_zero (by simpa using hr.1)
    subst hn
    exact ⟨v, w, run_append_of_nil w base t ty e i size ht hi v n xs hown c, by simpa using hown, World.grownBy.refl _ _⟩
  · have hcells : ∀ j u, news[j]? = some u → w.cell? (ad.add j) = some u := by
      intro j u hu
      rcases Nat.eq_zero_or_pos m with h0 | h0
      · subst h0
        have hn : news = [] := List.eq_nil_of_length_eq_zero (by simpa using hr.1)
        subst hn
        simp at hu
      · obtain ⟨ad', h, hc⟩ := hr.2 h0
        injection h with h
        subst h
        exact hc j u hu
    obtain ⟨v', w', hrun, h2, h3, _, _⟩ := run_append_own_at (P := P) w base t ty e i z size bytes ht hi hz hsize hby hzs hsz v n xs hown ad m c news hr.1 hcells h1 h63 hbytes hbase
    exact ⟨v', w', hrun, h2, h3⟩

theorem wp_append_src {o : Oper} {a : Act} {K : Act → World → Prop} {Q : Exit → Act → World → Prop} (s x : Operand) (t : TypeId)
    (ho : o.op = .call { callee := .builtin .append, args := #[s, x], argTypes := #[t, t] })
    (base : Nat) (e : TypeId) (i : TypeInfo) (z : Value) (size bytes : Nat) (ht : P.underlying t = some (.slice e)) (hi : P.info? e = some i) (hz : i.zero = some z)
    (hsize : i.size = size) (hby : i.bytes = bytes) (hzs : z.cells.size = size) (hsz : 0 < size)
    (v : Value) (n : Nat) (xs : List Value) (hs : a.eval s = v) (hown : w.ownsRow base e size v n xs)
    (A : Option Addr) (m c : Nat) (news : List Value) (hx : a.eval x = .slice A m c) (hr : Src w size A m news) (h1 : ∀ u ∈ news, u.oneCell' = true)
    (nm : Nat) (hnm : n + m = nm) (h63 : nm ≤ maxLen) (hbytes : nm * bytes ≤ 140737488355328) (hbase : base ≤ w.heap.size) (hA : A = none → m = 0)
    (h : ∀ A' c' w', w'.ownsRow base e size (.slice A' nm c') nm (xs ++ news) → Below base w w' → w.grownBy w' v.ownBlock → K (a.put o.dst (.slice A' nm c')) w') : o.wp P a w K Q := by
  obtain ⟨A', c', w', hrun, h2, h3⟩ := run_append_src (P := P) w base t o.type e i z size bytes ht hi hz hsize hby hzs hsz v n xs hown A m c news hr h1 nm hnm h63 hbytes hbase hA
  unfold Oper.wp execOp
  simp only [ho, resolve, invoke, builtin, Sem.run_bind, Sem.run_pure, Result.andThen_ok, List.map_toArray, List.map_cons, List.map_nil, hs, hx, hrun]
  exact h A' c' w' h2 ((Below.refl _ _).grown h3 hbase (fun k hk => (hown.lt k hk).1)) h3

theorem wpList_append_src {ops : Array Oper} {rest : List Oper} {o : Oper} {a : Act} {Q : Exit → Act → World → Prop} (hgd : o.guard = none) (s x : Operand) (t : TypeId)
    (ho : o.op = .call { callee := .builtin .append, args := #[s, x], argTypes := #[t, t] })
    (base : Nat) (e : TypeId) (i : TypeInfo) (z : Value) (size bytes : Nat) (ht : P.underlying t = some (.slice e)) (hi : P.info? e = some i) (hz : i.zero = some z)
    (hsize : i.size = size) (hby : i.bytes = bytes) (hzs : z.cells.size = size) (hsz : 0 < size)
    (v : Value) (n : Nat) (xs : List Value) (hs : a.eval s = v) (hown : w.ownsRow base e size v n xs)
    (A : Option Addr) (m c : Nat) (news : List Value) (hx : a.eval x = .slice A m c) (hr : Src w size A m news) (h1 : ∀ u ∈ news, u.oneCell' = true)
    (nm : Nat) (hnm : n + m = nm) (h63 : nm ≤ maxLen) (hbytes : nm * bytes ≤ 140737488355328) (hbase : base ≤ w.heap.size) (hA : A = none → m = 0)
    (h : ∀ A' c' w', w'.ownsRow base e size (.slice A' nm c') nm (xs ++ news) → Below base w w' → w.grownBy w' v.ownBlock → wpList P ops Q rest (a.put o.dst (.slice A' nm c')) w') : wpList P ops Q (o :: rest) a w :=
  wpList_plain hgd fun _ hK => wp_append_src w s x t ho base e i z size bytes ht hi hz hsize hby hzs hsz v n xs hs hown A m c news hx hr h1 nm hnm h63 hbytes hbase hA fun A' c' w' h2 h3 h4 => hK _ _ (h A' c' w' h2 h3 h4)

end
theorem src_new {W : World} {S : Nat} {e : TypeId} {cs : Array Value} {size m : Nat} (hS : W.heap.size = S) (hm : cs.size = m * size) : Src (W.alloc (.cells cs e)) size (some ⟨S, 0, none⟩) m cs.toList := by
  subst hS
  exact ⟨by simpa using hm, fun _ => ⟨_, rfl, World.news_of_block (heap_alloc_new W _)⟩⟩
theorem own_lit0 {W : World} {S : Nat} {e : TypeId} {size : Nat} (hS : W.heap.size = S) : (W.alloc (.cells #[] e)).ownsRow S e size (.slice (some ⟨S, 0, none⟩) 0 0) 0 [] := by
  subst hS; exact World.ownsRow_lit W #[] 0 (Nat.le_refl _) (by unfold maxLen; omega) (by simp)
end Go.Proofs.YthcmflhhpgmfaaaDoor

/-! A drawn region whose operations but the last ones are quiet in every later world, and whose last ones come in one forced order. No program is named here. -/
namespace Go.Proofs.YthcmflhhpgmfaaaDoor
open Go Go.RowKit

section
variable {P : Program} {ops : Array Oper} {md : Region.Mode} {C : World → Prop}

end

end Go.Proofs.YthcmflhhpgmfaaaDoor

/-! Contracts of the laws' sizes, copies and comparisons of clauses; the reference's CnfOk. -/
namespace Go.Proofs.YthcmflhhpgmfaaaDoor
open Go Go.RowKit

end Go.Proofs.YthcmflhhpgmfaaaDoor

/-! The call's own rows of integers. -/
namespace Go.Proofs.YthcmflhhpgmfaaaDoor
open Go Go.RowKit

/-- The call's own row of integers. -/
def OwnI (w : World) (base : Nat) (v : Value) (xs : List Int) : Prop := w.ownsRow base 3 1 v xs.length (xs.map (Value.int .i64))
theorem OwnI.up {w w' : World} {base : Nat} {v : Value} {xs : List Int} (h : OwnI w base v xs) (hb : Below w.heap.size w w') : OwnI w' base v xs := own_below h hb (Nat.le_refl _)
theorem OwnI.form {w : World} {base : Nat} {v : Value} {xs : List Int} (h : OwnI w base v xs) : ∃ A c, v = .slice A xs.length c ∧ xs.length ≤ c ∧ Lay.int.Sl w (fun b => base ≤ b ∧ b < w.heap.size) A xs := by
  have hh := h
  unfold OwnI at h
  rcases h.2 with ⟨h1, h2⟩ | ⟨g, cap, cur, h1, _, _, h3, _⟩
  · subst h1
    have : xs = [] := List.eq_nil_of_length_eq_zero h2
    subst this
    exact ⟨none, 0, rfl, by simp, .nil _ _ _ _⟩
  · subst h1
    exact ⟨_, cap, rfl, h3, (sl_ints_of_own hh (fun g h1 h2 => ⟨h1, h2⟩)).1⟩
theorem OwnI.rd {w : World} {base c : Nat} {A : Option Addr} {xs : List Int} (h : OwnI w base (.slice A xs.length c) xs) : Lay.int.Rd w A xs := by
  obtain ⟨A', c', e, h1, h2⟩ := h.form
  injection e with e1 e2 e3
  subst e1
  exact h2.rd
end Go.Proofs.YthcmflhhpgmfaaaDoor

/-! A drawn region by facts: each operation once, in whatever world its turn comes; what it leaves is said by a fact that lives on. No program is named here. -/
namespace Go.Proofs.YthcmflhhpgmfaaaDoor
open Go Go.RowKit

/-- What is said of an operation's value. -/
structure Fact where
  V : Value → World → Prop
  stab : ∀ v w w', V v w → Below w.heap.size w w' → V v w'
  flat : Bool
  hflat : flat = true → ∀ v w w', V v w → V v w'
def Fact.any : Fact := ⟨fun _ _ => True, fun _ _ _ _ _ => trivial, true, fun _ _ _ _ _ => trivial⟩
def Fact.of (V : Value → World → Prop) (h : ∀ v w w', V v w → Below w.heap.size w w' → V v w') : Fact := ⟨V, h, false, fun h => by cases h⟩

def dstOf (ops : List Oper) (i : Nat) : Option Tmp := (ops[i]?).bind Oper.dst
def looks (ops : List Oper) (k j : Nat) : Bool := match ops[k]?, dstOf ops j with | some o, some d => (o.op.operands.toList.filterMap fun | .tmp t => some t | _ => none).contains d | _, _ => false
variable {P : Program} {Q : Exit → Act → World → Prop}

/-- A row of the call's own. -/
def Fact.row (base : Nat) (e : TypeId) (size n : Nat) (cs : List Value) : Fact :=
  .of (fun v x => ∃ A c, v = .slice A n c ∧ x.ownsRow base e size (.slice A n c) n cs) fun _ _ _ ⟨A, c, h, ho⟩ hb => ⟨A, c, h, own_below ho hb (Nat.le_refl _)⟩
end Go.Proofs.YthcmflhhpgmfaaaDoor

/-! Rows of integers: what comes in, copies, comparisons, marks; one form for all. -/
namespace Go.Proofs.YthcmflhhpgmfaaaDoor
open Go Go.RowKit Go.ChangeShapes Go.WideShapes Go.ChangeAt Go.Deep

/-- A row of the call's own is a copy that may be written. -/
theorem OwnI.own {w : World} {base c : Nat} {A : Option Addr} {xs : List Int} (h : OwnI w base (.slice A xs.length c) xs) : Lay.int.Sl w (Own base w) A xs := fun hn => by
  obtain ⟨A', c', e, _, hs⟩ := h.form
  injection e with e1 e2 e3
  subst e1
  obtain ⟨ad, e, hf, hc⟩ := hs hn
  refine ⟨ad, e, ⟨hf.1, hf.2, fun o => ?_⟩, hc⟩
  subst e
  rcases h.2 with ⟨e, _⟩ | ⟨g, cap, cur, e, _, hg, _⟩
  · cases e
  · injection e with e1 e2 e3
    injection e1 with e1
    subst e1
    unfold World.frozen?
    rw [hg]
    simp
theorem OwnI.cap {w : World} {base c : Nat} {A : Option Addr} {xs : List Int} (h : OwnI w base (.slice A xs.length c) xs) : xs.length ≤ c := by
  obtain ⟨A', c', e, hl, hs⟩ := h.form
  injection e with e1 e2 e3
  omega
end Go.Proofs.YthcmflhhpgmfaaaDoor

/-! Marks on rows of bools. -/
namespace Go.Proofs.YthcmflhhpgmfaaaDoor
open Go Go.RowKit Go.ChangeShapes Go.WideShapes Go.ChangeAt Go.Deep

def BoolsAt (w : World) (F : Nat → Prop) (A : Option Addr) (n : Nat) : Prop :=
  0 < n → ∃ ad, A = some ad ∧ F ad.block ∧ ∀ k, k < n → (∃ z, w.cell? (ad.add k) = some (.bool z)) ∧ w.frozen? (ad.add k) = false
theorem BoolsAt.of {w : World} {F G : Nat → Prop} {A : Option Addr} {xs : List Bool} (h : Lay.bool.Sl w F A xs) (hF : ∀ b, F b → G b ∧ ∀ o, w.frozen? ⟨b, o, none⟩ = false) : BoolsAt w G A xs.length := fun hn => by
  obtain ⟨ad, e, hf, hc⟩ := h hn
  refine ⟨ad, e, (hF _ hf).1, fun k hk => ?_⟩
  obtain ⟨vs, rfl, hcell⟩ := hc k xs[k] (List.getElem?_eq_getElem hk)
  refine ⟨⟨xs[k], by simpa [Lay.bool, Lay.flat] using hcell 0 _ rfl⟩, ?_⟩
  have := (hF _ hf).2 (ad.add k).off
  rw [← this]
  unfold World.frozen?
  rw [block_of_add]
end Go.Proofs.YthcmflhhpgmfaaaDoor

/-! Declarations and environments: when they are right; their bits. No program is named here. -/
namespace Go.Proofs.YthcmflhhpgmfaaaDoor
open Go Go.RowKit

def letter (c : UInt8) : Bool := decide (97 ≤ (c.toNat : Int)) && decide ((c.toNat : Int) ≤ 122)
def allLet (s : ByteArray) : Bool := s.data.toList.all letter
def tru (s : ByteArray) : Bool := s.toList == [116, 114, 117, 101]
def nameOk (s : ByteArray) : Bool := decide (1 ≤ s.size) && decide (s.size ≤ 4) && !tru s && allLet s
def hasN (ds : List D) (s : ByteArray) : Bool := ds.any fun y => y.name.toList == s.toList
def wideOk (x : D) : Bool := decide (1 ≤ x.wide) && decide (x.wide ≤ 4)
def dOne (seen : List D) (x : D) : Bool := nameOk x.name && wideOk x && !hasN seen x.name
def dGo (seen : List D) (bits : Int) : List D → Bool
  | [] => decide (bits ≤ 8)
  | x :: xs => dOne seen x && dGo (seen ++ [x]) (bits + x.wide) xs
/-- Right declarations. -/
def declOk (ds : List D) : Bool := decide (ds.length ≤ 4) && dGo [] 0 ds
theorem dGo_step (ds : List D) (k : Nat) (b : Int) (h : k < ds.length) : dGo (ds.take k) b (ds.drop k) = (dOne (ds.take k) ds[k] && dGo (ds.take (k + 1)) (b + ds[k].wide) (ds.drop (k + 1))) := by
  rw [List.drop_eq_getElem_cons h]
  show (_ && dGo (ds.take k ++ [ds[k]]) _ _) = _
  rw [List.take_succ_eq_append_getElem h]
/-- The declarations from k on do not matter: one of them is wrong. -/
theorem declOk_bad (ds : List D) (k : Nat) (b : Int) (hk : k < ds.length) (h : dGo [] 0 ds = dGo (ds.take k) b (ds.drop k)) (hd : dOne (ds.take k) ds[k] = false) : declOk ds = false := by
  unfold declOk
  rw [h, dGo_step ds k b hk, hd]
  simp
theorem declOk_next (ds : List D) (k : Nat) (b : Int) (hk : k < ds.length) (h : dGo [] 0 ds = dGo (ds.take k) b (ds.drop k)) (hd : dOne (ds.take k) ds[k] = true) : dGo [] 0 ds = dGo (ds.take (k + 1)) (b + ds[k].wide) (ds.drop (k + 1)) := by
  rw [h, dGo_step ds k b hk, hd]
  simp
theorem declOk_end (ds : List D) (b : Int) (hl : ds.length ≤ 4) (h : dGo [] 0 ds = dGo (ds.take ds.length) b (ds.drop ds.length)) : declOk ds = decide (b ≤ 8) := by
  unfold declOk
  rw [h, List.drop_length, decide_eq_true hl]
  rfl
theorem declOk_long (ds : List D) (hl : ¬ ds.length ≤ 4) : declOk ds = false := by
  unfold declOk
  rw [decide_eq_false hl]; rfl
def dsum : List D → Int
  | [] => 0
  | x :: xs => x.wide + dsum xs
theorem dsum_take (ds : List D) (k : Nat) (h : k < ds.length) : dsum (ds.take (k + 1)) = dsum (ds.take k) + ds[k].wide := by
  induction ds generalizing k with
  | nil => simp at h
  | cons x xs ih =>
    cases k with
    | zero => simp [dsum]
    | succ k =>
      have := ih k (by simpa using h)
      simp only [List.take_succ_cons, dsum, List.getElem_cons_succ] at this ⊢
      omega
theorem dGo_facts : ∀ (ds seen : List D) (b : Int), dGo seen b ds = true → (∀ x ∈ ds, nameOk x.name = true ∧ 1 ≤ x.wide ∧ x.wide ≤ 4) ∧ b + dsum ds ≤ 8
  | [], seen, b, h => ⟨by simp, by simpa [dGo, dsum] using h⟩
  | x :: xs, seen, b, h => by
    simp only [dGo, dOne, wideOk, Bool.and_eq_true, decide_eq_true_eq] at h
    obtain ⟨h1, h2⟩ := dGo_facts xs _ _ h.2
    refine ⟨fun y hy => ?_, by simp only [dsum]; omega⟩
    rcases List.mem_cons.1 hy with rfl | hy
    · exact ⟨h.1.1.1, h.1.1.2.1, h.1.1.2.2⟩
    · exact h1 y hy
/-- What right declarations give. -/
theorem declOk_facts {ds : List D} (h : declOk ds = true) : ds.length ≤ 4 ∧ (∀ x ∈ ds, nameOk x.name = true ∧ 1 ≤ x.wide ∧ x.wide ≤ 4) ∧ dsum ds ≤ 8 := by
  simp only [declOk, Bool.and_eq_true, decide_eq_true_eq] at h
  obtain ⟨h1, h2⟩ := dGo_facts ds [] 0 h.2
  exact ⟨h.1, h1, by omega⟩
theorem dsum_nn : ∀ {ds : List D}, (∀ x ∈ ds, 1 ≤ x.wide) → 0 ≤ dsum ds
  | [], _ => Int.le_refl _
  | x :: xs, h => by
    have := h x (List.mem_cons_self ..)
    have := dsum_nn (ds := xs) fun y hy => h y (List.mem_cons_of_mem _ hy)
    simp only [dsum]; omega
theorem dsum_le {ds : List D} (h : ∀ x ∈ ds, 1 ≤ x.wide) (k : Nat) : dsum (ds.take k) ≤ dsum ds := by
  induction ds generalizing k with
  | nil => simp
  | cons x xs ih =>
    cases k with
    | zero => exact dsum_nn h
    | succ k =>
      have := ih (fun y hy => h y (List.mem_cons_of_mem _ hy)) k
      simp only [List.take_succ_cons, dsum]; omega
/-- Where a name stands, or -1. -/
def fN (k : Nat) : List D → ByteArray → Int
  | [], _ => -1
  | x :: xs, s => if (x.name.toList == s.toList) = true then (k : Int) else fN (k + 1) xs s
theorem fN_has : ∀ (k : Nat) (ds : List D) (s : ByteArray), 0 ≤ fN k ds s ↔ hasN ds s = true
  | k, [], s => by simp [fN, hasN]
  | k, x :: xs, s => by
    have ih := fN_has (k + 1) xs s
    have e : hasN (x :: xs) s = ((x.name.toList == s.toList) || hasN xs s) := rfl
    rw [e, Bool.or_eq_true]
    by_cases h : (x.name.toList == s.toList) = true
    · have e2 : fN k (x :: xs) s = (k : Int) := if_pos h
      rw [e2]
      exact ⟨fun _ => .inl h, fun _ => by omega⟩
    · have e2 : fN k (x :: xs) s = fN (k + 1) xs s := if_neg h
      rw [e2]
      exact ⟨fun h' => .inr (ih.1 h'), fun h' => h'.elim (fun h9 => absurd h9 h) ih.2⟩
theorem fN_ge : ∀ (k : Nat) (ds : List D) (s : ByteArray), -1 ≤ fN k ds s ∧ fN k ds s < k + ds.length
  | k, [], s => by simp [fN]; omega
  | k, x :: xs, s => by
    have := fN_ge (k + 1) xs s
    simp only [fN, List.length_cons]
    split <;> omega
theorem fN_step (ds : List D) (k : Nat) (s : ByteArray) (h : k < ds.length) : fN k (ds.drop k) s = if (ds[k].name.toList == s.toList) = true then (k : Int) else fN (k + 1) (ds.drop (k + 1)) s := by
  rw [List.drop_eq_getElem_cons h]; rfl
/-- A vector's number fits its width. -/
def vecB (m n : Int) : Bool := decide (1 ≤ m) && decide (m ≤ 4) && decide (0 ≤ n) && decide (n < 2 ^ m.toNat)
theorem vecB_bounds {m n : Int} (h : vecB m n = true) : 1 ≤ m ∧ m ≤ 4 ∧ 0 ≤ n ∧ n < 16 := by
  simp only [vecB, Bool.and_eq_true, decide_eq_true_eq] at h
  obtain ⟨⟨⟨h1, h2⟩, h3⟩, h4⟩ := h
  refine ⟨h1, h2, h3, ?_⟩
  rcases (by omega : m = 1 ∨ m = 2 ∨ m = 3 ∨ m = 4) with rfl | rfl | rfl | rfl <;> simp at h4 <;> omega
def envGo : List D → List Int → Bool
  | x :: xs, n :: ns => vecB x.wide n && envGo xs ns
  | _, _ => true
def envOk (ds : List D) (env : List Int) : Bool := declOk ds && decide (env.length = ds.length) && envGo ds env
theorem envGo_step (ds : List D) (env : List Int) (k : Nat) (h : k < ds.length) (h' : k < env.length) : envGo (ds.drop k) (env.drop k) = (vecB ds[k].wide env[k] && envGo (ds.drop (k + 1)) (env.drop (k + 1))) := by
  rw [List.drop_eq_getElem_cons h, List.drop_eq_getElem_cons h']; rfl
theorem envGo_at : ∀ {ds : List D} {env : List Int}, envGo ds env = true → ∀ (k : Nat) (h : k < ds.length) (h' : k < env.length), vecB ds[k].wide env[k] = true
  | x :: xs, n :: ns, hg, 0, _, _ => by simp only [envGo, Bool.and_eq_true] at hg; exact hg.1
  | x :: xs, n :: ns, hg, k + 1, h, h' => by
    simp only [envGo, Bool.and_eq_true] at hg
    exact envGo_at hg.2 k (by simpa using h) (by simpa using h')
/-- A number's bits, the greatest first. -/
def downB (n : Int) : Nat → List Bool
  | 0 => []
  | m + 1 => n.toNat.testBit m :: downB n m
theorem downB_len (n : Int) : ∀ m, (downB n m).length = m
  | 0 => rfl
  | m + 1 => by simp [downB, downB_len n m]
def insGo : List D → List Int → List Bool
  | x :: xs, n :: ns => downB n x.wide.toNat ++ insGo xs ns
  | _, _ => []
/-- What comes in of an environment. -/
def blastIns (ds : List D) (env : List Int) : List Bool := if envOk ds env = true then insGo ds env else []
/-- A number of its bits, the greatest first. -/
def numB (n : Int) : List Bool → Int
  | [] => n
  | b :: bs => numB (2 * n + if b = true then 1 else 0) bs
def envOf : List D → List Bool → List Int
  | [], _ => []
  | x :: xs, bs => numB 0 (bs.take x.wide.toNat) :: envOf xs (bs.drop x.wide.toNat)
/-- The environment of what comes in. -/
def blastEnv (ds : List D) (bs : List Bool) : List Int := if declOk ds = true ∧ (bs.length : Int) = dsum ds then envOf ds bs else []
theorem insGo_step (ds : List D) (env : List Int) (k : Nat) (h : k < ds.length) (h' : k < env.length) : insGo (ds.drop k) (env.drop k) = downB env[k] ds[k].wide.toNat ++ insGo (ds.drop (k + 1)) (env.drop (k + 1)) := by
  rw [List.drop_eq_getElem_cons h, List.drop_eq_getElem_cons h']; rfl
theorem envOf_step (ds : List D) (bs : List Bool) (k : Nat) (h : k < ds.length) : envOf (ds.drop k) bs = numB 0 (bs.take ds[k].wide.toNat) :: envOf (ds.drop (k + 1)) (bs.drop ds[k].wide.toNat) := by
  rw [List.drop_eq_getElem_cons h]; rfl
theorem numB_step (n : Int) (bs : List Bool) (a m : Nat) (h : a < bs.length) : numB n ((bs.drop a).take (m + 1)) = numB (2 * n + if bs[a] = true then 1 else 0) ((bs.drop (a + 1)).take m) := by
  rw [List.drop_eq_getElem_cons h]; rfl
/-- What a right environment gives. -/
theorem envOk_facts {ds : List D} {env : List Int} (h : envOk ds env = true) : declOk ds = true ∧ env.length = ds.length ∧ envGo ds env = true := by
  simp only [envOk, Bool.and_eq_true, decide_eq_true_eq] at h
  exact ⟨h.1.1, h.1.2, h.2⟩
theorem envOk_no1 {ds : List D} {env : List Int} (h : declOk ds = false) : envOk ds env = false := by unfold envOk; rw [h]; rfl
theorem envOk_no2 {ds : List D} {env : List Int} (h : ¬ env.length = ds.length) : envOk ds env = false := by unfold envOk; rw [decide_eq_false h]; simp
theorem envOk_go {ds : List D} {env : List Int} (h : declOk ds = true) (h' : env.length = ds.length) : envOk ds env = envGo ds env := by unfold envOk; rw [h, decide_eq_true h']; rfl
end Go.Proofs.YthcmflhhpgmfaaaDoor

/-! What growing and setting leave. No program is named here. -/
namespace Go.Proofs.YthcmflhhpgmfaaaDoor
open Go Go.RowKit

theorem grown_then {a w w' : World} {row : Option Nat} (h : Below a.heap.size a w) (h' : w.grownBy w' row) : a.grownBy w' row :=
  ⟨h'.os.trans h.os, h'.tape.trans h.tape, h'.output.trans h.output, Nat.le_trans h.size h'.size, fun i hi hne => (h'.block i (Nat.lt_of_lt_of_le hi h.size) hne).trans (h.block i hi)⟩
theorem cell_of_block {w : World} {r : Nat} {cs : Array Value} {t : TypeId} (h : w.heap[r]? = some (.cells cs t (0, 0))) (i : Nat) : w.cell? ⟨r, i, none⟩ = cs[i]? ∧ w.frozen? ⟨r, i, none⟩ = false := by
  unfold World.cell? World.frozen?
  simp [h]
theorem size_setCell (w : World) (a : Addr) (v : Value) : (w.setCell a v).heap.size = w.heap.size := by simp [World.setCell]
theorem rows_kept {w w' : World} {base : Nat} {e : TypeId} {size n : Nat} {v : Value} {xs : List Value} {b : Option Nat} (h : w.ownsRow base e size v n xs) (hg : w.grownBy w' b) (hd : ∀ g, v.ownBlock = some g → b ≠ some g) : w'.ownsRow base e size v n xs :=
  h.kept hg (by
    rcases hv : v.ownBlock with _ | g
    · exact .inl rfl
    · exact .inr (fun e => hd g hv e.symm))
end Go.Proofs.YthcmflhhpgmfaaaDoor

/-! VecOk, the program's and the reference's; powers of two. -/
namespace Go.Proofs.YthcmflhhpgmfaaaDoor
open Go Go.RowKit

theorem pow_small16 {n : Nat} (h : n ≤ 16) : 2 ^ n ≤ 65536 := Nat.pow_le_pow_right (by omega) h
/-- l1Two leaves the memory as it was. -/
theorem l1Two_q (n : Nat) (w : World) (hn : n ≤ 16) :
    Calls Tryd.prog 55 #[.int .i64 (n : Int)] w fun e w' => e = .returned (.int .i64 ((2 ^ n : Nat) : Int)) ∧ w = w' := by
  obtain ⟨T, hT⟩ : ∃ T, T = 2 ^ n := ⟨_, rfl⟩
  rw [← hT]
  have HT := Lib.hid hT
  clear hT
  go_enter Tryd.func55, Tryd.ntmps55
  go_wp2
  go_loop [3, 4] (fun o i => ∃ (j p : Nat), j ≤ n ∧ i = .int .i64 j ∧ o = .int .i64 p ∧ p ≤ 65536 ∧ Hid (p = 2 ^ j)) (fun _ i => n - (intOf i).toNat)
  case atStart => exact ⟨0, 1, Nat.zero_le _, rfl, rfl, by omega, Lib.hid rfl⟩
  case round =>
    obtain ⟨j, p, hj, rfl, rfl, hp, HP⟩ := hrel
    by_cases hlt : j < n
    · have hlt2 : (j : Int) < n := by omega
      have HP2 : Hid (p * 2 ≤ 65536 ∧ p * 2 = 2 ^ (j + 1)) := Lib.hid ⟨by rw [HP.out, ← Nat.pow_succ]; exact pow_small16 (by omega), by rw [HP.out, Nat.pow_succ]⟩
      have hq : ((p * 2 : Nat) : Int) ≤ 65536 := by have := HP2.out.1; omega
      go_wp2
      go_round
      case rel => exact ⟨j + 1, p * 2, by omega, by go_num, by go_num, HP2.out.1, Lib.hid HP2.out.2⟩
      case measure => simp [intOf]; omega
    · have hje : j = n := by omega
      subst hje
      have hpT : p = T := by rw [HP.out, HT.out]
      subst hpT
      go_wp2
      go_ret
      exact ⟨rfl, rfl⟩
set_option maxRecDepth 100000 in
set_option maxHeartbeats 4000000 in
theorem specVecOk_any (m n : Int) (w : World) : Calls Tryd.prog 54 #[.agg #[.int .i64 m, .int .i64 n]] w (RetB w (vecB m n)) := by
  have hal : Below w.heap.size w (w.alloc (.cells #[.int .i64 m, .int .i64 n] 69)) := (Below.refl _ _).alloc (Nat.le_refl _) _
  have HAL := Lib.hid hal
  have HB := Lib.hid (heap_alloc_new w (.cells #[.int .i64 m, .int .i64 n] 69))
  clear hal
  unfold vecB
  by_cases h1 : 1 ≤ m
  · by_cases h4 : m ≤ 4
    · by_cases h0 : 0 ≤ n
      · obtain ⟨T, hT⟩ : ∃ T : Nat, T = 2 ^ m.toNat := ⟨_, rfl⟩
        have htwo : ∀ z, Calls Tryd.prog 55 #[.int .i64 m] z fun e w' => e = .returned (.int .i64 (T : Int)) ∧ z = w' := fun z => by
          have h9 := l1Two_q m.toNat z (by omega)
          rw [Int.toNat_of_nonneg (by omega), ← hT] at h9
          exact h9
        have HTWO := Lib.hid htwo
        have hb : ((2 : Int) ^ (m.toNat)) = (T : Int) := by rw [hT]; simp
        rw [hb, decide_eq_true h1, decide_eq_true h4, decide_eq_true h0]
        clear hT hb htwo
        have g1 : decide (1 ≤ m) = true := decide_eq_true h1
        have g4 : decide (m ≤ 4) = true := decide_eq_true h4
        have g0 : decide (0 ≤ n) = true := decide_eq_true h0
        by_cases hl : n < (T : Int)
        all_goals
          go_enter Tryd.func54, Tryd.ntmps54
          go_wp2
          generalize w.alloc (.cells #[.int .i64 m, .int .i64 n] 69) = w1 at *
          have v0 := (cell_of_block HB.out 0).1
          have v1 := (cell_of_block HB.out 1).1
          go_quiet ((go_at_call 55; exact quiet_left (HTWO.out _)))
          go_wp2
          go_ret
          exact ⟨by simp [hl], below_drewN HAL.out _⟩
      · rw [decide_eq_false h0]
        have g1 : decide (1 ≤ m) = true := decide_eq_true h1
        have g4 : decide (m ≤ 4) = true := decide_eq_true h4
        have g0 : decide (0 ≤ n) = false := decide_eq_false h0
        go_enter Tryd.func54, Tryd.ntmps54
        go_wp2
        generalize w.alloc (.cells #[.int .i64 m, .int .i64 n] 69) = w1 at *
        have v0 := (cell_of_block HB.out 0).1
        have v1 := (cell_of_block HB.out 1).1
        go_quiet (fail)
        go_wp2
        go_ret
        exact ⟨by simp, below_drewN HAL.out _⟩
    · rw [decide_eq_false h4]
      have g1 : decide (1 ≤ m) = true := decide_eq_true h1
      have g4 : decide (m ≤ 4) = false := decide_eq_false h4
      go_enter Tryd.func54, Tryd.ntmps54
      go_wp2
      generalize w.alloc (.cells #[.int .i64 m, .int .i64 n] 69) = w1 at *
      have v0 := (cell_of_block HB.out 0).1
      have v1 := (cell_of_block HB.out 1).1
      go_quiet (fail)
      go_wp2
      go_ret
      exact ⟨by simp, below_drewN HAL.out _⟩
  · rw [decide_eq_false h1]
    have g1 : decide (1 ≤ m) = false := decide_eq_false h1
    go_enter Tryd.func54, Tryd.ntmps54
    go_wp2
    generalize w.alloc (.cells #[.int .i64 m, .int .i64 n] 69) = w1 at *
    have v0 := (cell_of_block HB.out 0).1
    have v1 := (cell_of_block HB.out 1).1
    go_quiet (fail)
    go_wp2
    go_ret
    exact ⟨by simp, below_drewN HAL.out _⟩
set_option maxRecDepth 100000 in
set_option maxHeartbeats 8000000 in
theorem implVecOk_any (m n : Int) (w : World) : Calls Tryd.prog 48 #[.agg #[.int .i64 m, .int .i64 n]] w (RetB w (vecB m n)) := by
  have hal : Below w.heap.size w (w.alloc (.cells #[.int .i64 m, .int .i64 n] 69)) := (Below.refl _ _).alloc (Nat.le_refl _) _
  have HAL := Lib.hid hal
  have HB := Lib.hid (heap_alloc_new w (.cells #[.int .i64 m, .int .i64 n] 69))
  clear hal
  unfold vecB
  by_cases h1 : 1 ≤ m
  · by_cases h4 : m ≤ 4
    · by_cases h0 : 0 ≤ n
      · rw [decide_eq_true h1, decide_eq_true h4, decide_eq_true h0]
        rcases (by omega : m = 1 ∨ m = 2 ∨ m = 3 ∨ m = 4) with rfl | rfl | rfl | rfl
        · rw [show ((2 : Int) ^ (Int.toNat 1)) = 2 from rfl]
          by_cases hl : n < 2
          · rw [decide_eq_true hl]
            go_enter Tryd.func48, Tryd.ntmps48
            go_wp2
            generalize w.alloc (.cells #[.int .i64 1, .int .i64 n] 69) = w1 at *
            have v0 := (cell_of_block HB.out 0).1
            have v1 := (cell_of_block HB.out 1).1
            go_quiet (fail)
            go_wp2
            go_ret
            exact ⟨by first | rfl | (simp; omega) | (simp; simpa using hl), below_drewN HAL.out _⟩
          · rw [decide_eq_false hl]
            go_enter Tryd.func48, Tryd.ntmps48
            go_wp2
            generalize w.alloc (.cells #[.int .i64 1, .int .i64 n] 69) = w1 at *
            have v0 := (cell_of_block HB.out 0).1
            have v1 := (cell_of_block HB.out 1).1
            go_quiet (fail)
            go_wp2
            go_ret
            exact ⟨by first | rfl | (simp; omega) | (simp; simpa using hl), below_drewN HAL.out _⟩
        · rw [show ((2 : Int) ^ (Int.toNat 2)) = 4 from rfl]
          by_cases hl : n < 4
          · rw [decide_eq_true hl]
            go_enter Tryd.func48, Tryd.ntmps48
            go_wp2
            generalize w.alloc (.cells #[.int .i64 2, .int .i64 n] 69) = w1 at *
            have v0 := (cell_of_block HB.out 0).1
            have v1 := (cell_of_block HB.out 1).1
            go_quiet (fail)
            go_wp2
            go_ret
            exact ⟨by first | rfl | (simp; omega) | (simp; simpa using hl), below_drewN HAL.out _⟩
          · rw [decide_eq_false hl]
            go_enter Tryd.func48, Tryd.ntmps48
            go_wp2
            generalize w.alloc (.cells #[.int .i64 2, .int .i64 n] 69) = w1 at *
            have v0 := (cell_of_block HB.out 0).1
            have v1 := (cell_of_block HB.out 1).1
            go_quiet (fail)
            go_wp2
            go_ret
            exact ⟨by first | rfl | (simp; omega) | (simp; simpa using hl), below_drewN HAL.out _⟩
        · rw [show ((2 : Int) ^ (Int.toNat 3)) = 8 from rfl]
          by_cases hl : n < 8
          · rw [decide_eq_true hl]
            go_enter Tryd.func48, Tryd.ntmps48
            go_wp2
            generalize w.alloc (.cells #[.int .i64 3, .int .i64 n] 69) = w1 at *
            have v0 := (cell_of_block HB.out 0).1
            have v1 := (cell_of_block HB.out 1).1
            go_quiet (fail)
            go_wp2
            go_ret
            exact ⟨by first | rfl | (simp; omega) | (simp; simpa using hl), below_drewN HAL.out _⟩
          · rw [decide_eq_false hl]
            go_enter Tryd.func48, Tryd.ntmps48
            go_wp2
            generalize w.alloc (.cells #[.int .i64 3, .int .i64 n] 69) = w1 at *
            have v0 := (cell_of_block HB.out 0).1
            have v1 := (cell_of_block HB.out 1).1
            go_quiet (fail)
            go_wp2
            go_ret
            exact ⟨by first | rfl | (simp; omega) | (simp; simpa using hl), below_drewN HAL.out _⟩
        · rw [show ((2 : Int) ^ (Int.toNat 4)) = 16 from rfl]
          by_cases hl : n < 16
          · rw [decide_eq_true hl]
            go_enter Tryd.func48, Tryd.ntmps48
            go_wp2
            generalize w.alloc (.cells #[.int .i64 4, .int .i64 n] 69) = w1 at *
            have v0 := (cell_of_block HB.out 0).1
            have v1 := (cell_of_block HB.out 1).1
            go_quiet (fail)
            go_wp2
            go_ret
            exact ⟨by first | rfl | (simp; omega) | (simp; simpa using hl), below_drewN HAL.out _⟩
          · rw [decide_eq_false hl]
            go_enter Tryd.func48, Tryd.ntmps48
            go_wp2
            generalize w.alloc (.cells #[.int .i64 4, .int .i64 n] 69) = w1 at *
            have v0 := (cell_of_block HB.out 0).1
            have v1 := (cell_of_block HB.out 1).1
            go_quiet (fail)
            go_wp2
            go_ret
            exact ⟨by first | rfl | (simp; omega) | (simp; simpa using hl), below_drewN HAL.out _⟩
      · rw [decide_eq_false h0]
        have g1 : decide (1 ≤ m) = true := decide_eq_true h1
        have g4 : decide (m ≤ 4) = true := decide_eq_true h4
        have g0 : decide (0 ≤ n) = false := decide_eq_false h0
        go_enter Tryd.func48, Tryd.ntmps48
        go_wp2
        generalize w.alloc (.cells #[.int .i64 m, .int .i64 n] 69) = w1 at *
        have v0 := (cell_of_block HB.out 0).1
        have v1 := (cell_of_block HB.out 1).1
        go_quiet (fail)
        go_wp2
        go_ret
        exact ⟨by simp, below_drewN HAL.out _⟩
    · rw [decide_eq_false h4]
      have g1 : decide (1 ≤ m) = true := decide_eq_true h1
      have g4 : decide (m ≤ 4) = false := decide_eq_false h4
      go_enter Tryd.func48, Tryd.ntmps48
      go_wp2
      generalize w.alloc (.cells #[.int .i64 m, .int .i64 n] 69) = w1 at *
      have v0 := (cell_of_block HB.out 0).1
      have v1 := (cell_of_block HB.out 1).1
      go_quiet (fail)
      go_wp2
      go_ret
      exact ⟨by simp, below_drewN HAL.out _⟩
  · rw [decide_eq_false h1]
    have g1 : decide (1 ≤ m) = false := decide_eq_false h1
    go_enter Tryd.func48, Tryd.ntmps48
    go_wp2
    generalize w.alloc (.cells #[.int .i64 m, .int .i64 n] 69) = w1 at *
    have v0 := (cell_of_block HB.out 0).1
    have v1 := (cell_of_block HB.out 1).1
    go_quiet (fail)
    go_wp2
    go_ret
    exact ⟨by simp, below_drewN HAL.out _⟩
end Go.Proofs.YthcmflhhpgmfaaaDoor

/-! The reference's declarations: l2Name, l2Find, DeclOk, l8Bits, EnvOk. -/
namespace Go.Proofs.YthcmflhhpgmfaaaDoor
open Go Go.RowKit

theorem take_let (s : ByteArray) (k : Nat) (h : k < s.size) : (s.data.toList.take (k + 1)).all letter = ((s.data.toList.take k).all letter && letter s[k]) := by
  rw [List.take_succ_eq_append_getElem (by simpa using h), List.all_append]
  simp
  rfl
theorem all_of_take {l : List UInt8} {k : Nat} (h : (l.take k).all letter = false) : l.all letter = false := by
  rw [Bool.eq_false_iff] at h ⊢
  intro h9
  exact h (List.all_eq_true.2 fun x hx => List.all_eq_true.1 h9 x (List.mem_of_mem_take hx))
set_option maxHeartbeats 1000000 in
theorem l2Name_any (s : ByteArray) (w : World) (hs : s.size ≤ 9223372036854775807) :
    Calls Tryd.prog 49 #[.string s] w fun e w' => e = .returned (.bool (nameOk s)) ∧ w = w' := by
  go_enter Tryd.func49, Tryd.ntmps49
  go_wp2
  go_loop [3] (fun i => ∃ k : Nat, k ≤ s.size ∧ i = .int .i64 k ∧ Hid ((s.data.toList.take k).all letter = true)) (fun i => s.size - (intOf i).toNat)
  case atStart => exact ⟨0, Nat.zero_le _, rfl, Lib.hid (by simp)⟩
  case round =>
    obtain ⟨k, hk, rfl, HT⟩ := hrel
    by_cases hlt : k < s.size
    · have HST := Lib.hid (take_let s k hlt)
      by_cases h1 : (s[k].toNat : Int) < 97
      · have HL : Hid (letter s[k] = false) := Lib.hid (by unfold letter; rw [decide_eq_false (by omega)]; rfl)
        have HA : Hid (allLet s = false) := Lib.hid (all_of_take (k := k + 1) (by rw [HST.out, HL.out, Bool.and_false]))
        have g1 : decide ((s[k].toNat : Int) < 97) = true := decide_eq_true h1
        go_wp2
        go_ret
        exact ⟨ret_bool (by unfold nameOk; rw [HA.out, Bool.and_false]), rfl⟩
      · by_cases h2 : (122 : Int) < s[k].toNat
        · have HL : Hid (letter s[k] = false) := Lib.hid (by unfold letter; rw [decide_eq_false (by omega : ¬ (s[k].toNat : Int) ≤ 122), Bool.and_false])
          have HA : Hid (allLet s = false) := Lib.hid (all_of_take (k := k + 1) (by rw [HST.out, HL.out, Bool.and_false]))
          have g1 : decide ((s[k].toNat : Int) < 97) = false := decide_eq_false h1
          go_wp2
          go_ret
          exact ⟨ret_bool (by unfold nameOk; rw [HA.out, Bool.and_false]), rfl⟩
        · have HL : Hid ((s.data.toList.take (k + 1)).all letter = true) := Lib.hid (by rw [HST.out, HT.out]; unfold letter; rw [decide_eq_true (by omega), decide_eq_true (by omega)]; rfl)
          have g1 : decide ((s[k].toNat : Int) < 97) = false := decide_eq_false h1
          go_wp2
          go_round
          case rel => exact ⟨k + 1, by omega, by go_num, HL⟩
          case measure => simp [intOf]; omega
    · have HA : Hid (allLet s = true) := Lib.hid (by have := HT.out; rwa [List.take_of_length_le (by simp; omega)] at this)
      have hke : k = s.size := by omega
      subst hke
      by_cases h1 : 1 ≤ s.size
      · by_cases h4 : s.size ≤ 4
        · obtain ⟨q, hq⟩ : ∃ q, q = tru s := ⟨_, rfl⟩
          have HQ := Lib.hid hq
          have g9 : (s.toList == [116, 114, 117, 101]) = q := hq.symm
          have HN : Hid (nameOk s = !q) := Lib.hid (by unfold nameOk; rw [decide_eq_true h1, decide_eq_true h4, HA.out, HQ.out, Bool.and_true, Bool.true_and, Bool.true_and])
          clear hq
          cases q
          · go_wp2
            go_ret
            exact ⟨ret_bool (by rw [HN.out]; rfl), rfl⟩
          · go_wp2
            go_ret
            exact ⟨ret_bool (by rw [HN.out]; rfl), rfl⟩
        · have HN : Hid (nameOk s = false) := Lib.hid (by unfold nameOk; rw [decide_eq_false h4, Bool.and_false, Bool.false_and, Bool.false_and])
          go_wp2
          go_ret
          exact ⟨ret_bool (by rw [HN.out]), rfl⟩
      · have HN : Hid (nameOk s = false) := Lib.hid (by unfold nameOk; rw [decide_eq_false h1, Bool.false_and, Bool.false_and, Bool.false_and])
        go_wp2
        go_ret
        exact ⟨ret_bool (by rw [HN.out]), rfl⟩
set_option maxHeartbeats 1000000 in
theorem l2Find_any (A : Option Addr) (c : Nat) (xs : List D) (s : ByteArray) (F : Nat → Prop) (w : World) (h : Lay.decl.Sl w F A xs) (hn : xs.length ≤ 9223372036854775807) :
    Calls Tryd.prog 50 #[.slice A xs.length c, .string s] w fun e w' => e = .returned (.int .i64 (fN 0 xs s)) ∧ w = w' := by
  go_enter Tryd.func50, Tryd.ntmps50
  go_wp2
  go_loop [5] (fun i => ∃ k : Nat, k ≤ xs.length ∧ i = .int .i64 k ∧ Hid (fN 0 xs s = fN k (xs.drop k) s)) (fun i => xs.length - (intOf i).toNat)
  case atStart => exact ⟨0, Nat.zero_le _, rfl, Lib.hid rfl⟩
  case round =>
    obtain ⟨k, hk, rfl, HT⟩ := hrel
    by_cases hlt : k < xs.length
    · obtain ⟨ad, rfl, hf, c1, c2⟩ := h.at_decl hlt
      have hk1 : (k : Int) < xs.length := by omega
      have HS := Lib.hid (fN_step xs k s hlt)
      obtain ⟨q, hq⟩ : ∃ q, q = (xs[k].name.toList == s.toList) := ⟨_, rfl⟩
      have HQ := Lib.hid hq
      have g9 := hq.symm
      clear hq
      cases q
      · have HE : Hid (fN 0 xs s = fN (k + 1) (xs.drop (k + 1)) s) := Lib.hid (by rw [HT.out, HS.out, ← HQ.out]; rfl)
        go_wp2
        go_round
        case rel => exact ⟨k + 1, by omega, by go_num, HE⟩
        case measure => simp [intOf]; omega
      · have HE : Hid (fN 0 xs s = (k : Int)) := Lib.hid (by rw [HT.out, HS.out, ← HQ.out]; rfl)
        go_wp2
        go_ret
        exact ⟨ret_int (by rw [HE.out]), rfl⟩
    · have HE : Hid (fN 0 xs s = -1) := Lib.hid (by rw [HT.out, List.drop_of_length_le (by omega)]; rfl)
      have hke : k = xs.length := by omega
      subst hke
      go_wp2
      go_ret
      exact ⟨ret_int (by rw [HE.out]), rfl⟩
theorem dOne_name {seen : List D} {x : D} (h : nameOk x.name = false) : dOne seen x = false := by unfold dOne; rw [h]; rfl
theorem dOne_low {seen : List D} {x : D} (h : ¬ 1 ≤ x.wide) : dOne seen x = false := by unfold dOne wideOk; rw [decide_eq_false h]; simp
theorem dOne_high {seen : List D} {x : D} (h : ¬ x.wide ≤ 4) : dOne seen x = false := by unfold dOne wideOk; rw [decide_eq_false h]; simp
theorem dOne_seen {seen : List D} {x : D} (h : hasN seen x.name = true) : dOne seen x = false := by unfold dOne; rw [h]; simp
theorem dOne_yes {seen : List D} {x : D} (h : nameOk x.name = true) (h1 : 1 ≤ x.wide) (h4 : x.wide ≤ 4) (h' : hasN seen x.name = false) : dOne seen x = true := by
  unfold dOne wideOk; rw [h, h', decide_eq_true h1, decide_eq_true h4]; rfl
def okNames (ds : List D) : Prop := ∀ d ∈ ds, d.name.size ≤ 9223372036854775807
set_option maxRecDepth 100000 in
set_option maxHeartbeats 4000000 in
theorem specDeclOk_any (A : Option Addr) (c : Nat) (xs : List D) (F : Nat → Prop) (w : World) (h : Lay.decl.Sl w F A xs) (hF : ∀ b, F b → b < w.heap.size) (hn : xs.length ≤ 9223372036854775807) (ho : okNames xs) (hc : xs.length ≤ c) :
    Calls Tryd.prog 28 #[.slice A xs.length c] w (RetB w (declOk xs)) := by
  by_cases hl4 : xs.length ≤ 4
  · go_enter Tryd.func28, Tryd.ntmps28
    go_wp2
    go_loopw [3, 4] (fun b i wr => ∃ (k : Nat) (n : Int), k ≤ xs.length ∧ i = .int .i64 k ∧ b = .int .i64 n ∧ 0 ≤ n ∧ n ≤ 4 * k ∧ Below w.heap.size w wr ∧ Hid (dGo [] 0 xs = dGo (xs.take k) n (xs.drop k))) (fun _ i _ => xs.length - (intOf i).toNat)
    case atStart => exact ⟨0, 0, Nat.zero_le _, rfl, rfl, by omega, by omega, Below.refl _ _, Lib.hid rfl⟩
    case round =>
      obtain ⟨k, n, hk, rfl, rfl, n0, n1, hb, HT⟩ := hrel
      by_cases hlt : k < xs.length
      · have hr := h.below hb hF
        have HFI := Lib.hid (fun z (hz : Lay.decl.Sl z F A (xs.take k)) => l2Find_any A c (xs.take k) xs[k].name F z hz (by rw [List.length_take]; omega))
        obtain ⟨ad, rfl, hf, c1, c2⟩ := hr.at_decl hlt
        have hk1 : (k : Int) < xs.length := by omega
        have HN := Lib.hid (fun z => l2Name_any xs[k].name z (ho _ (List.getElem_mem hlt)))
        have hkc : k ≤ c := by omega
        have HR := Lib.hid hr
        clear hr
        by_cases hnm : nameOk xs[k].name = true
        · by_cases h1 : 1 ≤ xs[k].wide
          · by_cases h4 : xs[k].wide ≤ 4
            · have e9 : (xs.take k).length = k := by rw [List.length_take]; omega
              obtain ⟨q, hq⟩ : ∃ q, q = fN 0 (xs.take k) xs[k].name := ⟨_, rfl⟩
              have HFK : Hid (∀ m, Calls Tryd.prog 50 #[.slice (some ad) k c, .string xs[k].name] (wr.drewN m) fun e w' => e = .returned (.int .i64 q) ∧ wr.drewN m = w') := Lib.hid (fun m => by
                have h9 := HFI.out (wr.drewN m) ((HR.out.take k).keep fun _ _ => rfl)
                rw [e9, ← hq] at h9
                exact h9)
              have g1 : decide (xs[k].wide < 1) = false := decide_eq_false (by omega)
              have g4 : decide (4 < xs[k].wide) = false := decide_eq_false (by omega)
              have HQ := Lib.hid hq
              rw [hnm] at HN
              clear hq e9 HFI
              by_cases hq0 : 0 ≤ q
              · have HB : Hid (declOk xs = false) := Lib.hid (declOk_bad xs k n hlt HT.out (dOne_seen ((fN_has 0 _ _).1 (by rw [← HQ.out]; exact hq0))))
                go_wp2
                go_quiet ((first | (go_at_call 49; exact quiet_left (HN.out _)) | (go_at_call 50; exact quiet_left (HFK.out _))))
                go_wp2
                go_ret
                exact ⟨ret_bool (by rw [HB.out]), below_drewN hb _⟩
              · have hh : hasN (xs.take k) xs[k].name = false := Bool.eq_false_iff.2 fun h9 => hq0 (by rw [HQ.out]; exact (fN_has 0 _ _).2 h9)
                have HX : Hid (dGo [] 0 xs = dGo (xs.take (k + 1)) (n + xs[k].wide) (xs.drop (k + 1))) := Lib.hid (declOk_next xs k n hlt HT.out (dOne_yes hnm h1 h4 hh))
                clear hh hnm
                go_wp2
                go_quiet ((first | (go_at_call 49; exact quiet_left (HN.out _)) | (go_at_call 50; exact quiet_left (HFK.out _))))
                go_wp2
                go_roundw
                case rel => exact ⟨k + 1, n + xs[k].wide, by omega, by go_num, rfl, by omega, by omega, below_drewN hb _, HX⟩
                case measure => simp [intOf]; omega
            · have HB : Hid (declOk xs = false) := Lib.hid (declOk_bad xs k n hlt HT.out (dOne_high h4))
              rw [hnm] at HN
              have g1 : decide (xs[k].wide < 1) = false := decide_eq_false (by omega)
              have g4 : decide (4 < xs[k].wide) = true := decide_eq_true (by omega)
              clear hnm HFI
              go_wp2
              go_quiet ((go_at_call 49; exact quiet_left (HN.out _)))
              go_wp2
              go_ret
              exact ⟨ret_bool (by rw [HB.out]), below_drewN hb _⟩
          · have HB : Hid (declOk xs = false) := Lib.hid (declOk_bad xs k n hlt HT.out (dOne_low h1))
            rw [hnm] at HN
            have g1 : decide (xs[k].wide < 1) = true := decide_eq_true (by omega)
            clear hnm HFI
            go_wp2
            go_quiet ((go_at_call 49; exact quiet_left (HN.out _)))
            go_wp2
            go_ret
            exact ⟨ret_bool (by rw [HB.out]), below_drewN hb _⟩
        · have hnm := Bool.eq_false_iff.2 hnm
          have HB : Hid (declOk xs = false) := Lib.hid (declOk_bad xs k n hlt HT.out (dOne_name hnm))
          rw [hnm] at HN
          clear hnm HFI
          go_wp2
          go_quiet ((go_at_call 49; exact quiet_left (HN.out _)))
          go_wp2
          go_ret
          exact ⟨ret_bool (by rw [HB.out]), below_drewN hb _⟩
      · have hke : k = xs.length := by omega
        subst hke
        have HE := Lib.hid (declOk_end xs n hl4 HT.out)
        go_wp2
        go_ret
        exact ⟨ret_bool (by rw [HE.out]), hb⟩
  · have HE := Lib.hid (declOk_long xs hl4)
    go_enter Tryd.func28, Tryd.ntmps28
    go_wp2
    go_ret
    exact ⟨ret_bool (by rw [HE.out]), Below.refl _ _⟩
set_option maxHeartbeats 1000000 in
theorem l8Bits_any (A : Option Addr) (c : Nat) (xs : List D) (F : Nat → Prop) (w : World) (h : Lay.decl.Sl w F A xs) (h4 : xs.length ≤ 1000) (hw : ∀ x ∈ xs, -1000000 ≤ x.wide ∧ x.wide ≤ 1000000) :
    Calls Tryd.prog 29 #[.slice A xs.length c] w fun e w' => e = .returned (.int .i64 (dsum xs)) ∧ w = w' := by
  go_enter Tryd.func29, Tryd.ntmps29
  go_wp2
  go_loop [3, 4] (fun b i => ∃ (k : Nat) (n : Int), k ≤ xs.length ∧ i = .int .i64 k ∧ b = .int .i64 n ∧ -1000000 * (k : Int) ≤ n ∧ n ≤ 1000000 * (k : Int) ∧ Hid (n = dsum (xs.take k))) (fun _ i => xs.length - (intOf i).toNat)
  case atStart => exact ⟨0, 0, Nat.zero_le _, rfl, rfl, by omega, by omega, Lib.hid rfl⟩
  case round =>
    obtain ⟨k, n, hk, rfl, rfl, n0, n1, HT⟩ := hrel
    by_cases hlt : k < xs.length
    · obtain ⟨ad, rfl, hf, c1, c2⟩ := h.at_decl hlt
      have hk1 : (k : Int) < xs.length := by omega
      obtain ⟨b0, b1⟩ := hw _ (List.getElem_mem hlt)
      have HS := Lib.hid (dsum_take xs k hlt)
      clear hw
      go_wp2
      go_round
      case rel => exact ⟨k + 1, n + xs[k].wide, by omega, by go_num, rfl, by push_cast; omega, by push_cast; omega, Lib.hid (by rw [HS.out, ← HT.out])⟩
      case measure => simp [intOf]; omega
    · have hke : k = xs.length := by omega
      subst hke
      have HE : Hid (n = dsum xs) := Lib.hid (by rw [HT.out, List.take_length])
      clear hw
      go_wp2
      go_ret
      exact ⟨ret_int HE.out, rfl⟩
end Go.Proofs.YthcmflhhpgmfaaaDoor

/-! Contracts of the reference's reader of codes: l12Open, pick. -/
namespace Go.Proofs.YthcmflhhpgmfaaaDoor
open Go Go.RowKit

/-- Block r is a reader at place p, of at most 2000 bytes that lie below it. -/
def Rdr (w : World) (r : Nat) (p : Int) : Prop :=
  ∃ A c bs, w.heap[r]? = some (.cells #[.slice A bs.length c, .int .i64 p] 77 (0, 0)) ∧ bs.length ≤ 2000 ∧ Lay.byte.Sl w (fun b => b < r) A bs

/-- The reader stays over what leaves its block and the blocks below it alone. -/
theorem Rdr.keep {w w' : World} {r : Nat} {p : Int} (h : Rdr w r p) (hk : ∀ b, b ≤ r → w'.heap[b]? = w.heap[b]?) : Rdr w' r p := by
  obtain ⟨A, c, bs, hb, hl, hs⟩ := h
  exact ⟨A, c, bs, (hk r (Nat.le_refl _)).trans hb, hl, hs.keep fun b hb => hk b (Nat.le_of_lt hb)⟩
theorem Rdr.lt {w : World} {r : Nat} {p : Int} (h : Rdr w r p) : r < w.heap.size := by
  obtain ⟨A, c, bs, hb, _⟩ := h
  exact lt_of_block hb
theorem Rdr.up {w w' : World} {r : Nat} {p : Int} (h : Rdr w r p) (hb : Below w.heap.size w w') : Rdr w' r p :=
  h.keep fun b hbr => hb.block b (Nat.lt_of_le_of_lt hbr h.lt)

def OpenPost (w : World) (e : Ending) (w' : World) : Prop := ∃ r, e = .returned (.pointer (some ⟨r, 0, none⟩)) ∧ w.heap.size ≤ r ∧ Rdr w' r 0 ∧ Below w.heap.size w w'

theorem open_any (A : Option Addr) (c : Nat) (bs : List UInt8) (w : World) (h : Lay.byte.Rd w A bs) (hc : bs.length ≤ c) (hn : bs.length ≤ 9223372036854775807) :
    Calls Tryd.prog 41 #[.slice A bs.length c] w (OpenPost w) := by
  by_cases hl : 2000 < bs.length
  · go_enter Tryd.func41, Tryd.ntmps41
    go_wp2
    go_ret
    refine ⟨w.heap.size, rfl, Nat.le_refl _, ⟨A, c, bs.take 2000, ?_, by simp; omega, ?_⟩, (Below.refl _ _).alloc (Nat.le_refl _) _⟩
    · have e : (bs.take 2000).length = 2000 := by simp; omega
      rw [e]
      exact heap_alloc_new w _
    · exact (h.take 2000).keep fun b hb => Below.heap_alloc w _ b hb
  · go_enter Tryd.func41, Tryd.ntmps41
    go_wp2
    go_ret
    refine ⟨w.heap.size, rfl, Nat.le_refl _, ⟨A, c, bs, ?_, by omega, ?_⟩, (Below.refl _ _).alloc (Nat.le_refl _) _⟩
    · exact heap_alloc_new w _
    · exact h.keep fun b hb => Below.heap_alloc w _ b hb

/-- A number below n, and the reader one place on. -/
def PickPost (w : World) (r : Nat) (p n : Int) (e : Ending) (w' : World) : Prop :=
  ∃ k : Int, e = .returned (.int .i64 k) ∧ 0 ≤ k ∧ (1 ≤ n → k < n) ∧ (n < 1 → k = 0) ∧ Rdr w' r (p + 1) ∧ w.grownBy w' (some r)

theorem pick_end {w : World} {r : Nat} {p n k : Int} (m : Nat) (h : Rdr w r p) (k0 : 0 ≤ k) (k1 : 1 ≤ n → k < n) (k2 : n < 1 → k = 0) :
    PickPost w r p n (.returned (.int .i64 k)) ((w.setCell ⟨r, 1, none⟩ (.int .i64 (p + 1))).drewN m) := by
  have hlt := h.lt
  refine ⟨k, rfl, k0, k1, k2, ?_, ⟨rfl, rfl, rfl, by simp [World.setCell, World.drewN], fun i hi hne => Below.heap_setCell w ⟨r, 1, none⟩ _ i (fun e => hne (by rw [e]))⟩⟩
  obtain ⟨A, c, bs, hb, hl, hs⟩ := h
  refine ⟨A, c, bs, ?_, hl, hs.keep fun b hb => Below.heap_setCell w ⟨r, 1, none⟩ _ b (Nat.ne_of_lt hb)⟩
  show (w.setCell ⟨r, 1, none⟩ (.int .i64 (p + 1))).heap[r]? = _
  simp [World.setCell, Array.getElem?_modify, hb]

theorem far_cell {w : World} {a b : Addr} {v u : Value} (h : w.cell? a = some u) (hne : a.block ≠ b.block) : (w.setCell b v).cell? a = some u := by
  rw [World.cell?_setCell_other w b a v (fun e => hne (by rw [e]))]; exact h

theorem ofInt_i64 (a : Nat) (ha : a < 9223372036854775808) : (BitVec.ofInt 64 (a : Int)).toNat = a := by
  rw [BitVec.ofInt_natCast, BitVec.toNat_ofNat]; exact Nat.mod_eq_of_lt (by omega)
theorem i64_xor_nat (a b : Nat) (ha : a < 9223372036854775808) (hb : b < 9223372036854775808) : bits .xor .i64 (a : Int) (b : Int) = ((a ^^^ b : Nat) : Int) := by
  have hx : a ^^^ b < 2 ^ 63 := Nat.xor_lt_two_pow (by omega) (by omega)
  show IntKind.i64.wrap ((BitVec.ofInt 64 (a : Int) ^^^ BitVec.ofInt 64 (b : Int)).toNat : Int) = _
  rw [BitVec.toNat_xor, ofInt_i64 a ha, ofInt_i64 b hb, IntKind.wrap_i64]
  omega

theorem mix_wraps (P y z D : Nat) (hP : P ≤ 1000000000) (hy : y < 256) (hz : z < 256) (hD : D ≤ 1000000000) :
    IntKind.i64.wrap ((P : Int) * 7) = (P : Int) * 7 ∧ IntKind.i64.wrap ((P : Int) * 7 + 3) = (P : Int) * 7 + 3 ∧ IntKind.i64.wrap (y : Int) = (y : Int) ∧ IntKind.i64.wrap ((y : Int) * 131) = (y : Int) * 131 ∧
    IntKind.i64.wrap (z : Int) = (z : Int) ∧ IntKind.i64.wrap ((z : Int) * 1117) = (z : Int) * 1117 ∧ IntKind.i64.wrap ((y : Int) * 131 + (z : Int) * 1117) = (y : Int) * 131 + (z : Int) * 1117 ∧
    IntKind.i64.wrap ((P : Int) * 29) = (P : Int) * 29 ∧ IntKind.i64.wrap ((y : Int) * 131 + (z : Int) * 1117 + (P : Int) * 29) = (y : Int) * 131 + (z : Int) * 1117 + (P : Int) * 29 ∧
    IntKind.i64.wrap (D : Int) = (D : Int) ∧ IntKind.i64.wrap ((D : Int) * 53) = (D : Int) * 53 ∧
    IntKind.i64.wrap ((y : Int) * 131 + (z : Int) * 1117 + (P : Int) * 29 + (D : Int) * 53) = (y : Int) * 131 + (z : Int) * 1117 + (P : Int) * 29 + (D : Int) * 53 :=
  ⟨IntWalk.i64_in _ (by omega), IntWalk.i64_in _ (by omega), IntWalk.i64_in _ (by omega), IntWalk.i64_in _ (by omega), IntWalk.i64_in _ (by omega), IntWalk.i64_in _ (by omega),
    IntWalk.i64_in _ (by omega), IntWalk.i64_in _ (by omega), IntWalk.i64_in _ (by omega), IntWalk.i64_in _ (by omega), IntWalk.i64_in _ (by omega), IntWalk.i64_in _ (by omega)⟩

set_option maxRecDepth 100000 in
set_option maxHeartbeats 1000000 in
theorem pick_any (r : Nat) (p n : Int) (w : World) (h : Rdr w r p) (p0 : 0 ≤ p) (p1 : p ≤ 1000000000) (n1 : n ≤ 9223372036854775807) (n0 : -9223372036854775808 ≤ n) :
    Calls Tryd.prog 46 #[.pointer (some ⟨r, 0, none⟩), .int .i64 n] w (PickPost w r p n) := by
  obtain ⟨A, c, bs, hb, hl, hs⟩ := h
  have hc0 : w.cell? ⟨r, 0, none⟩ = some (.slice A bs.length c) := by simp [World.cell?, hb]
  have hc1 : w.cell? ⟨r, 1, none⟩ = some (.int .i64 p) := by simp [World.cell?, hb]
  have hf : w.frozen? ⟨r, 1, none⟩ = false := by simp [World.frozen?, hb]
  have Hb := Lib.hid hb
  clear hb
  have hR : Rdr w r p := ⟨A, c, bs, Hb.out, hl, hs⟩
  have HR := Lib.hid hR
  clear hR
  by_cases hn : n < 1
  · go_enter Tryd.func46, Tryd.ntmps46
    go_wp2
    go_ret
    exact pick_end 0 HR.out (by omega) (by omega) (fun _ => rfl)
  · by_cases he : bs.length = 0
    · go_enter Tryd.func46, Tryd.ntmps46
      go_wp2
      go_ret
      exact pick_end 0 HR.out (by omega) (by omega) (fun _ => rfl)
    · by_cases hk : p < bs.length
      · have hkn : p.toNat < bs.length := by omega
        obtain ⟨ad, rfl, hfr, hcb⟩ := hs.at_byte hkn
        have hcb' : (w.setCell ⟨r, 1, none⟩ (.int .i64 (p + 1))).cell? (ad.add p.toNat) = some (.int .u8 (bs[p.toNat].toNat : Int)) := far_cell hcb (by rw [block_of_add]; exact Nat.ne_of_lt hfr)
        have hb0 : (0 : Int) ≤ bs[p.toNat].toNat := by omega
        have hb1 : (bs[p.toNat].toNat : Int) < 256 := by have := bs[p.toNat].toNat_lt; omega
        generalize (bs[p.toNat].toNat : Int) = y at *
        go_enter Tryd.func46, Tryd.ntmps46
        go_wp2
        go_ret
        exact pick_end 0 HR.out (Int.emod_nonneg _ (by omega)) (fun _ => Int.emod_lt_of_pos _ (by omega)) (fun h => by omega)
      · have hq0 : 0 < bs.length := by omega
        obtain ⟨P, rfl⟩ := Int.eq_ofNat_of_zero_le p0
        obtain ⟨X, hx, t1⟩ : ∃ X : Nat, X < bs.length ∧ (P : Int).tmod bs.length = X := ⟨P % bs.length, Nat.mod_lt _ hq0, by rw [Int.tmod_eq_emod_of_nonneg (by omega)]; simp⟩
        obtain ⟨Y, hy, t2⟩ : ∃ Y : Nat, Y < bs.length ∧ ((P : Int) * 7 + 3).tmod bs.length = Y := ⟨(P * 7 + 3) % bs.length, Nat.mod_lt _ hq0, by rw [Int.tmod_eq_emod_of_nonneg (by omega)]; simp⟩
        obtain ⟨D, hd, t3⟩ : ∃ D : Nat, D ≤ P ∧ (P : Int).tdiv bs.length = D := ⟨P / bs.length, Nat.div_le_self _ _, by rw [Int.tdiv_eq_ediv_of_nonneg (by omega)]; simp⟩
        obtain ⟨ad, rfl, hfr, hcb⟩ := hs.at_byte hx
        obtain ⟨ad', e, _, hcb2⟩ := hs.at_byte hy
        cases e
        have hcb' : (w.setCell ⟨r, 1, none⟩ (.int .i64 ((P : Int) + 1))).cell? (ad.add _) = some _ := far_cell hcb (by rw [block_of_add]; exact Nat.ne_of_lt hfr)
        have hcb2' : (w.setCell ⟨r, 1, none⟩ (.int .i64 ((P : Int) + 1))).cell? (ad.add _) = some _ := far_cell hcb2 (by rw [block_of_add]; exact Nat.ne_of_lt hfr)
        have hb1 := bs[X].toNat_lt
        have hb2 := bs[Y].toNat_lt
        generalize bs[X].toNat = y at *
        generalize bs[Y].toNat = z at *
        clear hcb hcb2
        have hx' : (X : Int) < bs.length := by omega
        have hy' : (Y : Int) < bs.length := by omega
        obtain ⟨e1, e2, e3, e4, e5, e6, e7, e8, e9, e10, e11, e12⟩ := mix_wraps P y z D (by omega) hb1 hb2 (by omega)
        have hlen : ((bs.length : Int) == 0) = false := beq_eq_false_iff_ne.2 (by omega)
        go_enter Tryd.func46, Tryd.ntmps46
        go_wp2
        go_quiet (fail)
        clear e1 e2 e3 e4 e5 e6 e7 e8 e9 e10 e11 e12 t1 t2 t3 hlen
        go_wp2
        go_ret
        have hM : (y : Int) * 131 + (z : Int) * 1117 + (P : Int) * 29 + (D : Int) * 53 = ((y * 131 + z * 1117 + P * 29 + D * 53 : Nat) : Int) := by omega
        have hlt : y * 131 + z * 1117 + P * 29 + D * 53 < 9223372036854775808 := by omega
        show PickPost w r P n (.returned (.int .i64 ((bits BinOp.xor IntKind.i64 ((y : Int) * 131 + z * 1117 + P * 29 + D * 53) (((y : Int) * 131 + z * 1117 + P * 29 + D * 53) / 64)).tmod n))) _
        rw [hM]
        generalize y * 131 + z * 1117 + P * 29 + D * 53 = M at *
        rw [show ((M : Int) / 64) = ((M / 64 : Nat) : Int) from by omega, i64_xor_nat _ _ hlt (by omega)]
        generalize (M ^^^ M / 64) = Q
        rw [Int.tmod_eq_emod_of_nonneg (by omega)]
        exact pick_end nq HR.out (Int.emod_nonneg _ (by omega)) (fun _ => Int.emod_lt_of_pos _ (by omega)) (fun h => by omega)
end Go.Proofs.YthcmflhhpgmfaaaDoor

/-! Rows of the call's own whose elements may lead on to other blocks; append of one element. No program is named here. -/
namespace Go.Proofs.YthcmflhhpgmfaaaDoor
open Go Go.RowKit

/-- What is so of a block hangs on the block alone. -/
def Stay (Q : World → Nat → Prop) : Prop := ∀ w w' b, w'.heap[b]? = w.heap[b]? → Q w b → Q w' b
theorem Stay.any : Stay (fun _ _ => True) := fun _ _ _ _ _ => trivial
theorem Stay.own (lo : Nat) : Stay (fun w b => lo ≤ b ∧ ∀ o, w.frozen? ⟨b, o, none⟩ = false) := fun w w' b h hq => ⟨hq.1, fun o => by
  rw [← hq.2 o]; exact World.frozen?_of_block (a := ⟨b, o, none⟩) h⟩
/-- A row of the call's own, of elements that lead to other blocks. -/
def OwnL {α : Type} (L : Lay α) (Q : World → Nat → Prop) (e : TypeId) (w : World) (lo : Nat) (v : Value) (xs : List α) : Prop :=
  ∃ cs, w.ownsRow lo e L.size v xs.length cs ∧ ∀ i x, xs[i]? = some x → ∃ vs, L.R w (fun b => b < w.heap.size ∧ v.ownBlock ≠ some b ∧ Q w b) x vs ∧ ∀ j u, vs[j]? = some u → cs[i * L.size + j]? = some u
section
variable {α : Type} {L : Lay α} {Q : World → Nat → Prop} {e : TypeId} {lo : Nat} {w : World} {v : Value} {xs : List α}
theorem OwnL.nil (L : Lay α) (Q : World → Nat → Prop) (e : TypeId) (w : World) (lo : Nat) : OwnL L Q e w lo (.slice none 0 0) [] := ⟨[], World.ownsRow_nil _ _ _ _, fun i x h => by simp at h⟩
/-- Nothing that the row leads to has turned. -/
theorem OwnL.keep {w' : World} (h : OwnL L Q e w lo v xs) (hQ : Stay Q) (hg : w.grownBy w' none) : OwnL L Q e w' lo v xs := by
  obtain ⟨cs, h1, h2⟩ := h
  refine ⟨cs, rows_kept h1 hg (by simp), fun i x hx => ?_⟩
  obtain ⟨vs, hr, hu⟩ := h2 i x hx
  refine ⟨vs, L.mono (fun b hb => ?_) (L.keep (fun b hb => hg.block b hb.1 (by simp)) hr), hu⟩
  exact ⟨Nat.lt_of_lt_of_le hb.1 hg.size, hb.2.1, hQ _ _ _ (hg.block b hb.1 (by simp)) hb.2.2⟩
theorem grown_of_below {a b : World} {row : Option Nat} (h : Below a.heap.size a b) : a.grownBy b row := ⟨h.os, h.tape, h.output, h.size, fun i hi _ => h.block i hi⟩
theorem OwnL.up {w' : World} (h : OwnL L Q e w lo v xs) (hQ : Stay Q) (hb : Below w.heap.size w w') : OwnL L Q e w' lo v xs := h.keep hQ (grown_of_below hb)
theorem OwnL.form (h : OwnL L Q e w lo v xs) : ∃ A c, v = .slice A xs.length c ∧ xs.length ≤ c := by
  obtain ⟨cs, h1, h2⟩ := h
  rcases h1.2 with ⟨e1, e2⟩ | ⟨g, cap, cur, e1, _, _, h3, _⟩
  · exact ⟨none, 0, by rw [e1, e2], by omega⟩
  · exact ⟨_, cap, e1, h3⟩
theorem OwnL.cap {A : Option Addr} {n c : Nat} (h : OwnL L Q e w lo (.slice A n c) xs) : n = xs.length ∧ xs.length ≤ c := by
  obtain ⟨A', c', e1, h1⟩ := h.form
  injection e1 with e1 e2 e3
  exact ⟨e2, by omega⟩
/-- How it reads: the row's own block, and those of its elements. -/
theorem OwnL.sl {A : Option Addr} {c : Nat} (h : OwnL L Q e w lo (.slice A xs.length c) xs) : L.Sl w (fun b => b < w.heap.size ∧ (lo ≤ b ∧ (∀ o, w.frozen? ⟨b, o, .none⟩ = false) ∨ Q w b)) A xs := by
  obtain ⟨cs, h1, h2⟩ := h
  intro h0
  rcases h1.2 with ⟨e1, e2⟩ | ⟨g, cap, cur, e1, hg, _⟩
  · omega
  · injection e1 with e1 e2 e3
    subst e1
    refine ⟨_, rfl, ⟨(h1.lt g rfl).2, .inl ⟨hg, fun o => h1.frozenAt o⟩⟩, fun k x hx => ?_⟩
    obtain ⟨vs, hr, hu⟩ := h2 k x hx
    exact ⟨vs, L.mono (fun b hb => ⟨hb.1, .inr hb.2.2⟩) hr, fun j u hj => h1.cells (g := g) rfl _ _ (hu j u hj)⟩
theorem OwnL.rd {A : Option Addr} {c : Nat} (h : OwnL L Q e w lo (.slice A xs.length c) xs) : L.Rd w A xs := h.sl.mono fun _ h => h.1
theorem OwnL.own {A : Option Addr} {c : Nat} (h : OwnL L (fun w b => lo ≤ b ∧ ∀ o, w.frozen? ⟨b, o, none⟩ = false) e w lo (.slice A xs.length c) xs) : L.Sl w (Own lo w) A xs :=
  h.sl.mono fun _ h => ⟨h.2.elim (fun h => h.1) (fun h => h.1), h.1, h.2.elim (fun h => h.2) (fun h => h.2)⟩
/-- The element at a place, as cells. -/
theorem OwnL.at {A : Option Addr} {c : Nat} (h : OwnL L Q e w lo (.slice A xs.length c) xs) {k : Nat} (hk : k < xs.length) : ∃ ad, A = some ad ∧ ad.block < w.heap.size := by
  obtain ⟨ad, e1, hf, _⟩ := h.rd (by omega)
  exact ⟨ad, e1, hf⟩
end
theorem OwnL.lt {α : Type} {L : Lay α} {Q : World → Nat → Prop} {e : TypeId} {w : World} {lo : Nat} {v : Value} {xs : List α} (h : OwnL L Q e w lo v xs) : ∀ g, v.ownBlock = some g → lo ≤ g ∧ g < w.heap.size := by
  obtain ⟨cs, h1, _⟩ := h
  exact fun g hg => h1.lt g hg
end Go.Proofs.YthcmflhhpgmfaaaDoor

/-! Draws: what a reader's user leaves; a number of a list. -/
namespace Go.Proofs.YthcmflhhpgmfaaaDoor
open Go Go.RowKit

theorem own_of_heap {w w' : World} {base : Nat} {e : TypeId} {size n : Nat} {v : Value} {xs : List Value} (h : w.ownsRow base e size v n xs) (hk : ∀ g, v.ownBlock = some g → w'.heap[g]? = w.heap[g]?) : w'.ownsRow base e size v n xs := by
  refine ⟨h.1, ?_⟩
  rcases h.2 with hn | ⟨g, cap, cur, rfl, hb, hgg, rest⟩
  · exact .inl hn
  · exact .inr ⟨g, cap, cur, rfl, hb, (hk g rfl).trans hgg, rest⟩
/-- But for the blocks S nothing turned. -/
structure Gr (S : Nat → Prop) (w w' : World) : Prop where
  os : w'.os = w.os
  tape : w'.tape = w.tape
  output : w'.output = w.output
  size : w.heap.size ≤ w'.heap.size
  block : ∀ i, i < w.heap.size → ¬ S i → w'.heap[i]? = w.heap[i]?
theorem Gr.refl (S : Nat → Prop) (w : World) : Gr S w w := ⟨rfl, rfl, rfl, Nat.le_refl _, fun _ _ _ => rfl⟩
theorem Gr.trans {S : Nat → Prop} {a b c : World} (h : Gr S a b) (k : Gr S b c) : Gr S a c :=
  ⟨k.os.trans h.os, k.tape.trans h.tape, k.output.trans h.output, Nat.le_trans h.size k.size, fun i hi hn => (k.block i (Nat.lt_of_lt_of_le hi h.size) hn).trans (h.block i hi hn)⟩
theorem Gr.mono {S T : Nat → Prop} {a b : World} (h : Gr S a b) (hST : ∀ x, S x → T x) : Gr T a b := ⟨h.os, h.tape, h.output, h.size, fun i hi hn => h.block i hi (fun e => hn (hST i e))⟩
theorem Gr.below {S : Nat → Prop} {w w' : World} (h : Below w.heap.size w w') : Gr S w w' := ⟨h.os, h.tape, h.output, h.size, fun i hi _ => h.block i hi⟩
theorem Gr.up {S : Nat → Prop} {a w w' : World} (h : Gr S a w) (hb : Below w.heap.size w w') : Gr S a w' := h.trans (.below hb)
theorem Gr.one {S : Nat → Prop} {w w' : World} {g : Nat} (h : w.grownBy w' (some g)) (hg : S g) : Gr S w w' := ⟨h.os, h.tape, h.output, h.size, fun i hi hn => h.block i hi (fun e => by injection e with e; exact hn (e ▸ hg))⟩
theorem Gr.set {S : Nat → Prop} {a w : World} (h : Gr S a w) (g o : Nat) (u : Value) (hg : S g ∨ a.heap.size ≤ g) : Gr S a (w.setCell ⟨g, o, none⟩ u) :=
  ⟨h.os, h.tape, h.output, by rw [size_setCell]; exact h.size, fun i hi hn => (Below.heap_setCell w ⟨g, o, none⟩ u i (fun e => hg.elim (fun h9 => hn (by rw [e]; exact h9)) (fun h9 => by rw [e] at hi; exact absurd hi (by show ¬ g < _; omega)))).trans (h.block i hi hn)⟩
/-- A row of one's own has grown. -/
theorem Gr.own {S : Nat → Prop} {a w w' : World} {row : Option Nat} (h : Gr S a w) (k : w.grownBy w' row) (hr : ∀ g, row = some g → a.heap.size ≤ g) : Gr S a w' :=
  ⟨k.os.trans h.os, k.tape.trans h.tape, k.output.trans h.output, Nat.le_trans h.size k.size, fun i hi hn => (k.block i (Nat.lt_of_lt_of_le hi h.size) (fun e => by have := hr i e.symm; omega)).trans (h.block i hi hn)⟩
/-- From the blocks of a later start on, all is the caller's gain. -/
theorem Gr.then {S T : Nat → Prop} {a b c : World} (h : Gr S a b) (k : Gr T b c) (hT : ∀ x, T x → S x ∨ a.heap.size ≤ x) : Gr S a c :=
  ⟨k.os.trans h.os, k.tape.trans h.tape, k.output.trans h.output, Nat.le_trans h.size k.size, fun i hi hn => (k.block i (Nat.lt_of_lt_of_le hi h.size) (fun e => (hT i e).elim hn (fun h9 => by omega))).trans (h.block i hi hn)⟩
theorem Gr.to_below' {S : Nat → Prop} {B : Nat} {a b : World} (h : Gr S a b) (hB : B ≤ a.heap.size) (hS : ∀ x, S x → B ≤ x) : Below B a b := ⟨h.os, h.tape, h.output, h.size, fun i hi => h.block i (by omega) (fun e => by have := hS i e; omega)⟩
theorem Gr.heap {S : Nat → Prop} {w w' : World} {g : Nat} {o : Obj} (h : Gr S w w') (hg : ¬ S g) (hb : w.heap[g]? = some o) : w'.heap[g]? = some o := (h.block g (Array.getElem?_eq_some_iff.1 hb).1 hg).trans hb
theorem Rdr.gr {S : Nat → Prop} {w w' : World} {r : Nat} {p : Int} (h : Rdr w r p) (k : Gr S w w') (hS : ∀ x, S x → r < x) : Rdr w' r p :=
  h.keep fun b hb => k.block b (Nat.lt_of_le_of_lt hb h.lt) (fun e => by have := hS b e; omega)
theorem Rdr.own {w w' : World} {r : Nat} {p : Int} {row : Option Nat} (h : Rdr w r p) (k : w.grownBy w' row) (hr : ∀ g, row = some g → r < g) : Rdr w' r p :=
  h.keep fun b hb => k.block b (Nat.lt_of_le_of_lt hb h.lt) (fun e => by have := hr b e.symm; omega)
theorem Rdr.set {w : World} {r g o : Nat} {p : Int} {u : Value} (h : Rdr w r p) (hg : r < g) : Rdr (w.setCell ⟨g, o, none⟩ u) r p :=
  h.keep fun b hb => Below.heap_setCell w ⟨g, o, none⟩ u b (fun e => by have : b = g := e; omega)
/-- What stays: data that do not lie in the blocks S. -/
def Ab (S : Nat → Prop) (w : World) (b : Nat) : Prop := b < w.heap.size ∧ ¬ S b
theorem Lay.Sl.gr {α : Type} {L : Lay α} {w w' : World} {S : Nat → Prop} {A : Option Addr} {xs : List α} (h : L.Sl w (Ab S w) A xs) (hg : Gr S w w') : L.Sl w' (Ab S w') A xs :=
  (h.keep fun b hb => hg.block b hb.1 hb.2).mono fun b hb => ⟨Nat.lt_of_lt_of_le hb.1 hg.size, hb.2⟩
abbrev NotIn (S : Nat → Prop) : World → Nat → Prop := fun _ b => ¬ S b
theorem OwnL.gr {α : Type} {L : Lay α} {e : TypeId} {w w' : World} {lo : Nat} {S : Nat → Prop} {v : Value} {xs : List α} (h : OwnL L (NotIn S) e w lo v xs) (hg : Gr S w w') (hr : ∀ b, S b → b < lo) : OwnL L (NotIn S) e w' lo v xs := by
  obtain ⟨cs, h1, h2⟩ := h
  refine ⟨cs, own_of_heap h1 fun g hg' => hg.block g (h1.lt g hg').2 (fun e => by have := hr g e; have := (h1.lt g hg').1; omega), fun i x hx => ?_⟩
  obtain ⟨vs, hr, hu⟩ := h2 i x hx
  exact ⟨vs, L.mono (fun b hb => ⟨Nat.lt_of_lt_of_le hb.1 hg.size, hb.2.1, hb.2.2⟩) (L.keep (fun b hb => hg.block b hb.1 hb.2.2) hr), hu⟩
theorem OwnL.ab {α : Type} {L : Lay α} {e : TypeId} {w : World} {lo : Nat} {S : Nat → Prop} {A : Option Addr} {c : Nat} {xs : List α} (h : OwnL L (NotIn S) e w lo (.slice A xs.length c) xs) (hr : ∀ b, S b → b < lo) : L.Sl w (Ab S w) A xs :=
  h.sl.mono fun b hb => ⟨hb.1, hb.2.elim (fun h e => by have := hr b e; have := h.1; omega) id⟩
/-- The reader has gone on by at most N places; but for its block nothing turned. -/
def Drawn (r : Nat) (p N : Int) (w w' : World) : Prop := ∃ p', p ≤ p' ∧ p' ≤ p + N ∧ Rdr w' r p' ∧ Gr (fun b => b = r) w w'
theorem num_any (r : Nat) (p : Int) (B : Option Addr) (d : Nat) (xs : List Int) (w : World) (h : Rdr w r p) (hs : Lay.int.Sl w (Ab (fun b => b = r) w) B xs) (h0 : 0 < xs.length) (hn : xs.length ≤ 1048576) (p0 : 0 ≤ p) (p1 : p ≤ 1000000000) :
    Calls Tryd.prog 57 #[.pointer (some ⟨r, 0, none⟩), .slice B xs.length d] w fun e w' => ∃ x ∈ xs, e = .returned (.int .i64 x) ∧ Rdr w' r (p + 1) ∧ Gr (fun b => b = r) w w' := by
  go_enter Tryd.func57, Tryd.ntmps57
  go_wp2_with fail
  refine (pick_any r p xs.length w h p0 p1 (by omega) (by omega)).mono ?_
  rintro e w' ⟨k, rfl, k0, k1, _, hR, hg⟩
  have hk := k1 (by omega)
  have hg := Gr.one (S := fun b => b = r) hg rfl
  obtain ⟨n, rfl⟩ := Int.eq_ofNat_of_zero_le k0
  have hnl : n < xs.length := by omega
  obtain ⟨ad, rfl, _, hc⟩ := (hs.gr hg).at_int hnl
  have hm : xs[n] ∈ xs := List.getElem_mem hnl
  generalize xs[n] = x at *
  have HR := Lib.hid (And.intro hm (And.intro hR hg))
  clear hR hg hm k1 hs h
  go_wp2
  go_ret
  exact ⟨x, HR.out.1, rfl, HR.out.2⟩
end Go.Proofs.YthcmflhhpgmfaaaDoor

/-! Own rows of truth values; append. -/
namespace Go.Proofs.YthcmflhhpgmfaaaDoor
open Go Go.RowKit

def OwnB (w : World) (lo : Nat) (v : Value) (bs : List Bool) : Prop := w.ownsRow lo 4 1 v bs.length (bs.map Value.bool)
theorem OwnB.rd {w : World} {lo c : Nat} {A : Option Addr} {bs : List Bool} (h : OwnB w lo (.slice A bs.length c) bs) : Lay.bool.Rd w A bs := (sl_bools_of_own h (fun g _ hg => hg)).1
theorem OwnB.gr {S : Nat → Prop} {w w' : World} {lo : Nat} {v : Value} {bs : List Bool} (h : OwnB w lo v bs) (hg : Gr S w w') (hr : ∀ b, S b → b < lo) : OwnB w' lo v bs :=
  own_of_heap h fun g hg' => hg.block g (h.lt g hg').2 (fun e => by have := hr g e; have := (h.lt g hg').1; omega)
theorem OwnB.up {w w' : World} {lo : Nat} {v : Value} {bs : List Bool} (h : OwnB w lo v bs) (hb : Below w.heap.size w w') : OwnB w' lo v bs := own_below h hb (Nat.le_refl _)
theorem OwnB.set {w : World} {lo g c k : Nat} {bs : List Bool} (h : OwnB w lo (.slice (some ⟨g, 0, none⟩) bs.length c) bs) (b : Bool) : OwnB (w.setCell ⟨g, k, none⟩ (.bool b)) lo (.slice (some ⟨g, 0, none⟩) bs.length c) (bs.set k b) := by
  have := (h.stored k (.bool b)).1
  unfold OwnB
  rw [List.length_set, List.map_set]
  exact this
theorem OwnB.cell {w : World} {lo g c k : Nat} {bs : List Bool} (h : OwnB w lo (.slice (some ⟨g, 0, none⟩) bs.length c) bs) (hk : k < bs.length) : w.cell? ⟨g, k, none⟩ = some (.bool bs[k]) ∧ w.frozen? ⟨g, k, none⟩ = false := by
  refine ⟨?_, h.frozenAt k⟩
  have hc := h.2
  rcases hc with ⟨e, _⟩ | ⟨g', cap, cur, e, _, _, h3, _⟩
  · cases e
  · have hx := h.cellAt k (by simp; omega)
    rw [hx, List.getElem?_map, List.getElem?_eq_getElem hk]; rfl
theorem OwnB.form {w : World} {lo : Nat} {v : Value} {bs : List Bool} (h : OwnB w lo v bs) : ∃ A c, v = .slice A bs.length c ∧ bs.length ≤ c := by
  rcases h.2 with ⟨h1, h2⟩ | ⟨g, cap, cur, h1, _, _, h3, _⟩
  · exact ⟨none, 0, by rw [h1, h2], by rw [h2]; exact Nat.le_refl _⟩
  · exact ⟨_, cap, h1, h3⟩
theorem OwnB.cap {w : World} {lo c n : Nat} {A : Option Addr} {bs : List Bool} (h : OwnB w lo (.slice A n c) bs) : n = bs.length ∧ bs.length ≤ c := by
  obtain ⟨A', c', e, hl⟩ := h.form
  injection e with e1 e2 e3
  exact ⟨e2, by omega⟩
/-- append of one truth value onto a row of the call's own. -/
theorem wpList_append_bool {Q : Exit → Act → World → Prop} {ops : Array Oper} {rest : List Oper} {o : Oper} {a : Act} {W : World} {lo : Nat} {A : Option Addr} {c : Nat} {xs ys : List Bool} {x : Bool} {e' : TypeId} (hgd : o.guard = none) (s y : Operand)
    (ho : o.op = .call { callee := .builtin .append, args := #[s, y], argTypes := #[23, 23] }) (hs : a.eval s = .slice A xs.length c) (hy : a.eval y = .slice (some ⟨W.heap.size, 0, none⟩) 1 1)
    (hown : OwnB W lo (.slice A xs.length c) xs) (hn : xs.length ≤ 3000000) (hlo : lo ≤ W.heap.size) (hys : ys = xs ++ [x])
    (h : ∀ A' c' w', OwnB w' lo (.slice A' ys.length c') ys → Below lo W w' → wpList Tryd.prog ops Q rest (a.put o.dst (.slice A' ys.length c')) w') :
    wpList Tryd.prog ops Q (o :: rest) a (W.alloc (.cells #[.bool x] e')) := by
  obtain ⟨i0, hi0, hz0, hz1, hz2⟩ := info_parts bool_info
  have hl : ys.length = xs.length + 1 := by rw [hys]; simp
  have hm : ys.map Value.bool = xs.map Value.bool ++ [.bool x] := by rw [hys]; simp
  refine wpList_append1 (P := Tryd.prog) hgd s y 23 ho lo 4 i0 _ 1 Tryd.underlying23 hi0 hz0 hz1 hz2 (by rfl) _ xs.length (xs.map Value.bool) (.bool x) e' hs hown hy (by rfl) (by unfold maxLen; omega) (by omega) hlo ?_
  intro v' w' ho' hb
  rw [← hl, ← hm] at ho'
  obtain ⟨A', c', rfl, _⟩ := OwnB.form (bs := ys) ho'
  exact h A' c' w' ho' hb
end Go.Proofs.YthcmflhhpgmfaaaDoor

/-! append of one integer onto a row of the call's own, and where the row lies then. -/
namespace Go.Proofs.YthcmflhhpgmfaaaDoor
open Go Go.RowKit

theorem wpList_append_int8 {Q : Exit → Act → World → Prop} {ops : Array Oper} {rest : List Oper} {o : Oper} {a : Act} {W : World} {lo : Nat} {A : Option Addr} {c : Nat} {xs ys : List Int} {x : Int} {e' : TypeId} (hgd : o.guard = none) (s y : Operand)
    (ho : o.op = .call { callee := .builtin .append, args := #[s, y], argTypes := #[25, 25] }) (hs : a.eval s = .slice A xs.length c) (hy : a.eval y = .slice (some ⟨W.heap.size, 0, none⟩) 1 1)
    (hown : OwnI W lo (.slice A xs.length c) xs) (hn : xs.length ≤ 2000000) (hlo : lo ≤ W.heap.size) (hys : ys = xs ++ [x])
    (h : ∀ A' c' w', OwnI w' lo (.slice A' ys.length c') ys → W.grownBy w' (Value.slice A xs.length c).ownBlock →
      ((Value.slice A' ys.length c').ownBlock = (Value.slice A xs.length c).ownBlock ∨ ∃ g, (Value.slice A' ys.length c').ownBlock = some g ∧ W.heap.size ≤ g) → wpList Tryd.prog ops Q rest (a.put o.dst (.slice A' ys.length c')) w') :
    wpList Tryd.prog ops Q (o :: rest) a (W.alloc (.cells #[.int .i64 x] e')) := by
  obtain ⟨i0, hi0, hz0, hz1, hz2⟩ := info_parts int_info
  have hal : Below W.heap.size W (W.alloc (.cells #[.int .i64 x] e')) := (Below.refl _ _).alloc (Nat.le_refl _) _
  have hl : ys.length = xs.length + 1 := by rw [hys]; simp
  have hm : ys.map (Value.int .i64) = xs.map (Value.int .i64) ++ [.int .i64 x] := by rw [hys]; simp
  refine wpList_plain hgd fun _ hK => ?_
  obtain ⟨v', w', hrun, ho', hg', _, hbk⟩ := run_append_own_at (P := Tryd.prog) (W.alloc (.cells #[.int .i64 x] e')) lo 25 o.type 3 i0 _ 1 8 Tryd.underlying25 hi0 hz0 hz1 hz2 (by rfl) (by omega)
    (.slice A xs.length c) xs.length (xs.map (Value.int .i64)) (hown.up hal) ⟨W.heap.size, 0, none⟩ 1 1 [.int .i64 x] (by rfl) (fun j u hu => by
      have := World.news_of_block (heap_alloc_new W (.cells #[.int .i64 x] e')) j u hu
      exact this) (by simp; rfl) (by unfold maxLen; omega) (by omega) (Nat.le_trans hlo hal.size)
  rw [← hl, ← hm] at ho'
  obtain ⟨A', c', rfl, _, _⟩ := OwnI.form (xs := ys) ho'
  unfold Oper.wp execOp
  simp only [ho, resolve, invoke, builtin, Sem.run_bind, Sem.run_pure, Result.andThen_ok, List.map_toArray, List.map_cons, List.map_nil, hs, hy, hrun]
  refine hK _ _ (h A' c' w' ho' (grown_then hal hg') ?_)
  rcases hbk with e | e
  · exact .inl e
  · exact .inr ⟨_, e, hal.size⟩
end Go.Proofs.YthcmflhhpgmfaaaDoor

/-! The reference's environments: EnvOk, l1Bit, BlastIns, l2Bool, BlastEnv. -/
namespace Go.Proofs.YthcmflhhpgmfaaaDoor
open Go Go.RowKit

theorem OwnB.own {w : World} {base c : Nat} {A : Option Addr} {xs : List Bool} (h : OwnB w base (.slice A xs.length c) xs) : Lay.bool.Sl w (Own base w) A xs := fun hn => by
  obtain ⟨h1, _, h3⟩ := sl_bools_of_own (F := fun b => base ≤ b ∧ b < w.heap.size) h (fun g a b => ⟨a, b⟩)
  obtain ⟨ad, e, hf, hc⟩ := h1 hn
  subst e
  refine ⟨ad, rfl, ⟨hf.1, hf.2, fun o => ?_⟩, hc⟩
  rcases h.2 with ⟨e, _⟩ | ⟨g, cap, cur, e, _, hg, _⟩
  · cases e
  · injection e with e1 e2 e3
    injection e1 with e1
    subst e1
    unfold World.frozen?
    rw [hg]
    simp
/-- A row of the call's own is an answer. -/
theorem OwnB.ret {w w' : World} {c : Nat} {A : Option Addr} {xs : List Bool} (h : OwnB w' w.heap.size (.slice A xs.length c) xs) (hb : Below w.heap.size w w') : RetO Lay.bool w xs (.returned (.slice A xs.length c)) w' :=
  ⟨A, c, rfl, (OwnB.cap h).2, h.own, hb⟩
theorem OwnI.ret {w w' : World} {c : Nat} {A : Option Addr} {xs : List Int} (h : OwnI w' w.heap.size (.slice A xs.length c) xs) (hb : Below w.heap.size w w') : RetO Lay.int w xs (.returned (.slice A xs.length c)) w' :=
  ⟨A, c, rfl, h.cap, h.own, hb⟩
set_option maxRecDepth 100000 in
set_option maxHeartbeats 4000000 in
theorem specEnvOk_any (A B : Option Addr) (c d : Nat) (xs : List D) (env : List Int) (F : Nat → Prop) (w : World) (h : Lay.decl.Sl w F A xs) (hF : ∀ b, F b → b < w.heap.size) (h' : Lay.int.Sl w F B env) (hn : xs.length ≤ 9223372036854775807) (hm : env.length ≤ 9223372036854775807) (ho : okNames xs) (hc : xs.length ≤ c) :
    Calls Tryd.prog 37 #[.slice A xs.length c, .slice B env.length d] w (RetB w (envOk xs env)) := by
  cases hd : declOk xs
  · have HD := Lib.hid (specDeclOk_any A c xs F w h hF hn ho hc)
    rw [hd] at HD
    have HE := Lib.hid (envOk_no1 (env := env) hd)
    clear hd
    go_enter Tryd.func37, Tryd.ntmps37
    go_wp2_with fail
    refine HD.out.mono ?_
    rintro e w1 ⟨rfl, hb⟩
    go_wp2
    go_ret
    exact ⟨ret_bool (by rw [HE.out]), hb⟩
  · have HD := Lib.hid (specDeclOk_any A c xs F w h hF hn ho hc)
    rw [hd] at HD
    obtain ⟨hl4, hw4, _⟩ := declOk_facts hd
    by_cases hl : env.length = xs.length
    · have HE := Lib.hid (envOk_go hd hl)
      have HL := Lib.hid hl
      have hbe : ((env.length : Int) != (xs.length : Int)) = false := by simp [hl]
      clear hd hl hw4
      go_enter Tryd.func37, Tryd.ntmps37
      go_wp2_with fail
      refine HD.out.mono ?_
      rintro e w1 ⟨rfl, hb1⟩
      go_wp2
      clear hbe
      go_loopw [5] (fun i wr => ∃ k : Nat, k ≤ xs.length ∧ i = .int .i64 k ∧ Below w.heap.size w wr ∧ Hid (envGo xs env = envGo (xs.drop k) (env.drop k))) (fun i _ => xs.length - (intOf i).toNat)
      case atStart => exact ⟨0, Nat.zero_le _, rfl, hb1, Lib.hid rfl⟩
      case round =>
        obtain ⟨k, hk, rfl, hb, HT⟩ := hrel
        by_cases hlt : k < xs.length
        · have hlt' : k < env.length := by have := HL.out; omega
          obtain ⟨ad, rfl, hf, c1, c2⟩ := (h.below hb hF).at_decl hlt
          obtain ⟨ad', rfl, hf', c3⟩ := (h'.below hb hF).at_int hlt'
          have d2 := Later.cell c2
          have d3 := Later.cell c3
          have hk1 : (k : Int) < xs.length := by omega
          have hk2 : (k : Int) < env.length := by omega
          have HS := Lib.hid (envGo_step xs env k hlt hlt')
          have HV := Lib.hid (fun z => specVecOk_any xs[k].wide env[k] z)
          clear h h'
          cases hv : vecB xs[k].wide env[k]
          · have HX : Hid (envOk xs env = false) := Lib.hid (by rw [HE.out, HT.out, HS.out, hv]; rfl)
            rw [hv] at HV
            clear hv
            go_wp2
            refine wp_region_later (by kernel_rfl) (by kernel_rfl) ?_
            repeat (go_big_quiet_step ((go_at_call 54; exact later_of_below (HV.out _))))
            refine wpQuiet_nil ?_
            rintro _ ⟨x9, rfl⟩
            go_wp2
            go_ret
            exact ⟨ret_bool (by rw [HX.out]), bthen hb x9.le⟩
          · have HX : Hid (envGo xs env = envGo (xs.drop (k + 1)) (env.drop (k + 1))) := Lib.hid (by rw [HT.out, HS.out, hv]; rfl)
            rw [hv] at HV
            clear hv
            go_wp2
            refine wp_region_later (by kernel_rfl) (by kernel_rfl) ?_
            repeat (go_big_quiet_step ((go_at_call 54; exact later_of_below (HV.out _))))
            refine wpQuiet_nil ?_
            rintro _ ⟨x9, rfl⟩
            go_wp2
            go_roundw
            case rel => exact ⟨k + 1, by omega, by go_num, bthen hb x9.le, HX⟩
            case measure => simp [intOf]; omega
        · have HX : Hid (envOk xs env = true) := Lib.hid (by rw [HE.out, HT.out, List.drop_of_length_le (by omega)]; rfl)
          have hke : k = xs.length := by omega
          subst hke
          go_wp2
          go_ret
          exact ⟨ret_bool (by rw [HX.out]), hb⟩
    · have HE := Lib.hid (envOk_no2 (ds := xs) hl)
      have hbe : ((env.length : Int) != (xs.length : Int)) = true := by simp; omega
      clear hd hl hw4
      go_enter Tryd.func37, Tryd.ntmps37
      go_wp2_with fail
      refine HD.out.mono ?_
      rintro e w1 ⟨rfl, hb1⟩
      go_wp2
      go_ret
      exact ⟨ret_bool (by rw [HE.out]), hb1⟩
/-- A bit as a number. -/
def bitI (n : Int) (j : Nat) : Int := n / ((2 ^ j : Nat) : Int) % 2
theorem bitI_one {n : Int} {j : Nat} (h0 : 0 ≤ n) : (bitI n j == 1) = n.toNat.testBit j := by
  obtain ⟨m, rfl⟩ := Int.eq_ofNat_of_zero_le h0
  unfold bitI
  have e : ((m : Int) / ((2 ^ j : Nat) : Int)) % 2 = ((m / 2 ^ j % 2 : Nat) : Int) := by simp
  rw [e, Int.toNat_natCast, Nat.testBit_eq_decide_div_mod_eq, Bool.eq_iff_iff, beq_iff_eq, decide_eq_true_eq]
  omega
set_option maxHeartbeats 1000000 in
theorem l1Bit_v (n : Int) (i : Nat) (w : World) (hi : i ≤ 16) (h0 : 0 ≤ n) (h1 : n < 16) : Calls Tryd.prog 38 #[.int .i64 n, .int .i64 (i : Int)] w fun e w' => e = .returned (.int .i64 (bitI n i)) ∧ w = w' := by
  unfold bitI
  obtain ⟨T, hT⟩ : ∃ T : Nat, T = 2 ^ i := ⟨_, rfl⟩
  have hT0 : 0 < T := by rw [hT]; exact Nat.two_pow_pos i
  have hT1 : T ≤ 65536 := by rw [hT]; exact (Nat.pow_le_pow_right (by omega) hi : 2 ^ i ≤ 2 ^ 16)
  have HTWO := Lib.hid (l1Two_q i w hi)
  rw [← hT] at HTWO ⊢
  clear hT
  have hz : ((T : Int) == 0) = false := by simpa using (by omega : ¬ T = 0)
  have hq0 : 0 ≤ n / (T : Int) := Int.ediv_nonneg h0 (by omega)
  go_enter Tryd.func38, Tryd.ntmps38
  go_wp2_with fail
  refine HTWO.out.mono ?_
  rintro e w9 ⟨rfl, rfl⟩
  go_wp2
  go_ret
  exact ⟨rfl, rfl⟩
set_option maxRecDepth 100000 in
set_option maxHeartbeats 4000000 in
theorem specBlastIns_any (A B : Option Addr) (c d : Nat) (xs : List D) (env : List Int) (w : World) (h : Lay.decl.Rd w A xs) (h' : Lay.int.Rd w B env) (hn : xs.length ≤ 9223372036854775807) (hm : env.length ≤ 9223372036854775807) (ho : okNames xs) (hc : xs.length ≤ c) :
    Calls Tryd.prog 18 #[.slice A xs.length c, .slice B env.length d] w (RetO Lay.bool w (blastIns xs env)) := by
  have hal : Below w.heap.size w (w.alloc (.cells #[] 4)) := (Below.refl _ _).alloc (Nat.le_refl _) _
  have hol : OwnB (w.alloc (.cells #[] 4)) w.heap.size (.slice (some ⟨w.heap.size, 0, none⟩) ([] : List Bool).length 0) [] := own_lit0 rfl
  have HD := Lib.hid (specEnvOk_any A B c d xs env _ _ (h.up hal) (fun _ hb => hb) (h'.up hal) hn hm ho hc)
  have HAL := Lib.hid hal
  have HOL := Lib.hid hol
  clear hal hol
  go_enter Tryd.func18, Tryd.ntmps18
  go_wp2_with fail
  refine HD.out.mono ?_
  cases hd : envOk xs env
  · have HE : Hid (blastIns xs env = []) := Lib.hid (by unfold blastIns; rw [hd]; rfl)
    clear hd
    rintro e w1 ⟨rfl, hb⟩
    have HB := Lib.hid (bthen HAL.out hb)
    have HO := Lib.hid (HOL.out.up hb)
    clear hb
    go_wp2
    go_ret
    rw [HE.out]
    exact HO.out.ret HB.out
  · obtain ⟨hd1, hl, hgo⟩ := envOk_facts hd
    obtain ⟨hl4, hw4, _⟩ := declOk_facts hd1
    have HE : Hid (blastIns xs env = insGo xs env) := Lib.hid (by unfold blastIns; rw [hd]; rfl)
    have HW := Lib.hid hw4
    have HL := Lib.hid hl
    have HGO := Lib.hid hgo
    clear hd hl hgo hd1 hw4
    rintro e w1 ⟨rfl, hb⟩
    have HB := Lib.hid (bthen HAL.out hb)
    have HO := Lib.hid (HOL.out.up hb)
    clear hb
    go_wp2
    go_loopw [5, 6] (fun s i wr => ∃ (k : Nat) (bs : List Bool) (A8 : Option Addr) (c8 : Nat), k ≤ xs.length ∧ i = .int .i64 k ∧ s = .slice A8 bs.length c8 ∧ bs.length ≤ 4 * k ∧ OwnB wr w.heap.size (.slice A8 bs.length c8) bs ∧ Below w.heap.size w wr ∧ Hid (insGo xs env = bs ++ insGo (xs.drop k) (env.drop k))) (fun _ i _ => xs.length - (intOf i).toNat)
    case atStart => exact ⟨0, [], _, _, Nat.zero_le _, rfl, rfl, by simp, HO.out, HB.out, Lib.hid rfl⟩
    case round =>
      obtain ⟨k, bs, A8, c8, hk, rfl, rfl, hbl, hown, hb, HT⟩ := hrel
      obtain ⟨wo, hwo⟩ : ∃ wo, wo = wr := ⟨_, rfl⟩
      subst hwo
      by_cases hlt : k < xs.length
      · have hlt' : k < env.length := by have := HL.out; omega
        obtain ⟨ad, rfl, hf, c1, c2⟩ := (h.up hb).at_decl hlt
        obtain ⟨ad', hAd, hf', c3⟩ := h'.at_int hlt'
        subst hAd
        have hk1 : (k : Int) < xs.length := by omega
        have hk2 : (k : Int) < env.length := by omega
        obtain ⟨W, hW⟩ : ∃ W : Nat, xs[k].wide = (W : Int) := ⟨xs[k].wide.toNat, by have := (HW.out _ (List.getElem_mem hlt)).2.1; omega⟩
        have hW4 : 1 ≤ W ∧ W ≤ 4 := by have := (HW.out _ (List.getElem_mem hlt)).2; omega
        obtain ⟨hW1, hW4⟩ := hW4
        have hvb := vecB_bounds (envGo_at HGO.out k hlt hlt')
        obtain ⟨_, _, hn0, hn1⟩ := hvb
        have HS := Lib.hid (insGo_step xs env k hlt hlt')
        obtain ⟨n, hn9⟩ : ∃ n, n = env[k] := ⟨_, rfl⟩
        rw [← hn9] at hn0 hn1 c3 HS
        rw [hW] at c2
        rw [hW, Int.toNat_natCast] at HS
        have HT2 : Hid (insGo xs env = bs ++ (downB n W ++ insGo (xs.drop (k + 1)) (env.drop (k + 1)))) := Lib.hid (by rw [HT.out, HS.out])
        clear hn9 hW HT HS HO HOL
        go_wp2
        go_loopw [5, 7] (fun s i wr => ∃ (m : Nat) (ps : List Bool) (A8 : Option Addr) (c8 : Nat), m ≤ W ∧ i = .int .i64 ((m : Int) - 1) ∧ s = .slice A8 ps.length c8 ∧ ps.length + m ≤ 4 * (k + 1) ∧ OwnB wr w.heap.size (.slice A8 ps.length c8) ps ∧ Below w.heap.size w wr ∧ Hid (insGo xs env = ps ++ (downB n m ++ insGo (xs.drop (k + 1)) (env.drop (k + 1))))) (fun _ i _ => (intOf i + 1).toNat)
        case atStart => exact ⟨W, bs, _, _, Nat.le_refl _, rfl, rfl, by omega, hown, hb, HT2⟩
        case round =>
          obtain ⟨m, ps, A9, c9, hm, rfl, rfl, hpl, hown, hb, HT⟩ := hrel
          rcases m with _ | m
          · go_wp2
            go_roundw
            case rel => exact ⟨k + 1, ps, A9, c9, by omega, by go_num, rfl, by omega, hown, hb, Lib.hid (by rw [HT.out]; rfl)⟩
            case measure => simp [intOf]; omega
          · have e1 : (((m + 1 : Nat) : Int) - 1) = (m : Int) := by omega
            rw [e1]
            have c3 := (hb.cell (World.block_lt_of_cell? w _ c3)).trans c3
            obtain ⟨qs, hqs⟩ : ∃ qs, qs = ps ++ [n.toNat.testBit m] := ⟨_, rfl⟩
            have HQS := Lib.hid (show qs = ps ++ [(bitI n m == 1)] by rw [hqs, bitI_one hn0])
            have HQL : Hid (qs.length = ps.length + 1) := Lib.hid (by rw [hqs]; simp)
            have HT2 : Hid (insGo xs env = qs ++ (downB n m ++ insGo (xs.drop (k + 1)) (env.drop (k + 1)))) := Lib.hid (by rw [HT.out, hqs]; simp [downB])
            have hps20 : ps.length ≤ 100 := by omega
            have hsz := hb.size
            clear hqs HT e1
            go_wp2_with fail
            refine (l1Bit_v n m _ (by omega) hn0 hn1).mono ?_
            rintro e w9 ⟨rfl, rfl⟩
            obtain ⟨z, hz⟩ : ∃ z, z = bitI n m := ⟨_, rfl⟩
            rw [← hz] at HQS ⊢
            clear hz
            go_wp2_with (at_builtin; refine wpList_append_bool (ys := qs) (by rfl) (.tmp 30) (.tmp 38) (by rfl) (by rfl) (by rfl) hown (by omega) hsz HQS.out ?_; intro A7 c7 w7 hown7 hb7)
            have hbq := hb.trans hb7
            go_roundw
            case rel => exact ⟨m, qs, A7, c7, by omega, by go_num, rfl, by rw [HQL.out]; omega, hown7, hbq, HT2⟩
            case measure => simp [intOf]
      · have hke : k = xs.length := by omega
        subst hke
        have HX : Hid (blastIns xs env = bs) := Lib.hid (by rw [HE.out, HT.out, List.drop_length]; simp [insGo])
        go_wp2
        go_ret
        rw [HX.out]
        exact hown.ret hb
set_option maxHeartbeats 1000000 in
theorem l2Bool_any (b : Bool) (w : World) : Calls Tryd.prog 30 #[.bool b] w fun e w' => e = .returned (.int .i64 (if b = true then 1 else 0)) ∧ w = w' := by
  cases b
  all_goals
    go_enter Tryd.func30, Tryd.ntmps30
    go_wp2
    go_ret
    exact ⟨rfl, rfl⟩
set_option maxRecDepth 100000 in
set_option maxHeartbeats 4000000 in
theorem specBlastEnv_any (A B : Option Addr) (c d : Nat) (xs : List D) (bs : List Bool) (w : World) (h : Lay.decl.Rd w A xs) (h' : Lay.bool.Rd w B bs) (hn : xs.length ≤ 9223372036854775807) (hm : bs.length ≤ 9223372036854775807) (ho : okNames xs) (hc : xs.length ≤ c) :
    Calls Tryd.prog 7 #[.slice A xs.length c, .slice B bs.length d] w (RetO Lay.int w (blastEnv xs bs)) := by
  have hal : Below w.heap.size w (w.alloc (.cells #[] 3)) := (Below.refl _ _).alloc (Nat.le_refl _) _
  have hol : OwnI (w.alloc (.cells #[] 3)) w.heap.size (.slice (some ⟨w.heap.size, 0, none⟩) ([] : List Int).length 0) [] := own_lit0 rfl
  have HD := Lib.hid (specDeclOk_any A c xs _ _ (h.up hal) (fun _ hb => hb) hn ho hc)
  have HAL := Lib.hid hal
  have HOL := Lib.hid hol
  clear hal hol
  cases hd : declOk xs
  · have HE : Hid (blastEnv xs bs = []) := Lib.hid (by unfold blastEnv; rw [hd]; simp)
    rw [hd] at HD
    clear hd
    go_enter Tryd.func7, Tryd.ntmps7
    go_wp2_with fail
    refine HD.out.mono ?_
    rintro e w1 ⟨rfl, hb⟩
    have HB := Lib.hid (bthen HAL.out hb)
    have HO := Lib.hid (HOL.out.up hb)
    clear hb
    go_wp2
    go_ret
    rw [HE.out]
    exact HO.out.ret HB.out
  · obtain ⟨hl4, hw4, hs8⟩ := declOk_facts hd
    have hsn : 0 ≤ dsum xs := dsum_nn fun x hx => (hw4 x hx).2.1
    have HBT := Lib.hid (fun z (hz : Lay.decl.Rd z A xs) => l8Bits_any A c xs _ z hz (by omega) (fun x hx => by have := (hw4 x hx).2; omega))
    obtain ⟨S, hS⟩ : ∃ S, S = dsum xs := ⟨_, rfl⟩
    rw [hd] at HD
    rw [← hS] at HBT hs8 hsn
    by_cases hl : (bs.length : Int) = S
    · have HE : Hid (blastEnv xs bs = envOf xs bs) := Lib.hid (by unfold blastEnv; rw [if_pos ⟨hd, by rw [hl, hS]⟩])
      have hbe : ((bs.length : Int) != S) = false := by simp [hl]
      have HW := Lib.hid hw4
      have HL := Lib.hid hl
      have HSS := Lib.hid hS
      clear hd hl hw4 hS
      go_enter Tryd.func7, Tryd.ntmps7
      go_wp2_with fail
      refine HD.out.mono ?_
      rintro e w1 ⟨rfl, hb⟩
      have HB := Lib.hid (bthen HAL.out hb)
      have HO := Lib.hid (HOL.out.up hb)
      clear hb
      go_wp2_with fail
      refine (HBT.out _ (h.up HB.out)).mono ?_
      rintro e w9 ⟨rfl, rfl⟩
      go_wp2
      clear hbe
      go_loopw [5, 6, 7] (fun s at9 i wr => ∃ (k : Nat) (ns : List Int) (a : Nat) (A8 : Option Addr) (c8 : Nat), k ≤ xs.length ∧ i = .int .i64 k ∧ s = .slice A8 ns.length c8 ∧ at9 = .int .i64 a ∧ a ≤ 4 * k ∧ Hid ((a : Int) = dsum (xs.take k)) ∧ ns.length ≤ k ∧ OwnI wr w.heap.size (.slice A8 ns.length c8) ns ∧ Below w.heap.size w wr ∧ Hid (envOf xs bs = ns ++ envOf (xs.drop k) (bs.drop a))) (fun _ _ i _ => xs.length - (intOf i).toNat)
      case atStart => exact ⟨0, [], 0, _, _, Nat.zero_le _, rfl, rfl, rfl, Nat.le_refl _, Lib.hid rfl, by simp, HO.out, HB.out, Lib.hid rfl⟩
      case round =>
        obtain ⟨k, ns, a, A8, c8, hk, rfl, rfl, rfl, ha, HA, hnl, hown, hb, HT⟩ := hrel
        obtain ⟨wo, hwo⟩ : ∃ wo, wo = wr := ⟨_, rfl⟩
        subst hwo
        by_cases hlt : k < xs.length
        · obtain ⟨ad, hAd, hf, c1, c2⟩ := h.at_decl hlt
          subst hAd
          have hk1 : (k : Int) < xs.length := by omega
          obtain ⟨W, hW⟩ : ∃ W : Nat, xs[k].wide = (W : Int) := ⟨xs[k].wide.toNat, by have := (HW.out _ (List.getElem_mem hlt)).2.1; omega⟩
          have hW4 : 1 ≤ W ∧ W ≤ 4 := by have := (HW.out _ (List.getElem_mem hlt)).2; omega
          obtain ⟨hW1, hW4⟩ := hW4
          have haW : a + W ≤ bs.length := by
            have h1 := dsum_take xs k hlt
            have h2 := dsum_le (ds := xs) (fun x hx => (HW.out x hx).2.1) (k + 1)
            have h3 := HA.out; have h4 := HL.out; have h5 := HSS.out
            omega
          have HA2 : Hid (((a + W : Nat) : Int) = dsum (xs.take (k + 1))) := Lib.hid (by have h1 := dsum_take xs k hlt; have := HA.out; omega)
          have HS := Lib.hid (envOf_step xs (bs.drop a) k hlt)
          rw [hW] at c2
          rw [hW, Int.toNat_natCast, List.drop_drop] at HS
          have HT2 : Hid (envOf xs bs = ns ++ (numB 0 ((bs.drop a).take W) :: envOf (xs.drop (k + 1)) (bs.drop (a + W)))) := Lib.hid (by rw [HT.out, HS.out])
          clear hW HT HS HO HOL HB
          go_wp2
          go_loopw [6, 8, 9] (fun at9 n9 j9 wr => ∃ (j : Nat) (n : Int), j ≤ W ∧ j9 = .int .i64 (j : Int) ∧ at9 = .int .i64 ((a + j : Nat) : Int) ∧ n9 = .int .i64 n ∧ 0 ≤ n ∧ n < 2 ^ j ∧ wr = wo ∧ Hid (numB 0 ((bs.drop a).take W) = numB n ((bs.drop (a + j)).take (W - j)))) (fun _ _ j9 _ => W - (intOf j9).toNat)
          case atStart => exact ⟨0, 0, Nat.zero_le _, rfl, rfl, rfl, by omega, by simp, rfl, Lib.hid rfl⟩
          case round =>
            obtain ⟨j, n, hj, rfl, rfl, rfl, n0, n1, rfl, HN⟩ := hrel
            have c2 := (hb.cell (World.block_lt_of_cell? w _ c2)).trans c2
            have hn16 : n < 16 := by
              have h9 : (2 : Int) ^ j ≤ 2 ^ 4 := by exact_mod_cast Nat.pow_le_pow_right (n := 2) (by omega) (by omega : j ≤ 4)
              omega
            by_cases hjl : j < W
            · have hji : (j : Int) < W := by omega
              have haj : a + j < bs.length := by omega
              obtain ⟨ad', hB, hf', c3⟩ := (h'.up hb).at_bool haj
              subst hB
              have haj2 : ((a + j : Nat) : Int) < bs.length := by omega
              have HST := Lib.hid (numB_step n bs (a + j) (W - (j + 1)) haj)
              rw [show W - (j + 1) + 1 = W - j by omega] at HST
              obtain ⟨q, hq⟩ : ∃ q : Int, q = if bs[a + j] = true then 1 else 0 := ⟨_, rfl⟩
              have hq01 : 0 ≤ q ∧ q ≤ 1 := by rw [hq]; split <;> omega
              obtain ⟨hq0, hq1⟩ := hq01
              have HB2 := Lib.hid (l2Bool_any bs[a + j])
              rw [← hq] at HB2 HST
              have hp : (2 : Int) ^ (j + 1) = 2 * 2 ^ j := by rw [Int.pow_succ]; omega
              have HNN : Hid (2 * n + q < 2 ^ (j + 1)) := Lib.hid (by rw [hp]; omega)
              clear hq hp n1
              go_wp2_with fail
              refine (HB2.out _).mono ?_
              rintro e w9 ⟨rfl, rfl⟩
              go_wp2
              go_roundw
              case rel => exact ⟨j + 1, 2 * n + q, by omega, by go_num, by go_num, by go_num, by omega, HNN.out, trivial, Lib.hid (by rw [HN.out, HST.out]; rfl)⟩
              case measure => simp [intOf]; omega
            · have hje : j = W := by omega
              subst hje
              obtain ⟨ps, hps⟩ : ∃ ps, ps = ns ++ [n] := ⟨_, rfl⟩
              have HPS := Lib.hid hps
              have HPL : Hid (ps.length = ns.length + 1) := Lib.hid (by rw [hps]; simp)
              have HT3 : Hid (envOf xs bs = ps ++ envOf (xs.drop (k + 1)) (bs.drop (a + j))) := Lib.hid (by rw [HT2.out, HN.out, hps]; simp [numB])
              have hsz := hb.size
              clear hps n1 HT2 HN
              go_wp2_with (at_builtin; refine wpList_append_int8 (ys := ps) (by rfl) (.tmp 47) (.tmp 49) (by rfl) (by rfl) (by rfl) hown (by omega) hsz HPS.out ?_; intro A3 c3 w3 hown3 hg3 hbk3)
              have hb3 : Below w.heap.size w w3 := hb.grown hg3 hsz (fun g e => (hown.lt g e).1)
              go_roundw
              case rel => exact ⟨k + 1, ps, a + j, A3, c3, by omega, by go_num, rfl, by go_num, by omega, HA2, by rw [HPL.out]; omega, hown3, hb3, HT3⟩
              case measure => simp [intOf]; omega
        · have hke : k = xs.length := by omega
          subst hke
          have HX : Hid (blastEnv xs bs = ns) := Lib.hid (by rw [HE.out, HT.out, List.drop_length]; simp [envOf])
          go_wp2
          go_ret
          rw [HX.out]
          exact hown.ret hb
    · have HE : Hid (blastEnv xs bs = []) := Lib.hid (by unfold blastEnv; rw [if_neg (fun h9 => hl (by rw [h9.2, hS]))])
      have hbe : ((bs.length : Int) != S) = true := bne_iff_ne.2 hl
      clear hd hl hw4 hS
      go_enter Tryd.func7, Tryd.ntmps7
      go_wp2_with fail
      refine HD.out.mono ?_
      rintro e w1 ⟨rfl, hb⟩
      have HB := Lib.hid (bthen HAL.out hb)
      have HO := Lib.hid (HOL.out.up hb)
      clear hb
      go_wp2_with fail
      refine (HBT.out _ (h.up HB.out)).mono ?_
      rintro e w9 ⟨rfl, rfl⟩
      go_wp2
      go_ret
      rw [HE.out]
      exact HO.out.ret HB.out
end Go.Proofs.YthcmflhhpgmfaaaDoor
