/- Contracts of the reference's nets. -/
import Derived.WalkKit
import Derived.WalkSpells
import Derived.WalkLawsBesides
import Derived.Lib.Hide
import Derived.BigQuiet
import Derived.Deep.QuietTactic
import Derived.Laws.OwnMore
import Derived.Deep.AppendLies
import Derived.Deep.Draws
import Derived.Maps.AppendAt
import Derived.ProofKit
import Derived.OpenShut
import Derived.ShutString
import Derived.ChangeOld
import Derived.Deep.Slices
import Derived.Test.YtjghcaghigebjaaGreatDoorChecked
import Derived.Test.YtjghcaghigebjaaGreatDoorProg
import Derived.Deep.RegionHeld3
import Derived.Handy
import Derived.StillTail
namespace Go.Proofs.YtjghcaghigebjaaGreatDoor
open Go Go.RowKit
theorem zA {α : Type _} (l : List α) (i : Nat) (a : α) : l.toArray.setIfInBounds i a = (l.set i a).toArray := List.setIfInBounds_toArray l i a
theorem zB {α : Type _} {a b : α} {l : List α} : (a :: l).set 0 b = b :: l := rfl
theorem zC {α : Type _} {a b : α} {n : Nat} {l : List α} : (a :: l).set (n + 1) b = a :: l.set n b := rfl
theorem zD {α : Type _} {x d : α} {l : List α} : (x :: l).getD 0 d = x := rfl
theorem zE {α : Type _} {x d : α} {n : Nat} {l : List α} : (x :: l).getD (n + 1) d = l.getD n d := rfl
theorem zN {a b : Nat} {P : Prop} (h : Nat.beq a b = false) (e : a = b) : P := absurd e (Nat.ne_of_beq_eq_false h)
theorem zK {α β γ : Sort _} {P : α → Prop} {R : β → γ → Prop} : ∀ (a : α) (x : β) (y : γ), P a → R x y → P a := fun _ _ _ h _ => h
theorem zS (P : Value → World → Prop) {R : World → World → Prop} (h : ∀ v y z, P v y → R y z → P v z) {i : Nat} : ∀ (vs : Nat → Value) x y, P (vs i) x → R x y → P (vs i) y := fun vs x y => h (vs i) x y
theorem zH {p : Prop} (h : p) : Hid p := h
end Go.Proofs.YtjghcaghigebjaaGreatDoor
namespace Go.Proofs.YtjghcaghigebjaaGreatDoor
open Go Go.RowKit
theorem block_of_add (a : Addr) (n : Nat) : (a.add n).block = a.block := by unfold Addr.add; split <;> rfl
theorem add_of_add (a : Addr) (i j : Nat) : (a.add i).add j = a.add (i + j) := by
 unfold Addr.add
 by_cases hi : i = 0 <;> by_cases hj : j = 0 <;> simp [hi, hj, Nat.add_assoc]
structure Lay (α : Type) where
 size : Nat
 R : World → (Nat → Prop) → α → List Value → Prop
 len : ∀ {w F x vs}, R w F x vs → vs.length = size
 keep : ∀ {w w' F x vs}, (∀ b, F b → w'.heap[b]? = w.heap[b]?) → R w F x vs → R w' F x vs
 mono : ∀ {w F G x vs}, (∀ b, F b → G b) → R w F x vs → R w G x vs
def Lay.Sl {α : Type} (L : Lay α) (w : World) (F : Nat → Prop) (A : Option Addr) (xs : List α) : Prop :=
 0 < xs.length → ∃ ad, A = some ad ∧ F ad.block ∧ ∀ k x, xs[k]? = some x → ∃ vs, L.R w F x vs ∧ ∀ j u, vs[j]? = some u → w.cell? (ad.add (k * L.size + j)) = some u
theorem Lay.Sl.nil {α : Type} (L : Lay α) (w : World) (F : Nat → Prop) (A : Option Addr) : L.Sl w F A [] := fun h => absurd h (by simp)
theorem Lay.Sl.keep {α : Type} {L : Lay α} {w w' : World} {F : Nat → Prop} {A : Option Addr} {xs : List α} (h : L.Sl w F A xs) (hk : ∀ b, F b → w'.heap[b]? = w.heap[b]?) : L.Sl w' F A xs := fun hn => by
 obtain ⟨ad, e, hf, hc⟩ := h hn
 refine ⟨ad, e, hf, fun k x hx => ?_⟩
 obtain ⟨vs, hr, hcell⟩ := hc k x hx
 exact ⟨vs, L.keep hk hr, fun j u hu => (World.cell?_of_block (w := w) (by rw [block_of_add]; exact hk _ hf)).trans (hcell j u hu)⟩
theorem Lay.Sl.mono {α : Type} {L : Lay α} {w : World} {F G : Nat → Prop} {A : Option Addr} {xs : List α} (h : L.Sl w F A xs) (hk : ∀ b, F b → G b) : L.Sl w G A xs := fun hn => by
 obtain ⟨ad, e, hf, hc⟩ := h hn
 refine ⟨ad, e, hk _ hf, fun k x hx => ?_⟩
 obtain ⟨vs, hr, hcell⟩ := hc k x hx
 exact ⟨vs, L.mono hk hr, hcell⟩
theorem Lay.Sl.take {α : Type} {L : Lay α} {w : World} {F : Nat → Prop} {A : Option Addr} {xs : List α} (h : L.Sl w F A xs) (n : Nat) : L.Sl w F A (xs.take n) := fun hn => by
 obtain ⟨ad, e, hf, hc⟩ := h (by simp at hn; omega)
 refine ⟨ad, e, hf, fun k x hx => hc k x ?_⟩
 rw [List.getElem?_take] at hx
 split at hx
 · exact hx
 · cases hx
def Lay.slice {α : Type} (L : Lay α) : Lay (List α) where
 size := 1
 R w F xs vs := ∃ A c, vs = [.slice A xs.length c] ∧ xs.length ≤ c ∧ L.Sl w F A xs
 len := by rintro w F x vs ⟨A, c, rfl, _⟩; rfl
 keep := by rintro w w' F x vs hk ⟨A, c, rfl, hl, h⟩; exact ⟨A, c, rfl, hl, h.keep hk⟩
 mono := by rintro w F G x vs hk ⟨A, c, rfl, hl, h⟩; exact ⟨A, c, rfl, hl, h.mono hk⟩
def Lay.flat {α : Type} (n : Nat) (cells : α → List Value) (h : ∀ x, (cells x).length = n) : Lay α where
 size := n
 R _ _ x vs := vs = cells x
 len := by rintro w F x vs rfl; exact h x
 keep := by rintro w w' F x vs _ h; exact h
 mono := by rintro w F G x vs _ h; exact h
def Lay.int : Lay Int := Lay.flat 1 (fun x => [.int .i64 x]) (fun _ => rfl)
def Lay.bool : Lay Bool := Lay.flat 1 (fun x => [.bool x]) (fun _ => rfl)
def Lay.byte : Lay UInt8 := Lay.flat 1 (fun x => [.int .u8 (x.toNat : Int)]) (fun _ => rfl)
def Lay.str : Lay ByteArray := Lay.flat 1 (fun x => [.string x]) (fun _ => rfl)
theorem Lay.Sl.at_int {w : World} {F : Nat → Prop} {A : Option Addr} {xs : List Int} (h : Lay.int.Sl w F A xs) {k : Nat} (hk : k < xs.length) :
  ∃ ad, A = some ad ∧ F ad.block ∧ w.cell? (ad.add k) = some (.int .i64 xs[k]) := by
 obtain ⟨ad, e, hf, hc⟩ := h (by omega)
 obtain ⟨vs, rfl, hcell⟩ := hc k xs[k] (List.getElem?_eq_getElem hk)
 exact ⟨ad, e, hf, by simpa [Lay.int, Lay.flat] using hcell 0 _ rfl⟩
theorem Lay.Sl.at_byte {w : World} {F : Nat → Prop} {A : Option Addr} {xs : List UInt8} (h : Lay.byte.Sl w F A xs) {k : Nat} (hk : k < xs.length) :
  ∃ ad, A = some ad ∧ F ad.block ∧ w.cell? (ad.add k) = some (.int .u8 (xs[k].toNat : Int)) := by
 obtain ⟨ad, e, hf, hc⟩ := h (by omega)
 obtain ⟨vs, rfl, hcell⟩ := hc k xs[k] (List.getElem?_eq_getElem hk)
 exact ⟨ad, e, hf, by simpa [Lay.byte, Lay.flat] using hcell 0 _ rfl⟩
theorem Lay.Sl.at_slice {α : Type} {L : Lay α} {w : World} {F : Nat → Prop} {A : Option Addr} {xs : List (List α)} (h : L.slice.Sl w F A xs) {k : Nat} (hk : k < xs.length) :
  ∃ ad A' c', A = some ad ∧ F ad.block ∧ w.cell? (ad.add k) = some (.slice A' xs[k].length c') ∧ xs[k].length ≤ c' ∧ L.Sl w F A' xs[k] := by
 obtain ⟨ad, e, hf, hc⟩ := h (by omega)
 obtain ⟨vs, ⟨A', c', rfl, hl, hs⟩, hcell⟩ := hc k xs[k] (List.getElem?_eq_getElem hk)
 exact ⟨ad, A', c', e, hf, by simpa [Lay.slice] using hcell 0 _ rfl, hl, hs⟩
theorem Lay.Sl.of_own {α : Type} {L : Lay α} {w : World} {F : Nat → Prop} {base : Nat} {e : TypeId} {A : Option Addr} {n c : Nat} {cs : List Value} {xs : List α}
  (h : w.ownsRow base e L.size (.slice A n c) n cs) (hn : n = xs.length) (hF : ∀ g, base ≤ g → g < w.heap.size → F g)
  (hx : ∀ k x, xs[k]? = some x → ∃ vs, L.R w F x vs ∧ ∀ j u, vs[j]? = some u → cs[k * L.size + j]? = some u) : L.Sl w F A xs := by
 intro h0
 obtain ⟨g, cap, hv, hg, hlt⟩ := h.form (by omega)
 have hA : A = some ⟨g, 0, none⟩ := by injection hv
 subst hA
 refine ⟨_, rfl, hF _ hg hlt, fun k x hk => ?_⟩
 obtain ⟨vs, hr, hcs⟩ := hx k x hk
 exact ⟨vs, hr, fun j u hu => h.cells (g := g) rfl _ _ (hcs j u hu)⟩
theorem bcell {W w1 : World} {B : Nat} (hb : Below B W w1) : (∀ b o, b < B → w1.cell? ⟨b, o, none⟩ = W.cell? ⟨b, o, none⟩) ∧ (∀ b o, b < B → w1.frozen? ⟨b, o, none⟩ = W.frozen? ⟨b, o, none⟩) :=
 ⟨fun b o h => hb.cell (p := ⟨b, o, none⟩) h, fun b o h => hb.frozen (p := ⟨b, o, none⟩) h⟩
theorem Lay.Sl.below {α : Type} {L : Lay α} {w w' : World} {B : Nat} {F : Nat → Prop} {A : Option Addr} {xs : List α} (h : L.Sl w F A xs) (hb : Below B w w') (hF : ∀ b, F b → b < B) : L.Sl w' F A xs :=
 h.keep fun b hf => hb.block b (hF b hf)
abbrev Lay.Rd {α : Type} (L : Lay α) (w : World) (A : Option Addr) (xs : List α) : Prop := L.Sl w (fun b => b < w.heap.size) A xs
theorem Lay.Sl.up {α : Type} {L : Lay α} {w w' : World} {A : Option Addr} {xs : List α} (h : L.Rd w A xs) (hb : Below w.heap.size w w') : L.Rd w' A xs :=
 (h.below hb (fun _ h => h)).mono fun b hlt => Nat.lt_of_lt_of_le hlt hb.size
theorem Lay.Sl.rd {α : Type} {L : Lay α} {w : World} {lo : Nat} {A : Option Addr} {xs : List α} (h : L.Sl w (fun b => lo ≤ b ∧ b < w.heap.size) A xs) : L.Rd w A xs := h.mono fun _ h => h.2
theorem z01 {B : Nat} {a w : World} (h : Below B a w) (n : Nat) : Below B a (w.drewN n) := ⟨h.os, h.tape, h.output, h.size, h.block⟩
theorem bthen {a w w' : World} (h : Below a.heap.size a w) (h' : Below w.heap.size w w') : Below a.heap.size a w' := h.trans (h'.mono h.size)
theorem own_kept_lt {w w' : World} {base r : Nat} {e : TypeId} {size n : Nat} {v : Value} {xs : List Value} (h : w.ownsRow base e size v n xs) (hg : w.grownBy w' (some r)) (hr : r < base) : w'.ownsRow base e size v n xs :=
 h.kept hg (by
  rcases hv : v.ownBlock with _ | g
  · exact .inl rfl
  ·
   refine .inr (fun e => ?_)
   have := (h.lt g hv).1
   injection e with e; omega)
theorem z07 {w w' : World} {base B : Nat} {e : TypeId} {size n : Nat} {v : Value} {xs : List Value} (h : w.ownsRow base e size v n xs) (hb : Below B w w') (hB : w.heap.size ≤ B) : w'.ownsRow base e size v n xs :=
 h.kept (row := none) ⟨hb.os, hb.tape, hb.output, hb.size, fun k hk _ => hb.block k (Nat.lt_of_lt_of_le hk hB)⟩ (by
  rcases v.ownBlock with _ | g
  · exact .inl rfl
  · exact .inr (by simp))
theorem wpList_append1 {P : Program} {W : World} {ops : Array Oper} {rest : List Oper} {o : Oper} {a : Act} {Q : Exit → Act → World → Prop} (hgd : o.guard = none) (s x : Operand) (t : TypeId)
  (ho : o.op = .call { callee := .builtin .append, args := #[s, x], argTypes := #[t, t] })
  (base : Nat) (e : TypeId) (i : TypeInfo) (z : Value) (bytes : Nat) (ht : P.underlying t = some (.slice e)) (hi : P.info? e = some i) (hz : i.zero = some z)
  (hsize : i.size = 1) (hby : i.bytes = bytes) (hzs : z.cells.size = 1)
  (v : Value) (n : Nat) (xs : List Value) (u : Value) (e' : TypeId) (hs : a.eval s = v) (hown : W.ownsRow base e 1 v n xs)
  (hx : a.eval x = .slice (some ⟨W.heap.size, 0, none⟩) 1 1) (h1 : u.oneCell' = true)
  (h63 : n + 1 ≤ maxLen) (hbytes : (n + 1) * bytes ≤ 140737488355328) (hbase : base ≤ W.heap.size)
  (h : ∀ v' w', w'.ownsRow base e 1 v' (n + 1) (xs ++ [u]) → Below base W w' → wpList P ops Q rest (a.put o.dst v') w') : wpList P ops Q (o :: rest) a (W.alloc (.cells #[u] e')) := by
 refine wpList_append_own _ hgd s x t ho base e i z 1 bytes ht hi hz hsize hby hzs (by decide) v n xs hs (hown.alloc _) ⟨W.heap.size, 0, none⟩ 1 1 [u] hx rfl
  (cell_one_new _ _ _) (by simpa using h1) h63 hbytes (by simp; omega) ?_
 intro v' w' hown' hg _
 exact h v' w' hown' (((Below.refl _ _).alloc hbase _).grown hg (by simp; omega) (fun k hk => (hown.lt k hk).1))
theorem ret_int {k : IntKind} {a b : Int} (h : a = b) : Ending.returned (.int k a) = .returned (.int k b) := by rw [h]
theorem z16 {a b : Bool} (h : a = b) : Ending.returned (.bool a) = .returned (.bool b) := by rw [h]
def RetB (w : World) (b : Bool) (e : Ending) (w' : World) : Prop := e = .returned (.bool b) ∧ Below w.heap.size w w'
def i64s (xs : List Int) : Prop := ∀ l ∈ xs, -9223372036854775808 ≤ l ∧ l ≤ 9223372036854775807
def LawC (w : World) (e : Ending) (w' : World) : Prop := e = .returned (.bool true) ∧ Below w.heap.size w w'
structure Later (w : World) where
 W : World
 le : Below w.heap.size w W
instance (w : World) : Nonempty (Later w) := ⟨⟨w, Below.refl _ _⟩⟩
theorem Later.cell {w : World} {a : Addr} {v : Value} (h : w.cell? a = some v) (x : Later w) : x.W.cell? a = some v :=
 (x.le.cell (World.block_lt_of_cell? w a h)).trans h
theorem Later.frozen {w : World} {a : Addr} {v : Value} {b : Bool} (h : w.cell? a = some v) (hf : w.frozen? a = b) (x : Later w) : x.W.frozen? a = b :=
 (x.le.frozen (World.block_lt_of_cell? w a h)).trans hf
theorem wp_region_later {P : Program} {id : Nat} {Q : Exit → Act → World → Prop} {a : Act} {w : World} {l : List Oper} (hm : P.follows .mixedOrders = true) (hB : Region.lexB .any l.toArray = true)
  (h : wpQuiet P l.toArray (fun w' => ∃ x : Later w, w' = x.W) (fun a' => ∀ w', (∃ x : Later w, w' = x.W) → Q .normal a' w') l a) : (Code.region id l.toArray true).wp P Q a w :=
 wp_region_quiet (C := fun w' => ∃ x : Later w, w' = x.W) hm hB ⟨⟨w.drewN 1, z01 (Below.refl _ _) 1⟩, rfl⟩ (by simpa using h)
theorem later_of_below {P : Program} {f : FuncId} {args : Array Value} {w : World} {x : Later w} {v : Value}
  (h : Calls P f args x.W fun e w' => e = .returned v ∧ Below x.W.heap.size x.W w') : Calls P f args x.W fun e w'' => e = .returned v ∧ ∃ y : Later w, w'' = y.W :=
 h.mono fun _ _ ⟨he, hb⟩ => ⟨he, ⟨_, bthen x.le hb⟩, rfl⟩
theorem later_of_same {P : Program} {f : FuncId} {args : Array Value} {w : World} {x : Later w} {v : Value}
  (h : Calls P f args x.W fun e w' => e = .returned v ∧ x.W = w') : Calls P f args x.W fun e w'' => e = .returned v ∧ ∃ y : Later w, w'' = y.W :=
 h.mono fun _ _ ⟨he, hb⟩ => ⟨he, x, hb.symm⟩
theorem Lay.Sl.far {α : Type} {L : Lay α} {w : World} {F : Nat → Prop} {A : Option Addr} {xs : List α} (h : L.Sl w F A xs) (p : Addr) (u : Value) (hF : ∀ b, F b → b ≠ p.block) : L.Sl (w.setCell p u) F A xs :=
 h.keep fun b hb => Below.heap_setCell w p u b (hF b hb)
theorem own_mono {w : World} {base base' : Nat} {e : TypeId} {size n : Nat} {v : Value} {xs : List Value} (h : w.ownsRow base e size v n xs) (hb : base' ≤ base) : w.ownsRow base' e size v n xs := by
 refine ⟨h.1, ?_⟩
 rcases h.2 with h2 | ⟨g, cap, cur, h1, h2, h3⟩
 · exact .inl h2
 · exact .inr ⟨g, cap, cur, h1, Nat.le_trans hb h2, h3⟩
theorem own_far {w : World} {base : Nat} {e : TypeId} {size n : Nat} {v : Value} {xs : List Value} (h : w.ownsRow base e size v n xs) (p : Addr) (u : Value) (hp : p.block < base) : (w.setCell p u).ownsRow base e size v n xs :=
 ownsRow_setCell_below h hp u
theorem z02 {a w : World} {g : Nat} (h : a.grownBy w (some g)) (o : Nat) (u : Value) : a.grownBy (w.setCell ⟨g, o, none⟩ u) (some g) :=
 ⟨h.os, h.tape, h.output, by simpa [World.setCell] using h.size, fun i hi hne => (Below.heap_setCell w ⟨g, o, none⟩ u i (fun e => hne (by rw [e]))).trans (h.block i hi hne)⟩
theorem Lay.Sl.drewN {α : Type} {L : Lay α} {w : World} {F : Nat → Prop} {A : Option Addr} {xs : List α} (h : L.Sl w F A xs) (n : Nat) : L.Sl (w.drewN n) F A xs := h.keep fun _ _ => rfl
theorem quiet_left {P : Program} {f : FuncId} {args : Array Value} {w : World} {n : Nat} {v : Value}
  (h : Calls P f args (w.drewN n) fun e w' => e = .returned v ∧ w.drewN n = w') : Calls P f args (w.drewN n) fun e w'' => e = .returned v ∧ ∃ m, w'' = w.drewN m :=
 h.mono fun _ _ ⟨he, hm⟩ => ⟨he, n, hm.symm⟩
inductive Kin : Value → Value → Prop
 | same (v : Value) : Kin v v
 | int (a b : Int) : Kin (.int .i64 a) (.int .i64 b)
 | bool (a b : Bool) : Kin (.bool a) (.bool b)
 | str (a b : ByteArray) : Kin (.string a) (.string b)
theorem Kin.trans {a b c : Value} (h : Kin a b) (h' : Kin b c) : Kin a c := by
 cases h <;> cases h' <;> constructor
theorem Kin.ofInt {a : Int} {v : Value} (h : Kin (.int .i64 a) v) : ∃ b, v = .int .i64 b := by
 cases h
 · exact ⟨a, rfl⟩
 · exact ⟨_, rfl⟩
structure Dab (F : Nat → Prop) (w w' : World) : Prop where
 os : w'.os = w.os
 tape : w'.tape = w.tape
 output : w'.output = w.output
 size : w.heap.size ≤ w'.heap.size
 block : ∀ b, b < w.heap.size → ¬ F b → w'.heap[b]? = w.heap[b]?
 kin : ∀ a v, w.cell? a = some v → ∃ v', w'.cell? a = some v' ∧ Kin v v'
 frz : ∀ a : Addr, a.block < w.heap.size → w'.frozen? a = w.frozen? a
theorem Dab.refl (F : Nat → Prop) (w : World) : Dab F w w := ⟨rfl, rfl, rfl, Nat.le_refl _, fun _ _ _ => rfl, fun _ v h => ⟨v, h, .same v⟩, fun _ _ => rfl⟩
theorem Dab.trans {F : Nat → Prop} {a b c : World} (h : Dab F a b) (k : Dab F b c) : Dab F a c := by
 refine ⟨k.os.trans h.os, k.tape.trans h.tape, k.output.trans h.output, Nat.le_trans h.size k.size, fun i hi hn => (k.block i (Nat.lt_of_lt_of_le hi h.size) hn).trans (h.block i hi hn), fun p v hv => ?_, fun p hp => (k.frz p (Nat.lt_of_lt_of_le hp h.size)).trans (h.frz p hp)⟩
 obtain ⟨v1, h1, k1⟩ := h.kin p v hv
 obtain ⟨v2, h2, k2⟩ := k.kin p v1 h1
 exact ⟨v2, h2, k1.trans k2⟩
theorem Dab.mono {F G : Nat → Prop} {w w' : World} (h : Dab F w w') (hFG : ∀ b, F b → G b) : Dab G w w' := ⟨h.os, h.tape, h.output, h.size, fun b hb hn => h.block b hb (fun hf => hn (hFG b hf)), h.kin, h.frz⟩
theorem Dab.of {F : Nat → Prop} {w w' : World} (h : Below w.heap.size w w') : Dab F w w' := by
 have hlt : ∀ p v, w.cell? p = some v → p.block < w.heap.size := fun p v hv => World.block_lt_of_cell? w p hv
 exact ⟨h.os, h.tape, h.output, h.size, fun b hb _ => h.block b hb, fun p v hv => ⟨v, (World.cell?_of_block (h.block _ (hlt p v hv))).trans hv, .same v⟩, fun p hp => World.frozen?_of_block (h.block _ hp)⟩
theorem Dab.set {F : Nat → Prop} {w : World} {p : Addr} {u z : Value} (hF : F p.block) (hz : w.cell? p = some z) (hk : Kin z u) : Dab F w (w.setCell p u) := by
 refine ⟨rfl, rfl, rfl, by simp [World.setCell], fun b _ hn => Below.heap_setCell w p _ b (fun e => hn (e ▸ hF)), fun a v hv => ?_, fun a _ => World.frozen?_setCell _ _ _ _⟩
 by_cases e : p = a
 ·
  subst e
  rw [hz] at hv
  injection hv with hv
  subst hv
  exact ⟨u, World.cell?_setCell_same _ _ _ hz, hk⟩
 · exact ⟨v, (World.cell?_setCell_other _ _ _ _ e).trans hv, .same v⟩
theorem Dab.then {F : Nat → Prop} {a b c : World} (h : Below a.heap.size a b) (k : Dab F b c) : Dab F a c := (Dab.of h).trans k
theorem Dab.below {F : Nat → Prop} {w w' : World} {B : Nat} (h : Dab F w w') (hB : B ≤ w.heap.size) (hF : ∀ b, F b → B ≤ b) : Below B w w' :=
 ⟨h.os, h.tape, h.output, h.size, fun b hb => h.block b (Nat.lt_of_lt_of_le hb hB) (fun hf => absurd (hF b hf) (by omega))⟩
def IntsAt (w : World) (F : Nat → Prop) (A : Option Addr) (n : Nat) : Prop :=
 0 < n → ∃ ad, A = some ad ∧ F ad.block ∧ ∀ k, k < n → (∃ z, w.cell? (ad.add k) = some (.int .i64 z)) ∧ w.frozen? (ad.add k) = false
theorem IntsAt.mono {w : World} {F G : Nat → Prop} {A : Option Addr} {n : Nat} (h : IntsAt w F A n) (hFG : ∀ b, F b → G b) : IntsAt w G A n := fun hn => by
 obtain ⟨ad, e, hf, hc⟩ := h hn
 exact ⟨ad, e, hFG _ hf, hc⟩
theorem IntsAt.of {w : World} {F G : Nat → Prop} {A : Option Addr} {xs : List Int} (h : Lay.int.Sl w F A xs) (hF : ∀ b, F b → G b ∧ ∀ o, w.frozen? ⟨b, o, none⟩ = false) : IntsAt w G A xs.length := fun hn => by
 obtain ⟨ad, e, hf, hc⟩ := h hn
 refine ⟨ad, e, (hF _ hf).1, fun k hk => ?_⟩
 obtain ⟨vs, rfl, hcell⟩ := hc k xs[k] (List.getElem?_eq_getElem hk)
 refine ⟨⟨xs[k], by simpa [Lay.int, Lay.flat] using hcell 0 _ rfl⟩, ?_⟩
 have := (hF _ hf).2 (ad.add k).off
 rw [← this]
 unfold World.frozen?
 rw [block_of_add]
def RowsAt (w : World) (F : Nat → Prop) (A : Option Addr) (ns : List Nat) : Prop :=
 0 < ns.length → ∃ ad, A = some ad ∧ ∀ k (h : k < ns.length), ∃ A' c', w.cell? (ad.add k) = some (.slice A' ns[k] c') ∧ IntsAt w F A' ns[k]
theorem RowsAt.of {w : World} {F G : Nat → Prop} {A : Option Addr} {xs : List (List Int)} (h : Lay.int.slice.Sl w F A xs) (hF : ∀ b, F b → G b ∧ ∀ o, w.frozen? ⟨b, o, none⟩ = false) : RowsAt w G A (xs.map List.length) := fun hn => by
 obtain ⟨ad, e, _, _⟩ := h (by simpa using hn)
 refine ⟨ad, e, fun k hk => ?_⟩
 obtain ⟨ad2, A', c', e2, _, hc, _, hs⟩ := h.at_slice (k := k) (by simpa using hk)
 rw [e] at e2
 injection e2 with e2
 subst e2
 rw [List.getElem_map]
 exact ⟨A', c', hc, IntsAt.of hs hF⟩
end Go.Proofs.YtjghcaghigebjaaGreatDoor
namespace Go.Proofs.YtjghcaghigebjaaGreatDoor
open Go Go.RowKit Go.ChangeShapes Go.WideShapes Go.Deep
def Opens {α : Type} (P : Program) (t : TypeId) (L : Lay α) (ok : α → Prop) : Prop :=
 ∀ (H : Type) (enc : TypeId × Value → H) (w : World) (base : Nat) (spare : Nat → Bool) (held : Bool) (fuel : Nat) (cs : List Value) (x : DataW H × List MemPlace),
  DataW.trod enc P w base spare held fuel t cs = some x → ∃ a, ok a ∧ L.R w (fun b => b < w.heap.size) a cs
def okInt (n : Int) : Prop := -9223372036854775808 ≤ n ∧ n ≤ 9223372036854775807
theorem Opens.int {P : Program} {t : TypeId} (ht : P.underlying t = some (.int .i64)) : Opens P t Lay.int okInt := by
 intro H enc w base spare held fuel cs x h
 obtain ⟨n, rfl, _, hwf⟩ := DataW.trod_int ht h
 refine ⟨n, ?_, rfl⟩
 have := bounds_i64 hwf
 unfold okInt; omega
theorem Opens.bool {P : Program} {t : TypeId} (ht : P.underlying t = some .bool) : Opens P t Lay.bool (fun _ => True) := by
 intro H enc w base spare held fuel cs x h
 obtain ⟨n, rfl, _⟩ := DataW.trod_bool ht h
 exact ⟨n, trivial, rfl⟩
theorem Opens.str {P : Program} {t : TypeId} (ht : P.underlying t = some .string) : Opens P t Lay.str (fun s => s.size ≤ maxLen) := by
 intro H enc w base spare held fuel cs x h
 obtain ⟨s, rfl, _, hs⟩ := DataW.trod_string ht h
 exact ⟨s, hs, rfl⟩
theorem Opens.byte {P : Program} {t : TypeId} (ht : P.underlying t = some (.int .u8)) : Opens P t Lay.byte (fun _ => True) := by
 intro H enc w base spare held fuel cs x h
 obtain ⟨n, rfl, _, hwf⟩ := DataW.trod_int ht h
 have := bounds_u8 hwf
 refine ⟨UInt8.ofNat n.toNat, trivial, ?_⟩
 have : ((UInt8.ofNat n.toNat).toNat : Int) = n := by
  rw [UInt8.toNat_ofNat']; omega
 show [Value.int .u8 n] = [Value.int .u8 _]
 rw [this]
theorem list_of_forall {α : Type} (n : Nat) (p : Nat → α → Prop) (h : ∀ i, i < n → ∃ a, p i a) : ∃ xs : List α, xs.length = n ∧ ∀ i x, xs[i]? = some x → p i x := by
 induction n with
 | zero => exact ⟨[], rfl, by simp⟩
 | succ n ih =>
  obtain ⟨xs, hl, hp⟩ := ih fun i hi => h i (by omega)
  obtain ⟨a, ha⟩ := h n (by omega)
  refine ⟨xs ++ [a], by simp [hl], fun i x hx => ?_⟩
  rcases Nat.lt_or_ge i n with hi | hi
  ·
   rw [List.getElem?_append_left (by omega)] at hx
   exact hp i x hx
  ·
   rw [List.getElem?_append_right (by omega), hl] at hx
   have : i = n := by
    rcases Nat.eq_or_lt_of_le hi with e | e
    · exact e.symm
    · rw [List.getElem?_eq_none (by simp; omega)] at hx; cases hx
   subst this
   simp at hx; subst hx; exact ha
theorem Opens.slice {α : Type} {P : Program} {t e : TypeId} {L : Lay α} {ok : α → Prop} (ht : P.underlying t = some (.slice e)) (hc : P.cellsOf e = L.size) (hs : 0 < L.size) (ho : Opens P e L ok) :
  Opens P t L.slice (fun xs => xs.length ≤ maxLen ∧ ∀ x ∈ xs, ok x) := by
 intro H enc w base spare held fuel cs x h
 rcases open_slice ht h with ⟨rfl, _⟩ | ⟨a, len, cap, m, n, D, Pl, rfl, _, hl, hm, hmm, _, hi⟩
 · exact ⟨[], ⟨by simp, by simp⟩, none, 0, rfl, by simp, .nil L w _ _⟩
 ·
  have hle : len ≤ m := by rw [hmm]; split <;> omega
  obtain ⟨xs, hxl, hx⟩ := list_of_forall len (fun i a' => ok a' ∧ ∃ vs, L.R w (fun b => b < w.heap.size) a' vs ∧ ∀ j u, vs[j]? = some u → w.cell? (a.add (i * L.size + j)) = some u) (by
   intro i hil
   obtain ⟨cs', hcell, htr⟩ := hi i (by omega)
   obtain ⟨a', hok, hr⟩ := ho H enc w base spare held n cs' _ htr
   refine ⟨a', hok, cs', hr, fun j u hu => ?_⟩
   obtain ⟨_, hcl, hat⟩ := World.cells?_some hcell
   have hj : j < cs'.length := by
    rcases Nat.lt_or_ge j cs'.length with hj | hj
    · exact hj
    · rw [List.getElem?_eq_none hj] at hu; cases hu
   have h1 := hat j (by omega)
   rw [hc, add_of_add] at h1
   rw [h1, hu])
  refine ⟨xs, ⟨by omega, fun x hmem => ?_⟩, some a, cap, by rw [hxl], by omega, fun h0 => ⟨a, rfl, ?_, fun k x hk => (hx k x hk).2⟩⟩
  ·
   obtain ⟨i, hi', rfl⟩ := List.getElem_of_mem hmem
   exact (hx i _ (List.getElem?_eq_getElem hi')).1
  ·
   obtain ⟨_, vs, hr, hcell⟩ := hx 0 xs[0] (List.getElem?_eq_getElem h0)
   have hvl := L.len hr
   have h1 := hcell 0 vs[0] (List.getElem?_eq_getElem (by omega))
   have := World.block_lt_of_cell? w _ h1
   rwa [block_of_add] at this
theorem Opens.field {α : Type} {P : Program} {t : TypeId} {fs : Array Field} {L : Lay α} {ok : α → Prop} {H : Type} {enc : TypeId × Value → H} {w : World} {base : Nat} {spare : Nat → Bool} {held : Bool} {fuel : Nat} {cs : List Value}
  {x : DataW H × List MemPlace} (ht : P.underlying t = some (.struct fs)) (h : DataW.trod enc P w base spare held fuel t cs = some x) (i : Nat) (f : Field) (hf : fs[i]? = some f) (ho : Opens P f.type L ok) :
  ∃ a, ok a ∧ L.R w (fun b => b < w.heap.size) a ((cs.drop f.offset).take (P.cellsOf f.type)) := by
 obtain ⟨xs, n, _, _, _, hxl, hfld⟩ := DataW.trod_struct ht h
 have h1 := hfld i f hf
 have hi : i < fs.size := (Array.getElem?_eq_some_iff.1 hf).1
 rw [List.getElem?_eq_getElem (by omega)] at h1
 exact ho H enc w base spare held n _ _ h1
theorem trod_cells {P : Program} {t : TypeId} {fs : Array Field} {H : Type} {enc : TypeId × Value → H} {w : World} {base : Nat} {spare : Nat → Bool} {held : Bool} {fuel : Nat} {cs : List Value}
  {x : DataW H × List MemPlace} (ht : P.underlying t = some (.struct fs)) (h : DataW.trod enc P w base spare held fuel t cs = some x) : cs.length = P.cellsOf t := by
 obtain ⟨xs, n, _, _, hl, _, _⟩ := DataW.trod_struct ht h
 exact hl
theorem open_arg {α : Type} {P : Program} {t e : TypeId} {L : Lay α} {ok : List α → Prop} (ht : P.underlying t = some (.slice e)) (ho : Opens P t L.slice ok) {H : Type} {enc : TypeId × Value → H} {r : Reach} {b0 : Nat} {w : World} {base : Nat}
  {spare : Nat → Bool} {held : Bool} {v : Value} {d : DataW H} {p : List MemPlace} (hv : Value.okWide P w r b0 t v) (h : DataW.Trod enc P w base spare held t v d p) :
  ∃ A c xs, v = .slice A xs.length c ∧ xs.length ≤ c ∧ ok xs ∧ L.Rd w A xs := by
 obtain ⟨A, n, c, rfl⟩ := okWide_slice ht hv
 obtain ⟨fuel, hf⟩ := h
 obtain ⟨xs, hok, A', c', hcs, hl, hr⟩ := ho H enc w base spare held fuel _ _ hf
 simp [Value.cells] at hcs
 obtain ⟨rfl, rfl, rfl⟩ := hcs
 exact ⟨A, c, xs, rfl, hl, hok, hr⟩
end Go.Proofs.YtjghcaghigebjaaGreatDoor
namespace Go.Proofs.YtjghcaghigebjaaGreatDoor
open Go Go.RowKit
inductive T where
 | mk (op a b : Int) (name : ByteArray) (kids : List T) : T
namespace T
def op : T → Int | mk o _ _ _ _ => o
def a : T → Int | mk _ a _ _ _ => a
def b : T → Int | mk _ _ b _ _ => b
def name : T → ByteArray | mk _ _ _ n _ => n
def kids : T → List T | mk _ _ _ _ k => k
end T
mutual
def T.same : T → T → Bool
 | .mk o a b n k, .mk o' a' b' n' k' => o == o' && a == a' && b == b' && n.toList == n'.toList && T.sameL k k'
def T.sameL : List T → List T → Bool
 | [], [] => true
 | x :: xs, y :: ys => T.same x y && T.sameL xs ys
 | _, _ => false
end
inductive TermR (w : World) (F : Nat → Prop) : T → List Value → Prop
 | mk (o a b : Int) (n : ByteArray) (kids : List T) (A : Option Addr) (c : Nat) (vs : Nat → List Value) (hc : kids.length ≤ c)
   (hA : 0 < kids.length → ∃ ad, A = some ad ∧ F ad.block ∧ ∀ k, k < kids.length → ∀ j u, (vs k)[j]? = some u → w.cell? (ad.add (k * 5 + j)) = some u)
   (hk : ∀ k x, kids[k]? = some x → TermR w F x (vs k)) :
   TermR w F (.mk o a b n kids) [.int .i64 o, .int .i64 a, .int .i64 b, .string n, .slice A kids.length c]
def Lay.term : Lay T where
 size := 5
 R := TermR
 len := by rintro w F x vs ⟨⟩; rfl
 keep := by
  intro w w' F x vs hk h
  induction h with
  | mk o a b n kids A c vs hc hA hk' ih =>
   refine .mk o a b n kids A c vs hc (fun h0 => ?_) ih
   obtain ⟨ad, e, hf, hcell⟩ := hA h0
   exact ⟨ad, e, hf, fun k hk'' j u hu => (World.cell?_of_block (w := w) (by rw [block_of_add]; exact hk _ hf)).trans (hcell k hk'' j u hu)⟩
 mono := by
  intro w F G x vs hk h
  induction h with
  | mk o a b n kids A c vs hc hA hk' ih =>
   refine .mk o a b n kids A c vs hc (fun h0 => ?_) ih
   obtain ⟨ad, e, hf, hcell⟩ := hA h0
   exact ⟨ad, e, hk _ hf, hcell⟩
theorem TermR.form {w : World} {F : Nat → Prop} {t : T} {vs : List Value} (h : TermR w F t vs) :
  ∃ A c, vs = [.int .i64 t.op, .int .i64 t.a, .int .i64 t.b, .string t.name, .slice A t.kids.length c] ∧ t.kids.length ≤ c ∧ Lay.term.Sl w F A t.kids := by
 cases h with
 | mk o a b n kids A c vs hc hA hk =>
  refine ⟨A, c, rfl, hc, fun h0 => ?_⟩
  obtain ⟨ad, e, hf, hcell⟩ := hA h0
  refine ⟨ad, e, hf, fun k x hx => ⟨vs k, hk k x hx, fun j u hu => ?_⟩⟩
  have hlt : k < kids.length := by
   rcases Nat.lt_or_ge k kids.length with h | h
   · exact h
   ·
    have hx' : kids[k]? = some x := hx
    rw [List.getElem?_eq_none h] at hx'; cases hx'
  exact hcell k hlt j u hu
theorem TermR.of {w : World} {F : Nat → Prop} {A : Option Addr} {c : Nat} {t : T} (hc : t.kids.length ≤ c) (h : Lay.term.Sl w F A t.kids) :
  TermR w F t [.int .i64 t.op, .int .i64 t.a, .int .i64 t.b, .string t.name, .slice A t.kids.length c] := by
 obtain ⟨o, a, b, n, kids⟩ := t
 change Lay.term.Sl w F A kids at h
 show TermR w F _ [.int .i64 o, .int .i64 a, .int .i64 b, .string n, .slice A kids.length c]
 by_cases h0 : 0 < kids.length
 ·
  obtain ⟨ad, e, hf, hk⟩ := h h0
  have hk' : ∀ k, ∃ vs, ∀ x, kids[k]? = some x → TermR w F x vs ∧ ∀ j u, vs[j]? = some u → w.cell? (ad.add (k * 5 + j)) = some u := fun k => by
   cases hx : kids[k]? with
   | none => exact ⟨[], fun x h => by cases h⟩
   | some x =>
    obtain ⟨vs, h1, h2⟩ := hk k x hx
    exact ⟨vs, fun x' h => by cases h; exact ⟨h1, h2⟩⟩
  obtain ⟨f, hf'⟩ := Classical.axiomOfChoice hk'
  exact .mk o a b n kids A c f hc (fun _ => ⟨ad, e, hf, fun k hlt => (hf' k _ (List.getElem?_eq_getElem hlt)).2⟩) (fun k x hx => (hf' k x hx).1)
 ·
  have : kids = [] := List.eq_nil_of_length_eq_zero (by omega)
  subst this
  exact .mk o a b n [] A c (fun _ => []) hc (fun h => absurd h (by simp)) (fun k x hx => by simp at hx)
structure D where
 name : ByteArray
 wide : Int
def D.same (x y : D) : Bool := x.name.toList == y.name.toList && x.wide == y.wide
structure Ly where
 ds : List D
 ts : List T
def allSame {α : Type} (f : α → α → Bool) : List α → List α → Bool
 | [], [] => true
 | x :: xs, y :: ys => f x y && allSame f xs ys
 | _, _ => false
def Ly.same (x y : Ly) : Bool := allSame D.same x.ds y.ds && allSame T.same x.ts y.ts
end Go.Proofs.YtjghcaghigebjaaGreatDoor
namespace Go.Proofs.YtjghcaghigebjaaGreatDoor
open Go Go.RowKit Go.ChangeShapes Go.WideShapes Go.Deep
def OpensF {α : Type} (P : Program) (t : TypeId) (L : Lay α) (ok : α → Prop) (N : Nat) : Prop :=
 ∀ (H : Type) (enc : TypeId × Value → H) (w : World) (base : Nat) (spare : Nat → Bool) (held : Bool) (fuel : Nat) (cs : List Value) (x : DataW H × List MemPlace),
  fuel ≤ N → DataW.trod enc P w base spare held fuel t cs = some x → ∃ a, ok a ∧ L.R w (fun b => b < w.heap.size) a cs
theorem Opens.at {α : Type} {P : Program} {t : TypeId} {L : Lay α} {ok : α → Prop} (h : Opens P t L ok) (N : Nat) : OpensF P t L ok N :=
 fun H enc w base spare held fuel cs x _ hx => h H enc w base spare held fuel cs x hx
theorem Opens.of {α : Type} {P : Program} {t : TypeId} {L : Lay α} {ok : α → Prop} (h : ∀ N, OpensF P t L ok N) : Opens P t L ok :=
 fun H enc w base spare held fuel cs x hx => h fuel H enc w base spare held fuel cs x (Nat.le_refl _) hx
theorem OpensF.mono {α : Type} {P : Program} {t : TypeId} {L : Lay α} {ok : α → Prop} {N M : Nat} (h : OpensF P t L ok N) (hM : M ≤ N) : OpensF P t L ok M :=
 fun H enc w base spare held fuel cs x hl hx => h H enc w base spare held fuel cs x (Nat.le_trans hl hM) hx
theorem OpensF.slice {α : Type} {P : Program} {t e : TypeId} {L : Lay α} {ok : α → Prop} {N : Nat} (ht : P.underlying t = some (.slice e)) (hc : P.cellsOf e = L.size) (hs : 0 < L.size) (ho : OpensF P e L ok N) :
  OpensF P t L.slice (fun xs => xs.length ≤ maxLen ∧ ∀ x ∈ xs, ok x) (N + 1) := by
 intro H enc w base spare held fuel cs x hl h
 rcases DataW.trod_slice ht h with ⟨rfl, _⟩ | ⟨a, len, cap, elems, rest, n, hfu, rfl, _, _, hlc, hcm, hel, hi, _, _⟩
 · exact ⟨[], ⟨by simp, by simp⟩, none, 0, rfl, by simp, .nil L w _ _⟩
 ·
  obtain ⟨xs, hxl, hx⟩ := list_of_forall len (fun i a' => ok a' ∧ ∃ vs, L.R w (fun b => b < w.heap.size) a' vs ∧ ∀ j u, vs[j]? = some u → w.cell? (a.add (i * L.size + j)) = some u) (by
   intro i hil
   have key := hi i hil
   rw [List.getElem?_eq_getElem (by omega)] at key
   obtain ⟨cs', hcell, htr⟩ := Option.bind_eq_some_iff.1 key
   obtain ⟨a', hok, hr⟩ := ho H enc w base spare held n cs' _ (by omega) htr
   refine ⟨a', hok, cs', hr, fun j u hu => ?_⟩
   obtain ⟨_, hcl, hat⟩ := World.cells?_some hcell
   have hj : j < cs'.length := by
    rcases Nat.lt_or_ge j cs'.length with hj | hj
    · exact hj
    · rw [List.getElem?_eq_none hj] at hu; cases hu
   have h1 := hat j (by omega)
   rw [hc, add_of_add] at h1
   rw [h1, hu])
  refine ⟨xs, ⟨by omega, fun x hmem => ?_⟩, some a, cap, by rw [hxl], by omega, fun h0 => ⟨a, rfl, ?_, fun k x hk => (hx k x hk).2⟩⟩
  ·
   obtain ⟨i, hi', rfl⟩ := List.getElem_of_mem hmem
   exact (hx i _ (List.getElem?_eq_getElem hi')).1
  ·
   obtain ⟨_, vs, hr, hcell⟩ := hx 0 xs[0] (List.getElem?_eq_getElem h0)
   have hvl := L.len hr
   have h1 := hcell 0 vs[0] (List.getElem?_eq_getElem (by omega))
   have := World.block_lt_of_cell? w _ h1
   rwa [block_of_add] at this
theorem OpensF.field {α : Type} {P : Program} {t : TypeId} {fs : Array Field} {L : Lay α} {ok : α → Prop} {H : Type} {enc : TypeId × Value → H} {w : World} {base : Nat} {spare : Nat → Bool} {held : Bool} {fuel N : Nat} {cs : List Value}
  {x : DataW H × List MemPlace} (ht : P.underlying t = some (.struct fs)) (h : DataW.trod enc P w base spare held fuel t cs = some x) (hN : fuel ≤ N + 1) (i : Nat) (ty : TypeId) (o : Nat) (nm : Nat)
  (hf : (fs[i]?).map (fun f : Field => (f.type, f.offset)) = some (ty, o)) (hn : P.cellsOf ty = nm) (ho : OpensF P ty L ok N) :
  ∃ a, ok a ∧ L.R w (fun b => b < w.heap.size) a ((cs.drop o).take nm) := by
 obtain ⟨xs, n, hfu, _, _, hxl, hfld⟩ := DataW.trod_struct ht h
 cases hfi : fs[i]? with
 | none => rw [hfi] at hf; cases hf
 | some f =>
  rw [hfi] at hf
  simp at hf
  obtain ⟨rfl, rfl⟩ := hf
  have h1 := hfld i f hfi
  have hi : i < fs.size := (Array.getElem?_eq_some_iff.1 hfi).1
  rw [List.getElem?_eq_getElem (by omega), hn] at h1
  exact ho H enc w base spare held n _ _ (by omega) h1
inductive T.All (p : T → Prop) : T → Prop
 | mk (t : T) (h : p t) (hk : ∀ k ∈ t.kids, T.All p k) : T.All p t
theorem T.All.imp {p q : T → Prop} (hpq : ∀ t, p t → q t) {t : T} (h : T.All p t) : T.All q t := by
 induction h with
 | mk t h _ ih => exact .mk t (hpq t h) ih
def okT1 (t : T) : Prop := okInt t.op ∧ okInt t.a ∧ okInt t.b ∧ t.name.size ≤ maxLen ∧ t.kids.length ≤ maxLen
abbrev okTerm (t : T) : Prop := T.All okT1 t
theorem OpensF.term {P : Program} {t sl ti ts : TypeId} {fs : Array Field} (ht : P.underlying t = some (.struct fs)) (hc : P.cellsOf t = 5) (hsl : P.underlying sl = some (.slice t)) (hsc : P.cellsOf sl = 1)
  (hti : P.underlying ti = some (.int .i64)) (htic : P.cellsOf ti = 1) (hts : P.underlying ts = some .string) (htsc : P.cellsOf ts = 1)
  (hf : fs.toList.map (fun f : Field => (f.type, f.offset)) = [(ti, 0), (ti, 1), (ti, 2), (ts, 3), (sl, 4)]) : ∀ N, OpensF P t Lay.term okTerm N ∧ OpensF P sl Lay.term.slice (fun xs => xs.length ≤ maxLen ∧ ∀ x ∈ xs, okTerm x) N := by
 have hfi : ∀ i, (fs[i]?).map (fun f : Field => (f.type, f.offset)) = [(ti, 0), (ti, 1), (ti, 2), (ts, 3), (sl, 4)][i]? := fun i => by
  rw [← hf, List.getElem?_map, Array.getElem?_toList]
 intro N
 induction N with
 | zero =>
  refine ⟨fun H enc w base spare held fuel cs x hl h => ?_, fun H enc w base spare held fuel cs x hl h => ?_⟩
  ·
   obtain ⟨_, n, hfu, _⟩ := DataW.trod_struct ht h
   omega
  ·
   rcases DataW.trod_slice hsl h with ⟨rfl, _⟩ | ⟨a, len, cap, elems, rest, n, hfu, _⟩
   · exact ⟨[], ⟨by simp, by simp⟩, none, 0, rfl, by simp, .nil _ w _ _⟩
   · omega
 | succ N ih =>
  refine ⟨fun H enc w base spare held fuel cs x hl h => ?_, OpensF.slice hsl hc (by decide) ih.1⟩
  obtain ⟨o, oko, ro⟩ := OpensF.field ht h hl 0 ti 0 1 (hfi 0) htic ((Opens.int hti).at N)
  obtain ⟨a, oka, ra⟩ := OpensF.field ht h hl 1 ti 1 1 (hfi 1) htic ((Opens.int hti).at N)
  obtain ⟨b, okb, rb⟩ := OpensF.field ht h hl 2 ti 2 1 (hfi 2) htic ((Opens.int hti).at N)
  obtain ⟨s, oks, rs⟩ := OpensF.field ht h hl 3 ts 3 1 (hfi 3) htsc ((Opens.str hts).at N)
  obtain ⟨ks, ⟨okl, okk⟩, A, c, rk, rl, rsl⟩ := OpensF.field ht h hl 4 sl 4 1 (hfi 4) hsc ih.2
  have hlen := trod_cells ht h
  rw [hc] at hlen
  match cs, hlen with
  | [x0, x1, x2, x3, x4], _ =>
   simp [Lay.int, Lay.str, Lay.flat] at ro ra rb rs rk
   subst ro ra rb rs rk
   exact ⟨.mk o a b s ks, .mk _ ⟨oko, oka, okb, oks, okl⟩ okk, TermR.of (t := .mk o a b s ks) rl rsl⟩
theorem Opens.term {P : Program} {t sl ti ts : TypeId} {fs : Array Field} (ht : P.underlying t = some (.struct fs)) (hc : P.cellsOf t = 5) (hsl : P.underlying sl = some (.slice t)) (hsc : P.cellsOf sl = 1)
  (hti : P.underlying ti = some (.int .i64)) (htic : P.cellsOf ti = 1) (hts : P.underlying ts = some .string) (htsc : P.cellsOf ts = 1)
  (hf : fs.toList.map (fun f : Field => (f.type, f.offset)) = [(ti, 0), (ti, 1), (ti, 2), (ts, 3), (sl, 4)]) : Opens P t Lay.term okTerm :=
 .of fun N => (OpensF.term ht hc hsl hsc hti htic hts htsc hf N).1
end Go.Proofs.YtjghcaghigebjaaGreatDoor
namespace Go.Proofs.YtjghcaghigebjaaGreatDoor
open Go Go.RowKit
def Own (lo : Nat) (w : World) (b : Nat) : Prop := lo ≤ b ∧ b < w.heap.size ∧ ∀ o, w.frozen? ⟨b, o, none⟩ = false
theorem Own.up {lo : Nat} {w w' : World} {b : Nat} (h : Own lo w b) (hb : Below w.heap.size w w') : Own lo w' b :=
 ⟨h.1, Nat.lt_of_lt_of_le h.2.1 hb.size, fun o => ((bcell hb).2 b o h.2.1).trans (h.2.2 o)⟩
theorem Own.set {lo : Nat} {w : World} {b : Nat} (h : Own lo w b) (p : Addr) (u : Value) : Own lo (w.setCell p u) b :=
 ⟨h.1, by simpa [World.setCell] using h.2.1, fun o => by rw [World.frozen?_setCell]; exact h.2.2 o⟩
theorem Own.mono {lo lo' : Nat} {w : World} {b : Nat} (h : Own lo w b) (hl : lo' ≤ lo) : Own lo' w b := ⟨Nat.le_trans hl h.1, h.2.1, h.2.2⟩
theorem Lay.Sl.own_up {α : Type} {L : Lay α} {w w' : World} {lo : Nat} {A : Option Addr} {xs : List α} (h : L.Sl w (Own lo w) A xs) (hb : Below w.heap.size w w') : L.Sl w' (Own lo w') A xs :=
 (h.below hb (fun _ h => h.2.1)).mono fun _ h => h.up hb
theorem Lay.Sl.own_mono {α : Type} {L : Lay α} {w : World} {lo lo' : Nat} {A : Option Addr} {xs : List α} (h : L.Sl w (Own lo w) A xs) (hl : lo' ≤ lo) : L.Sl w (Own lo' w) A xs := h.mono fun _ h => h.mono hl
theorem Own.ofRow {w : World} {base lo g n c : Nat} {e : TypeId} {size : Nat} {cs : List Value} (h : w.ownsRow base e size (.slice (some ⟨g, 0, none⟩) n c) n cs) (hl : lo ≤ g) : Own lo w g :=
 ⟨hl, (h.lt g rfl).2, fun o => h.frozenAt o⟩
def RetO {α : Type} (L : Lay α) (w : World) (xs : List α) (e : Ending) (w' : World) : Prop :=
 ∃ A c, e = .returned (.slice A xs.length c) ∧ xs.length ≤ c ∧ L.Sl w' (Own w.heap.size w') A xs ∧ Below w.heap.size w w'
def setAt : List Value → Nat → List Value → List Value
 | cs, _, [] => cs
 | cs, p, v :: vs => setAt (cs.set p v) (p + 1) vs
theorem setAt_out : ∀ (vs cs : List Value) (p i : Nat), i < p ∨ p + vs.length ≤ i → (setAt cs p vs)[i]? = cs[i]?
 | [], _, _, _, _ => rfl
 | v :: vs, cs, p, i, h => by
  simp only [setAt]
  simp only [List.length_cons] at h
  rw [setAt_out vs _ _ i (by omega), List.getElem?_set_ne (by omega)]
theorem setAt_in : ∀ (vs cs : List Value) (p j : Nat), j < vs.length → p + vs.length ≤ cs.length → (setAt cs p vs)[p + j]? = vs[j]?
 | v :: vs, cs, p, 0, _, h => by
  simp only [List.length_cons] at h
  simp only [setAt]
  rw [setAt_out vs _ _ _ (by omega), Nat.add_zero, List.getElem?_set_self (by omega)]
  rfl
 | v :: vs, cs, p, j + 1, hj, h => by
  simp only [List.length_cons] at h hj
  simp only [setAt]
  have := setAt_in vs (cs.set p v) (p + 1) j (by omega) (by simp; omega)
  rw [show p + (j + 1) = p + 1 + j by omega, this]
  rfl
def Laid {α : Type} (L : Lay α) (lo : Nat) (w : World) (k : Nat) (xs : List α) (cs : List Value) : Prop :=
 ∀ i x, i < k → xs[i]? = some x → ∃ vs, L.R w (Own lo w) x vs ∧ ∀ j u, vs[j]? = some u → cs[i * L.size + j]? = some u
theorem Laid.up {α : Type} {L : Lay α} {lo : Nat} {w w' : World} {k : Nat} {xs : List α} {cs : List Value} (h : Laid L lo w k xs cs) (hb : Below w.heap.size w w') : Laid L lo w' k xs cs := fun i x hi hx => by
 obtain ⟨vs, hr, hu⟩ := h i x hi hx
 exact ⟨vs, L.mono (fun _ h => h.up hb) (L.keep (fun b hB => hb.block b hB.2.1) hr), hu⟩
theorem Laid.set {α : Type} {L : Lay α} {lo : Nat} {w : World} {k : Nat} {xs : List α} {cs : List Value} (h : Laid L lo w k xs cs) (p : Addr) (u : Value) (hp : p.block < lo) : Laid L lo (w.setCell p u) k xs cs := fun i x hi hx => by
 obtain ⟨vs, hr, hu⟩ := h i x hi hx
 exact ⟨vs, L.mono (fun _ h => h.set p u) (L.keep (fun b hB => Below.heap_setCell w p u b (fun e => by have := hB.1; omega)) hr), hu⟩
theorem Laid.next {α : Type} {L : Lay α} {lo : Nat} {w : World} {k : Nat} {xs : List α} {cs vs : List Value} {x : α} (h : Laid L lo w k xs cs) (hx : xs[k]? = some x) (hr : L.R w (Own lo w) x vs) (hl : k * L.size + L.size ≤ cs.length) :
  Laid L lo w (k + 1) xs (setAt cs (k * L.size) vs) := fun i y hi hy => by
 have hvl := L.len hr
 rcases Nat.lt_or_ge i k with h' | h'
 ·
  obtain ⟨us, hr', hu⟩ := h i y h' hy
  have hul := L.len hr'
  refine ⟨us, hr', fun j u hj => ?_⟩
  have hjl : j < L.size := by
   rcases Nat.lt_or_ge j us.length with h | h
   · omega
   · rw [List.getElem?_eq_none h] at hj; cases hj
  have hm : (i + 1) * L.size ≤ k * L.size := Nat.mul_le_mul_right _ h'
  rw [Nat.add_mul, Nat.one_mul] at hm
  rw [setAt_out _ _ _ _ (by omega)]
  exact hu j u hj
 ·
  have : i = k := by omega
  subst this
  rw [hx] at hy; cases hy
  refine ⟨vs, hr, fun j u hj => ?_⟩
  have hjl : j < vs.length := by
   rcases Nat.lt_or_ge j vs.length with h | h
   · exact h
   · rw [List.getElem?_eq_none h] at hj; cases hj
  rw [setAt_in _ _ _ _ hjl (by omega)]
  exact hj
theorem Laid.done {α : Type} {L : Lay α} {w w' : World} {xs : List α} {cs : List Value} {e : TypeId} {n : Nat} (hn : n = xs.length) (h : Laid L (w.heap.size + 1) w' n xs cs)
  (ho : w'.ownsRow w.heap.size e L.size (.slice (some ⟨w.heap.size, 0, none⟩) n n) n cs) (hb : Below w.heap.size w w') : RetO L w xs (.returned (.slice (some ⟨w.heap.size, 0, none⟩) n n)) w' := by
 subst hn
 refine ⟨_, _, rfl, Nat.le_refl _, fun _ => ⟨_, rfl, Own.ofRow ho (Nat.le_refl _), fun k x hx => ?_⟩, hb⟩
 have hk : k < xs.length := by
  rcases Nat.lt_or_ge k xs.length with h | h
  · exact h
  · rw [List.getElem?_eq_none h] at hx; cases hx
 obtain ⟨vs, hr, hu⟩ := h k x hk hx
 exact ⟨vs, L.mono (fun _ h => h.mono (Nat.le_succ _)) hr, fun j u hj => ho.cells (g := w.heap.size) rfl _ _ (hu j u hj)⟩
def Rng (lo hi b : Nat) : Prop := lo ≤ b ∧ b < hi
def Cp (lo hi : Nat) (w : World) (b : Nat) : Prop := lo ≤ b ∧ b < hi ∧ hi ≤ w.heap.size ∧ ∀ o, w.frozen? ⟨b, o, none⟩ = false
theorem Cp.up {lo hi : Nat} {w w' : World} {b : Nat} (h : Cp lo hi w b) (hb : Below w.heap.size w w') : Cp lo hi w' b :=
 ⟨h.1, h.2.1, Nat.le_trans h.2.2.1 hb.size, fun o => (World.frozen?_of_block (a := ⟨b, o, none⟩) (hb.block b (by have := h.2.1; have := h.2.2.1; omega))).trans (h.2.2.2 o)⟩
theorem Cp.lt {lo hi : Nat} {w : World} {b : Nat} (h : Cp lo hi w b) : b < w.heap.size := Nat.lt_of_lt_of_le h.2.1 h.2.2.1
section
variable {α : Type} {L : Lay α} {w w' : World} {lo hi : Nat} {A : Option Addr} {xs : List α}
theorem Lay.Sl.own_rd (h : L.Sl w (Own lo w) A xs) : L.Rd w A xs := h.mono fun _ h => h.2.1
theorem Dab.rng (hd : Dab (Cp lo hi w) w w') : Dab (Rng lo hi) w w' := hd.mono fun _ h => ⟨h.1, h.2.1⟩
end
end Go.Proofs.YtjghcaghigebjaaGreatDoor
namespace Go.Proofs.YtjghcaghigebjaaGreatDoor
open Go Go.RowKit
structure C where
 many : Int
 list : List (List Int)
structure Good (many : Int) (put : List Int) : Prop where
 rng : ∀ l ∈ put, l ≠ 0 ∧ -many ≤ l ∧ l ≤ many
 nodup : (put.map Int.natAbs).Nodup
theorem Good.nil (many : Int) : Good many [] := ⟨by simp, by simp⟩
theorem mem_natAbs {put : List Int} {l : Int} : l.natAbs ∈ put.map Int.natAbs ↔ l ∈ put ∨ -l ∈ put := by
 rw [List.mem_map]
 constructor
 ·
  rintro ⟨x, hx, he⟩
  have : x = l ∨ x = -l := by omega
  rcases this with rfl | rfl
  · exact .inl hx
  · exact .inr hx
 ·
  rintro (h | h)
  · exact ⟨l, h, rfl⟩
  · exact ⟨-l, h, by omega⟩
theorem Good.snoc {many : Int} {put : List Int} {l : Int} (h : Good many put) (h0 : l ≠ 0) (h1 : -many ≤ l) (h2 : l ≤ many) (h3 : l ∉ put) (h4 : -l ∉ put) : Good many (put ++ [l]) := by
 refine ⟨fun x hx => ?_, ?_⟩
 ·
  rcases List.mem_append.1 hx with hx | hx
  · exact h.rng x hx
  · rw [List.mem_singleton.1 hx]; exact ⟨h0, h1, h2⟩
 ·
  rw [List.map_append]
  refine List.nodup_append.2 ⟨h.nodup, by simp, fun a ha b hb => ?_⟩
  simp only [List.map_cons, List.map_nil, List.mem_singleton] at hb
  rintro rfl
  rw [hb] at ha
  rcases mem_natAbs.1 ha with h' | h'
  · exact h3 h'
  · exact h4 h'
theorem nodup_bound : ∀ (m : Nat) (l : List Nat), l.Nodup → (∀ x ∈ l, 1 ≤ x ∧ x ≤ m) → l.length ≤ m
 | 0, l, _, h => by
  cases l with
  | nil => simp
  | cons x xs => have := h x (by simp); omega
 | m + 1, l, hn, h => by
  have h1 : (l.filter (fun x => x != m + 1)).length ≤ m := nodup_bound m _ (hn.filter _) (fun x hx => by
   have hx' := List.mem_filter.1 hx
   have := h x hx'.1
   have hne : x ≠ m + 1 := by simpa using hx'.2
   omega)
  have h2 : (l.filter (fun x => x == m + 1)).length ≤ 1 := by
   have : ∀ (l : List Nat), l.Nodup → (l.filter (fun x => x == m + 1)).length ≤ 1 := by
    intro l hn
    induction l with
    | nil => simp
    | cons x xs ih =>
     have hx := List.nodup_cons.1 hn
     by_cases e : x = m + 1
     ·
      subst e
      have : xs.filter (fun x => x == m + 1) = [] := List.filter_eq_nil_iff.2 (fun y hy => by
       simp only [beq_iff_eq]; rintro rfl; exact hx.1 hy)
      simp [this]
     ·
      have hf : (x == m + 1) = false := by simp [e]
      rw [List.filter_cons, hf]
      exact ih hx.2
   exact this l hn
  have h3 : l.length = (l.filter (fun x => x == m + 1)).length + (l.filter (fun x => x != m + 1)).length := by
   clear h hn h1 h2
   induction l with
   | nil => rfl
   | cons x xs ih =>
    by_cases e : x = m + 1
    ·
     have h1 : (x == m + 1) = true := by simp [e]
     have h2 : (x != m + 1) = false := by simp [e]
     simp only [List.filter_cons, h1, h2, List.length_cons, if_true]
     simp only [Bool.false_eq_true, if_false]
     omega
    ·
     have h1 : (x == m + 1) = false := by simp [e]
     have h2 : (x != m + 1) = true := by simp [e]
     simp only [List.filter_cons, h1, h2, List.length_cons, if_true]
     simp only [Bool.false_eq_true, if_false]
     omega
  omega
theorem Good.length {many : Int} {put : List Int} (h : Good many put) : put.length ≤ many.toNat := by
 have := nodup_bound many.toNat (put.map Int.natAbs) h.nodup (fun x hx => by
  obtain ⟨l, hl, rfl⟩ := List.mem_map.1 hx
  have := h.rng l hl
  omega)
 simpa using this
theorem Good.apart {many : Int} {put : List Int} (h : Good many put) {l : Int} (h1 : l ∈ put) (h2 : -l ∈ put) : False := by
 have h0 := (h.rng l h1).1
 have := h.nodup
 obtain ⟨i, hi, ei⟩ := List.getElem_of_mem h1
 obtain ⟨j, hj, ej⟩ := List.getElem_of_mem h2
 have hp := List.pairwise_iff_getElem.1 this
 have hne : i ≠ j := by
  rintro rfl
  rw [ei] at ej; omega
 rcases Nat.lt_or_ge i j with hlt | hge
 · exact hp i j (by simpa using hi) (by simpa using hj) hlt (by simp only [List.getElem_map, ei, ej]; omega)
 · exact hp j i (by simpa using hj) (by simpa using hi) (by omega) (by simp only [List.getElem_map, ei, ej]; omega)
def sg (put : List Int) (m : Int) : Int := if m ∈ put then 1 else if -m ∈ put then -1 else 0
def lk (put : List Int) : List Int → Int → Int → Option (Int × Int)
 | [], n, f => some (n, f)
 | l :: ls, n, f => if l ∈ put then none else if -l ∈ put then lk put ls n f else lk put ls (n + 1) l
def fd (put : List Int) : List (List Int) → Int → Int → Int → Int × Int × Int
 | [], _, u, f => (-1, u, f)
 | cl :: cls, k, u, f => match lk put cl 0 0 with
  | none => fd put cls (k + 1) u f
  | some (n, m) => if n = 0 then (k, u, f) else if n = 1 ∧ u < 0 then fd put cls (k + 1) k m else fd put cls (k + 1) u f
def un (cs : List (List Int)) : Nat → List Int → List Int × Bool
 | 0, put => (put, false)
 | n + 1, put => if 0 ≤ (fd put cs 0 (-1) 0).1 then (put, true) else if (fd put cs 0 (-1) 0).2.1 < 0 then (put, false) else un cs n (put ++ [(fd put cs 0 (-1) 0).2.2])
theorem lk_free {many : Int} {put : List Int} : ∀ {cl : List Int} {n f n' f' : Int}, (∀ l ∈ cl, l ≠ 0 ∧ -many ≤ l ∧ l ≤ many) → (0 < n → f ≠ 0 ∧ -many ≤ f ∧ f ≤ many ∧ f ∉ put ∧ -f ∉ put) → 0 ≤ n → lk put cl n f = some (n', f') → 0 < n' → f' ≠ 0 ∧ -many ≤ f' ∧ f' ≤ many ∧ f' ∉ put ∧ -f' ∉ put
 | [], n, f, n', f', _, hf, _, h, hp => by
  simp only [lk, Option.some.injEq, Prod.mk.injEq] at h
  obtain ⟨rfl, rfl⟩ := h
  exact hf hp
 | l :: ls, n, f, n', f', hc, hf, h0, h, hp => by
  have hl := hc l (by simp)
  have hls : ∀ l ∈ ls, l ≠ 0 ∧ -many ≤ l ∧ l ≤ many := fun x hx => hc x (by simp [hx])
  simp only [lk] at h
  split at h
  · cases h
  ·
   rename_i h1
   split at h
   · exact lk_free hls hf h0 h hp
   ·
    rename_i h2
    exact lk_free hls (fun _ => ⟨hl.1, hl.2.1, hl.2.2, h1, h2⟩) (by omega) h hp
theorem fd_free {many : Int} {put : List Int} : ∀ {cs : List (List Int)} {k u f : Int}, (∀ cl ∈ cs, ∀ l ∈ cl, l ≠ 0 ∧ -many ≤ l ∧ l ≤ many) → (0 ≤ u → f ≠ 0 ∧ -many ≤ f ∧ f ≤ many ∧ f ∉ put ∧ -f ∉ put) → 0 ≤ k →
  0 ≤ (fd put cs k u f).2.1 → (fd put cs k u f).2.2 ≠ 0 ∧ -many ≤ (fd put cs k u f).2.2 ∧ (fd put cs k u f).2.2 ≤ many ∧ (fd put cs k u f).2.2 ∉ put ∧ -(fd put cs k u f).2.2 ∉ put
 | [], k, u, f, _, hf, _, h => hf h
 | cl :: cls, k, u, f, hc, hf, hk, h => by
  have hcl := hc cl (by simp)
  have hcls : ∀ cl ∈ cls, ∀ l ∈ cl, l ≠ 0 ∧ -many ≤ l ∧ l ≤ many := fun x hx => hc x (by simp [hx])
  simp only [fd] at h ⊢
  cases hlk : lk put cl 0 0 with
  | none =>
   rw [hlk] at h
   exact fd_free hcls hf (by omega) h
  | some p =>
   obtain ⟨n, m⟩ := p
   rw [hlk] at h
   dsimp only at h ⊢
   split at h
   ·
    rename_i hn
    rw [if_pos hn]; exact hf h
   ·
    rename_i hn
    rw [if_neg hn]
    split at h
    ·
     rename_i h1
     rw [if_pos h1]
     exact fd_free hcls (fun _ => lk_free hcl (fun h => absurd h (by omega)) (by omega) hlk (by omega)) (by omega) h
    ·
     rename_i h1
     rw [if_neg h1]
     exact fd_free hcls hf (by omega) h
theorem Good.next {many : Int} {put : List Int} {cs : List (List Int)} (h : Good many put) (hc : ∀ cl ∈ cs, ∀ l ∈ cl, l ≠ 0 ∧ -many ≤ l ∧ l ≤ many) (hu : 0 ≤ (fd put cs 0 (-1) 0).2.1) : Good many (put ++ [(fd put cs 0 (-1) 0).2.2]) := by
 have := fd_free hc (fun h => absurd h (by omega)) (Int.le_refl 0) hu
 exact h.snoc this.1 this.2.1 this.2.2.1 this.2.2.2.1 this.2.2.2.2
theorem int_info : (Tryz.prog.info? 3).map (fun i => (i.zero, i.size, i.bytes)) = some (some (.int .i64 0), 1, 8) := by kernel_rfl
theorem sl_ints_of_own {w : World} {F : Nat → Prop} {base : Nat} {e : TypeId} {A : Option Addr} {n c : Nat} {xs : List Int} (h : w.ownsRow base e 1 (.slice A n c) n (xs.map (Value.int .i64)))
  (hF : ∀ g, base ≤ g → g < w.heap.size → F g) : Lay.int.Sl w F A xs ∧ n = xs.length ∧ n ≤ c := by
 have hn : n = xs.length := by have := h.1; simp at this; omega
 refine ⟨.of_own h hn hF fun k x hx => ⟨_, rfl, fun j u hu => ?_⟩, hn, ?_⟩
 ·
  match j, hu with
  | 0, hu => simp [Lay.int, Lay.flat, hx]; simpa using hu
 ·
  rcases h.2 with ⟨h1, h2⟩ | ⟨g, cap, cur, h1, _, _, h2, _⟩
  · omega
  · injection h1 with _ _ h3; omega
theorem sl_bools_of_own {w : World} {F : Nat → Prop} {base : Nat} {e : TypeId} {A : Option Addr} {n c : Nat} {xs : List Bool} (h : w.ownsRow base e 1 (.slice A n c) n (xs.map Value.bool))
  (hF : ∀ g, base ≤ g → g < w.heap.size → F g) : Lay.bool.Sl w F A xs ∧ n = xs.length ∧ n ≤ c := by
 have hn : n = xs.length := by have := h.1; simp at this; omega
 refine ⟨.of_own h hn hF fun k x hx => ⟨_, rfl, fun j u hu => ?_⟩, hn, ?_⟩
 ·
  match j, hu with
  | 0, hu => simp [Lay.bool, Lay.flat, hx]; simpa using hu
 ·
  rcases h.2 with ⟨h1, h2⟩ | ⟨g, cap, cur, h1, _, _, h2, _⟩
  · omega
  · injection h1 with _ _ h3; omega
theorem take_eq_step {α : Type} {xs ys : List α} {k : Nat} (h1 : k < xs.length) (h2 : k < ys.length) (h : xs.take k = ys.take k) (he : xs[k] = ys[k]) : xs.take (k + 1) = ys.take (k + 1) := by
 rw [List.take_succ_eq_append_getElem h1, List.take_succ_eq_append_getElem h2, h, he]
theorem eq_of_take {α : Type} {xs ys : List α} (hl : xs.length = ys.length) (h : xs.take xs.length = ys.take xs.length) : xs = ys := by
 rw [List.take_length, hl, List.take_length] at h; exact h
def Src (w : World) (size : Nat) (A : Option Addr) (m : Nat) (xs : List Value) : Prop :=
 xs.length = m * size ∧ (0 < m → ∃ ad, A = some ad ∧ ∀ j u, xs[j]? = some u → w.cell? (ad.add j) = some u)
section
variable {P : Program} (w : World)
theorem run_append_of_nil (base : Nat) (t ty e : TypeId) (i : TypeInfo) (size : Nat) (ht : P.underlying t = some (.slice e)) (hi : P.info? e = some i)
  (v : Value) (n : Nat) (xs : List Value) (hown : w.ownsRow base e size v n xs) (c : Nat) : (Builtin.append_ #[t, t] ty #[v, .slice none 0 c]).run P w = .ok v w := by
 rcases hown.2 with ⟨rfl, rfl⟩ | ⟨g, cap, cur, rfl, _, _, hnc, _⟩
 · simp [Builtin.append_, run_underlying ht, sizeOf, typeInfo, hi, Builtin.lenOf, Builtin.firstCells]
 · simp [Builtin.append_, run_underlying ht, sizeOf, typeInfo, hi, Builtin.lenOf, Builtin.firstCells, hnc, storeCells]
theorem run_append_src (base : Nat) (t ty e : TypeId) (i : TypeInfo) (z : Value) (size bytes : Nat) (ht : P.underlying t = some (.slice e)) (hi : P.info? e = some i) (hz : i.zero = some z)
  (hsize : i.size = size) (hby : i.bytes = bytes) (hzs : z.cells.size = size) (hsz : 0 < size)
  (v : Value) (n : Nat) (xs : List Value) (hown : w.ownsRow base e size v n xs)
  (A : Option Addr) (m c : Nat) (news : List Value) (hr : Src w size A m news) (h1 : ∀ u ∈ news, u.oneCell' = true)
  (nm : Nat) (hnm : n + m = nm) (h63 : nm ≤ maxLen) (hbytes : nm * bytes ≤ 140737488355328) (hbase : base ≤ w.heap.size) (hA : A = none → m = 0) :
  ∃ A' c' w', (Builtin.append_ #[t, t] ty #[v, .slice A m c]).run P w = .ok (.slice A' nm c') w' ∧ w'.ownsRow base e size (.slice A' nm c') nm (xs ++ news) ∧ w.grownBy w' v.ownBlock := by
 subst hnm
 suffices H : ∃ v' w', (Builtin.append_ #[t, t] ty #[v, .slice A m c]).run P w = .ok v' w' ∧ w'.ownsRow base e size v' (n + m) (xs ++ news) ∧ w.grownBy w' v.ownBlock by
  obtain ⟨v', w', h1, h2, h3⟩ := H
  rcases h2.2 with ⟨e1, e2⟩ | ⟨g, cap, cur, e1, _⟩
  · exact ⟨none, 0, w', by rw [h1, e1, e2], by rw [e1] at h2; rw [e2] at h2 ⊢; exact h2, h3⟩
  · exact ⟨_, cap, w', by rw [h1, e1], by rw [e1] at h2; exact h2, h3⟩
 rcases A with _ | ad
 ·
  have hm : m = 0 := hA rfl
  subst hm
  have hn : news = [] := List.eq_nil_of_length_eq_zero (by simpa using hr.1)
  subst hn
  exact ⟨v, w, run_append_of_nil w base t ty e i size ht hi v n xs hown c, by simpa using hown, World.grownBy.refl _ _⟩
 ·
  have hcells : ∀ j u, news[j]? = some u → w.cell? (ad.add j) = some u := by
   intro j u hu
   rcases Nat.eq_zero_or_pos m with h0 | h0
   ·
    subst h0
    have hn : news = [] := List.eq_nil_of_length_eq_zero (by simpa using hr.1)
    subst hn
    simp at hu
   ·
    obtain ⟨ad', h, hc⟩ := hr.2 h0
    injection h with h
    subst h
    exact hc j u hu
  obtain ⟨v', w', hrun, h2, h3, _, _⟩ := run_append_own_at (P := P) w base t ty e i z size bytes ht hi hz hsize hby hzs hsz v n xs hown ad m c news hr.1 hcells h1 h63 hbytes hbase
  exact ⟨v', w', hrun, h2, h3⟩
theorem wp_append_src {o : Oper} {a : Act} {K : Act → World → Prop} {Q : Exit → Act → World → Prop} (s x : Operand) (t : TypeId)
  (ho : o.op = .call { callee := .builtin .append, args := #[s, x], argTypes := #[t, t] })
  (base : Nat) (e : TypeId) (i : TypeInfo) (z : Value) (size bytes : Nat) (ht : P.underlying t = some (.slice e)) (hi : P.info? e = some i) (hz : i.zero = some z)
  (hsize : i.size = size) (hby : i.bytes = bytes) (hzs : z.cells.size = size) (hsz : 0 < size)
  (v : Value) (n : Nat) (xs : List Value) (hs : a.eval s = v) (hown : w.ownsRow base e size v n xs)
  (A : Option Addr) (m c : Nat) (news : List Value) (hx : a.eval x = .slice A m c) (hr : Src w size A m news) (h1 : ∀ u ∈ news, u.oneCell' = true)
  (nm : Nat) (hnm : n + m = nm) (h63 : nm ≤ maxLen) (hbytes : nm * bytes ≤ 140737488355328) (hbase : base ≤ w.heap.size) (hA : A = none → m = 0)
  (h : ∀ A' c' w', w'.ownsRow base e size (.slice A' nm c') nm (xs ++ news) → Below base w w' → w.grownBy w' v.ownBlock → K (a.put o.dst (.slice A' nm c')) w') : o.wp P a w K Q := by
 obtain ⟨A', c', w', hrun, h2, h3⟩ := run_append_src (P := P) w base t o.type e i z size bytes ht hi hz hsize hby hzs hsz v n xs hown A m c news hr h1 nm hnm h63 hbytes hbase hA
 unfold Oper.wp execOp
 simp only [ho, resolve, invoke, builtin, Sem.run_bind, Sem.run_pure, Result.andThen_ok, List.map_toArray, List.map_cons, List.map_nil, hs, hx, hrun]
 exact h A' c' w' h2 ((Below.refl _ _).grown h3 hbase (fun k hk => (hown.lt k hk).1)) h3
theorem wpList_append_src {ops : Array Oper} {rest : List Oper} {o : Oper} {a : Act} {Q : Exit → Act → World → Prop} (hgd : o.guard = none) (s x : Operand) (t : TypeId)
  (ho : o.op = .call { callee := .builtin .append, args := #[s, x], argTypes := #[t, t] })
  (base : Nat) (e : TypeId) (i : TypeInfo) (z : Value) (size bytes : Nat) (ht : P.underlying t = some (.slice e)) (hi : P.info? e = some i) (hz : i.zero = some z)
  (hsize : i.size = size) (hby : i.bytes = bytes) (hzs : z.cells.size = size) (hsz : 0 < size)
  (v : Value) (n : Nat) (xs : List Value) (hs : a.eval s = v) (hown : w.ownsRow base e size v n xs)
  (A : Option Addr) (m c : Nat) (news : List Value) (hx : a.eval x = .slice A m c) (hr : Src w size A m news) (h1 : ∀ u ∈ news, u.oneCell' = true)
  (nm : Nat) (hnm : n + m = nm) (h63 : nm ≤ maxLen) (hbytes : nm * bytes ≤ 140737488355328) (hbase : base ≤ w.heap.size) (hA : A = none → m = 0)
  (h : ∀ A' c' w', w'.ownsRow base e size (.slice A' nm c') nm (xs ++ news) → Below base w w' → w.grownBy w' v.ownBlock → wpList P ops Q rest (a.put o.dst (.slice A' nm c')) w') : wpList P ops Q (o :: rest) a w :=
 wpList_plain hgd fun _ hK => wp_append_src w s x t ho base e i z size bytes ht hi hz hsize hby hzs hsz v n xs hs hown A m c news hx hr h1 nm hnm h63 hbytes hbase hA fun A' c' w' h2 h3 h4 => hK _ _ (h A' c' w' h2 h3 h4)
theorem step_append_src {ops : Array Oper} {o : Oper} {a : Act} {K : Act → World → Prop} {Q : Exit → Act → World → Prop} {E : Prop} (hgd : o.guard = none) (s x : Operand) (t : TypeId)
  (ho : o.op = .call { callee := .builtin .append, args := #[s, x], argTypes := #[t, t] })
  (base : Nat) (e : TypeId) (i : TypeInfo) (z : Value) (size bytes : Nat) (ht : P.underlying t = some (.slice e)) (hi : P.info? e = some i) (hz : i.zero = some z)
  (hsize : i.size = size) (hby : i.bytes = bytes) (hzs : z.cells.size = size) (hsz : 0 < size)
  (v : Value) (n : Nat) (xs : List Value) (hs : a.eval s = v) (hown : w.ownsRow base e size v n xs)
  (A : Option Addr) (m c : Nat) (news : List Value) (hx : a.eval x = .slice A m c) (hr : Src w size A m news) (h1 : ∀ u ∈ news, u.oneCell' = true)
  (nm : Nat) (hnm : n + m = nm) (h63 : nm ≤ maxLen) (hbytes : nm * bytes ≤ 140737488355328) (hbase : base ≤ w.heap.size) (hA : A = none → m = 0)
  (h : ∀ A' c' w', w'.ownsRow base e size (.slice A' nm c') nm (xs ++ news) → Below base w w' → w.grownBy w' v.ownBlock → K (a.put o.dst (.slice A' nm c')) w') :
  if Region.wanted o (yielded ops a.tmps) = true then Oper.wp P o a w K Q else E := by
 have hw : Region.wanted o (yielded ops a.tmps) = true := by simp [Region.wanted, hgd]
 rw [if_pos hw]
 exact wp_append_src w s x t ho base e i z size bytes ht hi hz hsize hby hzs hsz v n xs hs hown A m c news hx hr h1 nm hnm h63 hbytes hbase hA h
end
theorem src_block {W : World} {B : Nat} {e : TypeId} {cs : Array Value} {fr : Nat × Nat} {size m : Nat} (hb : W.heap[B]? = some (.cells cs e fr)) (hm : cs.size = m * size) : Src W size (some ⟨B, 0, none⟩) m cs.toList :=
 ⟨by simpa using hm, fun _ => ⟨_, rfl, World.news_of_block hb⟩⟩
theorem own_lit0 {W : World} {S : Nat} {e : TypeId} {size : Nat} (hS : W.heap.size = S) : (W.alloc (.cells #[] e)).ownsRow S e size (.slice (some ⟨S, 0, none⟩) 0 0) 0 [] := by
 subst hS; exact World.ownsRow_lit W #[] 0 (Nat.le_refl _) (by unfold maxLen; omega) (by simp)
end Go.Proofs.YtjghcaghigebjaaGreatDoor
namespace Go.Proofs.YtjghcaghigebjaaGreatDoor
open Go Go.RowKit
section
variable {P : Program} {ops : Array Oper} {md : Region.Mode} {C : World → Prop}
def anyHead (P : Program) (md : Region.Mode) (ops : Array Oper) (C : World → Prop) (n : Nat) (L : Array Bool → Act → Prop) : Nat → Array Bool → Act → Prop
 | 0, listed, a => L listed a
 | f + 1, listed, a => Region.ready md ops listed ≠ [] ∧ ∀ i ∈ Region.ready md ops listed, i < n ∧ qOp P ops C i (anyHead P md ops C n L f (listed.setIfInBounds i true)) a
theorem any_of_head {n g : Nat} {L : Array Bool → Act → Prop} {Q' : Exit → Act → World → Prop} (hL : ∀ listed a w, C w → L listed a → wpAny P md ops Q' g listed a w) :
  ∀ (f : Nat) (listed : Array Bool) (a : Act) (w : World), C w → anyHead P md ops C n L f listed a → wpAny P md ops Q' (f + g) listed a w
 | 0, listed, a, w, hw, h => by rw [Nat.zero_add]; exact hL _ _ _ hw h
 | f + 1, listed, a, w, hw, h => by
  rw [show f + 1 + g = (f + g) + 1 by omega]
  exact ⟨fun h0 => absurd h0 h.1, fun i hi => wpOp_of_qOp hw (fun a' w' hw' h' => any_of_head hL f _ a' w' hw' h') (h.2 i hi).2⟩
theorem head_first {n i : Nat} {oi : Oper} {v : Value} {L : Array Bool → Act → Prop} (hi : ops[i]? = some oi) (hsel : ∀ (j : Nat) (o : Oper) cs b, ops[j]? = some o → o.op ≠ .select cs b)
  (hs : Region.sinkB md ops n = true) (hc : Region.chainB md ops n = true) (hn : n < ops.size) (hin : i < n) (hdone : ∀ listed a, L listed a → ∀ j ∈ Region.ready md ops listed, n ≤ j) :
  ∀ (f : Nat) (listed : Array Bool) (a : Act), HeadInv md ops n listed →
   (∀ j oj, ops[j]? = some oj → j ≠ i → listed.getD j true = false → (∀ e ∈ oj.after, Region.binds md e = true → e.on ≠ i) → oi.apart ops oj = true) →
   i ∈ Region.ready md ops listed → YieldsIn P ops C oi v a →
   anyHead P md ops C n L f (listed.setIfInBounds i true) (a.put oi.dst v) → anyHead P md ops C n L (f + 1) listed a := by
 intro f
 induction f with
 | zero =>
  intro listed a inv _ hr hy H
  have hun := (mem_ready.1 hr).1
  refine ⟨fun h => (by rw [h] at hr; cases hr), fun j hj => ?_⟩
  have hjn : j < n := Nat.lt_of_not_le fun h => tail_waits hs hc hn inv _ i rfl hin hun j h hj
  refine ⟨hjn, ?_⟩
  by_cases hji : j = i
  · subst hji; exact hy.qOp hi H
  ·
   have := hdone _ _ H j (ready_mono hj hji)
   omega
 | succ f ih =>
  intro listed a inv hfree hr hy H
  have hun := (mem_ready.1 hr).1
  refine ⟨fun h => (by rw [h] at hr; cases hr), fun j hj => ?_⟩
  have hjn : j < n := Nat.lt_of_not_le fun h => tail_waits hs hc hn inv _ i rfl hin hun j h hj
  refine ⟨hjn, ?_⟩
  by_cases hji : j = i
  · subst hji; exact hy.qOp hi H
  ·
   have h1 := (H.2 j (ready_mono hj hji)).2
   obtain ⟨hjun, oj, hoj, hall⟩ := mem_ready.1 hj
   have hnot : ∀ e ∈ oj.after, Region.binds md e = true → e.on ≠ i := fun e he hb heq => by
    have h1 := hall e he hb
    rw [heq, getD_both hun] at h1
    cases h1
   have h2 := qOp_put hoj (hfree j oj hoj hji hjun hnot) (fun cs b => hsel i oi cs b hi) (fun cs b => hsel j oj cs b hoj) hy h1
   refine qOp_mono (fun a' h3 => ih (listed.setIfInBounds j true) a' (inv.set hj hjn) (fun k ok hk hki hku hno => hfree k ok hk hki ?_ hno) (ready_mono hr (Ne.symm hji)) h3.1 ?_) h2
   ·
    by_cases hjk : j = k
    · subst hjk; exact hjun
    · rw [getD_set_ne true hjk] at hku; exact hku
   ·
    rw [Array.setIfInBounds_comm _ _ hji]
    exact h3.2
theorem head_lex {n g : Nat} {Lq : Act → Prop} (hsel : Region.noSelect ops = true) (hs : Region.sinkB md ops n = true) (hc : Region.chainB md ops n = true) (hn : n < ops.size) :
  ∀ (l : List Oper) (k : Nat) (listed : Array Bool) (a : Act), (∀ j, j < l.length → l[j]? = ops[k + j]?) → k + l.length = n → HeadInv md ops n listed →
  Region.lexHead md ops g l.length k listed = true → wpQuiet P ops C Lq l a →
  anyHead P md ops C n (fun listed' a' => Region.seqB md ops g n listed' = true ∧ Lq a') l.length listed a
 | [], k, listed, a, _, hk, _, hB, h => by
  have : k = n := by simpa using hk
  subst this
  exact ⟨by simpa [Region.lexHead] using hB, h⟩
 | o :: l, k, listed, a, hl, hk, inv, hB, h => by
  have h0 : ops[k]? = some o := by simpa using (hl 0 (by simp)).symm
  simp only [List.length_cons, Region.lexHead, Bool.and_eq_true] at hB
  obtain ⟨⟨hr, hf⟩, hB'⟩ := hB
  have hkn : k < n := by simp only [List.length_cons] at hk; omega
  have hr' : k ∈ Region.ready md ops listed := by simpa using hr
  obtain ⟨v, hy, hK⟩ := yieldsIn_of_qOp (P := P) (C := C) (K := wpQuiet P ops C Lq l) h0 (by unfold qOp; simp only [h0]; exact h)
  exact head_first h0 (Region.noSelect_spec hsel) hs hc hn hkn (fun listed' a' hL => seqB_ready hL.1) l.length listed a inv (Region.free_spec h0 hf) hr' hy
   (head_lex hsel hs hc hn l (k + 1) _ _ (fun j hj => by have := hl (j + 1) (by simp; omega); simpa [Nat.add_assoc, Nat.add_comm 1 j] using this) (by simp only [List.length_cons] at hk; omega) (inv.set hr' hkn) hB' hK)
theorem wp_region_quiet_tail {id : Nat} {Q : Exit → Act → World → Prop} {a : Act} {w : World} {l : List Oper} (n : Nat) (hm : P.follows .mixedOrders = true) (hB : Region.lexTailB .any l.toArray n = true)
  (hC : C { w with drawn := w.drawn + 1 }) (h : wpQuiet P l.toArray C (fun a' => ∀ w', C w' → wpList P l.toArray Q (l.drop n) a' w') (l.take n) a) : (Code.region id l.toArray true).wp P Q a w := by
 simp only [Region.lexTailB, Bool.and_eq_true, decide_eq_true_eq] at hB
 obtain ⟨⟨⟨⟨hsel, hn⟩, hs⟩, hc⟩, hlex⟩ := hB
 have hn' : n < l.length := by simpa using hn
 have htl : (l.take n).length = n := by simp; omega
 have hdl : (l.drop n).length = l.toArray.size - n := by simp
 have inv0 : HeadInv .any l.toArray n (Array.replicate l.toArray.size false) :=
  ⟨by simp, fun j oj _ hl => (by rw [getD_replicate_false] at hl; cases hl), fun t _ ht => getD_in (by simpa using ht) (getD_replicate_false _ _)⟩
 have H := head_lex (C := C) (md := .any) (g := l.toArray.size - n) hsel hs hc hn (l.take n) 0 _ a (fun j hj => by
  have hj' : j < n := by rw [htl] at hj; exact hj
  simp [hj']) (by simpa using htl) inv0 (by rw [htl]; exact hlex) h
 refine wp_region_any hm ?_
 have := any_of_head (Q' := Q) (g := l.toArray.size - n) (fun listed a' w' hw' hL => by
  have := wpAny_of_seq (md := .any) (Q' := Q) (l.drop n) n listed a' w' (fun j => by simp [List.getElem?_drop]) (by rw [hdl]; exact hL.1) (hL.2 w' hw')
  rwa [hdl] at this) _ _ _ _ hC H
 rw [htl, show n + (l.toArray.size - n) = l.toArray.size by omega] at this
 exact this
end
theorem wp_region_later_tail {P : Program} {id : Nat} {Q : Exit → Act → World → Prop} {a : Act} {w : World} {l : List Oper} (n : Nat) (hm : P.follows .mixedOrders = true) (hB : Region.lexTailB .any l.toArray n = true)
  (h : wpQuiet P l.toArray (fun w' => ∃ x : Later w, w' = x.W) (fun a' => ∀ w', (∃ x : Later w, w' = x.W) → wpList P l.toArray Q (l.drop n) a' w') (l.take n) a) : (Code.region id l.toArray true).wp P Q a w :=
 wp_region_quiet_tail (C := fun w' => ∃ x : Later w, w' = x.W) n hm hB ⟨⟨w.drewN 1, z01 (Below.refl _ _) 1⟩, rfl⟩ h
end Go.Proofs.YtjghcaghigebjaaGreatDoor
namespace Go.Proofs.YtjghcaghigebjaaGreatDoor
open Go Go.RowKit
theorem src_ints {w : World} {F : Nat → Prop} {A : Option Addr} {xs : List Int} (h : Lay.int.Sl w F A xs) : Src w 1 A xs.length (xs.map (Value.int .i64)) := by
 refine ⟨by simp, fun h0 => ?_⟩
 obtain ⟨ad, rfl, _, hc⟩ := h h0
 refine ⟨ad, rfl, fun j u hu => ?_⟩
 rw [List.getElem?_map] at hu
 cases hx : xs[j]? with
 | none => rw [hx] at hu; cases hu
 | some x =>
  rw [hx] at hu
  injection hu with hu
  subst hu
  obtain ⟨vs, rfl, hcell⟩ := hc j x hx
  have := hcell 0 _ rfl
  rw [show Lay.int.size = 1 from rfl, Nat.mul_one, Nat.add_zero] at this
  exact this
theorem ints_one (xs : List Int) : ∀ u ∈ xs.map (Value.int .i64), u.oneCell' = true := by
 intro u hu
 obtain ⟨x, _, rfl⟩ := List.mem_map.1 hu
 rfl
def OwnI (w : World) (base : Nat) (v : Value) (xs : List Int) : Prop := w.ownsRow base 3 1 v xs.length (xs.map (Value.int .i64))
theorem OwnI.up {w w' : World} {base : Nat} {v : Value} {xs : List Int} (h : OwnI w base v xs) (hb : Below w.heap.size w w') : OwnI w' base v xs := z07 h hb (Nat.le_refl _)
theorem OwnI.form {w : World} {base : Nat} {v : Value} {xs : List Int} (h : OwnI w base v xs) : ∃ A c, v = .slice A xs.length c ∧ xs.length ≤ c ∧ Lay.int.Sl w (fun b => base ≤ b ∧ b < w.heap.size) A xs := by
 have hh := h
 unfold OwnI at h
 rcases h.2 with ⟨h1, h2⟩ | ⟨g, cap, cur, h1, _, _, h3, _⟩
 ·
  subst h1
  have : xs = [] := List.eq_nil_of_length_eq_zero h2
  subst this
  exact ⟨none, 0, rfl, by simp, .nil _ _ _ _⟩
 ·
  subst h1
  exact ⟨_, cap, rfl, h3, (sl_ints_of_own hh (fun g h1 h2 => ⟨h1, h2⟩)).1⟩
theorem OwnI.rd {w : World} {base c : Nat} {A : Option Addr} {xs : List Int} (h : OwnI w base (.slice A xs.length c) xs) : Lay.int.Rd w A xs := by
 obtain ⟨A', c', e, h1, h2⟩ := h.form
 injection e with e1 e2 e3
 subst e1
 exact h2.rd
structure Fact where
 V : Value → World → Prop
 stab : ∀ v w w', V v w → Below w.heap.size w w' → V v w'
 flat : Bool
 hflat : flat = true → ∀ v w w', V v w → V v w'
def Fact.any : Fact := ⟨fun _ _ => True, fun _ _ _ _ _ => trivial, true, fun _ _ _ _ _ => trivial⟩
def Fact.eq (u : Value) : Fact := ⟨fun v _ => v = u, fun _ _ _ h _ => h, true, fun _ _ _ _ h => h⟩
def Fact.of (V : Value → World → Prop) (h : ∀ v w w', V v w → Below w.heap.size w w' → V v w') : Fact := ⟨V, h, false, fun h => by cases h⟩
def dstOf (ops : List Oper) (i : Nat) : Option Tmp := (ops[i]?).bind Oper.dst
def puts (ops : List Oper) (vals : Nat → Value) : List Nat → Act → Act
 | [], a => a
 | i :: l, a => puts ops vals l (a.put (dstOf ops i) (vals i))
def facts (L : List Fact) (vals : Nat → Value) (x : World) : List Nat → Prop
 | [] => True
 | i :: l => (L.getD i .any).V (vals i) x ∧ facts L vals x l
def got (o : Oper) (a : Act) : Value := match o.dst with | some d => a.tmps.getD d undef | none => undef
def softQ (L : List Fact) (hard wild : List Nat) (B : Nat) (k : Nat) (o : Oper) (a : Act) (x : World) : Exit → Act → World → Prop
 | .normal, a', x' => a'.defers = a.defers ∧ (L.getD k .any).V (got o a') x' ∧ (k ∈ hard ∨ Below x.heap.size x x') ∧ (k ∈ wild ∨ k ∉ hard ∨ Below B x x')
 | _, _, _ => False
def waits (ops : List Oper) (k j : Nat) : Bool := match ops[k]? with | some o => o.after.any fun e => Region.binds .any e && e.on == j | none => false
def reach (ops : List Oper) : Nat → Nat → Nat → Bool
 | 0, k, j => waits ops k j
 | n + 1, k, j => waits ops k j || (List.range ops.length).any fun m => waits ops k m && reach ops n m j
def looks (ops : List Oper) (k j : Nat) : Bool := match ops[k]?, dstOf ops j with | some o, some d => (o.op.operands.toList.filterMap fun | .tmp t => some t | _ => none).contains d | _, _ => false
def softOk (ops : List Oper) (D : List (List Nat)) (L : List Fact) (hard wild plain keep : List Nat) (size : Nat) : Bool :=
 (keep.all fun j => decide (j < ops.length)) && (List.range ops.length).all fun k =>
  (match ops[k]? with
   | some o => o.guard.isNone && (match o.op with | .select .. => false | _ => true) && (o.after.all fun e => !Region.binds .any e || decide (e.on < k)) && (match o.dst with | some d => decide (d < size) | none => true)
   | none => false) &&
  ((D.getD k []).all fun j => waits ops k j && decide (j < ops.length)) &&
  (decide ((D.getD k []).Nodup)) &&
  (List.range ops.length).all fun j =>
   (!looks ops k j || (D.getD k []).contains j) &&
   (decide (j = k) || (match dstOf ops j, dstOf ops k with | some d, some e => d != e | _, _ => true)) &&
   (decide (j = k) ||
    ((!hard.contains k || reach ops ops.length j k || (!(keep.contains j || (List.range ops.length).any fun r => (D.getD r []).contains j && r != k && !reach ops ops.length k r) || (L.getD j .any).flat)) &&
     (!wild.contains k || reach ops ops.length k j || plain.contains j)))
variable {P : Program} {Q : Exit → Act → World → Prop}
def oblig (P : Program) (ops : List Oper) (D : List (List Nat)) (L : List Fact) (hard wild plain : List Nat) (a : Act) (w : World) (k : Nat) (o : Oper) : Prop :=
 ∀ (vals : Nat → Value) (x : World), (k ∈ plain ∨ Below w.heap.size w x) → facts L vals x (D.getD k []) →
  o.wp P (puts ops vals (D.getD k []) a) x (softQ L hard wild w.heap.size k o (puts ops vals (D.getD k []) a) x .normal) (softQ L hard wild w.heap.size k o (puts ops vals (D.getD k []) a) x)
theorem facts_iff {L : List Fact} {vals : Nat → Value} {x : World} : ∀ {l : List Nat}, facts L vals x l ↔ ∀ i ∈ l, (L.getD i .any).V (vals i) x
 | [] => by simp [facts]
 | i :: l => by simp [facts, facts_iff (l := l)]
theorem put_size (a : Act) (d : Option Tmp) (v : Value) : (a.put d v).tmps.size = a.tmps.size := by cases d <;> simp [Act.put]
theorem put_defers (a : Act) (d : Option Tmp) (v : Value) : (a.put d v).defers = a.defers := by cases d <;> rfl
theorem put_get_ne (a : Act) (d : Option Tmp) (v : Value) (t : Nat) (h : d ≠ some t) : (a.put d v).tmps[t]? = a.tmps[t]? := by
 cases d with
 | none => rfl
 | some d => simp only [Act.put]; exact Array.getElem?_setIfInBounds_ne (fun e => h (congrArg some e))
theorem put_get (a : Act) (v : Value) (t : Nat) (h : t < a.tmps.size) : (a.put (some t) v).tmps[t]? = some v := by
 simp [Act.put, h]
theorem puts_size {ops : List Oper} {vals : Nat → Value} : ∀ (l : List Nat) (a : Act), (puts ops vals l a).tmps.size = a.tmps.size
 | [], _ => rfl
 | i :: l, a => by rw [puts, puts_size l, put_size]
theorem puts_defers {ops : List Oper} {vals : Nat → Value} : ∀ (l : List Nat) (a : Act), (puts ops vals l a).defers = a.defers
 | [], _ => rfl
 | i :: l, a => by rw [puts, puts_defers l, put_defers]
theorem puts_ne {ops : List Oper} {vals : Nat → Value} {t : Nat} : ∀ (l : List Nat) (a : Act), (∀ i ∈ l, dstOf ops i ≠ some t) → (puts ops vals l a).tmps[t]? = a.tmps[t]?
 | [], _, _ => rfl
 | i :: l, a, h => by rw [puts, puts_ne l _ (fun j hj => h j (by simp [hj])), put_get_ne _ _ _ _ (h i (by simp))]
theorem puts_get {ops : List Oper} {vals : Nat → Value} {t : Nat} (hd : ∀ i j, dstOf ops i = some t → dstOf ops j = some t → i = j) :
  ∀ (l : List Nat) (a : Act) (i : Nat), i ∈ l → dstOf ops i = some t → t < a.tmps.size → (puts ops vals l a).tmps[t]? = some (vals i)
 | [], _, _, h, _, _ => by cases h
 | j :: l, a, i, h, hi, ht => by
  rw [puts]
  by_cases hl : i ∈ l
  · exact puts_get hd l _ i hl hi (by rw [put_size]; exact ht)
  ·
   have hij : i = j := by simpa [hl] using h
   subst hij
   rw [puts_ne l _ (fun m hm e => hl (hd i m hi e ▸ hm)), hi, put_get _ _ _ ht]
structure SoftInv (ops : List Oper) (D : List (List Nat)) (L : List Fact) (plain keep : List Nat) (a : Act) (w : World) (listed : Array Bool) (a' : Act) (x : World) (vals : Nat → Value) : Prop where
 size : listed.size = ops.length
 closed : ∀ j k, waits ops k j = true → listed.getD k false = true → listed.getD j false = true
 tsize : a'.tmps.size = a.tmps.size
 defers : a'.defers = a.defers
 old : ∀ t, (∀ j, listed.getD j false = true → dstOf ops j ≠ some t) → a'.tmps[t]? = a.tmps[t]?
 new : ∀ j t, listed.getD j false = true → dstOf ops j = some t → a'.tmps[t]? = some (vals j)
 cond : (∃ r, r < ops.length ∧ listed.getD r false = false ∧ r ∉ plain) → Below w.heap.size w x
 fact : ∀ j, listed.getD j false = true → (j ∈ keep ∨ ∃ r, r < ops.length ∧ listed.getD r false = false ∧ j ∈ D.getD r []) → (L.getD j .any).V (vals j) x
def cnt (f : Nat → Bool) : Nat → Nat
 | 0 => 0
 | n + 1 => cnt f n + (if f n then 0 else 1)
theorem cnt_zero {f : Nat → Bool} : ∀ {n : Nat}, cnt f n = 0 → ∀ i, i < n → f i = true
 | 0, _, i, hi => absurd hi (by omega)
 | n + 1, h, i, hi => by
  simp only [cnt] at h
  rcases Nat.lt_or_ge i n with h' | h'
  · exact cnt_zero (by omega) i h'
  ·
   have : i = n := by omega
   subst this
   cases hf : f i with
   | true => rfl
   | false => simp [hf] at h
theorem cnt_set {f g : Nat → Bool} {k : Nat} (hf : f k = false) (hg : ∀ i, g i = if i = k then true else f i) : ∀ {n : Nat}, (n ≤ k → cnt g n = cnt f n) ∧ (k < n → cnt g n + 1 = cnt f n)
 | 0 => ⟨fun _ => rfl, fun h => absurd h (by omega)⟩
 | n + 1 => by
  obtain ⟨h1, h2⟩ := cnt_set hf hg (n := n)
  refine ⟨fun h => ?_, fun h => ?_⟩
  ·
   have hn : g n = f n := by rw [hg n]; exact if_neg (by omega)
   simp only [cnt]; rw [h1 (by omega), hn]
  ·
   simp only [cnt]
   rcases Nat.lt_or_ge k n with h' | h'
   ·
    have := h2 h'
    have hn : g n = f n := by rw [hg n]; exact if_neg (by omega)
    rw [hn]; omega
   ·
    have : k = n := by omega
    subst this
    have hn : g k = true := by rw [hg k]; exact if_pos rfl
    rw [h1 (Nat.le_refl _), hn, hf]; simp
theorem getD_set {listed : Array Bool} {k : Nat} (hk : k < listed.size) (i : Nat) : (listed.setIfInBounds k true).getD i false = if i = k then true else listed.getD i false := by
 by_cases h : i = k
 · subst h; simp [hk]
 · rw [if_neg h]; exact getD_set_ne false (fun e => h e.symm)
theorem waits_spec {ops : List Oper} {k j : Nat} : waits ops k j = true ↔ ∃ o, ops[k]? = some o ∧ ∃ e ∈ o.after, Region.binds .any e = true ∧ e.on = j := by
 unfold waits
 cases h : ops[k]? with
 | none => simp
 | some o =>
  simp only [Option.some.injEq, exists_eq_left']
  rw [Array.any_eq_true']
  simp only [Bool.and_eq_true, beq_iff_eq]
theorem z14 {ops : List Oper} {listed : Array Bool} (hc : ∀ j k, waits ops k j = true → listed.getD k false = true → listed.getD j false = true) :
  ∀ (n k j : Nat), (∀ m, waits ops k m = true → listed.getD m false = true) → reach ops n k j = true → listed.getD j false = true
 | 0, k, j, hk, h => hk j h
 | n + 1, k, j, hk, h => by
  simp only [reach, Bool.or_eq_true, List.any_eq_true, Bool.and_eq_true] at h
  rcases h with h | ⟨m, _, hm, hr⟩
  · exact hk j h
  · exact z14 hc n m j (fun m' hm' => hc m' m hm' (hk m hm)) hr
theorem softOk_spec {ops : List Oper} {D : List (List Nat)} {L : List Fact} {hard wild plain keep : List Nat} {size : Nat} (h : softOk ops D L hard wild plain keep size = true) (k : Nat) (o : Oper) (hk : ops[k]? = some o) :
  o.guard = none ∧ (∀ cs b, o.op ≠ .select cs b) ∧ (∀ e ∈ o.after, Region.binds .any e = true → e.on < k) ∧ (∀ d, o.dst = some d → d < size) ∧
  (∀ j ∈ D.getD k [], waits ops k j = true ∧ j < ops.length) ∧ (∀ j, j < ops.length → looks ops k j = true → j ∈ D.getD k []) ∧
  (∀ j d, j < ops.length → dstOf ops j = some d → o.dst = some d → j = k) ∧
  (∀ j, j < ops.length → j ≠ k → (k ∈ hard → reach ops ops.length j k = false → (j ∈ keep ∨ ∃ r, r < ops.length ∧ j ∈ D.getD r [] ∧ r ≠ k ∧ reach ops ops.length k r = false) → (L.getD j .any).flat = true) ∧ (k ∈ wild → reach ops ops.length k j = false → j ∈ plain)) := by
 have hlt : k < ops.length := (List.getElem?_eq_some_iff.1 hk).1
 unfold softOk at h
 rw [Bool.and_eq_true] at h
 have h := List.all_eq_true.1 h.2 k (List.mem_range.2 hlt)
 have hdk : dstOf ops k = o.dst := by simp [dstOf, hk]
 simp only [hk, Bool.and_eq_true, hdk] at h
 obtain ⟨⟨⟨⟨⟨⟨h1, h2⟩, h3⟩, h4⟩, h5⟩, _⟩, h6⟩ := h
 have h6 : ∀ j, j < ops.length → _ := fun j hj => List.all_eq_true.1 h6 j (List.mem_range.2 hj)
 refine ⟨by simpa using h1, fun cs b e => (by rw [e] at h2; cases h2), fun e he hb => ?_, fun d hd => by rw [hd] at h4; simpa using h4, fun j hj => ?_, fun j hj hl => ?_, fun j d hj hd hd' => ?_, fun j hj hne => ?_⟩
 ·
  have := (Array.all_eq_true_iff_forall_mem.1 h3) e he
  simpa [hb] using this
 ·
  have := List.all_eq_true.1 h5 j hj
  simpa using this
 ·
  have := h6 j hj
  simp only [Bool.and_eq_true, hl] at this
  simpa using this.1.1
 ·
  have := h6 j hj
  simp only [Bool.and_eq_true, hd, hd'] at this
  simpa using this.1.2
 ·
  have := h6 j hj
  simp only [Bool.and_eq_true] at this
  have this := this.2
  simp only [hne, decide_false, Bool.false_or, Bool.and_eq_true] at this
  obtain ⟨t1, t2⟩ := this
  refine ⟨fun hh hjk hr => ?_, fun hh hr => ?_⟩
  ·
   have hh' : hard.contains k = true := by simpa using hh
   simp only [hh', hjk, Bool.not_true, Bool.false_or, Bool.or_eq_true, Bool.not_eq_true'] at t1
   rcases t1 with t1 | t1
   ·
    exfalso
    rw [Bool.or_eq_false_iff] at t1
    rcases hr with hr | ⟨r, hr, hjr, hrk, hn⟩
    · have := t1.1; simp [hr] at this
    ·
     have := List.any_eq_false.1 t1.2 r (List.mem_range.2 hr)
     simp [hrk, hn] at this
     exact this hjr
   · exact t1
  ·
   have hh' : wild.contains k = true := by simpa using hh
   simp only [hh', Bool.not_true, Bool.false_or, Bool.or_eq_true, hr] at t2
   simpa using t2
theorem looks_spec {ops : List Oper} {k j : Nat} {o : Oper} {t : Tmp} (hk : ops[k]? = some o) (hj : dstOf ops j = some t) (ht : Operand.tmp t ∈ o.op.operands) : looks ops k j = true := by
 unfold looks
 rw [hk, hj]
 simp only [List.contains_iff_mem]
 exact List.mem_filterMap.2 ⟨.tmp t, by simpa using ht, rfl⟩
theorem dst_lt {ops : List Oper} {j : Nat} {t : Tmp} (h : dstOf ops j = some t) : j < ops.length := by
 unfold dstOf at h
 cases hj : ops[j]? with
 | none => rw [hj] at h; cases h
 | some o => exact (List.getElem?_eq_some_iff.1 hj).1
theorem listed_lt {ops : List Oper} {listed : Array Bool} {j : Nat} (hs : listed.size = ops.length) (h : listed.getD j false = true) : j < ops.length := by
 rcases Nat.lt_or_ge j listed.size with h' | h'
 · omega
 · simp [Array.getElem?_eq_none h'] at h
theorem soft_any {ops : List Oper} {D : List (List Nat)} {L : List Fact} {hard wild plain keep : List Nat} {a : Act} {w : World} (hB : softOk ops D L hard wild plain keep a.tmps.size = true)
  (hs : ∀ k o, ops[k]? = some o → oblig P ops D L hard wild plain a w k o)
  (hfin : ∀ vals x, facts L vals x keep → Q .normal (puts ops vals (List.range ops.length) a) x) :
  ∀ (fuel : Nat) (listed : Array Bool) (a' : Act) (x : World) (vals : Nat → Value), cnt (fun i => listed.getD i false) ops.length ≤ fuel →
   SoftInv ops D L plain keep a w listed a' x vals → wpAny P .any ops.toArray Q fuel listed a' x := by
 have hdd : ∀ i j t, dstOf ops i = some t → dstOf ops j = some t → i = j := fun i j t hi hj => by
  have hjl : j < ops.length := dst_lt hj
  have ho : ops[j]? = some ops[j] := List.getElem?_eq_getElem hjl
  exact (softOk_spec hB j _ ho).2.2.2.2.2.2.1 i t (dst_lt hi) hi (by simpa [dstOf, ho] using hj)
 have hds : ∀ j t, dstOf ops j = some t → t < a.tmps.size := fun j t hj => by
  have hjl : j < ops.length := dst_lt hj
  have ho : ops[j]? = some ops[j] := List.getElem?_eq_getElem hjl
  exact (softOk_spec hB j _ ho).2.2.2.1 t (by simpa [dstOf, ho] using hj)
 have hdone : ∀ (listed : Array Bool) (a' : Act) (x : World) (vals : Nat → Value), (∀ i, i < ops.length → listed.getD i false = true) → SoftInv ops D L plain keep a w listed a' x vals → Q .normal a' x := by
  intro listed a' x vals hall inv
  have ha : a' = puts ops vals (List.range ops.length) a := by
   have ht : a'.tmps = (puts ops vals (List.range ops.length) a).tmps := by
    apply Array.ext_getElem?
    intro t
    by_cases h : ∃ j, dstOf ops j = some t
    ·
     obtain ⟨j, hj⟩ := h
     rw [inv.new j t (hall j (dst_lt hj)) hj, puts_get (fun i j => hdd i j t) _ _ j (List.mem_range.2 (dst_lt hj)) hj (hds j t hj)]
    · rw [inv.old t (fun j _ e => h ⟨j, e⟩), puts_ne _ _ (fun i _ e => h ⟨i, e⟩)]
   have hdf : a'.defers = (puts ops vals (List.range ops.length) a).defers := by rw [puts_defers]; exact inv.defers
   cases a'
   cases hp : puts ops vals (List.range ops.length) a
   rw [hp] at ht hdf
   simp only at ht hdf
   rw [ht, hdf]
  rw [ha]
  refine hfin vals x (facts_iff.2 fun i hi => ?_)
  have hk : i < ops.length := by
   unfold softOk at hB
   rw [Bool.and_eq_true] at hB
   simpa using List.all_eq_true.1 hB.1 i hi
  exact inv.fact i (hall i hk) (.inl hi)
 have hmin : ∀ (listed : Array Bool), listed.size = ops.length → ∀ i, i < ops.length → listed.getD i false = false → Region.ready .any ops.toArray listed ≠ [] := by
  intro listed hsz i
  induction i using Nat.strongRecOn with
  | _ i ih =>
   intro hi hun hr
   have ho : ops[i]? = some ops[i] := List.getElem?_eq_getElem hi
   by_cases h : ∀ e ∈ ops[i].after, Region.binds .any e = true → listed.getD e.on false = true
   ·
    have : i ∈ Region.ready .any ops.toArray listed := mem_ready.2 ⟨getD_in (by omega) hun, ops[i], by simp [ho], h⟩
    rw [hr] at this; cases this
   ·
    simp only [Classical.not_forall] at h
    obtain ⟨e, he, hb, hl⟩ := h
    have hlt := (softOk_spec hB i _ ho).2.2.1 e he hb
    exact ih e.on hlt (by omega) (by simpa using hl) hr
 intro fuel
 induction fuel with
 | zero =>
  intro listed a' x vals hc inv
  have hall := cnt_zero (f := fun i => listed.getD i false) (Nat.le_zero.1 hc)
  refine ⟨?_, hdone _ _ _ _ hall inv⟩
  cases hr : Region.ready .any ops.toArray listed with
  | nil => rfl
  | cons k rs =>
   exfalso
   have hk : k ∈ Region.ready .any ops.toArray listed := by rw [hr]; simp
   obtain ⟨h0, o, ho, _⟩ := mem_ready.1 hk
   have hlt : k < ops.length := by
    have := (Array.getElem?_eq_some_iff.1 ho).1; simpa using this
   have h1 : listed.getD k false = true := hall k hlt
   rw [getD_both h0] at h1; cases h1
 | succ fuel ih =>
  intro listed a' x vals hc inv
  refine ⟨fun hr => ?_, fun k hk => ?_⟩
  ·
   refine hdone _ _ _ _ (fun i hi => ?_) inv
   cases h : listed.getD i false with
   | true => rfl
   | false => exact absurd hr (hmin listed inv.size i hi h)
  ·
   obtain ⟨h0, o, hoA, hwait⟩ := mem_ready.1 hk
   have ho : ops[k]? = some o := by simpa using hoA
   have hkl : k < ops.length := (List.getElem?_eq_some_iff.1 ho).1
   have h0f : listed.getD k false = false := getD_both h0
   have hsz : k < listed.size := by rw [inv.size]; exact hkl
   obtain ⟨hg, hsel, _, hdsz, hD, hlook, hdist, hhard⟩ := softOk_spec hB k o ho
   have hw : ∀ m, waits ops k m = true → listed.getD m false = true := fun m hm => by
    obtain ⟨o', ho', e, he, hb, rfl⟩ := waits_spec.1 hm
    have : o' = o := Option.some.inj (ho'.symm.trans ho)
    subst this
    exact hwait e he hb
   have hDl : ∀ j ∈ D.getD k [], listed.getD j false = true := fun j hj => hw j (hD j hj).1
   have hdk : dstOf ops k = o.dst := by simp [dstOf, ho]
   -- the operation runs as it does in the small state
   have hexec : execOp a'.eval o = execOp (puts ops vals (D.getD k []) a).eval o := execOp_congr o hsel fun y hy => by
    cases y with
    | tmp t =>
     have ht : a'.tmps[t]? = (puts ops vals (D.getD k []) a).tmps[t]? := by
      by_cases h : ∃ j, dstOf ops j = some t
      ·
       obtain ⟨j, hj⟩ := h
       have hm := hlook j (dst_lt hj) (looks_spec ho hj hy)
       rw [inv.new j t (hDl j hm) hj, puts_get (fun i j => hdd i j t) _ _ j hm hj (hds j t hj)]
      · rw [inv.old t (fun j _ e => h ⟨j, e⟩), puts_ne _ _ (fun i _ e => h ⟨i, e⟩)]
     show a'.tmps.getD t undef = (puts ops vals (D.getD k []) a).tmps.getD t undef
     rw [Array.getD_eq_getD_getElem?, Array.getD_eq_getD_getElem?, ht]
    | _ => rfl
   have hob := hs k o ho vals x
    (by
     by_cases hp : k ∈ plain
     · exact .inl hp
     · exact .inr (inv.cond ⟨k, hkl, h0f, hp⟩))
    (facts_iff.2 fun j hj => inv.fact j (hDl j hj) (.inr ⟨k, hkl, h0f, hj⟩))
   have hbs : (puts ops vals (D.getD k []) a).tmps.size = a.tmps.size := puts_size _ _
   have hbd : (puts ops vals (D.getD k []) a).defers = a.defers := puts_defers _ _
   have next : ∀ v x', softQ L hard wild w.heap.size k o (puts ops vals (D.getD k []) a) x .normal ((puts ops vals (D.getD k []) a).put o.dst v) x' →
     wpAny P .any ops.toArray Q fuel (listed.setIfInBounds k true) (a'.put o.dst v) x' := by
    intro v x' hq
    obtain ⟨_, hV, hbel, hbel2⟩ := hq
    have hgs := getD_set (listed := listed) hsz
    have hold : ∀ j, (listed.setIfInBounds k true).getD j false = true → j ≠ k → listed.getD j false = true := fun j hj hne => by
     rw [hgs, if_neg hne] at hj; exact hj
    have hun : ∀ r, (listed.setIfInBounds k true).getD r false = false → r ≠ k ∧ listed.getD r false = false := fun r hr => by
     rw [hgs] at hr
     by_cases e : r = k
     · rw [if_pos e] at hr; cases hr
     · rw [if_neg e] at hr; exact ⟨e, hr⟩
    have hnr : ∀ r, listed.getD r false = false → reach ops ops.length k r = false := fun r hr => by
     cases h : reach ops ops.length k r with
     | false => rfl
     | true => rw [z14 inv.closed _ k r hw h] at hr; cases hr
    refine ih _ _ x' (fun j => if j = k then got o ((puts ops vals (D.getD k []) a).put o.dst v) else vals j) ?_ ⟨by simp [inv.size], fun j m hm hl => ?_, by rw [put_size]; exact inv.tsize, by rw [put_defers]; exact inv.defers, fun t ht => ?_, fun j t hj hdj => ?_, fun hr => ?_, fun j hj hr => ?_⟩
    ·
     have := (cnt_set (f := fun i => listed.getD i false) (g := fun i => (listed.setIfInBounds k true).getD i false) h0f hgs (n := ops.length)).2 hkl
     omega
    ·
     rw [hgs]
     by_cases e : j = k
     · rw [if_pos e]
     ·
      rw [if_neg e]
      by_cases e' : m = k
      · subst e'; exact hw j hm
      · exact inv.closed j m hm (hold m hl e')
    ·
     rw [put_get_ne _ _ _ _ (by
      have := ht k (by rw [hgs, if_pos rfl])
      rwa [hdk] at this)]
     refine inv.old t fun j hj => ht j ?_
     rw [hgs]; split <;> first | rfl | exact hj
    ·
     by_cases e : j = k
     ·
      subst e
      rw [hdk] at hdj
      have htl := hdsz t hdj
      rw [if_pos rfl, hdj, put_get _ _ _ (by rw [inv.tsize]; exact htl)]
      simp only [got, hdj]
      rw [Array.getD_eq_getD_getElem?, put_get _ _ _ (by rw [hbs]; exact htl)]
      rfl
     ·
      rw [if_neg e, put_get_ne _ _ _ _ (fun e' => e (hdist j t (dst_lt hdj) hdj e'))]
      exact inv.new j t (hold j hj e) hdj
    ·
     obtain ⟨r, hrl, hru, hrp⟩ := hr
     obtain ⟨hrk, hru'⟩ := hun r hru
     have hcd := inv.cond ⟨r, hrl, hru', hrp⟩
     rcases hbel2 with hh | hh | hb
     · exact absurd ((hhard r hrl hrk).2 hh (hnr r hru')) hrp
     ·
      rcases hbel with hb | hb
      · exact absurd hb hh
      · exact hcd.trans (hb.mono hcd.size)
     · exact hcd.trans hb
    ·
     by_cases e : j = k
     · subst e; rw [if_pos rfl]; exact hV
     ·
      rw [if_neg e]
      have hjl := hold j hj e
      have hjlt : j < ops.length := listed_lt inv.size hjl
      have hold' : j ∈ keep ∨ ∃ r, r < ops.length ∧ listed.getD r false = false ∧ j ∈ D.getD r [] := by
       rcases hr with hr | ⟨r, hrl, hru, hjr⟩
       · exact .inl hr
       · exact .inr ⟨r, hrl, (hun r hru).2, hjr⟩
      have hVj := inv.fact j hjl hold'
      rcases hbel with hh | hb
      ·
       have hjk : reach ops ops.length j k = false := by
        cases h : reach ops ops.length j k with
        | false => rfl
        | true => rw [z14 inv.closed _ j k (fun m hm => inv.closed m j hm hjl) h] at h0f; cases h0f
       refine (L.getD j .any).hflat ((hhard j hjlt e).1 hh hjk ?_) _ _ _ hVj
       rcases hr with hr | ⟨r, hrl, hru, hjr⟩
       · exact .inl hr
       · exact .inr ⟨r, hrl, hjr, (hun r hru).1, hnr r (hun r hru).2⟩
      · exact (L.getD j .any).stab _ _ _ hVj hb
   unfold wpOp
   rw [hoA]
   have hwant : Region.wanted o (yielded ops.toArray a'.tmps) = true := by unfold Region.wanted; rw [hg]
   simp only [hwant, if_true]
   refine .inl ?_
   unfold Oper.wp at hob ⊢
   rw [hexec]
   generalize (execOp (puts ops vals (D.getD k []) a).eval o).run P x = r at hob ⊢
   cases r with
   | ok n w' =>
    cases n <;> simp only [Oper.upon] at hob ⊢
    case value v => exact next v w' hob
    case skip => exact next _ w' hob
    case defer d =>
     have := hob.1
     rw [put_defers] at this
     exact absurd (congrArg List.length this) (by simp)
    case enter f args =>
     refine Calls.mono hob fun e w'' he => ?_
     cases e with
     | returned u => exact next u w'' he
     | panicked c => exact he.elim
     | outgrown => obtain ⟨_, _, h⟩ := he; exact h.elim
    case row row args => exact Rows.mono hob fun u w'' he => next u w'' he
   | halt e w' =>
    cases e <;> simp only [Oper.upon] at hob ⊢ <;> exact hob.elim
theorem wp_region_soft {id : Nat} {ops : List Oper} {a : Act} {w : World} (D : List (List Nat)) (L : List Fact) (hard wild plain keep : List Nat) (hm : P.follows .mixedOrders = true)
  (hB : softOk ops D L hard wild plain keep a.tmps.size = true)
  (hs : ∀ k o, ops[k]? = some o → oblig P ops D L hard wild plain a w k o)
  (hfin : ∀ vals x, facts L vals x keep → Q .normal (puts ops vals (List.range ops.length) a) x) : (Code.region id ops.toArray true).wp P Q a w := by
 refine wp_region_any hm ?_
 have h0 : ∀ j, (Array.replicate ops.toArray.size false).getD j false = false := fun j => getD_replicate_false _ _
 refine soft_any hB hs hfin _ _ _ _ (fun _ => undef) ?_ ⟨by simp, fun j k _ hl => ?_, rfl, rfl, fun _ _ => rfl, fun j t hj => ?_, fun _ => z01 (Below.refl _ _) 1, fun j hj => ?_⟩
 ·
  have hle : ∀ (f : Nat → Bool) (n : Nat), cnt f n ≤ n := fun f n => by
   induction n with
   | zero => exact Nat.le_refl _
   | succ n ih => simp only [cnt]; split <;> omega
  exact Nat.le_trans (hle _ _) (by simp)
 · rw [h0] at hl; cases hl
 · rw [h0] at hj; cases hj
 · rw [h0] at hj; cases hj
def putsD (vals : Nat → Value) : List (Nat × Tmp) → Act → Act
 | [], a => a
 | (i, t) :: l, a => putsD vals l (a.put (some t) (vals i))
def factsD (L : List Fact) (vals : Nat → Value) (x : World) : List (Nat × Tmp) → Prop
 | [] => True
 | (i, _) :: l => (L.getD i .any).V (vals i) x ∧ factsD L vals x l
def fitsD (ops : List Oper) (l : List (Nat × Tmp)) : Bool := l.all fun p => dstOf ops p.1 == some p.2
theorem puts_putsD {ops : List Oper} {vals : Nat → Value} : ∀ {l : List (Nat × Tmp)} {a : Act}, fitsD ops l = true → puts ops vals (l.map (·.1)) a = putsD vals l a
 | [], _, _ => rfl
 | (i, t) :: l, a, h => by
  simp only [fitsD, List.all_cons, Bool.and_eq_true, beq_iff_eq] at h
  simp only [List.map_cons, puts, putsD, h.1]
  exact puts_putsD h.2
theorem facts_factsD {L : List Fact} {vals : Nat → Value} {x : World} : ∀ {l : List (Nat × Tmp)}, facts L vals x (l.map (·.1)) = factsD L vals x l
 | [] => rfl
 | (i, t) :: l => by simp only [List.map_cons, facts, factsD, facts_factsD (l := l)]
theorem puts_all {ops : List Oper} {vals : Nat → Value} : ∀ (l : List Nat) (a : Act), puts ops vals l a = putsD vals (l.filterMap fun i => (dstOf ops i).map fun t => (i, t)) a
 | [], _ => rfl
 | i :: l, a => by
  cases h : dstOf ops i with
  | none => simp only [puts, h, List.filterMap_cons, Option.map_none]; exact puts_all l a
  | some t => simp only [puts, h, List.filterMap_cons, Option.map_some, putsD]; exact puts_all l _
def share (P : Program) (L : List Fact) (hard wild plain : List Nat) (a : Act) (w : World) (k : Nat) (o : Oper) (d : List (Nat × Tmp)) : Prop :=
 ∀ (vals : Nat → Value) (x : World), (k ∈ plain ∨ Below w.heap.size w x) → factsD L vals x d →
  wpList P #[] (softQ L hard wild w.heap.size k o (putsD vals d a) x) [o] (putsD vals d a) x
def shares (P : Program) (L : List Fact) (hard wild plain : List Nat) (a : Act) (w : World) : Nat → List Oper → List (List (Nat × Tmp)) → Prop
 | _, [], _ => True
 | _, _ :: _, [] => False
 | k, o :: l, d :: ds => share P L hard wild plain a w k o d ∧ shares P L hard wild plain a w (k + 1) l ds
theorem shares_get {L : List Fact} {hard wild plain : List Nat} {a : Act} {w : World} : ∀ {l : List Oper} {ds : List (List (Nat × Tmp))} {k : Nat}, shares P L hard wild plain a w k l ds →
  ∀ i o, l[i]? = some o → share P L hard wild plain a w (k + i) o (ds.getD i [])
 | [], _, _, _, i, o, h => by simp at h
 | _ :: _, [], _, h, _, _, _ => h.elim
 | o' :: l, d :: ds, k, h, 0, o, ho => by
  simp only [List.getElem?_cons_zero, Option.some.injEq] at ho
  subst ho; exact h.1
 | o' :: l, d :: ds, k, h, i + 1, o, ho => by
  simp only [List.getElem?_cons_succ] at ho
  have := shares_get h.2 i o ho
  rw [show k + (i + 1) = k + 1 + i by omega]
  simpa using this
theorem wp_region_shares {id : Nat} {ops : List Oper} {a : Act} {w : World} (D : List (List (Nat × Tmp))) (L : List Fact) (hard wild plain keep : List Nat) (all : List (Nat × Tmp)) (hm : P.follows .mixedOrders = true)
  (hB : softOk ops (D.map (·.map (·.1))) L hard wild plain keep a.tmps.size = true) (hD : D.all (fitsD ops) = true)
  (hall : (List.range ops.length).filterMap (fun i => (dstOf ops i).map fun t => (i, t)) = all)
  (hs : shares P L hard wild plain a w 0 ops D)
  (hfin : ∀ vals x, facts L vals x keep → Q .normal (putsD vals all a) x) : (Code.region id ops.toArray true).wp P Q a w := by
 refine wp_region_soft (D.map (·.map (·.1))) L hard wild plain keep hm hB (fun k o hk => ?_) (fun vals x hf => by rw [puts_all, hall]; exact hfin vals x hf)
 have hg := (softOk_spec hB k o hk).1
 have hsh := shares_get hs k o hk
 rw [Nat.zero_add] at hsh
 have hfit : fitsD ops (D.getD k []) = true := by
  rcases Nat.lt_or_ge k D.length with h | h
  · rw [show D.getD k [] = D[k] by simp [h]]; exact List.all_eq_true.1 hD _ (List.getElem_mem h)
  · rw [show D.getD k [] = [] by simp [h]]; rfl
 have hDk : (D.map (·.map (·.1))).getD k [] = (D.getD k []).map (·.1) := by
  rcases Nat.lt_or_ge k D.length with h | h
  · simp [h]
  · simp [h]
 intro vals x hc hf
 rw [hDk, facts_factsD] at hf
 have h := hsh vals x hc hf
 rw [hDk, puts_putsD hfit]
 unfold wpList at h
 rw [if_pos (by unfold Region.wanted; rw [hg])] at h
 rcases h with h | ⟨_, _, _, h⟩
 · exact h
 · exact h.elim
def Fact.row (base : Nat) (e : TypeId) (size n : Nat) (cs : List Value) : Fact :=
 .of (fun v x => ∃ A c, v = .slice A n c ∧ x.ownsRow base e size (.slice A n c) n cs) fun _ _ _ ⟨A, c, h, ho⟩ hb => ⟨A, c, h, z07 ho hb (Nat.le_refl _)⟩
def Fact.lit (e : TypeId) (m : Nat) (cs : Array Value) : Fact :=
 .of (fun v x => ∃ b, v = .slice (some ⟨b, 0, none⟩) m m ∧ b < x.heap.size ∧ ∃ fr, x.heap[b]? = some (.cells cs e fr)) fun _ _ _ ⟨b, h, hlt, fr, hh⟩ hb => ⟨b, h, Nat.lt_of_lt_of_le hlt hb.size, fr, (hb.block b hlt).trans hh⟩
theorem run_append_lit (w : World) (base : Nat) (t ty e : TypeId) (i : TypeInfo) (z : Value) (size bytes : Nat) (ht : P.underlying t = some (.slice e)) (hi : P.info? e = some i) (hz : i.zero = some z)
  (hsize : i.size = size) (hby : i.bytes = bytes) (hzs : z.cells.size = size) (hsz : 0 < size)
  (p : Addr) (hown : w.ownsRow base e size (.slice (some p) 0 0) 0 [])
  (A : Option Addr) (m c : Nat) (news : List Value) (hr : Src w size A m news) (h1 : ∀ u ∈ news, u.oneCell' = true)
  (h63 : m ≤ maxLen) (hbytes : m * bytes ≤ 140737488355328) (hbase : base ≤ w.heap.size) (hA : A = none → m = 0) :
  ∃ A' c' w', (Builtin.append_ #[t, t] ty #[.slice (some p) 0 0, .slice A m c]).run P w = .ok (.slice A' m c') w' ∧ w'.ownsRow base e size (.slice A' m c') m news ∧ Below w.heap.size w w' := by
 by_cases hm : m = 0
 ·
  subst hm
  have hn : news = [] := List.eq_nil_of_length_eq_zero (by simpa using hr.1)
  subst hn
  refine ⟨some p, 0, w, ?_, hown, Below.refl _ _⟩
  rcases A with _ | ad
  · exact run_append_of_nil w base t ty e i size ht hi _ 0 [] hown c
  · simp [Builtin.append_, run_underlying ht, sizeOf, typeInfo, hi, Builtin.lenOf, Builtin.firstCells, loadCells, loadCellsFrom, storeCells]
 ·
  obtain ⟨A', c', w', hrun, h2, _⟩ := run_append_src (P := P) w base t ty e i z size bytes ht hi hz hsize hby hzs hsz _ 0 [] hown A m c news hr h1 m (by omega) h63 hbytes hbase hA
  refine ⟨A', c', w', hrun, by simpa using h2, ?_⟩
  obtain ⟨ad, rfl, hc⟩ := hr.2 (by omega)
  subst hsize hby
  have hg := run_append_grow (P := P) w t ty e i z ht hi hz p 0 0 [] (by simp) (by simp) ad m c news hr.1 hc (by omega) (by unfold maxLen at h63; omega) (growslice_fits (by omega) (by simpa using hbytes))
  rw [hg] at hrun
  injection hrun with _ hw
  rw [← hw]
  exact (z01 (Below.refl _ _) 1).alloc (Nat.le_refl _) _
theorem wpList_append_lit {ops : Array Oper} {rest : List Oper} {o : Oper} {a : Act} (w : World) (hgd : o.guard = none) (s x : Operand) (t : TypeId)
  (ho : o.op = .call { callee := .builtin .append, args := #[s, x], argTypes := #[t, t] })
  (base : Nat) (e : TypeId) (i : TypeInfo) (z : Value) (size bytes : Nat) (ht : P.underlying t = some (.slice e)) (hi : P.info? e = some i) (hz : i.zero = some z)
  (hsize : i.size = size) (hby : i.bytes = bytes) (hzs : z.cells.size = size) (hsz : 0 < size)
  (p : Addr) (hs : a.eval s = .slice (some p) 0 0) (hown : w.ownsRow base e size (.slice (some p) 0 0) 0 [])
  (A : Option Addr) (m c : Nat) (news : List Value) (hx : a.eval x = .slice A m c) (hr : Src w size A m news) (h1 : ∀ u ∈ news, u.oneCell' = true)
  (h63 : m ≤ maxLen) (hbytes : m * bytes ≤ 140737488355328) (hbase : base ≤ w.heap.size) (hA : A = none → m = 0)
  (h : ∀ A' c' w', w'.ownsRow base e size (.slice A' m c') m news → Below w.heap.size w w' → wpList P ops Q rest (a.put o.dst (.slice A' m c')) w') : wpList P ops Q (o :: rest) a w :=
 wpList_plain hgd fun _ hK => by
  obtain ⟨A', c', w', hrun, h2, h3⟩ := run_append_lit (P := P) w base t o.type e i z size bytes ht hi hz hsize hby hzs hsz p hown A m c news hr h1 h63 hbytes hbase hA
  unfold Oper.wp execOp
  simp only [ho, resolve, invoke, builtin, Sem.run_bind, Sem.run_pure, Result.andThen_ok, List.map_toArray, List.map_cons, List.map_nil, hs, hx, hrun]
  exact hK _ _ (h A' c' w' h2 h3)
def Fact.lit0 (base : Nat) (e : TypeId) (size : Nat) : Fact :=
 .of (fun v x => ∃ p, v = .slice (some p) 0 0 ∧ x.ownsRow base e size (.slice (some p) 0 0) 0 []) fun _ _ _ ⟨p, h, ho⟩ hb => ⟨p, h, z07 ho hb (Nat.le_refl _)⟩
end Go.Proofs.YtjghcaghigebjaaGreatDoor
namespace Go.Proofs.YtjghcaghigebjaaGreatDoor
open Go Go.RowKit Go.ChangeShapes Go.WideShapes Go.ChangeAt Go.Deep
def smInts (xs : List Int) : Prop := xs.length ≤ 1048576 ∧ i64s xs
def RetZ (r : Int) (w : World) (e : Ending) (w' : World) : Prop := e = .returned (.int .i64 r) ∧ Below w.heap.size w w'
def CopyI (xs : List Int) (w : World) (e : Ending) (w' : World) : Prop := ∃ A c, e = .returned (.slice A xs.length c) ∧ xs.length ≤ c ∧ Lay.int.Sl w' (Own w.heap.size w') A xs ∧ Below w.heap.size w w'
theorem OwnI.own {w : World} {base c : Nat} {A : Option Addr} {xs : List Int} (h : OwnI w base (.slice A xs.length c) xs) : Lay.int.Sl w (Own base w) A xs := fun hn => by
 obtain ⟨A', c', e, _, hs⟩ := h.form
 injection e with e1 e2 e3
 subst e1
 obtain ⟨ad, e, hf, hc⟩ := hs hn
 refine ⟨ad, e, ⟨hf.1, hf.2, fun o => ?_⟩, hc⟩
 subst e
 rcases h.2 with ⟨e, _⟩ | ⟨g, cap, cur, e, _, hg, _⟩
 · cases e
 ·
  injection e with e1 e2 e3
  injection e1 with e1
  subst e1
  unfold World.frozen?
  rw [hg]
  simp
theorem OwnI.cap {w : World} {base c : Nat} {A : Option Addr} {xs : List Int} (h : OwnI w base (.slice A xs.length c) xs) : xs.length ≤ c := by
 obtain ⟨A', c', e, hl, hs⟩ := h.form
 injection e with e1 e2 e3
 omega
end Go.Proofs.YtjghcaghigebjaaGreatDoor
namespace Go.Proofs.YtjghcaghigebjaaGreatDoor
open Go Go.RowKit
def Rdr (w : World) (r : Nat) (p : Int) : Prop :=
 ∃ A c bs, w.heap[r]? = some (.cells #[.slice A bs.length c, .int .i64 p] 103 (0, 0)) ∧ bs.length ≤ 2000 ∧ Lay.byte.Sl w (fun b => b < r) A bs
theorem Rdr.keep {w w' : World} {r : Nat} {p : Int} (h : Rdr w r p) (hk : ∀ b, b ≤ r → w'.heap[b]? = w.heap[b]?) : Rdr w' r p := by
 obtain ⟨A, c, bs, hb, hl, hs⟩ := h
 exact ⟨A, c, bs, (hk r (Nat.le_refl _)).trans hb, hl, hs.keep fun b hb => hk b (Nat.le_of_lt hb)⟩
theorem Rdr.lt {w : World} {r : Nat} {p : Int} (h : Rdr w r p) : r < w.heap.size := by
 obtain ⟨A, c, bs, hb, _⟩ := h
 exact lt_of_block hb
theorem Rdr.up {w w' : World} {r : Nat} {p : Int} (h : Rdr w r p) (hb : Below w.heap.size w w') : Rdr w' r p :=
 h.keep fun b hbr => hb.block b (Nat.lt_of_le_of_lt hbr h.lt)
def OpenPost (w : World) (e : Ending) (w' : World) : Prop := ∃ r, e = .returned (.pointer (some ⟨r, 0, none⟩)) ∧ w.heap.size ≤ r ∧ Rdr w' r 0 ∧ Below w.heap.size w w'
theorem open_any (A : Option Addr) (c : Nat) (bs : List UInt8) (w : World) (h : Lay.byte.Rd w A bs) (hc : bs.length ≤ c) (hn : bs.length ≤ 9223372036854775807) :
  Calls Tryz.prog 32 #[.slice A bs.length c] w (OpenPost w) := by
 by_cases hl : 2000 < bs.length
 ·
  go_enter Tryz.func32, Tryz.ntmps32
  go_wp2
  go_ret
  refine ⟨w.heap.size, rfl, Nat.le_refl _, ⟨A, c, bs.take 2000, ?_, by simp; omega, ?_⟩, (Below.refl _ _).alloc (Nat.le_refl _) _⟩
  ·
   have e : (bs.take 2000).length = 2000 := by simp; omega
   rw [e]
   exact heap_alloc_new w _
  · exact (h.take 2000).keep fun b hb => Below.heap_alloc w _ b hb
 ·
  go_enter Tryz.func32, Tryz.ntmps32
  go_wp2
  go_ret
  refine ⟨w.heap.size, rfl, Nat.le_refl _, ⟨A, c, bs, ?_, by omega, ?_⟩, (Below.refl _ _).alloc (Nat.le_refl _) _⟩
  · exact heap_alloc_new w _
  · exact h.keep fun b hb => Below.heap_alloc w _ b hb
def PickPost (w : World) (r : Nat) (p n : Int) (e : Ending) (w' : World) : Prop :=
 ∃ k : Int, e = .returned (.int .i64 k) ∧ 0 ≤ k ∧ (1 ≤ n → k < n) ∧ (n < 1 → k = 0) ∧ Rdr w' r (p + 1) ∧ w.grownBy w' (some r)
theorem pick_end {w : World} {r : Nat} {p n k : Int} (m : Nat) (h : Rdr w r p) (k0 : 0 ≤ k) (k1 : 1 ≤ n → k < n) (k2 : n < 1 → k = 0) :
  PickPost w r p n (.returned (.int .i64 k)) ((w.setCell ⟨r, 1, none⟩ (.int .i64 (p + 1))).drewN m) := by
 have hlt := h.lt
 refine ⟨k, rfl, k0, k1, k2, ?_, ⟨rfl, rfl, rfl, by simp [World.setCell, World.drewN], fun i hi hne => Below.heap_setCell w ⟨r, 1, none⟩ _ i (fun e => hne (by rw [e]))⟩⟩
 obtain ⟨A, c, bs, hb, hl, hs⟩ := h
 refine ⟨A, c, bs, ?_, hl, hs.keep fun b hb => Below.heap_setCell w ⟨r, 1, none⟩ _ b (Nat.ne_of_lt hb)⟩
 show (w.setCell ⟨r, 1, none⟩ (.int .i64 (p + 1))).heap[r]? = _
 simp [World.setCell, Array.getElem?_modify, hb]
theorem far_cell {w : World} {a b : Addr} {v u : Value} (h : w.cell? a = some u) (hne : a.block ≠ b.block) : (w.setCell b v).cell? a = some u := by
 rw [World.cell?_setCell_other w b a v (fun e => hne (by rw [e]))]; exact h
theorem ofInt_i64 (a : Nat) (ha : a < 9223372036854775808) : (BitVec.ofInt 64 (a : Int)).toNat = a := by
 rw [BitVec.ofInt_natCast, BitVec.toNat_ofNat]; exact Nat.mod_eq_of_lt (by omega)
theorem i64_xor_nat (a b : Nat) (ha : a < 9223372036854775808) (hb : b < 9223372036854775808) : bits .xor .i64 (a : Int) (b : Int) = ((a ^^^ b : Nat) : Int) := by
 have hx : a ^^^ b < 2 ^ 63 := Nat.xor_lt_two_pow (by omega) (by omega)
 show IntKind.i64.wrap ((BitVec.ofInt 64 (a : Int) ^^^ BitVec.ofInt 64 (b : Int)).toNat : Int) = _
 rw [BitVec.toNat_xor, ofInt_i64 a ha, ofInt_i64 b hb, IntKind.wrap_i64]
 omega
theorem mix_wraps (P y z D : Nat) (hP : P ≤ 1000000000) (hy : y < 256) (hz : z < 256) (hD : D ≤ 1000000000) :
  IntKind.i64.wrap ((P : Int) * 7) = (P : Int) * 7 ∧ IntKind.i64.wrap ((P : Int) * 7 + 3) = (P : Int) * 7 + 3 ∧ IntKind.i64.wrap (y : Int) = (y : Int) ∧ IntKind.i64.wrap ((y : Int) * 131) = (y : Int) * 131 ∧
  IntKind.i64.wrap (z : Int) = (z : Int) ∧ IntKind.i64.wrap ((z : Int) * 1117) = (z : Int) * 1117 ∧ IntKind.i64.wrap ((y : Int) * 131 + (z : Int) * 1117) = (y : Int) * 131 + (z : Int) * 1117 ∧
  IntKind.i64.wrap ((P : Int) * 29) = (P : Int) * 29 ∧ IntKind.i64.wrap ((y : Int) * 131 + (z : Int) * 1117 + (P : Int) * 29) = (y : Int) * 131 + (z : Int) * 1117 + (P : Int) * 29 ∧
  IntKind.i64.wrap (D : Int) = (D : Int) ∧ IntKind.i64.wrap ((D : Int) * 53) = (D : Int) * 53 ∧
  IntKind.i64.wrap ((y : Int) * 131 + (z : Int) * 1117 + (P : Int) * 29 + (D : Int) * 53) = (y : Int) * 131 + (z : Int) * 1117 + (P : Int) * 29 + (D : Int) * 53 :=
 ⟨IntWalk.i64_in _ (by omega), IntWalk.i64_in _ (by omega), IntWalk.i64_in _ (by omega), IntWalk.i64_in _ (by omega), IntWalk.i64_in _ (by omega), IntWalk.i64_in _ (by omega),
  IntWalk.i64_in _ (by omega), IntWalk.i64_in _ (by omega), IntWalk.i64_in _ (by omega), IntWalk.i64_in _ (by omega), IntWalk.i64_in _ (by omega), IntWalk.i64_in _ (by omega)⟩
set_option maxRecDepth 100000 in
set_option maxHeartbeats 1000000 in
theorem pick_any (r : Nat) (p n : Int) (w : World) (h : Rdr w r p) (p0 : 0 ≤ p) (p1 : p ≤ 1000000000) (n1 : n ≤ 9223372036854775807) (n0 : -9223372036854775808 ≤ n) :
  Calls Tryz.prog 33 #[.pointer (some ⟨r, 0, none⟩), .int .i64 n] w (PickPost w r p n) := by
 obtain ⟨A, c, bs, hb, hl, hs⟩ := h
 have hc0 : w.cell? ⟨r, 0, none⟩ = some (.slice A bs.length c) := by simp [World.cell?, hb]
 have hc1 : w.cell? ⟨r, 1, none⟩ = some (.int .i64 p) := by simp [World.cell?, hb]
 have hf : w.frozen? ⟨r, 1, none⟩ = false := by simp [World.frozen?, hb]
 have Hb := zH hb
 clear hb
 have hR : Rdr w r p := ⟨A, c, bs, Hb.out, hl, hs⟩
 have HR := zH hR
 clear hR
 by_cases hn : n < 1
 ·
  go_enter Tryz.func33, Tryz.ntmps33
  go_wp2
  go_ret
  exact pick_end 0 HR.out (by omega) (by omega) (fun _ => rfl)
 ·
  by_cases he : bs.length = 0
  ·
   go_enter Tryz.func33, Tryz.ntmps33
   go_wp2
   go_ret
   exact pick_end 0 HR.out (by omega) (by omega) (fun _ => rfl)
  ·
   by_cases hk : p < bs.length
   ·
    have hkn : p.toNat < bs.length := by omega
    obtain ⟨ad, rfl, hfr, hcb⟩ := hs.at_byte hkn
    have hcb' : (w.setCell ⟨r, 1, none⟩ (.int .i64 (p + 1))).cell? (ad.add p.toNat) = some (.int .u8 (bs[p.toNat].toNat : Int)) := far_cell hcb (by rw [block_of_add]; exact Nat.ne_of_lt hfr)
    have hb0 : (0 : Int) ≤ bs[p.toNat].toNat := by omega
    have hb1 : (bs[p.toNat].toNat : Int) < 256 := by have := bs[p.toNat].toNat_lt; omega
    generalize (bs[p.toNat].toNat : Int) = y at *
    go_enter Tryz.func33, Tryz.ntmps33
    go_wp2
    go_ret
    exact pick_end 0 HR.out (Int.emod_nonneg _ (by omega)) (fun _ => Int.emod_lt_of_pos _ (by omega)) (fun h => by omega)
   ·
    have hq0 : 0 < bs.length := by omega
    obtain ⟨P, rfl⟩ := Int.eq_ofNat_of_zero_le p0
    obtain ⟨X, hx, t1⟩ : ∃ X : Nat, X < bs.length ∧ (P : Int).tmod bs.length = X := ⟨P % bs.length, Nat.mod_lt _ hq0, by rw [Int.tmod_eq_emod_of_nonneg (by omega)]; simp⟩
    obtain ⟨Y, hy, t2⟩ : ∃ Y : Nat, Y < bs.length ∧ ((P : Int) * 7 + 3).tmod bs.length = Y := ⟨(P * 7 + 3) % bs.length, Nat.mod_lt _ hq0, by rw [Int.tmod_eq_emod_of_nonneg (by omega)]; simp⟩
    obtain ⟨D, hd, t3⟩ : ∃ D : Nat, D ≤ P ∧ (P : Int).tdiv bs.length = D := ⟨P / bs.length, Nat.div_le_self _ _, by rw [Int.tdiv_eq_ediv_of_nonneg (by omega)]; simp⟩
    obtain ⟨ad, rfl, hfr, hcb⟩ := hs.at_byte hx
    obtain ⟨ad', e, _, hcb2⟩ := hs.at_byte hy
    cases e
    have hcb' : (w.setCell ⟨r, 1, none⟩ (.int .i64 ((P : Int) + 1))).cell? (ad.add _) = some _ := far_cell hcb (by rw [block_of_add]; exact Nat.ne_of_lt hfr)
    have hcb2' : (w.setCell ⟨r, 1, none⟩ (.int .i64 ((P : Int) + 1))).cell? (ad.add _) = some _ := far_cell hcb2 (by rw [block_of_add]; exact Nat.ne_of_lt hfr)
    have hb1 := bs[X].toNat_lt
    have hb2 := bs[Y].toNat_lt
    generalize bs[X].toNat = y at *
    generalize bs[Y].toNat = z at *
    clear hcb hcb2
    have hx' : (X : Int) < bs.length := by omega
    have hy' : (Y : Int) < bs.length := by omega
    obtain ⟨e1, e2, e3, e4, e5, e6, e7, e8, e9, e10, e11, e12⟩ := mix_wraps P y z D (by omega) hb1 hb2 (by omega)
    have hlen : ((bs.length : Int) == 0) = false := beq_eq_false_iff_ne.2 (by omega)
    go_enter Tryz.func33, Tryz.ntmps33
    go_wp2
    go_quiet (fail)
    clear e1 e2 e3 e4 e5 e6 e7 e8 e9 e10 e11 e12 t1 t2 t3 hlen
    go_wp2
    go_ret
    have hM : (y : Int) * 131 + (z : Int) * 1117 + (P : Int) * 29 + (D : Int) * 53 = ((y * 131 + z * 1117 + P * 29 + D * 53 : Nat) : Int) := by omega
    have hlt : y * 131 + z * 1117 + P * 29 + D * 53 < 9223372036854775808 := by omega
    show PickPost w r P n (.returned (.int .i64 ((bits BinOp.xor IntKind.i64 ((y : Int) * 131 + z * 1117 + P * 29 + D * 53) (((y : Int) * 131 + z * 1117 + P * 29 + D * 53) / 64)).tmod n))) _
    rw [hM]
    generalize y * 131 + z * 1117 + P * 29 + D * 53 = M at *
    rw [show ((M : Int) / 64) = ((M / 64 : Nat) : Int) from by omega, i64_xor_nat _ _ hlt (by omega)]
    generalize (M ^^^ M / 64) = Q
    rw [Int.tmod_eq_emod_of_nonneg (by omega)]
    exact pick_end nq HR.out (Int.emod_nonneg _ (by omega)) (fun _ => Int.emod_lt_of_pos _ (by omega)) (fun h => by omega)
def sigOf (s m : Int) : Bool := decide (s ≠ 0 ∧ -m ≤ s ∧ s ≤ m)
def netLit (vals : List Bool) (m : Int) : Bool := sigOf m vals.length && (vals.getD (m.natAbs - 1) false == decide (0 < m))
theorem of_any (s m : Int) (w : World) (h0 : -9223372036854775808 ≤ s) (h1 : s ≤ 9223372036854775807) (m0 : 0 ≤ m) (m1 : m ≤ 9223372036854775807) :
  Calls Tryz.prog 112 #[.int .i64 s, .int .i64 m] w fun e w' => e = .returned (.bool (sigOf s m)) ∧ w = w' := by
 by_cases hs : s = 0
 ·
  subst hs
  go_enter Tryz.func112, Tryz.ntmps112
  go_wp2
  go_ret
  exact ⟨by simp [sigOf], rfl⟩
 ·
  by_cases ha : -m ≤ s
  ·
   go_enter Tryz.func112, Tryz.ntmps112
   go_wp2
   go_ret
   exact ⟨z16 (by simp [sigOf, hs, ha]), rfl⟩
  ·
   go_enter Tryz.func112, Tryz.ntmps112
   go_wp2
   go_ret
   exact ⟨z16 (by simp [sigOf, hs]; omega), rfl⟩
theorem node_any (n : Int) (w : World) (h0 : -9223372036854775808 < n) (h1 : n ≤ 9223372036854775807) :
  Calls Tryz.prog 113 #[.int .i64 n] w fun e w' => e = .returned (.int .i64 n.natAbs) ∧ w = w' := by
 by_cases h : n < 0
 all_goals
  go_enter Tryz.func113, Tryz.ntmps113
  go_wp2
  go_ret
  exact ⟨ret_int (by omega), rfl⟩
theorem netLit_pos {vals : List Bool} {m : Int} (hp : 0 < m) (hk : m.toNat - 1 < vals.length) : netLit vals m = vals[m.toNat - 1] := by
 have e : m.natAbs - 1 = m.toNat - 1 := by omega
 have hs : sigOf m vals.length = true := by simp [sigOf]; omega
 simp [netLit, hs, List.getD_eq_getElem?_getD, e, List.getElem?_eq_getElem hk, hp]
theorem grown_then {a w w' : World} {row : Option Nat} (h : Below a.heap.size a w) (h' : w.grownBy w' row) : a.grownBy w' row :=
 ⟨h'.os.trans h.os, h'.tape.trans h.tape, h'.output.trans h.output, Nat.le_trans h.size h'.size, fun i hi hne => (h'.block i (Nat.lt_of_lt_of_le hi h.size) hne).trans (h.block i hi)⟩
theorem z03 (w : World) (r : Nat) (o : Nat) (u : Value) (cs : Array Value) (t : TypeId) (h : w.heap[r]? = some (.cells cs t (0, 0))) : (w.setCell ⟨r, o, none⟩ u).heap[r]? = some (.cells (cs.setIfInBounds o u) t (0, 0)) := by
 unfold World.setCell
 simp only [Array.getElem?_modify, if_true]
 rw [h]
 rfl
theorem z00 {w : World} {r : Nat} {cs : Array Value} {t : TypeId} (h : w.heap[r]? = some (.cells cs t (0, 0))) (i : Nat) : w.cell? ⟨r, i, none⟩ = cs[i]? ∧ w.frozen? ⟨r, i, none⟩ = false := by
 unfold World.cell? World.frozen?
 simp [h]
theorem size_setCell (w : World) (a : Addr) (v : Value) : (w.setCell a v).heap.size = w.heap.size := by simp [World.setCell]
theorem rows_kept {w w' : World} {base : Nat} {e : TypeId} {size n : Nat} {v : Value} {xs : List Value} {b : Option Nat} (h : w.ownsRow base e size v n xs) (hg : w.grownBy w' b) (hd : ∀ g, v.ownBlock = some g → b ≠ some g) : w'.ownsRow base e size v n xs :=
 h.kept hg (by
  rcases hv : v.ownBlock with _ | g
  · exact .inl rfl
  · exact .inr (fun e => hd g hv e.symm))
theorem rows_set {w : World} {base : Nat} {e : TypeId} {size n : Nat} {v : Value} {xs : List Value} (h : w.ownsRow base e size v n xs) (r o : Nat) (u : Value) (hd : v.ownBlock ≠ some r) : (w.setCell ⟨r, o, none⟩ u).ownsRow base e size v n xs :=
 rows_kept h (z02 (World.grownBy.refl w (some r)) o u) (fun g e e' => hd (e.trans e'.symm))
structure G where
 x : Bool
 a : Int
 b : Int
 deriving DecidableEq
structure N where
 ins : Int
 gs : List G
 deriving DecidableEq
def Lay.gate : Lay G := Lay.flat 3 (fun g => [.bool g.x, .int .i64 g.a, .int .i64 g.b]) (fun _ => rfl)
theorem Lay.Sl.at_gate {w : World} {F : Nat → Prop} {A : Option Addr} {xs : List G} (h : Lay.gate.Sl w F A xs) {k : Nat} (hk : k < xs.length) :
  ∃ ad, A = some ad ∧ F ad.block ∧ w.cell? (ad.add (k * 3)) = some (.bool xs[k].x) ∧ w.cell? ⟨(ad.add (k * 3)).block, (ad.add (k * 3)).off + 1, none⟩ = some (.int .i64 xs[k].a) ∧ w.cell? ⟨(ad.add (k * 3)).block, (ad.add (k * 3)).off + 2, none⟩ = some (.int .i64 xs[k].b) := by
 obtain ⟨ad, e, hf, hc⟩ := h (by omega)
 obtain ⟨vs, rfl, hcell⟩ := hc k xs[k] (List.getElem?_eq_getElem hk)
 refine ⟨ad, e, hf, hcell 0 _ rfl, ?_, ?_⟩
 ·
  show w.cell? ((ad.add (k * 3)).add 1) = _
  rw [add_of_add]; exact hcell 1 _ rfl
 ·
  show w.cell? ((ad.add (k * 3)).add 2) = _
  rw [add_of_add]; exact hcell 2 _ rfl
theorem gate_up {w w' : World} {B : Nat} {ad : Addr} {k : Nat} {g : G} (hb : Below B w w') (hB : ad.block < B)
  (h : w.cell? (ad.add (k * 3)) = some (.bool g.x) ∧ w.cell? ⟨(ad.add (k * 3)).block, (ad.add (k * 3)).off + 1, none⟩ = some (.int .i64 g.a) ∧ w.cell? ⟨(ad.add (k * 3)).block, (ad.add (k * 3)).off + 2, none⟩ = some (.int .i64 g.b)) :
  w'.cell? (ad.add (k * 3)) = some (.bool g.x) ∧ w'.cell? ⟨(ad.add (k * 3)).block, (ad.add (k * 3)).off + 1, none⟩ = some (.int .i64 g.a) ∧ w'.cell? ⟨(ad.add (k * 3)).block, (ad.add (k * 3)).off + 2, none⟩ = some (.int .i64 g.b) :=
 ⟨(hb.cell (by rw [block_of_add]; exact hB)).trans h.1, (hb.cell (by show (ad.add (k * 3)).block < B; rw [block_of_add]; exact hB)).trans h.2.1, (hb.cell (by show (ad.add (k * 3)).block < B; rw [block_of_add]; exact hB)).trans h.2.2⟩
def gcells (g : G) : List Value := [.bool g.x, .int .i64 g.a, .int .i64 g.b]
theorem gcells_len (l : List G) : (l.flatMap gcells).length = l.length * 3 := by
 induction l with
 | nil => rfl
 | cons g l ih => rw [List.flatMap_cons, List.length_append, ih]; simp [gcells]; omega
theorem decide_G (g h : G) : decide (g = h) = (g.x == h.x && g.a == h.a && g.b == h.b) := by
 cases g; cases h
 rw [Bool.eq_iff_iff]; simp [and_assoc]
theorem sl_gates_of_own {w : World} {F : Nat → Prop} {base : Nat} {e : TypeId} {A : Option Addr} {n c : Nat} {xs : List G} (h : w.ownsRow base e 3 (.slice A n c) n (xs.flatMap gcells))
  (hF : ∀ g, base ≤ g → g < w.heap.size → F g) : Lay.gate.Sl w F A xs ∧ n = xs.length ∧ n ≤ c := by
 have hn : n = xs.length := by have := h.1; rw [gcells_len] at this; omega
 refine ⟨.of_own h hn hF fun k x hx => ⟨_, rfl, fun j u hu => ?_⟩, hn, ?_⟩
 ·
  have hk : k < xs.length := by
   rcases Nat.lt_or_ge k xs.length with h | h
   · exact h
   · rw [List.getElem?_eq_none h] at hx; cases hx
  rw [List.getElem?_eq_getElem hk] at hx
  injection hx with hx
  have hj : j < 3 := by
   rcases Nat.lt_or_ge j 3 with h | h
   · exact h
   · rw [List.getElem?_eq_none (by simpa [Lay.gate, Lay.flat] using h)] at hu; cases hu
  have e : xs = xs.take k ++ (xs[k] :: xs.drop (k + 1)) := by rw [← List.drop_eq_getElem_cons hk, List.take_append_drop]
  have hl : ((xs.take k).flatMap gcells).length = k * 3 := by rw [gcells_len]; simp; omega
  rw [e, List.flatMap_append, List.flatMap_cons, show Lay.gate.size = 3 from rfl, List.getElem?_append_right (by omega), hl, show k * 3 + j - k * 3 = j from by omega,
   List.getElem?_append_left (by simpa [gcells] using hj), hx]
  exact hu
 ·
  rcases h.2 with ⟨h1, h2⟩ | ⟨g, cap, cur, h1, _, _, h2, _⟩
  · omega
  · injection h1 with _ _ h3; omega
def OwnGs (w : World) (base : Nat) (v : Value) (xs : List G) : Prop := w.ownsRow base 88 3 v xs.length (xs.flatMap gcells)
theorem OwnGs.form {w : World} {base : Nat} {v : Value} {xs : List G} (h : OwnGs w base v xs) : ∃ A c, v = .slice A xs.length c ∧ xs.length ≤ c ∧ Lay.gate.Sl w (fun b => base ≤ b ∧ b < w.heap.size) A xs := by
 have hh := h
 unfold OwnGs at h
 rcases h.2 with ⟨h1, h2⟩ | ⟨g, cap, cur, h1, _, _, h3, _⟩
 ·
  subst h1
  have : xs = [] := List.eq_nil_of_length_eq_zero h2
  subst this
  exact ⟨none, 0, rfl, by simp, .nil _ _ _ _⟩
 ·
  subst h1
  exact ⟨_, cap, rfl, h3, (sl_gates_of_own hh (fun g h1 h2 => ⟨h1, h2⟩)).1⟩
theorem OwnGs.sl {w : World} {base c : Nat} {A : Option Addr} {xs : List G} (h : OwnGs w base (.slice A xs.length c) xs) : xs.length ≤ c ∧ Lay.gate.Sl w (fun b => base ≤ b ∧ b < w.heap.size) A xs := by
 obtain ⟨A', c', e, h1, h2⟩ := h.form
 injection e with e1 e2 e3
 subst e1; subst e3
 exact ⟨h1, h2⟩
theorem OwnGs.up {w w' : World} {base : Nat} {v : Value} {xs : List G} (h : OwnGs w base v xs) (hb : Below w.heap.size w w') : OwnGs w' base v xs := z07 h hb (Nat.le_refl _)
def RetGs (w : World) (xs : List G) (e : Ending) (w' : World) : Prop := ∃ A c, e = .returned (.slice A xs.length c) ∧ OwnGs w' w.heap.size (.slice A xs.length c) xs ∧ Below w.heap.size w w'
theorem gate_info : (Tryz.prog.info? 88).map (fun i => (i.zero, i.size, i.bytes)) = some (some (.agg #[.bool false, .int .i64 0, .int .i64 0]), 3, 24) := by kernel_rfl
def RetNet (w : World) (n : N) (e : Ending) (w' : World) : Prop :=
 ∃ A c, e = .returned (.agg #[.int .i64 n.ins, .slice A n.gs.length c]) ∧ OwnGs w' w.heap.size (.slice A n.gs.length c) n.gs ∧ Below w.heap.size w w'
theorem l4Abs_any (n : Int) (w : World) (h0 : -9223372036854775808 < n) (h1 : n ≤ 9223372036854775807) :
  Calls Tryz.prog 85 #[.int .i64 n] w fun e w' => e = .returned (.int .i64 n.natAbs) ∧ w = w' := by
 by_cases h : n < 0
 all_goals
  go_enter Tryz.func85, Tryz.ntmps85
  go_wp2
  go_ret
  exact ⟨ret_int (by omega), rfl⟩
theorem src_gates {w : World} {F : Nat → Prop} {A : Option Addr} {xs : List G} (h : Lay.gate.Sl w F A xs) : Src w 3 A xs.length (xs.flatMap gcells) := by
 refine ⟨gcells_len xs, fun h0 => ?_⟩
 obtain ⟨ad, rfl, _, hc⟩ := h h0
 refine ⟨ad, rfl, fun j u hu => ?_⟩
 have hj : j < (xs.flatMap gcells).length := by
  rcases Nat.lt_or_ge j (xs.flatMap gcells).length with h | h
  · exact h
  · rw [List.getElem?_eq_none h] at hu; cases hu
 rw [gcells_len] at hj
 have hk : j / 3 < xs.length := by omega
 obtain ⟨vs, rfl, hcell⟩ := hc (j / 3) xs[j / 3] (List.getElem?_eq_getElem hk)
 have hl : ((xs.take (j / 3)).flatMap gcells).length = j / 3 * 3 := by rw [gcells_len]; simp; omega
 have e : xs = xs.take (j / 3) ++ (xs[j / 3] :: xs.drop (j / 3 + 1)) := by rw [← List.drop_eq_getElem_cons hk, List.take_append_drop]
 rw [e, List.flatMap_append, List.flatMap_cons, List.getElem?_append_right (by omega), hl, List.getElem?_append_left (by simp [gcells]; omega)] at hu
 have := hcell (j - j / 3 * 3) u hu
 rw [show Lay.gate.size = 3 from rfl, show j / 3 * 3 + (j - j / 3 * 3) = j from by omega] at this
 exact this
theorem gcells_one (xs : List G) : ∀ u ∈ xs.flatMap gcells, u.oneCell' = true := by
 intro u hu
 obtain ⟨g, _, hg⟩ := List.mem_flatMap.1 hu
 simp [gcells] at hg
 rcases hg with rfl | rfl | rfl <;> rfl
set_option maxRecDepth 100000 in
set_option maxHeartbeats 1000000 in
theorem l6Fresh_any (A : Option Addr) (c : Nat) (n : N) (w : World) (h : Lay.gate.Rd w A n.gs) (hn : n.gs.length ≤ 1048576) (hA : A = none → n.gs.length = 0) :
  Calls Tryz.prog 62 #[.agg #[.int .i64 n.ins, .slice A n.gs.length c]] w (RetNet w n) := by
 obtain ⟨i0, hi0, hz0, hz1, hz2⟩ := info_parts gate_info
 go_enter Tryz.func62, Tryz.ntmps62
 go_wp2
 go_region_held3 (fun w' => w'.cell? ⟨w.heap.size, 0, none⟩ = some (.int .i64 n.ins) ∧ w'.cell? ⟨w.heap.size, 1, none⟩ = some (.slice A n.gs.length c))
  (first | go_keep | (go_split_ands; refine ⟨?_, ?_⟩ <;> (rw [hb1.cell (by show w.heap.size < _; omega)]; assumption)))
  ((refine step_append_src _ (by rfl) _ _ _ (by rfl) (w.heap.size + 1 + 1) 88 i0 _ 3 24 Tryz.underlying27 hi0 hz0 hz1 hz2 (by rfl) (by omega) (.slice (some ⟨w.heap.size + 1 + 1, 0, none⟩) 0 0) 0 [] (by rfl) (by first | exact own_lit0 (by simp) | exact (own_lit0 (by simp)).drew) A n.gs.length c (n.gs.flatMap gcells) (by rfl) (src_gates (Lay.Sl.up h (by go_grown))) (gcells_one _) n.gs.length (by omega) (by unfold maxLen; omega) (by omega) (by simp) hA ?_; intro A1 c1 w1 hown1 hb1 _; obtain ⟨hcc, hff⟩ := bcell hb1; have hz : w.heap.size + 1 < w1.heap.size := by have := hb1.size; simp at this; omega))
 have hbw : Below w.heap.size w w1 := by
  refine Below.trans (b := (((w.alloc (Obj.cells #[.int .i64 n.ins, .slice A n.gs.length c] 29)).alloc (Obj.cells #[.int .i64 0, .slice none 0 0] 29)).alloc (Obj.cells #[] 88)).drew) ?_ (hb1.mono (by omega))
  exact ((((Below.refl _ _).alloc (Nat.le_refl _) _).alloc (by simp) _).alloc (by simp; omega) _).drew
 go_wp2
 refine bodyPost_ret (v := .agg #[.int .i64 n.ins, .slice A1 n.gs.length c1]) (by simp [results, Tryz.results62, go_sem, hcc, hff, hz]) rfl ⟨A1, c1, rfl, ?_, ?_⟩
 · exact own_mono (own_far (own_far hown1 _ _ (by simp)) _ _ (by simp)) (by omega)
 · exact (hbw.setCell (by simp) _).setCell (by simp) _
theorem eqlG (w : World) (g h : G) : (binOp .eql 88 (.agg #[.bool g.x, .int .i64 g.a, .int .i64 g.b]) (.agg #[.bool h.x, .int .i64 h.a, .int .i64 h.b])).run Tryz.prog w = .ok (.bool (decide (g = h))) w := by
 have hh : Tryz.prog.stoodInHeld 88 = false := by kernel_rfl
 rw [decide_G]
 simp [go_sem, hh]
 (repeat' split) <;> simp_all
theorem l6Many_any (A : Option Addr) (c n : Nat) (ins : Int) (w : World) (hn : n ≤ 1048576) (h0 : -1000000 ≤ ins) (h1 : ins ≤ 1000000) :
  Calls Tryz.prog 114 #[.agg #[.int .i64 ins, .slice A n c]] w fun e w' => e = .returned (.int .i64 (1 + ins + n)) ∧ Below w.heap.size w w' := by
 have hw : Below w.heap.size w (w.alloc (.cells #[.int .i64 ins, .slice A n c] 29)) := (Below.refl _ _).alloc (Nat.le_refl _) _
 go_enter Tryz.func114, Tryz.ntmps114
 go_wp2
 go_ret
 exact ⟨rfl, hw⟩
def z04 (n : N) (m : Int) : Bool := sigOf m (1 + n.ins + n.gs.length)
theorem l6Mark_any (A : Option Addr) (c : Nat) (n : N) (m : Int) (w : World) (hn : n.gs.length ≤ 1048576) (h0 : 0 ≤ n.ins) (h1 : n.ins ≤ 1000000) (m0 : -9223372036854775808 ≤ m) (m1 : m ≤ 9223372036854775807) :
  Calls Tryz.prog 103 #[.agg #[.int .i64 n.ins, .slice A n.gs.length c], .int .i64 m] w fun e w' => e = .returned (.bool (z04 n m)) ∧ Below w.heap.size w w' := by
 have hw : Below w.heap.size w (w.alloc (.cells #[.int .i64 n.ins, .slice A n.gs.length c] 29)) := (Below.refl _ _).alloc (Nat.le_refl _) _
 unfold z04
 generalize hK : (1 + n.ins + (n.gs.length : Int)) = K
 have HK := zH hK
 have k0 : 0 ≤ K := by omega
 have k1 : K ≤ 3000000 := by omega
 clear hK
 go_enter Tryz.func103, Tryz.ntmps103
 go_wp2_with (go_at_call 114; refine (l6Many_any A c n.gs.length n.ins _ hn (by omega) h1).mono ?_; rw [HK.out]; rintro e w' ⟨rfl, hb⟩)
 all_goals
  go_ret
  refine ⟨z16 ?_, bthen hw hb⟩
  first
   | (simp [sigOf, *]; done)
   | (simp [sigOf, *]; omega)
def okG (ins : Int) (k : Nat) (g : G) : Bool :=
 decide (-(1 + ins + k) ≤ g.a) && decide (g.a ≤ 1 + ins + k) && decide (-(1 + ins + k) ≤ g.b) && decide (g.b ≤ 1 + ins + k) && decide (2 ≤ (g.a.natAbs : Int)) && decide ((g.a.natAbs : Int) < g.b.natAbs) && !(g.x && (decide (g.a < 0) || decide (g.b < 0)))
def goodG (n : N) (k : Nat) (g : G) : Bool := okG n.ins k g && !(n.gs.take k).contains g
def okInts (n : N) : Prop := ∀ g ∈ n.gs, (-9223372036854775808 ≤ g.a ∧ g.a ≤ 9223372036854775807) ∧ (-9223372036854775808 ≤ g.b ∧ g.b ≤ 9223372036854775807)
theorem okG_no {K a b na nb : Int} {gx : Bool} (h : a < -K ∨ K < a ∨ b < -K ∨ K < b ∨ na < 2 ∨ nb ≤ na) :
  (decide (-K ≤ a) && decide (a ≤ K) && decide (-K ≤ b) && decide (b ≤ K) && decide (2 ≤ na) && decide (na < nb) && !(gx && (decide (a < 0) || decide (b < 0)))) = false := by
 rw [Bool.eq_false_iff]
 intro e
 simp only [Bool.and_eq_true, decide_eq_true_eq] at e
 omega
theorem okG_yes {K a b na nb : Int} {gx : Bool} (h1 : -K ≤ a) (h2 : a ≤ K) (h3 : -K ≤ b) (h4 : b ≤ K) (h5 : 2 ≤ na) (h6 : na < nb) :
  (decide (-K ≤ a) && decide (a ≤ K) && decide (-K ≤ b) && decide (b ≤ K) && decide (2 ≤ na) && decide (na < nb) && !(gx && (decide (a < 0) || decide (b < 0)))) = !(gx && (decide (a < 0) || decide (b < 0))) := by
 simp [h1, h2, h3, h4, h5, h6]
set_option maxRecDepth 100000 in
set_option maxHeartbeats 4000000 in
theorem l6Gate_any (A : Option Addr) (c : Nat) (n : N) (k : Nat) (hk : k < n.gs.length) (w : World) (h : Lay.gate.Rd w A n.gs) (hn : n.gs.length ≤ 1048576) (hi : okInts n) (h0 : 0 ≤ n.ins) (h1 : n.ins ≤ 1000000) :
  Calls Tryz.prog 43 #[.agg #[.int .i64 n.ins, .slice A n.gs.length c], .int .i64 k] w fun e w' => e = .returned (.bool (goodG n k n.gs[k])) ∧ Below w.heap.size w w' := by
 obtain ⟨ad, rfl, hf, hc⟩ := h.at_gate hk
 have hw : Below w.heap.size w (w.alloc (.cells #[.int .i64 n.ins, .slice (some ad) n.gs.length c] 29)) := (Below.refl _ _).alloc (Nat.le_refl _) _
 obtain ⟨c1, c2, c3⟩ := gate_up hw hf hc
 obtain ⟨⟨a0, a1⟩, b0, b1⟩ := hi n.gs[k] (List.getElem_mem _)
 have HG := zH (show goodG n k n.gs[k] = (okG n.ins k n.gs[k] && !(n.gs.take k).contains n.gs[k]) from rfl)
 unfold okG at HG
 have hk1 : (k : Int) < n.gs.length := by omega
 have hK0 : (0 : Int) ≤ 1 + n.ins + k := by omega
 have hK1 : 1 + n.ins + (k : Int) ≤ 3000000 := by omega
 generalize hgg : n.gs[k] = g at *
 obtain ⟨gx, ga, gb⟩ := g
 have HGG := zH hgg
 clear hgg hc hi
 dsimp only at c1 c2 c3 a0 a1 b0 b1 HG
 have hab : -9223372036854775808 < ga → ga.natAbs < 9223372036854775808 := by omega
 generalize hna : (ga.natAbs : Int) = na at *
 generalize hnb : (gb.natAbs : Int) = nb at *
 have qa : ∀ W : World, -9223372036854775808 < ga → Calls Tryz.prog 85 #[.int .i64 ga] W fun e w' => e = .returned (.int .i64 na) ∧ W = w' := fun W h => by rw [← hna]; exact l4Abs_any ga W h a1
 have qb : ∀ W : World, -9223372036854775808 < gb → Calls Tryz.prog 85 #[.int .i64 gb] W fun e w' => e = .returned (.int .i64 nb) ∧ W = w' := fun W h => by rw [← hnb]; exact l4Abs_any gb W h b1
 have Qa := zH qa
 have Qb := zH qb
 generalize hKK : 1 + n.ins + (k : Int) = K at *
 have HKK := zH hKK
 clear qa qb hna hnb hab hKK
 have hww := ((Below.refl w.heap.size w).alloc (Nat.le_refl _) (.cells #[.int .i64 n.ins, .slice (some ad) n.gs.length c] 29)).alloc (by simp) (.cells #[.bool gx, .int .i64 ga, .int .i64 gb] 88)
 go_enter Tryz.func43, Tryz.ntmps43
 go_wp2
 rw [show Value.int IntKind.i64 (1 + n.ins + (k : Int)) = .int .i64 K from by rw [HKK.out]]
 by_cases q0 : ga < -K
 ·
  have d0 : decide (ga < -K) = true := decide_eq_true q0
  go_quiet (fail)
  go_wp2
  go_ret
  exact ⟨z16 (by rw [HG.out, okG_no (by omega)]; rfl), z01 hww _⟩
 have d0 : decide (ga < -K) = false := decide_eq_false q0
 by_cases q1 : K < ga
 ·
  have d1 : decide (K < ga) = true := decide_eq_true q1
  go_quiet (fail)
  go_wp2
  go_ret
  exact ⟨z16 (by rw [HG.out, okG_no (by omega)]; rfl), z01 hww _⟩
 have d1 : decide (K < ga) = false := decide_eq_false q1
 by_cases q2 : gb < -K
 ·
  have d2 : decide (gb < -K) = true := decide_eq_true q2
  go_quiet (fail)
  go_wp2
  go_ret
  exact ⟨z16 (by rw [HG.out, okG_no (by omega)]; rfl), z01 hww _⟩
 have d2 : decide (gb < -K) = false := decide_eq_false q2
 by_cases q3 : K < gb
 ·
  have d3 : decide (K < gb) = true := decide_eq_true q3
  go_quiet (fail)
  go_wp2
  go_ret
  exact ⟨z16 (by rw [HG.out, okG_no (by omega)]; rfl), z01 hww _⟩
 have d3 : decide (K < gb) = false := decide_eq_false q3
 by_cases q4 : na < 2
 ·
  have d4 : decide (na < 2) = true := decide_eq_true q4
  go_quiet ((first | (go_at_call 85; with_reducible exact quiet_left (Qa.out _ (by omega))) | (go_at_call 85; with_reducible exact quiet_left (Qb.out _ (by omega)))))
  go_wp2
  go_ret
  exact ⟨z16 (by rw [HG.out, okG_no (by omega)]; rfl), z01 hww _⟩
 have d4 : decide (na < 2) = false := decide_eq_false q4
 by_cases q5 : nb ≤ na
 ·
  have d5 : decide (nb ≤ na) = true := decide_eq_true q5
  go_quiet ((first | (go_at_call 85; with_reducible exact quiet_left (Qa.out _ (by omega))) | (go_at_call 85; with_reducible exact quiet_left (Qb.out _ (by omega)))))
  go_wp2
  go_ret
  exact ⟨z16 (by rw [HG.out, okG_no (by omega)]; rfl), z01 hww _⟩
 have d5 : decide (nb ≤ na) = false := decide_eq_false q5
 go_quiet ((first | (go_at_call 85; with_reducible exact quiet_left (Qa.out _ (by omega))) | (go_at_call 85; with_reducible exact quiet_left (Qb.out _ (by omega)))))
 clear d0 d1 d2 d3 d4 d5
 have HG2 := zH (show goodG n k ⟨gx, ga, gb⟩ = (!(gx && (decide (ga < 0) || decide (gb < 0))) && !(n.gs.take k).contains ⟨gx, ga, gb⟩) by rw [HG.out, okG_yes (by omega) (by omega) (by omega) (by omega) (by omega) (by omega)])
 clear HG
 by_cases hx : (gx && (decide (ga < 0) || decide (gb < 0))) = true
 ·
  have HX := zH (show goodG n k ⟨gx, ga, gb⟩ = false by rw [HG2.out, hx]; rfl)
  simp only [Bool.and_eq_true, Bool.or_eq_true, decide_eq_true_eq] at hx
  obtain ⟨rfl, hx⟩ := hx
  clear HG2
  by_cases hx1 : ga < 0
  all_goals
   go_wp2
   go_ret
   exact ⟨z16 (by rw [HX.out]), z01 hww _⟩
 ·
  have HX := zH (show goodG n k ⟨gx, ga, gb⟩ = !(n.gs.take k).contains ⟨gx, ga, gb⟩ by rw [HG2.out, Bool.eq_false_iff.2 hx]; rfl)
  have hx' : gx = true → 0 ≤ ga ∧ 0 ≤ gb := by
   intro e; subst e
   simp only [Bool.true_and, Bool.or_eq_true, decide_eq_true_eq] at hx
   omega
  clear HG2 hx
  have v1 : ((w.alloc (.cells #[.int .i64 n.ins, .slice (some ad) n.gs.length c] 29)).alloc (.cells #[.bool gx, .int .i64 ga, .int .i64 gb] 88)).cell? ⟨w.heap.size, 1, none⟩ = some (.slice (some ad) n.gs.length c) := by simp [go_sem]
  have v2 : ((w.alloc (.cells #[.int .i64 n.ins, .slice (some ad) n.gs.length c] 29)).alloc (.cells #[.bool gx, .int .i64 ga, .int .i64 gb] 88)).cell? ⟨w.heap.size + 1, 0, none⟩ = some (.bool gx) := by simp [go_sem]
  have v3 : ((w.alloc (.cells #[.int .i64 n.ins, .slice (some ad) n.gs.length c] 29)).alloc (.cells #[.bool gx, .int .i64 ga, .int .i64 gb] 88)).cell? ⟨w.heap.size + 1, 1, none⟩ = some (.int .i64 ga) := by simp [go_sem]
  have v4 : ((w.alloc (.cells #[.int .i64 n.ins, .slice (some ad) n.gs.length c] 29)).alloc (.cells #[.bool gx, .int .i64 ga, .int .i64 gb] 88)).cell? ⟨w.heap.size + 1, 2, none⟩ = some (.int .i64 gb) := by simp [go_sem]
  generalize ((w.alloc (.cells #[.int .i64 n.ins, .slice (some ad) n.gs.length c] 29)).alloc (.cells #[.bool gx, .int .i64 ga, .int .i64 gb] 88)) = W at *
  have hxx : gx = false ∨ (gx = true ∧ 0 ≤ ga ∧ 0 ≤ gb) := by
   cases gx
   · exact .inl rfl
   · exact .inr ⟨rfl, hx' rfl⟩
  clear hx'
  have hkk : (n.gs.take k).contains ⟨gx, ga, gb⟩ = true ↔ ∃ i', i' < k ∧ n.gs[i']? = some ⟨gx, ga, gb⟩ := by
   rw [List.contains_iff_mem, List.mem_iff_getElem?]
   constructor
   ·
    rintro ⟨i', hi'⟩
    rw [List.getElem?_take] at hi'
    split at hi'
    · exact ⟨i', by assumption, hi'⟩
    · cases hi'
   ·
    rintro ⟨i', h1, h2⟩
    exact ⟨i', by rw [List.getElem?_take, if_pos h1, h2]⟩
  have HKK := zH hkk
  have hW : Below w.heap.size w W := hww
  have HE := zH (fun (W : World) (g : G) => eqlG W g ⟨gx, ga, gb⟩)
  clear hkk
  rcases hxx with hxf | ⟨hxf, hx1, hx2⟩
  all_goals
   go_wp2
   clear hxf
   go_loopw [7] (fun i wr => ∃ j m : Nat, j ≤ k ∧ i = .int .i64 j ∧ wr = W.drewN m ∧ ∀ i', i' < j → n.gs[i']? ≠ some ⟨gx, ga, gb⟩) (fun i _ => k - (intOf i).toNat)
   case atStart => exact ⟨0, nq, Nat.zero_le _, rfl, rfl, fun i' h => absurd h (by omega)⟩
   case round =>
    obtain ⟨j, m, hj, rfl, rfl, hnot⟩ := hrel
    have HN := zH hnot
    clear hnot
    by_cases hlt : j < k
    ·
     have hjl : j < n.gs.length := by omega
     obtain ⟨ad', e, hf', hcj⟩ := h.at_gate hjl
     cases e
     obtain ⟨j1, j2, j3⟩ := gate_up hW hf' hcj
     have hj0 : (0 : Int) ≤ j := by omega
     have hj1 : (j : Int) < n.gs.length := by omega
     have hgj : n.gs[j]? = some n.gs[j] := List.getElem?_eq_getElem hjl
     have HGJ := zH hgj
     clear hgj hcj
     generalize n.gs[j] = gj at *
     by_cases hq : gj = ⟨gx, ga, gb⟩
     ·
      have he : ∀ W' : World, (binOp .eql 88 (.agg #[.bool gj.x, .int .i64 gj.a, .int .i64 gj.b]) (.agg #[.bool gx, .int .i64 ga, .int .i64 gb])).run Tryz.prog W' = .ok (.bool true) W' := fun W' => by rw [HE.out W' gj, decide_eq_true hq]
      have HQ := zH hq
      clear hq
      go_wp2
      go_quiet (fail)
      go_wp2
      go_ret
      exact ⟨z16 (by rw [HX.out, HKK.out.2 ⟨j, hlt, by rw [HGJ.out, HQ.out]⟩]; rfl), z01 (z01 hW _) _⟩
     ·
      have he : ∀ W' : World, (binOp .eql 88 (.agg #[.bool gj.x, .int .i64 gj.a, .int .i64 gj.b]) (.agg #[.bool gx, .int .i64 ga, .int .i64 gb])).run Tryz.prog W' = .ok (.bool false) W' := fun W' => by rw [HE.out W' gj, decide_eq_false hq]
      have HQ := zH hq
      clear hq
      go_wp2
      go_quiet (fail)
      go_wp2
      go_roundw
      case rel => exact ⟨j + 1, _, by omega, by go_num, rfl, fun i' hi' => by
       rcases Nat.lt_or_ge i' j with h' | h'
       · exact HN.out i' h'
       ·
        have : i' = j := by omega
        subst this; rw [HGJ.out]; intro e; injection e with e; exact HQ.out e⟩
      case measure => simp [intOf]; omega
    ·
     have : j = k := by omega
     subst this
     go_wp2
     go_ret
     refine ⟨z16 ?_, z01 hW _⟩
     rw [HX.out]
     have : ¬ (n.gs.take j).contains ⟨gx, ga, gb⟩ = true := by
      rw [HKK.out]; rintro ⟨i', h1, h2⟩; exact HN.out i' h1 h2
     simpa using this
end Go.Proofs.YtjghcaghigebjaaGreatDoor
