/- Marks on integers. -/
import Derived.WalkKit
import Derived.WalkSpells
import Derived.WalkLawsBesides
import Derived.Lib.Hide
import Derived.BigQuiet
import Derived.Deep.QuietTactic
import Derived.Laws.OwnMore
import Derived.Deep.AppendLies
import Derived.Deep.Draws
import Derived.Maps.AppendAt
import Derived.ProofKit
import Derived.OpenShut
import Derived.ShutString
import Derived.ChangeOld
import Derived.Deep.Slices
import Derived.Test.YtemdmlmcidfodaaGreatDoorChecked
namespace Go.Proofs.YtemdmlmcidfodaaGreatDoor
open Go Go.RowKit
theorem zA {α : Type _} (l : List α) (i : Nat) (a : α) : l.toArray.setIfInBounds i a = (l.set i a).toArray := List.setIfInBounds_toArray l i a
theorem zB {α : Type _} {a b : α} {l : List α} : (a :: l).set 0 b = b :: l := rfl
theorem zC {α : Type _} {a b : α} {n : Nat} {l : List α} : (a :: l).set (n + 1) b = a :: l.set n b := rfl
theorem zD {α : Type _} {x d : α} {l : List α} : (x :: l).getD 0 d = x := rfl
theorem zE {α : Type _} {x d : α} {n : Nat} {l : List α} : (x :: l).getD (n + 1) d = l.getD n d := rfl
theorem zN {a b : Nat} {P : Prop} (h : Nat.beq a b = false) (e : a = b) : P := absurd e (Nat.ne_of_beq_eq_false h)
theorem zK {α β γ : Sort _} {P : α → Prop} {R : β → γ → Prop} : ∀ (a : α) (x : β) (y : γ), P a → R x y → P a := fun _ _ _ h _ => h
@[simp, reducible] def zF (k : Nat) (v : Value) : (Nat → Value) → World → Prop := fun vs _ => vs k = v
theorem zL {k : Nat} {v : Value} {D : (Nat → Value) → (Nat → Value) → Prop} : ∀ (vs vs' : Nat → Value) (x : World), vs k = vs' k → D vs vs' → zF k v vs x → zF k v vs' x := fun _ _ _ h _ e => h.symm.trans e
theorem zG {k : Nat} {v : Value} {R : World → World → Prop} : ∀ (vs : Nat → Value) (x y : World), zF k v vs x → R x y → zF k v vs y := fun _ _ _ h _ => h
theorem zX {α β : Sort _} {a : α} {b : β} {i j : Nat} {P Q I : Prop} {w : World} (h : I) (e : Nat.beq i j = false) : a = a ∧ b = b ∧ ((i = j → P) ∧ (Q → Below w.heap.size w w)) ∧ I := ⟨rfl, rfl, ⟨zN e, fun _ => Below.refl _ _⟩, h⟩
theorem zS (P : Value → World → Prop) {R : World → World → Prop} (h : ∀ v y z, P v y → R y z → P v z) {i : Nat} : ∀ (vs : Nat → Value) x y, P (vs i) x → R x y → P (vs i) y := fun vs x y => h (vs i) x y
theorem zQ : (∀ {α : Type} (l : List α) (i : Nat) (a : α), l.toArray.setIfInBounds i a = (l.set i a).toArray) ∧ (∀ {α : Type} {a b : α} {l : List α}, (a :: l).set 0 b = b :: l) ∧ (∀ {α : Type} {a b : α} {n : Nat} {l : List α}, (a :: l).set (n + 1) b = a :: l.set n b) := ⟨zA, zB, zC⟩
theorem zR : (∀ {α : Type} {x d : α} {l : List α}, (x :: l).getD 0 d = x) ∧ (∀ {α : Type} {x d : α} {n : Nat} {l : List α}, (x :: l).getD (n + 1) d = l.getD n d) := ⟨zD, zE⟩
theorem zT {A B C : Prop} {P P' : (Nat → Value) → Prop} {R R' : World → World → Prop} : (A ∨ ∀ (a : Nat → Value) x y, P a → R x y → P a) ∧ (B ∨ C ∨ ∀ (a : Nat → Value) x y, P' a → R' x y → P' a) ∧ True := ⟨.inr zK, .inr (.inr zK), trivial⟩
theorem zU {A B C : Prop} {k : Nat} {v : Value} {R R' : World → World → Prop} : (A ∨ ∀ (a : Nat → Value) x y, zF k v a x → R x y → zF k v a y) ∧ (B ∨ C ∨ ∀ (a : Nat → Value) x y, zF k v a x → R' x y → zF k v a y) ∧ True := ⟨.inr zG, .inr (.inr zG), trivial⟩
theorem zY {α β : Sort _} {a : α} {b : β} {i j i' j' : Nat} {P Q P' Q' I : Prop} {w : World} (h : I) (e : Nat.beq i j = false) (e' : Nat.beq i' j' = false) : a = a ∧ b = b ∧ ((i = j → P) ∧ (Q → ((i' = j' → P') ∧ (Q' → Below w.heap.size w w)))) ∧ I := ⟨rfl, rfl, ⟨zN e, fun _ => ⟨zN e', fun _ => Below.refl _ _⟩⟩, h⟩
theorem zH {p : Prop} (h : p) : Hid p := h
end Go.Proofs.YtemdmlmcidfodaaGreatDoor
namespace Go.Proofs.YtemdmlmcidfodaaGreatDoor
open Go Go.RowKit
theorem z12 (a : Addr) (n : Nat) : (a.add n).block = a.block:=by unfold Addr.add; split <;> rfl
theorem add_of_add (a : Addr) (i j : Nat) : (a.add i).add j = a.add (i + j):=by
 unfold Addr.add
 by_cases hi : i = 0 <;> by_cases hj : j = 0 <;> simp [hi,hj,Nat.add_assoc]
structure Lay (α : Type) where
 size : Nat
 R : World -> (Nat -> Prop) -> α -> List Value -> Prop
 len : ∀ {w F x vs},R w F x vs -> vs.length = size
 keep : ∀ {w w' F x vs},(∀ b,F b -> w'.heap[b]? = w.heap[b]?) -> R w F x vs -> R w' F x vs
 mono : ∀ {w F G x vs},(∀ b,F b -> G b) -> R w F x vs -> R w G x vs
def Lay.Sl {α : Type} (L : Lay α) (w : World) (F : Nat -> Prop) (A : Option Addr) (xs : List α) : Prop :=
 0 < xs.length -> ∃ ad,A = some ad /\ F ad.block /\ ∀ k x,xs[k]? = some x -> ∃ vs,L.R w F x vs /\ ∀ j u,vs[j]? = some u -> w.cell? (ad.add (k * L.size + j)) = some u
theorem Lay.Sl.nil {α : Type} (L : Lay α) (w : World) (F : Nat -> Prop) (A : Option Addr) : L.Sl w F A []:=fun h => absurd h (by simp)
theorem Lay.Sl.keep {α : Type} {L : Lay α} {w w' : World} {F : Nat -> Prop} {A : Option Addr} {xs : List α} (h : L.Sl w F A xs) (hk : ∀ b,F b -> w'.heap[b]? = w.heap[b]?) : L.Sl w' F A xs:=fun hn => by
 obtain ⟨ad,e,hf,hc⟩:=h hn; refine ⟨ad,e,hf,fun k x hx => ?_⟩; obtain ⟨vs,hr,hcell⟩:=hc k x hx; exact ⟨vs,L.keep hk hr,fun j u hu => (World.cell?_of_block (w:=w) (by rw [z12]; exact hk _ hf)).trans (hcell j u hu)⟩
theorem Lay.Sl.mono {α : Type} {L : Lay α} {w : World} {F G : Nat -> Prop} {A : Option Addr} {xs : List α} (h : L.Sl w F A xs) (hk : ∀ b,F b -> G b) : L.Sl w G A xs:=fun hn => by
 obtain ⟨ad,e,hf,hc⟩:=h hn; refine ⟨ad,e,hk _ hf,fun k x hx => ?_⟩; obtain ⟨vs,hr,hcell⟩:=hc k x hx; exact ⟨vs,L.mono hk hr,hcell⟩
theorem Lay.Sl.take {α : Type} {L : Lay α} {w : World} {F : Nat -> Prop} {A : Option Addr} {xs : List α} (h : L.Sl w F A xs) (n : Nat) : L.Sl w F A (xs.take n):=fun hn => by
 obtain ⟨ad,e,hf,hc⟩:=h (by simp at hn; omega); refine ⟨ad,e,hf,fun k x hx => hc k x ?_⟩; rw [List.getElem?_take] at hx
 split at hx
 · exact hx
 · cases hx
def Lay.slice {α : Type} (L : Lay α) : Lay (List α) where
 size:=1
 R w F xs vs:=∃ A c,vs = [.slice A xs.length c] /\ xs.length <= c /\ L.Sl w F A xs
 len:=by rintro w F x vs ⟨A,c,rfl,_⟩; rfl
 keep:=by rintro w w' F x vs hk ⟨A,c,rfl,hl,h⟩; exact ⟨A,c,rfl,hl,h.keep hk⟩
 mono:=by rintro w F G x vs hk ⟨A,c,rfl,hl,h⟩; exact ⟨A,c,rfl,hl,h.mono hk⟩
def Lay.flat {α : Type} (n : Nat) (cells : α -> List Value) (h : ∀ x,(cells x).length = n) : Lay α where
 size:=n
 R _ _ x vs:=vs = cells x
 len:=by rintro w F x vs rfl; exact h x
 keep:=by rintro w w' F x vs _ h; exact h
 mono:=by rintro w F G x vs _ h; exact h
def Lay.int : Lay Int:=Lay.flat 1 (fun x => [.int .i64 x]) (fun _ => rfl)
def Lay.bool : Lay Bool:=Lay.flat 1 (fun x => [.bool x]) (fun _ => rfl)
def Lay.byte : Lay UInt8:=Lay.flat 1 (fun x => [.int .u8 (x.toNat : Int)]) (fun _ => rfl)
def Lay.str : Lay ByteArray:=Lay.flat 1 (fun x => [.string x]) (fun _ => rfl)
theorem Lay.Sl.at_int {w : World} {F : Nat -> Prop} {A : Option Addr} {xs : List Int} (h : Lay.int.Sl w F A xs) {k : Nat} (hk : k < xs.length) :
  ∃ ad,A = some ad /\ F ad.block /\ w.cell? (ad.add k) = some (.int .i64 xs[k]):=by
 obtain ⟨ad,e,hf,hc⟩:=h (by omega); obtain ⟨vs,rfl,hcell⟩:=hc k xs[k] (List.getElem?_eq_getElem hk); exact ⟨ad,e,hf,by simpa [Lay.int,Lay.flat] using hcell 0 _ rfl⟩
theorem Lay.Sl.at_bool {w : World} {F : Nat -> Prop} {A : Option Addr} {xs : List Bool} (h : Lay.bool.Sl w F A xs) {k : Nat} (hk : k < xs.length) :
  ∃ ad,A = some ad /\ F ad.block /\ w.cell? (ad.add k) = some (.bool xs[k]):=by
 obtain ⟨ad,e,hf,hc⟩:=h (by omega); obtain ⟨vs,rfl,hcell⟩:=hc k xs[k] (List.getElem?_eq_getElem hk); exact ⟨ad,e,hf,by simpa [Lay.bool,Lay.flat] using hcell 0 _ rfl⟩
theorem Lay.Sl.at_byte {w : World} {F : Nat -> Prop} {A : Option Addr} {xs : List UInt8} (h : Lay.byte.Sl w F A xs) {k : Nat} (hk : k < xs.length) :
  ∃ ad,A = some ad /\ F ad.block /\ w.cell? (ad.add k) = some (.int .u8 (xs[k].toNat : Int)):=by
 obtain ⟨ad,e,hf,hc⟩:=h (by omega); obtain ⟨vs,rfl,hcell⟩:=hc k xs[k] (List.getElem?_eq_getElem hk); exact ⟨ad,e,hf,by simpa [Lay.byte,Lay.flat] using hcell 0 _ rfl⟩
theorem Lay.Sl.at_slice {α : Type} {L : Lay α} {w : World} {F : Nat -> Prop} {A : Option Addr} {xs : List (List α)} (h : L.slice.Sl w F A xs) {k : Nat} (hk : k < xs.length) :
  ∃ ad A' c',A = some ad /\ F ad.block /\ w.cell? (ad.add k) = some (.slice A' xs[k].length c') /\ xs[k].length <= c' /\ L.Sl w F A' xs[k]:=by
 obtain ⟨ad,e,hf,hc⟩:=h (by omega); obtain ⟨vs,⟨A',c',rfl,hl,hs⟩,hcell⟩:=hc k xs[k] (List.getElem?_eq_getElem hk); exact ⟨ad,A',c',e,hf,by simpa [Lay.slice] using hcell 0 _ rfl,hl,hs⟩
theorem Lay.Sl.of_own {α : Type} {L : Lay α} {w : World} {F : Nat -> Prop} {base : Nat} {e : TypeId} {A : Option Addr} {n c : Nat} {cs : List Value} {xs : List α}
  (h : w.ownsRow base e L.size (.slice A n c) n cs) (hn : n = xs.length) (hF : ∀ g,base <= g -> g < w.heap.size -> F g)
  (hx : ∀ k x,xs[k]? = some x -> ∃ vs,L.R w F x vs /\ ∀ j u,vs[j]? = some u -> cs[k * L.size + j]? = some u) : L.Sl w F A xs:=by
 intro h0; obtain ⟨g,cap,hv,hg,hlt⟩:=h.form (by omega); have hA : A = some ⟨g,0,none⟩:=by injection hv
 subst hA; refine ⟨_,rfl,hF _ hg hlt,fun k x hk => ?_⟩; obtain ⟨vs,hr,hcs⟩:=hx k x hk; exact ⟨vs,hr,fun j u hu => h.cells (g:=g) rfl _ _ (hcs j u hu)⟩
theorem bcell {W w1 : World} {B : Nat} (hb : Below B W w1) : (∀ b o,b < B -> w1.cell? ⟨b,o,none⟩ = W.cell? ⟨b,o,none⟩) /\ (∀ b o,b < B -> w1.frozen? ⟨b,o,none⟩ = W.frozen? ⟨b,o,none⟩) :=
 ⟨fun b o h => hb.cell (p:=⟨b,o,none⟩) h,fun b o h => hb.frozen (p:=⟨b,o,none⟩) h⟩
theorem Lay.Sl.below {α : Type} {L : Lay α} {w w' : World} {B : Nat} {F : Nat -> Prop} {A : Option Addr} {xs : List α} (h : L.Sl w F A xs) (hb : Below B w w') (hF : ∀ b,F b -> b < B) : L.Sl w' F A xs :=
 h.keep fun b hf => hb.block b (hF b hf)
abbrev Lay.Rd {α : Type} (L : Lay α) (w : World) (A : Option Addr) (xs : List α) : Prop:=L.Sl w (fun b => b < w.heap.size) A xs
theorem Lay.Sl.up {α : Type} {L : Lay α} {w w' : World} {A : Option Addr} {xs : List α} (h : L.Rd w A xs) (hb : Below w.heap.size w w') : L.Rd w' A xs :=
 (h.below hb (fun _ h => h)).mono fun b hlt => Nat.lt_of_lt_of_le hlt hb.size
theorem Lay.Sl.rd {α : Type} {L : Lay α} {w : World} {lo : Nat} {A : Option Addr} {xs : List α} (h : L.Sl w (fun b => lo <= b /\ b < w.heap.size) A xs) : L.Rd w A xs:=h.mono fun _ h => h.2
theorem z02 {B : Nat} {a w : World} (h : Below B a w) (n : Nat) : Below B a (w.drewN n):=⟨h.os,h.tape,h.output,h.size,h.block⟩
theorem z09 {a w w' : World} (h : Below a.heap.size a w) (h' : Below w.heap.size w w') : Below a.heap.size a w':=h.trans (h'.mono h.size)
theorem own_kept_lt {w w' : World} {base r : Nat} {e : TypeId} {size n : Nat} {v : Value} {xs : List Value} (h : w.ownsRow base e size v n xs) (hg : w.grownBy w' (some r)) (hr : r < base) : w'.ownsRow base e size v n xs :=
 h.kept hg (by
  rcases hv : v.ownBlock with _ | g
  · exact .inl rfl
  ·
   refine .inr (fun e => ?_); have:=(h.lt g hv).1
   injection e with e; omega)
theorem z0e {w w' : World} {base B : Nat} {e : TypeId} {size n : Nat} {v : Value} {xs : List Value} (h : w.ownsRow base e size v n xs) (hb : Below B w w') (hB : w.heap.size <= B) : w'.ownsRow base e size v n xs :=
 h.kept (row:=none) ⟨hb.os,hb.tape,hb.output,hb.size,fun k hk _ => hb.block k (Nat.lt_of_lt_of_le hk hB)⟩ (by
  rcases v.ownBlock with _ | g
  · exact .inl rfl
  · exact .inr (by simp))
theorem wpList_append1 {P : Program} {W : World} {ops : Array Oper} {rest : List Oper} {o : Oper} {a : Act} {Q : Exit -> Act -> World -> Prop} (hgd : o.guard = none) (s x : Operand) (t : TypeId)
  (ho : o.op = .call { callee:=.builtin .append,args:=#[s,x],argTypes:=#[t,t] })
  (base : Nat) (e : TypeId) (i : TypeInfo) (z : Value) (bytes : Nat) (ht : P.underlying t = some (.slice e)) (hi : P.info? e = some i) (hz : i.zero = some z)
  (hsize : i.size = 1) (hby : i.bytes = bytes) (hzs : z.cells.size = 1)
  (v : Value) (n : Nat) (xs : List Value) (u : Value) (e' : TypeId) (hs : a.eval s = v) (hown : W.ownsRow base e 1 v n xs)
  (hx : a.eval x = .slice (some ⟨W.heap.size,0,none⟩) 1 1) (h1 : u.oneCell' = true)
  (h63 : n + 1 <= maxLen) (hbytes : (n + 1) * bytes <= 140737488355328) (hbase : base <= W.heap.size)
  (h : ∀ v' w',w'.ownsRow base e 1 v' (n + 1) (xs ++ [u]) -> Below base W w' -> wpList P ops Q rest (a.put o.dst v') w') : wpList P ops Q (o :: rest) a (W.alloc (.cells #[u] e')):=by
 refine wpList_append_own _ hgd s x t ho base e i z 1 bytes ht hi hz hsize hby hzs (by decide) v n xs hs (hown.alloc _) ⟨W.heap.size,0,none⟩ 1 1 [u] hx rfl
  (cell_one_new _ _ _) (by simpa using h1) h63 hbytes (by simp; omega) ?_
 intro v' w' hown' hg _; exact h v' w' hown' (((Below.refl _ _).alloc hbase _).grown hg (by simp; omega) (fun k hk => (hown.lt k hk).1))
theorem ret_int {k : IntKind} {a b : Int} (h : a = b) : Ending.returned (.int k a) = .returned (.int k b):=by rw [h]
theorem z0m {a b : Bool} (h : a = b) : Ending.returned (.bool a) = .returned (.bool b):=by rw [h]
def RetB (w : World) (b : Bool) (e : Ending) (w' : World) : Prop:=e = .returned (.bool b) /\ Below w.heap.size w w'
def i64s (xs : List Int) : Prop:=∀ l ∈ xs,-9223372036854775808 <= l /\ l <= 9223372036854775807
def LawC (w : World) (e : Ending) (w' : World) : Prop:=e = .returned (.bool true) /\ Below w.heap.size w w'
structure z0f (w : World) where
 W : World
 le : Below w.heap.size w W
instance (w : World) : Nonempty (z0f w):=⟨⟨w,Below.refl _ _⟩⟩
theorem z0f.cell {w : World} {a : Addr} {v : Value} (h : w.cell? a = some v) (x : z0f w) : x.W.cell? a = some v :=
 (x.le.cell (World.block_lt_of_cell? w a h)).trans h
theorem z0f.frozen {w : World} {a : Addr} {v : Value} {b : Bool} (h : w.cell? a = some v) (hf : w.frozen? a = b) (x : z0f w) : x.W.frozen? a = b :=
 (x.le.frozen (World.block_lt_of_cell? w a h)).trans hf
theorem wp_region_later {P : Program} {id : Nat} {Q : Exit -> Act -> World -> Prop} {a : Act} {w : World} {l : List Oper} (hm : P.follows .mixedOrders = true) (hB : Region.lexB .any l.toArray = true)
  (h : wpQuiet P l.toArray (fun w' => ∃ x : z0f w,w' = x.W) (fun a' => ∀ w',(∃ x : z0f w,w' = x.W) -> Q .normal a' w') l a) : (Code.region id l.toArray true).wp P Q a w :=
 wp_region_quiet (C:=fun w' => ∃ x : z0f w,w' = x.W) hm hB ⟨⟨w.drewN 1,z02 (Below.refl _ _) 1⟩,rfl⟩ (by simpa using h)
theorem z2a {P : Program} {f : FuncId} {args : Array Value} {w : World} {x : z0f w} {v : Value}
  (h : Calls P f args x.W fun e w' => e = .returned v /\ Below x.W.heap.size x.W w') : Calls P f args x.W fun e w'' => e = .returned v /\ ∃ y : z0f w,w'' = y.W :=
 h.mono fun _ _ ⟨he,hb⟩ => ⟨he,⟨_,z09 x.le hb⟩,rfl⟩
theorem later_of_same {P : Program} {f : FuncId} {args : Array Value} {w : World} {x : z0f w} {v : Value}
  (h : Calls P f args x.W fun e w' => e = .returned v /\ x.W = w') : Calls P f args x.W fun e w'' => e = .returned v /\ ∃ y : z0f w,w'' = y.W :=
 h.mono fun _ _ ⟨he,hb⟩ => ⟨he,x,hb.symm⟩
theorem Lay.Sl.far {α : Type} {L : Lay α} {w : World} {F : Nat -> Prop} {A : Option Addr} {xs : List α} (h : L.Sl w F A xs) (p : Addr) (u : Value) (hF : ∀ b,F b -> b ≠ p.block) : L.Sl (w.setCell p u) F A xs :=
 h.keep fun b hb => Below.heap_setCell w p u b (hF b hb)
theorem own_mono {w : World} {base base' : Nat} {e : TypeId} {size n : Nat} {v : Value} {xs : List Value} (h : w.ownsRow base e size v n xs) (hb : base' <= base) : w.ownsRow base' e size v n xs:=by
 refine ⟨h.1,?_⟩
 rcases h.2 with h2 | ⟨g,cap,cur,h1,h2,h3⟩
 · exact .inl h2
 · exact .inr ⟨g,cap,cur,h1,Nat.le_trans hb h2,h3⟩
theorem own_far {w : World} {base : Nat} {e : TypeId} {size n : Nat} {v : Value} {xs : List Value} (h : w.ownsRow base e size v n xs) (p : Addr) (u : Value) (hp : p.block < base) : (w.setCell p u).ownsRow base e size v n xs :=
 ownsRow_setCell_below h hp u
theorem z06 {a w : World} {g : Nat} (h : a.grownBy w (some g)) (o : Nat) (u : Value) : a.grownBy (w.setCell ⟨g,o,none⟩ u) (some g) :=
 ⟨h.os,h.tape,h.output,by simpa [World.setCell] using h.size,fun i hi hne => (Below.heap_setCell w ⟨g,o,none⟩ u i (fun e => hne (by rw [e]))).trans (h.block i hi hne)⟩
theorem Lay.Sl.drewN {α : Type} {L : Lay α} {w : World} {F : Nat -> Prop} {A : Option Addr} {xs : List α} (h : L.Sl w F A xs) (n : Nat) : L.Sl (w.drewN n) F A xs:=h.keep fun _ _ => rfl
theorem z13 {P : Program} {f : FuncId} {args : Array Value} {w : World} {n : Nat} {v : Value}
  (h : Calls P f args (w.drewN n) fun e w' => e = .returned v /\ w.drewN n = w') : Calls P f args (w.drewN n) fun e w'' => e = .returned v /\ ∃ m,w'' = w.drewN m :=
 h.mono fun _ _ ⟨he,hm⟩ => ⟨he,n,hm.symm⟩
inductive Kin : Value -> Value -> Prop
 | same (v : Value) : Kin v v
 | int (a b : Int) : Kin (.int .i64 a) (.int .i64 b)
 | bool (a b : Bool) : Kin (.bool a) (.bool b)
 | str (a b : ByteArray) : Kin (.string a) (.string b)
theorem Kin.trans {a b c : Value} (h : Kin a b) (h' : Kin b c) : Kin a c:=by
 cases h <;> cases h' <;> constructor
theorem Kin.ofInt {a : Int} {v : Value} (h : Kin (.int .i64 a) v) : ∃ b,v = .int .i64 b:=by
 cases h
 · exact ⟨a,rfl⟩
 · exact ⟨_,rfl⟩
structure Dab (F : Nat -> Prop) (w w' : World) : Prop where
 os : w'.os = w.os
 tape : w'.tape = w.tape
 output : w'.output = w.output
 size : w.heap.size <= w'.heap.size
 block : ∀ b,b < w.heap.size -> ¬ F b -> w'.heap[b]? = w.heap[b]?
 kin : ∀ a v,w.cell? a = some v -> ∃ v',w'.cell? a = some v' /\ Kin v v'
 frz : ∀ a : Addr,a.block < w.heap.size -> w'.frozen? a = w.frozen? a
theorem Dab.refl (F : Nat -> Prop) (w : World) : Dab F w w:=⟨rfl,rfl,rfl,Nat.le_refl _,fun _ _ _ => rfl,fun _ v h => ⟨v,h,.same v⟩,fun _ _ => rfl⟩
theorem Dab.trans {F : Nat -> Prop} {a b c : World} (h : Dab F a b) (k : Dab F b c) : Dab F a c:=by
 refine ⟨k.os.trans h.os,k.tape.trans h.tape,k.output.trans h.output,Nat.le_trans h.size k.size,fun i hi hn => (k.block i (Nat.lt_of_lt_of_le hi h.size) hn).trans (h.block i hi hn),fun p v hv => ?_,fun p hp => (k.frz p (Nat.lt_of_lt_of_le hp h.size)).trans (h.frz p hp)⟩; obtain ⟨v1,h1,k1⟩:=h.kin p v hv; obtain ⟨v2,h2,k2⟩:=k.kin p v1 h1; exact ⟨v2,h2,k1.trans k2⟩
theorem Dab.mono {F G : Nat -> Prop} {w w' : World} (h : Dab F w w') (hFG : ∀ b,F b -> G b) : Dab G w w':=⟨h.os,h.tape,h.output,h.size,fun b hb hn => h.block b hb (fun hf => hn (hFG b hf)),h.kin,h.frz⟩
theorem Dab.of {F : Nat -> Prop} {w w' : World} (h : Below w.heap.size w w') : Dab F w w':=by
 have hlt : ∀ p v,w.cell? p = some v -> p.block < w.heap.size:=fun p v hv => World.block_lt_of_cell? w p hv
 exact ⟨h.os,h.tape,h.output,h.size,fun b hb _ => h.block b hb,fun p v hv => ⟨v,(World.cell?_of_block (h.block _ (hlt p v hv))).trans hv,.same v⟩,fun p hp => World.frozen?_of_block (h.block _ hp)⟩
theorem Dab.set {F : Nat -> Prop} {w : World} {p : Addr} {u z : Value} (hF : F p.block) (hz : w.cell? p = some z) (hk : Kin z u) : Dab F w (w.setCell p u):=by
 refine ⟨rfl,rfl,rfl,by simp [World.setCell],fun b _ hn => Below.heap_setCell w p _ b (fun e => hn (e ▸ hF)),fun a v hv => ?_,fun a _ => World.frozen?_setCell _ _ _ _⟩
 by_cases e : p = a
 ·
  subst e; rw [hz] at hv
  injection hv with hv
  subst hv; exact ⟨u,World.cell?_setCell_same _ _ _ hz,hk⟩
 · exact ⟨v,(World.cell?_setCell_other _ _ _ _ e).trans hv,.same v⟩
theorem Dab.then {F : Nat -> Prop} {a b c : World} (h : Below a.heap.size a b) (k : Dab F b c) : Dab F a c:=(Dab.of h).trans k
theorem Dab.below {F : Nat -> Prop} {w w' : World} {B : Nat} (h : Dab F w w') (hB : B <= w.heap.size) (hF : ∀ b,F b -> B <= b) : Below B w w' :=
 ⟨h.os,h.tape,h.output,h.size,fun b hb => h.block b (Nat.lt_of_lt_of_le hb hB) (fun hf => absurd (hF b hf) (by omega))⟩
def IntsAt (w : World) (F : Nat -> Prop) (A : Option Addr) (n : Nat) : Prop :=
 0 < n -> ∃ ad,A = some ad /\ F ad.block /\ ∀ k,k < n -> (∃ z,w.cell? (ad.add k) = some (.int .i64 z)) /\ w.frozen? (ad.add k) = false
theorem IntsAt.mono {w : World} {F G : Nat -> Prop} {A : Option Addr} {n : Nat} (h : IntsAt w F A n) (hFG : ∀ b,F b -> G b) : IntsAt w G A n:=fun hn => by
 obtain ⟨ad,e,hf,hc⟩:=h hn; exact ⟨ad,e,hFG _ hf,hc⟩
theorem IntsAt.of {w : World} {F G : Nat -> Prop} {A : Option Addr} {xs : List Int} (h : Lay.int.Sl w F A xs) (hF : ∀ b,F b -> G b /\ ∀ o,w.frozen? ⟨b,o,none⟩ = false) : IntsAt w G A xs.length:=fun hn => by
 obtain ⟨ad,e,hf,hc⟩:=h hn; refine ⟨ad,e,(hF _ hf).1,fun k hk => ?_⟩; obtain ⟨vs,rfl,hcell⟩:=hc k xs[k] (List.getElem?_eq_getElem hk); refine ⟨⟨xs[k],by simpa [Lay.int,Lay.flat] using hcell 0 _ rfl⟩,?_⟩; have:=(hF _ hf).2 (ad.add k).off; rw [<- this]; unfold World.frozen?; rw [z12]
def RowsAt (w : World) (F : Nat -> Prop) (A : Option Addr) (ns : List Nat) : Prop :=
 0 < ns.length -> ∃ ad,A = some ad /\ ∀ k (h : k < ns.length),∃ A' c',w.cell? (ad.add k) = some (.slice A' ns[k] c') /\ IntsAt w F A' ns[k]
theorem RowsAt.of {w : World} {F G : Nat -> Prop} {A : Option Addr} {xs : List (List Int)} (h : Lay.int.slice.Sl w F A xs) (hF : ∀ b,F b -> G b /\ ∀ o,w.frozen? ⟨b,o,none⟩ = false) : RowsAt w G A (xs.map List.length):=fun hn => by
 obtain ⟨ad,e,_,_⟩:=h (by simpa using hn); refine ⟨ad,e,fun k hk => ?_⟩; obtain ⟨ad2,A',c',e2,_,hc,_,hs⟩:=h.at_slice (k:=k) (by simpa using hk); rw [e] at e2
 injection e2 with e2
 subst e2; rw [List.getElem_map]; exact ⟨A',c',hc,IntsAt.of hs hF⟩
end Go.Proofs.YtemdmlmcidfodaaGreatDoor
namespace Go.Proofs.YtemdmlmcidfodaaGreatDoor
open Go Go.RowKit Go.ChangeShapes Go.WideShapes Go.Deep
def z1w {α : Type} (P : Program) (t : TypeId) (L : Lay α) (ok : α -> Prop) : Prop :=
 ∀ (H : Type) (enc : TypeId × Value -> H) (w : World) (base : Nat) (spare : Nat -> Bool) (held : Bool) (fuel : Nat) (cs : List Value) (x : DataW H × List MemPlace),
  DataW.trod enc P w base spare held fuel t cs = some x -> ∃ a,ok a /\ L.R w (fun b => b < w.heap.size) a cs
def z15 (n : Int) : Prop:=-9223372036854775808 <= n /\ n <= 9223372036854775807
theorem z1w.int {P : Program} {t : TypeId} (ht : P.underlying t = some (.int .i64)) : z1w P t Lay.int z15:=by
 intro H enc w base spare held fuel cs x h; obtain ⟨n,rfl,_,hwf⟩:=DataW.trod_int ht h; refine ⟨n,?_,rfl⟩; have:=bounds_i64 hwf; unfold z15; omega
theorem z1w.bool {P : Program} {t : TypeId} (ht : P.underlying t = some .bool) : z1w P t Lay.bool (fun _ => True):=by
 intro H enc w base spare held fuel cs x h; obtain ⟨n,rfl,_⟩:=DataW.trod_bool ht h; exact ⟨n,trivial,rfl⟩
theorem z1w.str {P : Program} {t : TypeId} (ht : P.underlying t = some .string) : z1w P t Lay.str (fun s => s.size <= maxLen):=by
 intro H enc w base spare held fuel cs x h; obtain ⟨s,rfl,_,hs⟩:=DataW.trod_string ht h; exact ⟨s,hs,rfl⟩
theorem z1w.byte {P : Program} {t : TypeId} (ht : P.underlying t = some (.int .u8)) : z1w P t Lay.byte (fun _ => True):=by
 intro H enc w base spare held fuel cs x h; obtain ⟨n,rfl,_,hwf⟩:=DataW.trod_int ht h; have:=bounds_u8 hwf; refine ⟨UInt8.ofNat n.toNat,trivial,?_⟩; have : ((UInt8.ofNat n.toNat).toNat : Int) = n:=by
  rw [UInt8.toNat_ofNat']; omega
 show [Value.int .u8 n] = [Value.int .u8 _]
 rw [this]
theorem list_of_forall {α : Type} (n : Nat) (p : Nat -> α -> Prop) (h : ∀ i,i < n -> ∃ a,p i a) : ∃ xs : List α,xs.length = n /\ ∀ i x,xs[i]? = some x -> p i x:=by
 induction n with
 | zero => exact ⟨[],rfl,by simp⟩
 | succ n ih =>
  obtain ⟨xs,hl,hp⟩:=ih fun i hi => h i (by omega)
  obtain ⟨a,ha⟩:=h n (by omega); refine ⟨xs ++ [a],by simp [hl],fun i x hx => ?_⟩
  rcases Nat.lt_or_ge i n with hi | hi
  ·
   rw [List.getElem?_append_left (by omega)] at hx; exact hp i x hx
  ·
   rw [List.getElem?_append_right (by omega),hl] at hx; have : i = n:=by
    rcases Nat.eq_or_lt_of_le hi with e | e
    · exact e.symm
    · rw [List.getElem?_eq_none (by simp; omega)] at hx; cases hx
   subst this; simp at hx; subst hx; exact ha
theorem z1w.slice {α : Type} {P : Program} {t e : TypeId} {L : Lay α} {ok : α -> Prop} (ht : P.underlying t = some (.slice e)) (hc : P.cellsOf e = L.size) (hs : 0 < L.size) (ho : z1w P e L ok) :
  z1w P t L.slice (fun xs => xs.length <= maxLen /\ ∀ x ∈ xs,ok x):=by
 intro H enc w base spare held fuel cs x h
 rcases open_slice ht h with ⟨rfl,_⟩ | ⟨a,len,cap,m,n,D,Pl,rfl,_,hl,hm,hmm,_,hi⟩
 · exact ⟨[],⟨by simp,by simp⟩,none,0,rfl,by simp,.nil L w _ _⟩
 ·
  have hle : len <= m:=by rw [hmm]; split <;> omega
  obtain ⟨xs,hxl,hx⟩:=list_of_forall len (fun i a' => ok a' /\ ∃ vs,L.R w (fun b => b < w.heap.size) a' vs /\ ∀ j u,vs[j]? = some u -> w.cell? (a.add (i * L.size + j)) = some u) (by
   intro i hil; obtain ⟨cs',hcell,htr⟩:=hi i (by omega); obtain ⟨a',hok,hr⟩:=ho H enc w base spare held n cs' _ htr; refine ⟨a',hok,cs',hr,fun j u hu => ?_⟩; obtain ⟨_,hcl,hat⟩:=World.cells?_some hcell; have hj : j < cs'.length:=by
    rcases Nat.lt_or_ge j cs'.length with hj | hj
    · exact hj
    · rw [List.getElem?_eq_none hj] at hu; cases hu
   have h1:=hat j (by omega); rw [hc,add_of_add] at h1; rw [h1,hu])
  refine ⟨xs,⟨by omega,fun x hmem => ?_⟩,some a,cap,by rw [hxl],by omega,fun h0 => ⟨a,rfl,?_,fun k x hk => (hx k x hk).2⟩⟩
  ·
   obtain ⟨i,hi',rfl⟩:=List.getElem_of_mem hmem; exact (hx i _ (List.getElem?_eq_getElem hi')).1
  ·
   obtain ⟨_,vs,hr,hcell⟩:=hx 0 xs[0] (List.getElem?_eq_getElem h0); have hvl:=L.len hr; have h1:=hcell 0 vs[0] (List.getElem?_eq_getElem (by omega)); have:=World.block_lt_of_cell? w _ h1
   rwa [z12] at this
theorem z1w.field {α : Type} {P : Program} {t : TypeId} {fs : Array Field} {L : Lay α} {ok : α -> Prop} {H : Type} {enc : TypeId × Value -> H} {w : World} {base : Nat} {spare : Nat -> Bool} {held : Bool} {fuel : Nat} {cs : List Value}
  {x : DataW H × List MemPlace} (ht : P.underlying t = some (.struct fs)) (h : DataW.trod enc P w base spare held fuel t cs = some x) (i : Nat) (f : Field) (hf : fs[i]? = some f) (ho : z1w P f.type L ok) :
  ∃ a,ok a /\ L.R w (fun b => b < w.heap.size) a ((cs.drop f.offset).take (P.cellsOf f.type)):=by
 obtain ⟨xs,n,_,_,_,hxl,hfld⟩:=DataW.trod_struct ht h; have h1:=hfld i f hf; have hi : i < fs.size:=(Array.getElem?_eq_some_iff.1 hf).1; rw [List.getElem?_eq_getElem (by omega)] at h1; exact ho H enc w base spare held n _ _ h1
theorem trod_cells {P : Program} {t : TypeId} {fs : Array Field} {H : Type} {enc : TypeId × Value -> H} {w : World} {base : Nat} {spare : Nat -> Bool} {held : Bool} {fuel : Nat} {cs : List Value}
  {x : DataW H × List MemPlace} (ht : P.underlying t = some (.struct fs)) (h : DataW.trod enc P w base spare held fuel t cs = some x) : cs.length = P.cellsOf t:=by
 obtain ⟨xs,n,_,_,hl,_,_⟩:=DataW.trod_struct ht h; exact hl
theorem open_arg {α : Type} {P : Program} {t e : TypeId} {L : Lay α} {ok : List α -> Prop} (ht : P.underlying t = some (.slice e)) (ho : z1w P t L.slice ok) {H : Type} {enc : TypeId × Value -> H} {r : Reach} {b0 : Nat} {w : World} {base : Nat}
  {spare : Nat -> Bool} {held : Bool} {v : Value} {d : DataW H} {p : List MemPlace} (hv : Value.okWide P w r b0 t v) (h : DataW.Trod enc P w base spare held t v d p) :
  ∃ A c xs,v = .slice A xs.length c /\ xs.length <= c /\ ok xs /\ L.Rd w A xs:=by
 obtain ⟨A,n,c,rfl⟩:=okWide_slice ht hv; obtain ⟨fuel,hf⟩:=h; obtain ⟨xs,hok,A',c',hcs,hl,hr⟩:=ho H enc w base spare held fuel _ _ hf; simp [Value.cells] at hcs; obtain ⟨rfl,rfl,rfl⟩:=hcs; exact ⟨A,c,xs,rfl,hl,hok,hr⟩
end Go.Proofs.YtemdmlmcidfodaaGreatDoor
namespace Go.Proofs.YtemdmlmcidfodaaGreatDoor
open Go Go.RowKit
inductive T where
 | mk (op a b : Int) (name : ByteArray) (kids : List T) : T
namespace T
def op : T -> Int | mk o _ _ _ _ => o
def a : T -> Int | mk _ a _ _ _ => a
def b : T -> Int | mk _ _ b _ _ => b
def name : T -> ByteArray | mk _ _ _ n _ => n
def kids : T -> List T | mk _ _ _ _ k => k
end T
mutual
def T.same : T -> T -> Bool
 | .mk o a b n k,.mk o' a' b' n' k' => o == o' && a == a' && b == b' && n.toList == n'.toList && T.sameL k k'
def T.sameL : List T -> List T -> Bool
 | [],[] => true
 | x :: xs,y :: ys => T.same x y && T.sameL xs ys
 | _,_ => false
end
inductive TermR (w : World) (F : Nat -> Prop) : T -> List Value -> Prop
 | mk (o a b : Int) (n : ByteArray) (kids : List T) (A : Option Addr) (c : Nat) (vs : Nat -> List Value) (hc : kids.length <= c)
   (hA : 0 < kids.length -> ∃ ad,A = some ad /\ F ad.block /\ ∀ k,k < kids.length -> ∀ j u,(vs k)[j]? = some u -> w.cell? (ad.add (k * 5 + j)) = some u)
   (hk : ∀ k x,kids[k]? = some x -> TermR w F x (vs k)) :
   TermR w F (.mk o a b n kids) [.int .i64 o,.int .i64 a,.int .i64 b,.string n,.slice A kids.length c]
def Lay.term : Lay T where
 size:=5
 R:=TermR
 len:=by rintro w F x vs ⟨⟩; rfl
 keep:=by
  intro w w' F x vs hk h
  induction h with
  | mk o a b n kids A c vs hc hA hk' ih =>
   refine .mk o a b n kids A c vs hc (fun h0 => ?_) ih; obtain ⟨ad,e,hf,hcell⟩:=hA h0; exact ⟨ad,e,hf,fun k hk'' j u hu => (World.cell?_of_block (w:=w) (by rw [z12]; exact hk _ hf)).trans (hcell k hk'' j u hu)⟩
 mono:=by
  intro w F G x vs hk h
  induction h with
  | mk o a b n kids A c vs hc hA hk' ih =>
   refine .mk o a b n kids A c vs hc (fun h0 => ?_) ih; obtain ⟨ad,e,hf,hcell⟩:=hA h0; exact ⟨ad,e,hk _ hf,hcell⟩
theorem TermR.form {w : World} {F : Nat -> Prop} {t : T} {vs : List Value} (h : TermR w F t vs) :
  ∃ A c,vs = [.int .i64 t.op,.int .i64 t.a,.int .i64 t.b,.string t.name,.slice A t.kids.length c] /\ t.kids.length <= c /\ Lay.term.Sl w F A t.kids:=by
 cases h with
 | mk o a b n kids A c vs hc hA hk =>
  refine ⟨A,c,rfl,hc,fun h0 => ?_⟩; obtain ⟨ad,e,hf,hcell⟩:=hA h0; refine ⟨ad,e,hf,fun k x hx => ⟨vs k,hk k x hx,fun j u hu => ?_⟩⟩; have hlt : k < kids.length:=by
   rcases Nat.lt_or_ge k kids.length with h | h
   · exact h
   ·
    have hx' : kids[k]? = some x:=hx; rw [List.getElem?_eq_none h] at hx'; cases hx'
  exact hcell k hlt j u hu
theorem TermR.of {w : World} {F : Nat -> Prop} {A : Option Addr} {c : Nat} {t : T} (hc : t.kids.length <= c) (h : Lay.term.Sl w F A t.kids) :
  TermR w F t [.int .i64 t.op,.int .i64 t.a,.int .i64 t.b,.string t.name,.slice A t.kids.length c]:=by
 obtain ⟨o,a,b,n,kids⟩:=t
 change Lay.term.Sl w F A kids at h
 show TermR w F _ [.int .i64 o,.int .i64 a,.int .i64 b,.string n,.slice A kids.length c]
 by_cases h0 : 0 < kids.length
 ·
  obtain ⟨ad,e,hf,hk⟩:=h h0; have hk' : ∀ k,∃ vs,∀ x,kids[k]? = some x -> TermR w F x vs /\ ∀ j u,vs[j]? = some u -> w.cell? (ad.add (k * 5 + j)) = some u:=fun k => by
   cases hx : kids[k]? with
   | none => exact ⟨[],fun x h => by cases h⟩
   | some x =>
    obtain ⟨vs,h1,h2⟩:=hk k x hx; exact ⟨vs,fun x' h => by cases h; exact ⟨h1,h2⟩⟩
  obtain ⟨f,hf'⟩:=Classical.axiomOfChoice hk'; exact .mk o a b n kids A c f hc (fun _ => ⟨ad,e,hf,fun k hlt => (hf' k _ (List.getElem?_eq_getElem hlt)).2⟩) (fun k x hx => (hf' k x hx).1)
 ·
  have : kids = []:=List.eq_nil_of_length_eq_zero (by omega); subst this; exact .mk o a b n [] A c (fun _ => []) hc (fun h => absurd h (by simp)) (fun k x hx => by simp at hx)
structure D where
 name : ByteArray
 wide : Int
def D.same (x y : D) : Bool:=x.name.toList == y.name.toList && x.wide == y.wide
structure Ly where
 ds : List D
 ts : List T
def allSame {α : Type} (f : α -> α -> Bool) : List α -> List α -> Bool
 | [],[] => true
 | x :: xs,y :: ys => f x y && allSame f xs ys
 | _,_ => false
def Ly.same (x y : Ly) : Bool:=allSame D.same x.ds y.ds && allSame T.same x.ts y.ts
end Go.Proofs.YtemdmlmcidfodaaGreatDoor
namespace Go.Proofs.YtemdmlmcidfodaaGreatDoor
open Go Go.RowKit Go.ChangeShapes Go.WideShapes Go.Deep
def z1p {α : Type} (P : Program) (t : TypeId) (L : Lay α) (ok : α -> Prop) (N : Nat) : Prop :=
 ∀ (H : Type) (enc : TypeId × Value -> H) (w : World) (base : Nat) (spare : Nat -> Bool) (held : Bool) (fuel : Nat) (cs : List Value) (x : DataW H × List MemPlace),
  fuel <= N -> DataW.trod enc P w base spare held fuel t cs = some x -> ∃ a,ok a /\ L.R w (fun b => b < w.heap.size) a cs
theorem z1w.at {α : Type} {P : Program} {t : TypeId} {L : Lay α} {ok : α -> Prop} (h : z1w P t L ok) (N : Nat) : z1p P t L ok N :=
 fun H enc w base spare held fuel cs x _ hx => h H enc w base spare held fuel cs x hx
theorem z1w.of {α : Type} {P : Program} {t : TypeId} {L : Lay α} {ok : α -> Prop} (h : ∀ N,z1p P t L ok N) : z1w P t L ok :=
 fun H enc w base spare held fuel cs x hx => h fuel H enc w base spare held fuel cs x (Nat.le_refl _) hx
theorem z1p.mono {α : Type} {P : Program} {t : TypeId} {L : Lay α} {ok : α -> Prop} {N M : Nat} (h : z1p P t L ok N) (hM : M <= N) : z1p P t L ok M :=
 fun H enc w base spare held fuel cs x hl hx => h H enc w base spare held fuel cs x (Nat.le_trans hl hM) hx
theorem z1p.slice {α : Type} {P : Program} {t e : TypeId} {L : Lay α} {ok : α -> Prop} {N : Nat} (ht : P.underlying t = some (.slice e)) (hc : P.cellsOf e = L.size) (hs : 0 < L.size) (ho : z1p P e L ok N) :
  z1p P t L.slice (fun xs => xs.length <= maxLen /\ ∀ x ∈ xs,ok x) (N + 1):=by
 intro H enc w base spare held fuel cs x hl h
 rcases DataW.trod_slice ht h with ⟨rfl,_⟩ | ⟨a,len,cap,elems,rest,n,hfu,rfl,_,_,hlc,hcm,hel,hi,_,_⟩
 · exact ⟨[],⟨by simp,by simp⟩,none,0,rfl,by simp,.nil L w _ _⟩
 ·
  obtain ⟨xs,hxl,hx⟩:=list_of_forall len (fun i a' => ok a' /\ ∃ vs,L.R w (fun b => b < w.heap.size) a' vs /\ ∀ j u,vs[j]? = some u -> w.cell? (a.add (i * L.size + j)) = some u) (by
   intro i hil; have key:=hi i hil; rw [List.getElem?_eq_getElem (by omega)] at key; obtain ⟨cs',hcell,htr⟩:=Option.bind_eq_some_iff.1 key; obtain ⟨a',hok,hr⟩:=ho H enc w base spare held n cs' _ (by omega) htr; refine ⟨a',hok,cs',hr,fun j u hu => ?_⟩; obtain ⟨_,hcl,hat⟩:=World.cells?_some hcell; have hj : j < cs'.length:=by
    rcases Nat.lt_or_ge j cs'.length with hj | hj
    · exact hj
    · rw [List.getElem?_eq_none hj] at hu; cases hu
   have h1:=hat j (by omega); rw [hc,add_of_add] at h1; rw [h1,hu])
  refine ⟨xs,⟨by omega,fun x hmem => ?_⟩,some a,cap,by rw [hxl],by omega,fun h0 => ⟨a,rfl,?_,fun k x hk => (hx k x hk).2⟩⟩
  ·
   obtain ⟨i,hi',rfl⟩:=List.getElem_of_mem hmem; exact (hx i _ (List.getElem?_eq_getElem hi')).1
  ·
   obtain ⟨_,vs,hr,hcell⟩:=hx 0 xs[0] (List.getElem?_eq_getElem h0); have hvl:=L.len hr; have h1:=hcell 0 vs[0] (List.getElem?_eq_getElem (by omega)); have:=World.block_lt_of_cell? w _ h1
   rwa [z12] at this
theorem z1p.field {α : Type} {P : Program} {t : TypeId} {fs : Array Field} {L : Lay α} {ok : α -> Prop} {H : Type} {enc : TypeId × Value -> H} {w : World} {base : Nat} {spare : Nat -> Bool} {held : Bool} {fuel N : Nat} {cs : List Value}
  {x : DataW H × List MemPlace} (ht : P.underlying t = some (.struct fs)) (h : DataW.trod enc P w base spare held fuel t cs = some x) (hN : fuel <= N + 1) (i : Nat) (ty : TypeId) (o : Nat) (nm : Nat)
  (hf : (fs[i]?).map (fun f : Field => (f.type,f.offset)) = some (ty,o)) (hn : P.cellsOf ty = nm) (ho : z1p P ty L ok N) :
  ∃ a,ok a /\ L.R w (fun b => b < w.heap.size) a ((cs.drop o).take nm):=by
 obtain ⟨xs,n,hfu,_,_,hxl,hfld⟩:=DataW.trod_struct ht h
 cases hfi : fs[i]? with
 | none => rw [hfi] at hf; cases hf
 | some f =>
  rw [hfi] at hf; simp at hf; obtain ⟨rfl,rfl⟩:=hf; have h1:=hfld i f hfi; have hi : i < fs.size:=(Array.getElem?_eq_some_iff.1 hfi).1; rw [List.getElem?_eq_getElem (by omega),hn] at h1; exact ho H enc w base spare held n _ _ (by omega) h1
inductive T.All (p : T -> Prop) : T -> Prop
 | mk (t : T) (h : p t) (hk : ∀ k ∈ t.kids,T.All p k) : T.All p t
theorem T.All.imp {p q : T -> Prop} (hpq : ∀ t,p t -> q t) {t : T} (h : T.All p t) : T.All q t:=by
 induction h with
 | mk t h _ ih => exact .mk t (hpq t h) ih
def okT1 (t : T) : Prop:=z15 t.op /\ z15 t.a /\ z15 t.b /\ t.name.size <= maxLen /\ t.kids.length <= maxLen
abbrev okTerm (t : T) : Prop:=T.All okT1 t
theorem z1p.term {P : Program} {t sl ti ts : TypeId} {fs : Array Field} (ht : P.underlying t = some (.struct fs)) (hc : P.cellsOf t = 5) (hsl : P.underlying sl = some (.slice t)) (hsc : P.cellsOf sl = 1)
  (hti : P.underlying ti = some (.int .i64)) (htic : P.cellsOf ti = 1) (hts : P.underlying ts = some .string) (htsc : P.cellsOf ts = 1)
  (hf : fs.toList.map (fun f : Field => (f.type,f.offset)) = [(ti,0),(ti,1),(ti,2),(ts,3),(sl,4)]) : ∀ N,z1p P t Lay.term okTerm N /\ z1p P sl Lay.term.slice (fun xs => xs.length <= maxLen /\ ∀ x ∈ xs,okTerm x) N:=by
 have hfi : ∀ i,(fs[i]?).map (fun f : Field => (f.type,f.offset)) = [(ti,0),(ti,1),(ti,2),(ts,3),(sl,4)][i]?:=fun i => by
  rw [<- hf,List.getElem?_map,Array.getElem?_toList]
 intro N
 induction N with
 | zero =>
  refine ⟨fun H enc w base spare held fuel cs x hl h => ?_,fun H enc w base spare held fuel cs x hl h => ?_⟩
  ·
   obtain ⟨_,n,hfu,_⟩:=DataW.trod_struct ht h
   omega
  ·
   rcases DataW.trod_slice hsl h with ⟨rfl,_⟩ | ⟨a,len,cap,elems,rest,n,hfu,_⟩
   · exact ⟨[],⟨by simp,by simp⟩,none,0,rfl,by simp,.nil _ w _ _⟩
   · omega
 | succ N ih =>
  refine ⟨fun H enc w base spare held fuel cs x hl h => ?_,z1p.slice hsl hc (by decide) ih.1⟩; obtain ⟨o,oko,ro⟩:=z1p.field ht h hl 0 ti 0 1 (hfi 0) htic ((z1w.int hti).at N); obtain ⟨a,oka,ra⟩:=z1p.field ht h hl 1 ti 1 1 (hfi 1) htic ((z1w.int hti).at N); obtain ⟨b,okb,rb⟩:=z1p.field ht h hl 2 ti 2 1 (hfi 2) htic ((z1w.int hti).at N); obtain ⟨s,oks,rs⟩:=z1p.field ht h hl 3 ts 3 1 (hfi 3) htsc ((z1w.str hts).at N); obtain ⟨ks,⟨okl,okk⟩,A,c,rk,rl,rsl⟩:=z1p.field ht h hl 4 sl 4 1 (hfi 4) hsc ih.2; have hlen:=trod_cells ht h; rw [hc] at hlen
  match cs,hlen with
  | [x0,x1,x2,x3,x4],_ =>
   simp [Lay.int,Lay.str,Lay.flat] at ro ra rb rs rk; subst ro ra rb rs rk; exact ⟨.mk o a b s ks,.mk _ ⟨oko,oka,okb,oks,okl⟩ okk,TermR.of (t:=.mk o a b s ks) rl rsl⟩
theorem z1w.term {P : Program} {t sl ti ts : TypeId} {fs : Array Field} (ht : P.underlying t = some (.struct fs)) (hc : P.cellsOf t = 5) (hsl : P.underlying sl = some (.slice t)) (hsc : P.cellsOf sl = 1)
  (hti : P.underlying ti = some (.int .i64)) (htic : P.cellsOf ti = 1) (hts : P.underlying ts = some .string) (htsc : P.cellsOf ts = 1)
  (hf : fs.toList.map (fun f : Field => (f.type,f.offset)) = [(ti,0),(ti,1),(ti,2),(ts,3),(sl,4)]) : z1w P t Lay.term okTerm :=
 .of fun N => (z1p.term ht hc hsl hsc hti htic hts htsc hf N).1
end Go.Proofs.YtemdmlmcidfodaaGreatDoor
namespace Go.Proofs.YtemdmlmcidfodaaGreatDoor
open Go Go.RowKit
def Own (lo : Nat) (w : World) (b : Nat) : Prop:=lo <= b /\ b < w.heap.size /\ ∀ o,w.frozen? ⟨b,o,none⟩ = false
theorem Own.up {lo : Nat} {w w' : World} {b : Nat} (h : Own lo w b) (hb : Below w.heap.size w w') : Own lo w' b :=
 ⟨h.1,Nat.lt_of_lt_of_le h.2.1 hb.size,fun o => ((bcell hb).2 b o h.2.1).trans (h.2.2 o)⟩
theorem Own.set {lo : Nat} {w : World} {b : Nat} (h : Own lo w b) (p : Addr) (u : Value) : Own lo (w.setCell p u) b :=
 ⟨h.1,by simpa [World.setCell] using h.2.1,fun o => by rw [World.frozen?_setCell]; exact h.2.2 o⟩
theorem Own.mono {lo lo' : Nat} {w : World} {b : Nat} (h : Own lo w b) (hl : lo' <= lo) : Own lo' w b:=⟨Nat.le_trans hl h.1,h.2.1,h.2.2⟩
theorem Lay.Sl.own_up {α : Type} {L : Lay α} {w w' : World} {lo : Nat} {A : Option Addr} {xs : List α} (h : L.Sl w (Own lo w) A xs) (hb : Below w.heap.size w w') : L.Sl w' (Own lo w') A xs :=
 (h.below hb (fun _ h => h.2.1)).mono fun _ h => h.up hb
theorem Lay.Sl.own_mono {α : Type} {L : Lay α} {w : World} {lo lo' : Nat} {A : Option Addr} {xs : List α} (h : L.Sl w (Own lo w) A xs) (hl : lo' <= lo) : L.Sl w (Own lo' w) A xs:=h.mono fun _ h => h.mono hl
theorem Own.ofRow {w : World} {base lo g n c : Nat} {e : TypeId} {size : Nat} {cs : List Value} (h : w.ownsRow base e size (.slice (some ⟨g,0,none⟩) n c) n cs) (hl : lo <= g) : Own lo w g :=
 ⟨hl,(h.lt g rfl).2,fun o => h.frozenAt o⟩
def RetO {α : Type} (L : Lay α) (w : World) (xs : List α) (e : Ending) (w' : World) : Prop :=
 ∃ A c,e = .returned (.slice A xs.length c) /\ xs.length <= c /\ L.Sl w' (Own w.heap.size w') A xs /\ Below w.heap.size w w'
def setAt : List Value -> Nat -> List Value -> List Value
 | cs,_,[] => cs
 | cs,p,v :: vs => setAt (cs.set p v) (p + 1) vs
theorem setAt_out : ∀ (vs cs : List Value) (p i : Nat),i < p \/ p + vs.length <= i -> (setAt cs p vs)[i]? = cs[i]?
 | [],_,_,_,_ => rfl
 | v :: vs,cs,p,i,h => by
  simp only [setAt]; simp only [List.length_cons] at h; rw [setAt_out vs _ _ i (by omega),List.getElem?_set_ne (by omega)]
theorem setAt_in : ∀ (vs cs : List Value) (p j : Nat),j < vs.length -> p + vs.length <= cs.length -> (setAt cs p vs)[p + j]? = vs[j]?
 | v :: vs,cs,p,0,_,h => by
  simp only [List.length_cons] at h; simp only [setAt]; rw [setAt_out vs _ _ _ (by omega),Nat.add_zero,List.getElem?_set_self (by omega)]
  rfl
 | v :: vs,cs,p,j + 1,hj,h => by
  simp only [List.length_cons] at h hj; simp only [setAt]; have:=setAt_in vs (cs.set p v) (p + 1) j (by omega) (by simp; omega); rw [show p + (j + 1) = p + 1 + j by omega,this]
  rfl
def Laid {α : Type} (L : Lay α) (lo : Nat) (w : World) (k : Nat) (xs : List α) (cs : List Value) : Prop :=
 ∀ i x,i < k -> xs[i]? = some x -> ∃ vs,L.R w (Own lo w) x vs /\ ∀ j u,vs[j]? = some u -> cs[i * L.size + j]? = some u
theorem Laid.up {α : Type} {L : Lay α} {lo : Nat} {w w' : World} {k : Nat} {xs : List α} {cs : List Value} (h : Laid L lo w k xs cs) (hb : Below w.heap.size w w') : Laid L lo w' k xs cs:=fun i x hi hx => by
 obtain ⟨vs,hr,hu⟩:=h i x hi hx; exact ⟨vs,L.mono (fun _ h => h.up hb) (L.keep (fun b hB => hb.block b hB.2.1) hr),hu⟩
theorem Laid.set {α : Type} {L : Lay α} {lo : Nat} {w : World} {k : Nat} {xs : List α} {cs : List Value} (h : Laid L lo w k xs cs) (p : Addr) (u : Value) (hp : p.block < lo) : Laid L lo (w.setCell p u) k xs cs:=fun i x hi hx => by
 obtain ⟨vs,hr,hu⟩:=h i x hi hx; exact ⟨vs,L.mono (fun _ h => h.set p u) (L.keep (fun b hB => Below.heap_setCell w p u b (fun e => by have:=hB.1; omega)) hr),hu⟩
theorem Laid.next {α : Type} {L : Lay α} {lo : Nat} {w : World} {k : Nat} {xs : List α} {cs vs : List Value} {x : α} (h : Laid L lo w k xs cs) (hx : xs[k]? = some x) (hr : L.R w (Own lo w) x vs) (hl : k * L.size + L.size <= cs.length) :
  Laid L lo w (k + 1) xs (setAt cs (k * L.size) vs):=fun i y hi hy => by
 have hvl:=L.len hr
 rcases Nat.lt_or_ge i k with h' | h'
 ·
  obtain ⟨us,hr',hu⟩:=h i y h' hy; have hul:=L.len hr'; refine ⟨us,hr',fun j u hj => ?_⟩; have hjl : j < L.size:=by
   rcases Nat.lt_or_ge j us.length with h | h
   · omega
   · rw [List.getElem?_eq_none h] at hj; cases hj
  have hm : (i + 1) * L.size <= k * L.size:=Nat.mul_le_mul_right _ h'; rw [Nat.add_mul,Nat.one_mul] at hm; rw [setAt_out _ _ _ _ (by omega)]; exact hu j u hj
 ·
  have : i = k:=by omega
  subst this; rw [hx] at hy; cases hy; refine ⟨vs,hr,fun j u hj => ?_⟩; have hjl : j < vs.length:=by
   rcases Nat.lt_or_ge j vs.length with h | h
   · exact h
   · rw [List.getElem?_eq_none h] at hj; cases hj
  rw [setAt_in _ _ _ _ hjl (by omega)]; exact hj
theorem Laid.done {α : Type} {L : Lay α} {w w' : World} {xs : List α} {cs : List Value} {e : TypeId} {n : Nat} (hn : n = xs.length) (h : Laid L (w.heap.size + 1) w' n xs cs)
  (ho : w'.ownsRow w.heap.size e L.size (.slice (some ⟨w.heap.size,0,none⟩) n n) n cs) (hb : Below w.heap.size w w') : RetO L w xs (.returned (.slice (some ⟨w.heap.size,0,none⟩) n n)) w':=by
 subst hn; refine ⟨_,_,rfl,Nat.le_refl _,fun _ => ⟨_,rfl,Own.ofRow ho (Nat.le_refl _),fun k x hx => ?_⟩,hb⟩; have hk : k < xs.length:=by
  rcases Nat.lt_or_ge k xs.length with h | h
  · exact h
  · rw [List.getElem?_eq_none h] at hx; cases hx
 obtain ⟨vs,hr,hu⟩:=h k x hk hx; exact ⟨vs,L.mono (fun _ h => h.mono (Nat.le_succ _)) hr,fun j u hj => ho.cells (g:=w.heap.size) rfl _ _ (hu j u hj)⟩
def Rng (lo hi b : Nat) : Prop:=lo <= b /\ b < hi
def Cp (lo hi : Nat) (w : World) (b : Nat) : Prop:=lo <= b /\ b < hi /\ hi <= w.heap.size /\ ∀ o,w.frozen? ⟨b,o,none⟩ = false
theorem Cp.up {lo hi : Nat} {w w' : World} {b : Nat} (h : Cp lo hi w b) (hb : Below w.heap.size w w') : Cp lo hi w' b :=
 ⟨h.1,h.2.1,Nat.le_trans h.2.2.1 hb.size,fun o => (World.frozen?_of_block (a:=⟨b,o,none⟩) (hb.block b (by have:=h.2.1; have:=h.2.2.1; omega))).trans (h.2.2.2 o)⟩
theorem Cp.lt {lo hi : Nat} {w : World} {b : Nat} (h : Cp lo hi w b) : b < w.heap.size:=Nat.lt_of_lt_of_le h.2.1 h.2.2.1
section
variable {α : Type} {L : Lay α} {w w' : World} {lo hi : Nat} {A : Option Addr} {xs : List α}
theorem Lay.Sl.own_rd (h : L.Sl w (Own lo w) A xs) : L.Rd w A xs:=h.mono fun _ h => h.2.1
theorem Dab.rng (hd : Dab (Cp lo hi w) w w') : Dab (Rng lo hi) w w':=hd.mono fun _ h => ⟨h.1,h.2.1⟩
end
end Go.Proofs.YtemdmlmcidfodaaGreatDoor
namespace Go.Proofs.YtemdmlmcidfodaaGreatDoor
open Go Go.RowKit
end Go.Proofs.YtemdmlmcidfodaaGreatDoor
