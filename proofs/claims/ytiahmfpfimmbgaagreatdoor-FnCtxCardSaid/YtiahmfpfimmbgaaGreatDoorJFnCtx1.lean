/- What came in, opened, by the reader's fuel: for types that hold themselves. No program is named here. Words on sizes and copies. No program is named here. append of a whole slice onto a row of the call's own. No program is named here. What growing and setting leave. No program is named here. Contracts of the copies and comparisons of lists of integers and of truth values. VecOk, the program's and the reference's; powers of two. The reference's declarations: l2Name, l2Find, DeclOk, l8Bits, EnvOk. Contracts of the laws' sizes: szDeclS, szTermS, szLayerS. Contracts of the laws' copies: toDeclS, toTermS, toLayerS. -/
import Derived.Deep.RegionHeld3
import Derived.Handy
import Derived.Test.YtiahmfpfimmbgaaGreatDoorProg
import Derived.Test.YtiahmfpfimmbgaaGreatDoorChecked
import Derived.Deep.QuietTactic
import Derived.BigQuiet
import Derived.Test.YtiahmfpfimmbgaaGreatDoorJFnCtx0
/-! What came in, opened, by the reader's fuel: for types that hold themselves. No program is named here. -/
namespace Go.Proofs.YtiahmfpfimmbgaaGreatDoor
open Go Go.RowKit Go.ChangeShapes Go.WideShapes Go.Deep

def OpensF {α : Type} (P : Program) (t : TypeId) (L : Lay α) (ok : α → Prop) (N : Nat) : Prop :=
  ∀ (H : Type) (enc : TypeId × Value → H) (w : World) (base : Nat) (spare : Nat → Bool) (held : Bool) (fuel : Nat) (cs : List Value) (x : DataW H × List MemPlace),
    fuel ≤ N → DataW.trod enc P w base spare held fuel t cs = some x → ∃ a, ok a ∧ L.R w (fun b => b < w.heap.size) a cs
theorem Opens.at {α : Type} {P : Program} {t : TypeId} {L : Lay α} {ok : α → Prop} (h : Opens P t L ok) (N : Nat) : OpensF P t L ok N :=
  fun H enc w base spare held fuel cs x _ hx => h H enc w base spare held fuel cs x hx
theorem Opens.of {α : Type} {P : Program} {t : TypeId} {L : Lay α} {ok : α → Prop} (h : ∀ N, OpensF P t L ok N) : Opens P t L ok :=
  fun H enc w base spare held fuel cs x hx => h fuel H enc w base spare held fuel cs x (Nat.le_refl _) hx
theorem OpensF.mono {α : Type} {P : Program} {t : TypeId} {L : Lay α} {ok : α → Prop} {N M : Nat} (h : OpensF P t L ok N) (hM : M ≤ N) : OpensF P t L ok M :=
  fun H enc w base spare held fuel cs x hl hx => h H enc w base spare held fuel cs x (Nat.le_trans hl hM) hx

theorem OpensF.slice {α : Type} {P : Program} {t e : TypeId} {L : Lay α} {ok : α → Prop} {N : Nat} (ht : P.underlying t = some (.slice e)) (hc : P.cellsOf e = L.size) (hs : 0 < L.size) (ho : OpensF P e L ok N) :
    OpensF P t L.slice (fun xs => xs.length ≤ maxLen ∧ ∀ x ∈ xs, ok x) (N + 1) := by
  intro H enc w base spare held fuel cs x hl h
  rcases DataW.trod_slice ht h with ⟨rfl, _⟩ | ⟨a, len, cap, elems, rest, n, hfu, rfl, _, _, hlc, hcm, hel, hi, _, _⟩
  · exact ⟨[], ⟨by simp, by simp⟩, none, 0, rfl, by simp, .nil L w _ _⟩
  · obtain ⟨xs, hxl, hx⟩ := list_of_forall len (fun i a' => ok a' ∧ ∃ vs, L.R w (fun b => b < w.heap.size) a' vs ∧ ∀ j u, vs[j]? = some u → w.cell? (a.add (i * L.size + j)) = some u) (by
      intro i hil
      have key := hi i hil
      rw [List.getElem?_eq_getElem (by omega)] at key
      obtain ⟨cs', hcell, htr⟩ := Option.bind_eq_some_iff.1 key
      obtain ⟨a', hok, hr⟩ := ho H enc w base spare held n cs' _ (by omega) htr
      refine ⟨a', hok, cs', hr, fun j u hu => ?_⟩
      obtain ⟨_, hcl, hat⟩ := World.cells?_some hcell
      have hj : j < cs'.length := by
        rcases Nat.lt_or_ge j cs'.length with hj | hj
        · exact hj
        · rw [List.getElem?_eq_none hj] at hu; cases hu
      have h1 := hat j (by omega)
      rw [hc, add_of_add] at h1
      rw [h1, hu])
    refine ⟨xs, ⟨by omega, fun x hmem => ?_⟩, some a, cap, by rw [hxl], by omega, fun h0 => ⟨a, rfl, ?_, fun k x hk => (hx k x hk).2⟩⟩
    · obtain ⟨i, hi', rfl⟩ := List.getElem_of_mem hmem
      exact (hx i _ (List.getElem?_eq_getElem hi')).1
    · obtain ⟨_, vs, hr, hcell⟩ := hx 0 xs[0] (List.getElem?_eq_getElem h0)
      have hvl := L.len hr
      have h1 := hcell 0 vs[0] (List.getElem?_eq_getElem (by omega))
      have := World.block_lt_of_cell? w _ h1
      rwa [block_of_add] at this

/-- What the reader finds in a field. -/
theorem OpensF.field {α : Type} {P : Program} {t : TypeId} {fs : Array Field} {L : Lay α} {ok : α → Prop} {H : Type} {enc : TypeId × Value → H} {w : World} {base : Nat} {spare : Nat → Bool} {held : Bool} {fuel N : Nat} {cs : List Value}
    {x : DataW H × List MemPlace} (ht : P.underlying t = some (.struct fs)) (h : DataW.trod enc P w base spare held fuel t cs = some x) (hN : fuel ≤ N + 1) (i : Nat) (ty : TypeId) (o : Nat) (nm : Nat)
    (hf : (fs[i]?).map (fun f : Field => (f.type, f.offset)) = some (ty, o)) (hn : P.cellsOf ty = nm) (ho : OpensF P ty L ok N) :
    ∃ a, ok a ∧ L.R w (fun b => b < w.heap.size) a ((cs.drop o).take nm) := by
  obtain ⟨xs, n, hfu, _, _, hxl, hfld⟩ := DataW.trod_struct ht h
  cases hfi : fs[i]? with
  | none => rw [hfi] at hf; cases hf
  | some f =>
    rw [hfi] at hf
    simp at hf
    obtain ⟨rfl, rfl⟩ := hf
    have h1 := hfld i f hfi
    have hi : i < fs.size := (Array.getElem?_eq_some_iff.1 hfi).1
    rw [List.getElem?_eq_getElem (by omega), hn] at h1
    exact ho H enc w base spare held n _ _ (by omega) h1

/-- Of the term and all below it. -/
inductive T.All (p : T → Prop) : T → Prop
  | mk (t : T) (h : p t) (hk : ∀ k ∈ t.kids, T.All p k) : T.All p t
theorem T.All.here {p : T → Prop} {t : T} (h : T.All p t) : p t := by cases h; assumption
theorem T.All.kid {p : T → Prop} {t : T} (h : T.All p t) : ∀ k ∈ t.kids, T.All p k := by cases h; assumption
theorem T.All.imp {p q : T → Prop} (hpq : ∀ t, p t → q t) {t : T} (h : T.All p t) : T.All q t := by
  induction h with
  | mk t h _ ih => exact .mk t (hpq t h) ih
def okT1 (t : T) : Prop := okInt t.op ∧ okInt t.a ∧ okInt t.b ∧ t.name.size ≤ maxLen ∧ t.kids.length ≤ maxLen
abbrev okTerm (t : T) : Prop := T.All okT1 t

theorem OpensF.term {P : Program} {t sl ti ts : TypeId} {fs : Array Field} (ht : P.underlying t = some (.struct fs)) (hc : P.cellsOf t = 5) (hsl : P.underlying sl = some (.slice t)) (hsc : P.cellsOf sl = 1)
    (hti : P.underlying ti = some (.int .i64)) (htic : P.cellsOf ti = 1) (hts : P.underlying ts = some .string) (htsc : P.cellsOf ts = 1)
    (hf : fs.toList.map (fun f : Field => (f.type, f.offset)) = [(ti, 0), (ti, 1), (ti, 2), (ts, 3), (sl, 4)]) : ∀ N, OpensF P t Lay.term okTerm N ∧ OpensF P sl Lay.term.slice (fun xs => xs.length ≤ maxLen ∧ ∀ x ∈ xs, okTerm x) N := by
  have hfi : ∀ i, (fs[i]?).map (fun f : Field => (f.type, f.offset)) = [(ti, 0), (ti, 1), (ti, 2), (ts, 3), (sl, 4)][i]? := fun i => by
    rw [← hf, List.getElem?_map, Array.getElem?_toList]
  intro N
  induction N with
  | zero =>
    refine ⟨fun H enc w base spare held fuel cs x hl h => ?_, fun H enc w base spare held fuel cs x hl h => ?_⟩
    · obtain ⟨_, n, hfu, _⟩ := DataW.trod_struct ht h
      omega
    · rcases DataW.trod_slice hsl h with ⟨rfl, _⟩ | ⟨a, len, cap, elems, rest, n, hfu, _⟩
      · exact ⟨[], ⟨by simp, by simp⟩, none, 0, rfl, by simp, .nil _ w _ _⟩
      · omega
  | succ N ih =>
    refine ⟨fun H enc w base spare held fuel cs x hl h => ?_, OpensF.slice hsl hc (by decide) ih.1⟩
    obtain ⟨o, oko, ro⟩ := OpensF.field ht h hl 0 ti 0 1 (hfi 0) htic ((Opens.int hti).at N)
    obtain ⟨a, oka, ra⟩ := OpensF.field ht h hl 1 ti 1 1 (hfi 1) htic ((Opens.int hti).at N)
    obtain ⟨b, okb, rb⟩ := OpensF.field ht h hl 2 ti 2 1 (hfi 2) htic ((Opens.int hti).at N)
    obtain ⟨s, oks, rs⟩ := OpensF.field ht h hl 3 ts 3 1 (hfi 3) htsc ((Opens.str hts).at N)
    obtain ⟨ks, ⟨okl, okk⟩, A, c, rk, rl, rsl⟩ := OpensF.field ht h hl 4 sl 4 1 (hfi 4) hsc ih.2
    have hlen := trod_cells ht h
    rw [hc] at hlen
    match cs, hlen with
    | [x0, x1, x2, x3, x4], _ =>
      simp [Lay.int, Lay.str, Lay.flat] at ro ra rb rs rk
      subst ro ra rb rs rk
      exact ⟨.mk o a b s ks, .mk _ ⟨oko, oka, okb, oks, okl⟩ okk, TermR.of (t := .mk o a b s ks) rl rsl⟩

theorem Opens.term {P : Program} {t sl ti ts : TypeId} {fs : Array Field} (ht : P.underlying t = some (.struct fs)) (hc : P.cellsOf t = 5) (hsl : P.underlying sl = some (.slice t)) (hsc : P.cellsOf sl = 1)
    (hti : P.underlying ti = some (.int .i64)) (htic : P.cellsOf ti = 1) (hts : P.underlying ts = some .string) (htsc : P.cellsOf ts = 1)
    (hf : fs.toList.map (fun f : Field => (f.type, f.offset)) = [(ti, 0), (ti, 1), (ti, 2), (ts, 3), (sl, 4)]) : Opens P t Lay.term okTerm :=
  .of fun N => (OpensF.term ht hc hsl hsc hti htic hts htsc hf N).1

def okDecl (d : D) : Prop := d.name.size ≤ maxLen ∧ okInt d.wide
theorem Opens.decl {P : Program} {t ti ts : TypeId} {fs : Array Field} (ht : P.underlying t = some (.struct fs)) (hc : P.cellsOf t = 2)
    (hti : P.underlying ti = some (.int .i64)) (htic : P.cellsOf ti = 1) (hts : P.underlying ts = some .string) (htsc : P.cellsOf ts = 1)
    (hf : fs.toList.map (fun f : Field => (f.type, f.offset)) = [(ts, 0), (ti, 1)]) : Opens P t Lay.decl okDecl := by
  have hfi : ∀ i, (fs[i]?).map (fun f : Field => (f.type, f.offset)) = [(ts, 0), (ti, 1)][i]? := fun i => by
    rw [← hf, List.getElem?_map, Array.getElem?_toList]
  intro H enc w base spare held fuel cs x h
  obtain ⟨s, oks, rs⟩ := OpensF.field ht h (Nat.le_succ _) 0 ts 0 1 (hfi 0) htsc ((Opens.str hts).at _)
  obtain ⟨a, oka, ra⟩ := OpensF.field ht h (Nat.le_succ _) 1 ti 1 1 (hfi 1) htic ((Opens.int hti).at _)
  have hlen := trod_cells ht h
  rw [hc] at hlen
  match cs, hlen with
  | [x0, x1], _ =>
    simp [Lay.int, Lay.str, Lay.flat] at rs ra
    subst rs ra
    exact ⟨⟨s, a⟩, ⟨oks, oka⟩, rfl⟩

def okLayer (l : Ly) : Prop := (l.ds.length ≤ maxLen ∧ ∀ d ∈ l.ds, okDecl d) ∧ l.ts.length ≤ maxLen ∧ ∀ t ∈ l.ts, okTerm t
theorem Opens.layer {P : Program} {t sd st : TypeId} {fs : Array Field} (ht : P.underlying t = some (.struct fs)) (hc : P.cellsOf t = 2) (hsd : P.cellsOf sd = 1) (hst : P.cellsOf st = 1)
    (hf : fs.toList.map (fun f : Field => (f.type, f.offset)) = [(sd, 0), (st, 1)]) (hd : Opens P sd Lay.decl.slice (fun xs => xs.length ≤ maxLen ∧ ∀ x ∈ xs, okDecl x)) (hs : Opens P st Lay.term.slice (fun xs => xs.length ≤ maxLen ∧ ∀ x ∈ xs, okTerm x)) :
    Opens P t Lay.layer okLayer := by
  have hfi : ∀ i, (fs[i]?).map (fun f : Field => (f.type, f.offset)) = [(sd, 0), (st, 1)][i]? := fun i => by
    rw [← hf, List.getElem?_map, Array.getElem?_toList]
  intro H enc w base spare held fuel cs x h
  obtain ⟨ds, okd, A, c, r1, l1, s1⟩ := OpensF.field ht h (Nat.le_succ _) 0 sd 0 1 (hfi 0) hsd (hd.at _)
  obtain ⟨ts, okt, B, d, r2, l2, s2⟩ := OpensF.field ht h (Nat.le_succ _) 1 st 1 1 (hfi 1) hst (hs.at _)
  have hlen := trod_cells ht h
  rw [hc] at hlen
  match cs, hlen with
  | [x0, x1], _ =>
    simp at r1 r2
    subst r1 r2
    exact ⟨⟨ds, ts⟩, ⟨okd, okt⟩, A, c, B, d, rfl, l1, l2, s1, s2⟩
end Go.Proofs.YtiahmfpfimmbgaaGreatDoor

/-! Words on sizes and copies. No program is named here. -/
namespace Go.Proofs.YtiahmfpfimmbgaaGreatDoor
open Go Go.RowKit
def wsum {α : Type} (f : α → Nat) : List α → Nat
  | [] => 0
  | x :: xs => f x + wsum f xs
theorem wsum_mem {α : Type} (f : α → Nat) : ∀ {xs : List α} {x : α}, x ∈ xs → f x ≤ wsum f xs
  | y :: xs, x, h => by
    simp only [wsum]
    rcases List.mem_cons.1 h with rfl | h
    · omega
    · have := wsum_mem f h; omega
/-- The block is the call's own, and may be written. -/
def Own (lo : Nat) (w : World) (b : Nat) : Prop := lo ≤ b ∧ b < w.heap.size ∧ ∀ o, w.frozen? ⟨b, o, none⟩ = false
theorem Own.up {lo : Nat} {w w' : World} {b : Nat} (h : Own lo w b) (hb : Below w.heap.size w w') : Own lo w' b :=
  ⟨h.1, Nat.lt_of_lt_of_le h.2.1 hb.size, fun o => ((bcell hb).2 b o h.2.1).trans (h.2.2 o)⟩
theorem Own.set {lo : Nat} {w : World} {b : Nat} (h : Own lo w b) (p : Addr) (u : Value) : Own lo (w.setCell p u) b :=
  ⟨h.1, by simpa [World.setCell] using h.2.1, fun o => by rw [World.frozen?_setCell]; exact h.2.2 o⟩
theorem Own.mono {lo lo' : Nat} {w : World} {b : Nat} (h : Own lo w b) (hl : lo' ≤ lo) : Own lo' w b := ⟨Nat.le_trans hl h.1, h.2.1, h.2.2⟩
theorem Lay.Sl.own_mono {α : Type} {L : Lay α} {w : World} {lo lo' : Nat} {A : Option Addr} {xs : List α} (h : L.Sl w (Own lo w) A xs) (hl : lo' ≤ lo) : L.Sl w (Own lo' w) A xs := h.mono fun _ h => h.mono hl
theorem Own.ofRow {w : World} {base lo g n c : Nat} {e : TypeId} {size : Nat} {cs : List Value} (h : w.ownsRow base e size (.slice (some ⟨g, 0, none⟩) n c) n cs) (hl : lo ≤ g) : Own lo w g :=
  ⟨hl, (h.lt g rfl).2, fun o => h.frozenAt o⟩

/-- What a function returns that makes a slice of its own, which may be written. -/
def RetO {α : Type} (L : Lay α) (w : World) (xs : List α) (e : Ending) (w' : World) : Prop :=
  ∃ A c, e = .returned (.slice A xs.length c) ∧ xs.length ≤ c ∧ L.Sl w' (Own w.heap.size w') A xs ∧ Below w.heap.size w w'

def setAt : List Value → Nat → List Value → List Value
  | cs, _, [] => cs
  | cs, p, v :: vs => setAt (cs.set p v) (p + 1) vs
theorem setAt_out : ∀ (vs cs : List Value) (p i : Nat), i < p ∨ p + vs.length ≤ i → (setAt cs p vs)[i]? = cs[i]?
  | [], _, _, _, _ => rfl
  | v :: vs, cs, p, i, h => by
    simp only [setAt]
    simp only [List.length_cons] at h
    rw [setAt_out vs _ _ i (by omega), List.getElem?_set_ne (by omega)]
theorem setAt_in : ∀ (vs cs : List Value) (p j : Nat), j < vs.length → p + vs.length ≤ cs.length → (setAt cs p vs)[p + j]? = vs[j]?
  | v :: vs, cs, p, 0, _, h => by
    simp only [List.length_cons] at h
    simp only [setAt]
    rw [setAt_out vs _ _ _ (by omega), Nat.add_zero, List.getElem?_set_self (by omega)]
    rfl
  | v :: vs, cs, p, j + 1, hj, h => by
    simp only [List.length_cons] at h hj
    simp only [setAt]
    have := setAt_in vs (cs.set p v) (p + 1) j (by omega) (by simp; omega)
    rw [show p + (j + 1) = p + 1 + j by omega, this]
    rfl
/-- The first k elements of the row lie laid, behind lo. -/
def Laid {α : Type} (L : Lay α) (lo : Nat) (w : World) (k : Nat) (xs : List α) (cs : List Value) : Prop :=
  ∀ i x, i < k → xs[i]? = some x → ∃ vs, L.R w (Own lo w) x vs ∧ ∀ j u, vs[j]? = some u → cs[i * L.size + j]? = some u
theorem Laid.up {α : Type} {L : Lay α} {lo : Nat} {w w' : World} {k : Nat} {xs : List α} {cs : List Value} (h : Laid L lo w k xs cs) (hb : Below w.heap.size w w') : Laid L lo w' k xs cs := fun i x hi hx => by
  obtain ⟨vs, hr, hu⟩ := h i x hi hx
  exact ⟨vs, L.mono (fun _ h => h.up hb) (L.keep (fun b hB => hb.block b hB.2.1) hr), hu⟩
theorem Laid.set {α : Type} {L : Lay α} {lo : Nat} {w : World} {k : Nat} {xs : List α} {cs : List Value} (h : Laid L lo w k xs cs) (p : Addr) (u : Value) (hp : p.block < lo) : Laid L lo (w.setCell p u) k xs cs := fun i x hi hx => by
  obtain ⟨vs, hr, hu⟩ := h i x hi hx
  exact ⟨vs, L.mono (fun _ h => h.set p u) (L.keep (fun b hB => Below.heap_setCell w p u b (fun e => by have := hB.1; omega)) hr), hu⟩
/-- One element more. -/
theorem Laid.next {α : Type} {L : Lay α} {lo : Nat} {w : World} {k : Nat} {xs : List α} {cs vs : List Value} {x : α} (h : Laid L lo w k xs cs) (hx : xs[k]? = some x) (hr : L.R w (Own lo w) x vs) (hl : k * L.size + L.size ≤ cs.length) :
    Laid L lo w (k + 1) xs (setAt cs (k * L.size) vs) := fun i y hi hy => by
  have hvl := L.len hr
  rcases Nat.lt_or_ge i k with h' | h'
  · obtain ⟨us, hr', hu⟩ := h i y h' hy
    have hul := L.len hr'
    refine ⟨us, hr', fun j u hj => ?_⟩
    have hjl : j < L.size := by
      rcases Nat.lt_or_ge j us.length with h | h
      · omega
      · rw [List.getElem?_eq_none h] at hj; cases hj
    have hm : (i + 1) * L.size ≤ k * L.size := Nat.mul_le_mul_right _ h'
    rw [Nat.add_mul, Nat.one_mul] at hm
    rw [setAt_out _ _ _ _ (by omega)]
    exact hu j u hj
  · have : i = k := by omega
    subst this
    rw [hx] at hy; cases hy
    refine ⟨vs, hr, fun j u hj => ?_⟩
    have hjl : j < vs.length := by
      rcases Nat.lt_or_ge j vs.length with h | h
      · exact h
      · rw [List.getElem?_eq_none h] at hj; cases hj
    rw [setAt_in _ _ _ _ hjl (by omega)]
    exact hj
theorem Laid.done {α : Type} {L : Lay α} {w w' : World} {xs : List α} {cs : List Value} {e : TypeId} {n : Nat} (hn : n = xs.length) (h : Laid L (w.heap.size + 1) w' n xs cs)
    (ho : w'.ownsRow w.heap.size e L.size (.slice (some ⟨w.heap.size, 0, none⟩) n n) n cs) (hb : Below w.heap.size w w') : RetO L w xs (.returned (.slice (some ⟨w.heap.size, 0, none⟩) n n)) w' := by
  subst hn
  refine ⟨_, _, rfl, Nat.le_refl _, fun _ => ⟨_, rfl, Own.ofRow ho (Nat.le_refl _), fun k x hx => ?_⟩, hb⟩
  have hk : k < xs.length := by
    rcases Nat.lt_or_ge k xs.length with h | h
    · exact h
    · rw [List.getElem?_eq_none h] at hx; cases hx
  obtain ⟨vs, hr, hu⟩ := h k x hk hx
  exact ⟨vs, L.mono (fun _ h => h.mono (Nat.le_succ _)) hr, fun j u hj => ho.cells (g := w.heap.size) rfl _ _ (hu j u hj)⟩

end Go.Proofs.YtiahmfpfimmbgaaGreatDoor

/-! append of a whole slice onto a row of the call's own. No program is named here. -/
namespace Go.Proofs.YtiahmfpfimmbgaaGreatDoor
open Go Go.RowKit

/-- The slice '.slice A m c' has the cells xs, in the world w. -/
def Src (w : World) (size : Nat) (A : Option Addr) (m : Nat) (xs : List Value) : Prop :=
  xs.length = m * size ∧ (0 < m → ∃ ad, A = some ad ∧ ∀ j u, xs[j]? = some u → w.cell? (ad.add j) = some u)

section
variable {P : Program} (w : World)

theorem run_append_of_nil (base : Nat) (t ty e : TypeId) (i : TypeInfo) (size : Nat) (ht : P.underlying t = some (.slice e)) (hi : P.info? e = some i)
    (v : Value) (n : Nat) (xs : List Value) (hown : w.ownsRow base e size v n xs) (c : Nat) : (Builtin.append_ #[t, t] ty #[v, .slice none 0 c]).run P w = .ok v w := by
  rcases hown.2 with ⟨rfl, rfl⟩ | ⟨g, cap, cur, rfl, _, _, hnc, _⟩
  · simp [Builtin.append_, run_underlying ht, sizeOf, typeInfo, hi, Builtin.lenOf, Builtin.firstCells]
  · simp [Builtin.append_, run_underlying ht, sizeOf, typeInfo, hi, Builtin.lenOf, Builtin.firstCells, hnc, storeCells]

theorem run_append_src (base : Nat) (t ty e : TypeId) (i : TypeInfo) (z : Value) (size bytes : Nat) (ht : P.underlying t = some (.slice e)) (hi : P.info? e = some i) (hz : i.zero = some z)
    (hsize : i.size = size) (hby : i.bytes = bytes) (hzs : z.cells.size = size) (hsz : 0 < size)
    (v : Value) (n : Nat) (xs : List Value) (hown : w.ownsRow base e size v n xs)
    (A : Option Addr) (m c : Nat) (news : List Value) (hr : Src w size A m news) (h1 : ∀ u ∈ news, u.oneCell' = true)
    (nm : Nat) (hnm : n + m = nm) (h63 : nm ≤ maxLen) (hbytes : nm * bytes ≤ 140737488355328) (hbase : base ≤ w.heap.size) (hA : A = none → m = 0) :
    ∃ A' c' w', (Builtin.append_ #[t, t] ty #[v, .slice A m c]).run P w = .ok (.slice A' nm c') w' ∧ w'.ownsRow base e size (.slice A' nm c') nm (xs ++ news) ∧ w.grownBy w' v.ownBlock := by
  subst hnm
  suffices H : ∃ v' w', (Builtin.append_ #[t, t] ty #[v, .slice A m c]).run P w = .ok v' w' ∧ w'.ownsRow base e size v' (n + m) (xs ++ news) ∧ w.grownBy w' v.ownBlock by
    obtain ⟨v', w', h1, h2, h3⟩ := H
    rcases h2.2 with ⟨e1, e2⟩ | ⟨g, cap, cur, e1, _⟩
    · exact ⟨none, 0, w', by rw [h1, e1, e2], by rw [e1] at h2; rw [e2] at h2 ⊢; exact h2, h3⟩
    · exact ⟨_, cap, w', by rw [h1, e1], by rw [e1] at h2; exact h2, h3⟩
  rcases A with _ | ad
  · have hm : m = 0 := hA rfl
    subst hm
    have hn : news = [] := List.eq_nil_of_length_eq_zero (by simpa using hr.1)
    subst hn
    exact ⟨v, w, run_append_of_nil w base t ty e i size ht hi v n xs hown c, by simpa using hown, World.grownBy.refl _ _⟩
  · have hcells : ∀ j u, news[j]? = some u → w.cell? (ad.add j) = some u := by
      intro j u hu
      rcases Nat.eq_zero_or_pos m with h0 | h0
      · subst h0
        have hn : news = [] := List.eq_nil_of_length_eq_zero (by simpa using hr.1)
        subst hn
        simp at hu
      · obtain ⟨ad', h, hc⟩ := hr.2 h0
        injection h with h
        subst h
        exact hc j u hu
    obtain ⟨v', w', hrun, h2, h3, _, _⟩ := run_append_own_at (P := P) w base t ty e i z size bytes ht hi hz hsize hby hzs hsz v n xs hown ad m c news hr.1 hcells h1 h63 hbytes hbase
    exact ⟨v', w', hrun, h2, h3⟩

theorem wp_append_src {o : Oper} {a : Act} {K : Act → World → Prop} {Q : Exit → Act → World → Prop} (s x : Operand) (t : TypeId)
    (ho : o.op = .call { callee := .builtin .append, args := #[s, x], argTypes := #[t, t] })
    (base : Nat) (e : TypeId) (i : TypeInfo) (z : Value) (size bytes : Nat) (ht : P.underlying t = some (.slice e)) (hi : P.info? e = some i) (hz : i.zero = some z)
    (hsize : i.size = size) (hby : i.bytes = bytes) (hzs : z.cells.size = size) (hsz : 0 < size)
    (v : Value) (n : Nat) (xs : List Value) (hs : a.eval s = v) (hown : w.ownsRow base e size v n xs)
    (A : Option Addr) (m c : Nat) (news : List Value) (hx : a.eval x = .slice A m c) (hr : Src w size A m news) (h1 : ∀ u ∈ news, u.oneCell' = true)
    (nm : Nat) (hnm : n + m = nm) (h63 : nm ≤ maxLen) (hbytes : nm * bytes ≤ 140737488355328) (hbase : base ≤ w.heap.size) (hA : A = none → m = 0)
    (h : ∀ A' c' w', w'.ownsRow base e size (.slice A' nm c') nm (xs ++ news) → Below base w w' → w.grownBy w' v.ownBlock → K (a.put o.dst (.slice A' nm c')) w') : o.wp P a w K Q := by
  obtain ⟨A', c', w', hrun, h2, h3⟩ := run_append_src (P := P) w base t o.type e i z size bytes ht hi hz hsize hby hzs hsz v n xs hown A m c news hr h1 nm hnm h63 hbytes hbase hA
  unfold Oper.wp execOp
  simp only [ho, resolve, invoke, builtin, Sem.run_bind, Sem.run_pure, Result.andThen_ok, List.map_toArray, List.map_cons, List.map_nil, hs, hx, hrun]
  exact h A' c' w' h2 ((Below.refl _ _).grown h3 hbase (fun k hk => (hown.lt k hk).1)) h3

theorem wpList_append_src {ops : Array Oper} {rest : List Oper} {o : Oper} {a : Act} {Q : Exit → Act → World → Prop} (hgd : o.guard = none) (s x : Operand) (t : TypeId)
    (ho : o.op = .call { callee := .builtin .append, args := #[s, x], argTypes := #[t, t] })
    (base : Nat) (e : TypeId) (i : TypeInfo) (z : Value) (size bytes : Nat) (ht : P.underlying t = some (.slice e)) (hi : P.info? e = some i) (hz : i.zero = some z)
    (hsize : i.size = size) (hby : i.bytes = bytes) (hzs : z.cells.size = size) (hsz : 0 < size)
    (v : Value) (n : Nat) (xs : List Value) (hs : a.eval s = v) (hown : w.ownsRow base e size v n xs)
    (A : Option Addr) (m c : Nat) (news : List Value) (hx : a.eval x = .slice A m c) (hr : Src w size A m news) (h1 : ∀ u ∈ news, u.oneCell' = true)
    (nm : Nat) (hnm : n + m = nm) (h63 : nm ≤ maxLen) (hbytes : nm * bytes ≤ 140737488355328) (hbase : base ≤ w.heap.size) (hA : A = none → m = 0)
    (h : ∀ A' c' w', w'.ownsRow base e size (.slice A' nm c') nm (xs ++ news) → Below base w w' → w.grownBy w' v.ownBlock → wpList P ops Q rest (a.put o.dst (.slice A' nm c')) w') : wpList P ops Q (o :: rest) a w :=
  wpList_plain hgd fun _ hK => wp_append_src w s x t ho base e i z size bytes ht hi hz hsize hby hzs hsz v n xs hs hown A m c news hx hr h1 nm hnm h63 hbytes hbase hA fun A' c' w' h2 h3 h4 => hK _ _ (h A' c' w' h2 h3 h4)

end
theorem src_block {W : World} {B : Nat} {e : TypeId} {cs : Array Value} {fr : Nat × Nat} {size m : Nat} (hb : W.heap[B]? = some (.cells cs e fr)) (hm : cs.size = m * size) : Src W size (some ⟨B, 0, none⟩) m cs.toList :=
  ⟨by simpa using hm, fun _ => ⟨_, rfl, World.news_of_block hb⟩⟩
theorem own_lit0 {W : World} {S : Nat} {e : TypeId} {size : Nat} (hS : W.heap.size = S) : (W.alloc (.cells #[] e)).ownsRow S e size (.slice (some ⟨S, 0, none⟩) 0 0) 0 [] := by
  subst hS; exact World.ownsRow_lit W #[] 0 (Nat.le_refl _) (by unfold maxLen; omega) (by simp)
end Go.Proofs.YtiahmfpfimmbgaaGreatDoor

/-! What growing and setting leave. No program is named here. -/
namespace Go.Proofs.YtiahmfpfimmbgaaGreatDoor
open Go Go.RowKit

theorem grown_then {a w w' : World} {row : Option Nat} (h : Below a.heap.size a w) (h' : w.grownBy w' row) : a.grownBy w' row :=
  ⟨h'.os.trans h.os, h'.tape.trans h.tape, h'.output.trans h.output, Nat.le_trans h.size h'.size, fun i hi hne => (h'.block i (Nat.lt_of_lt_of_le hi h.size) hne).trans (h.block i hi)⟩
theorem heap_set_same (w : World) (r : Nat) (o : Nat) (u : Value) (cs : Array Value) (t : TypeId) (h : w.heap[r]? = some (.cells cs t (0, 0))) : (w.setCell ⟨r, o, none⟩ u).heap[r]? = some (.cells (cs.setIfInBounds o u) t (0, 0)) := by
  unfold World.setCell
  simp only [Array.getElem?_modify, if_true]
  rw [h]
  rfl
theorem cell_of_block {w : World} {r : Nat} {cs : Array Value} {t : TypeId} (h : w.heap[r]? = some (.cells cs t (0, 0))) (i : Nat) : w.cell? ⟨r, i, none⟩ = cs[i]? ∧ w.frozen? ⟨r, i, none⟩ = false := by
  unfold World.cell? World.frozen?
  simp [h]
theorem size_setCell (w : World) (a : Addr) (v : Value) : (w.setCell a v).heap.size = w.heap.size := by simp [World.setCell]
theorem rows_kept {w w' : World} {base : Nat} {e : TypeId} {size n : Nat} {v : Value} {xs : List Value} {b : Option Nat} (h : w.ownsRow base e size v n xs) (hg : w.grownBy w' b) (hd : ∀ g, v.ownBlock = some g → b ≠ some g) : w'.ownsRow base e size v n xs :=
  h.kept hg (by
    rcases hv : v.ownBlock with _ | g
    · exact .inl rfl
    · exact .inr (fun e => hd g hv e.symm))
end Go.Proofs.YtiahmfpfimmbgaaGreatDoor

/-! Contracts of the copies and comparisons of lists of integers and of truth values. -/
namespace Go.Proofs.YtiahmfpfimmbgaaGreatDoor
open Go Go.RowKit

theorem int_info : (Tryz.prog.info? 3).map (fun i => (i.zero, i.size, i.bytes)) = some (some (.int .i64 0), 1, 8) := by kernel_rfl
theorem sl_ints_of_own {w : World} {F : Nat → Prop} {base : Nat} {e : TypeId} {A : Option Addr} {n c : Nat} {xs : List Int} (h : w.ownsRow base e 1 (.slice A n c) n (xs.map (Value.int .i64)))
    (hF : ∀ g, base ≤ g → g < w.heap.size → F g) : Lay.int.Sl w F A xs ∧ n = xs.length ∧ n ≤ c := by
  have hn : n = xs.length := by have := h.1; simp at this; omega
  refine ⟨.of_own h hn hF fun k x hx => ⟨_, rfl, fun j u hu => ?_⟩, hn, ?_⟩
  · match j, hu with
    | 0, hu => simp [Lay.int, Lay.flat, hx]; simpa using hu
  · rcases h.2 with ⟨h1, h2⟩ | ⟨g, cap, cur, h1, _, _, h2, _⟩
    · omega
    · injection h1 with _ _ h3; omega
theorem sl_bools_of_own {w : World} {F : Nat → Prop} {base : Nat} {e : TypeId} {A : Option Addr} {n c : Nat} {xs : List Bool} (h : w.ownsRow base e 1 (.slice A n c) n (xs.map Value.bool))
    (hF : ∀ g, base ≤ g → g < w.heap.size → F g) : Lay.bool.Sl w F A xs ∧ n = xs.length ∧ n ≤ c := by
  have hn : n = xs.length := by have := h.1; simp at this; omega
  refine ⟨.of_own h hn hF fun k x hx => ⟨_, rfl, fun j u hu => ?_⟩, hn, ?_⟩
  · match j, hu with
    | 0, hu => simp [Lay.bool, Lay.flat, hx]; simpa using hu
  · rcases h.2 with ⟨h1, h2⟩ | ⟨g, cap, cur, h1, _, _, h2, _⟩
    · omega
    · injection h1 with _ _ h3; omega
end Go.Proofs.YtiahmfpfimmbgaaGreatDoor

/-! VecOk, the program's and the reference's; powers of two. -/
namespace Go.Proofs.YtiahmfpfimmbgaaGreatDoor
open Go Go.RowKit

theorem pow_small16 {n : Nat} (h : n ≤ 16) : 2 ^ n ≤ 65536 := Nat.pow_le_pow_right (by omega) h
/-- l1Two leaves the memory as it was. -/
theorem l1Two_q (n : Nat) (w : World) (hn : n ≤ 16) :
    Calls Tryz.prog 129 #[.int .i64 (n : Int)] w fun e w' => e = .returned (.int .i64 ((2 ^ n : Nat) : Int)) ∧ w = w' := by
  obtain ⟨T, hT⟩ : ∃ T, T = 2 ^ n := ⟨_, rfl⟩
  rw [← hT]
  have HT := Lib.hid hT
  clear hT
  go_enter Tryz.func129, Tryz.ntmps129
  go_wp2
  go_loop [3, 4] (fun o i => ∃ (j p : Nat), j ≤ n ∧ i = .int .i64 j ∧ o = .int .i64 p ∧ p ≤ 65536 ∧ Hid (p = 2 ^ j)) (fun _ i => n - (intOf i).toNat)
  case atStart => exact ⟨0, 1, Nat.zero_le _, rfl, rfl, by omega, Lib.hid rfl⟩
  case round =>
    obtain ⟨j, p, hj, rfl, rfl, hp, HP⟩ := hrel
    by_cases hlt : j < n
    · have hlt2 : (j : Int) < n := by omega
      have HP2 : Hid (p * 2 ≤ 65536 ∧ p * 2 = 2 ^ (j + 1)) := Lib.hid ⟨by rw [HP.out, ← Nat.pow_succ]; exact pow_small16 (by omega), by rw [HP.out, Nat.pow_succ]⟩
      have hq : ((p * 2 : Nat) : Int) ≤ 65536 := by have := HP2.out.1; omega
      go_wp2
      go_round
      case rel => exact ⟨j + 1, p * 2, by omega, by go_num, by go_num, HP2.out.1, Lib.hid HP2.out.2⟩
      case measure => simp [intOf]; omega
    · have hje : j = n := by omega
      subst hje
      have hpT : p = T := by rw [HP.out, HT.out]
      subst hpT
      go_wp2
      go_ret
      exact ⟨rfl, rfl⟩
set_option maxRecDepth 100000 in
set_option maxHeartbeats 4000000 in
theorem specVecOk_any (m n : Int) (w : World) : Calls Tryz.prog 121 #[.agg #[.int .i64 m, .int .i64 n]] w (RetB w (vecB m n)) := by
  have hal : Below w.heap.size w (w.alloc (.cells #[.int .i64 m, .int .i64 n] 140)) := (Below.refl _ _).alloc (Nat.le_refl _) _
  have HAL := Lib.hid hal
  have HB := Lib.hid (heap_alloc_new w (.cells #[.int .i64 m, .int .i64 n] 140))
  clear hal
  unfold vecB
  by_cases h1 : 1 ≤ m
  · by_cases h4 : m ≤ 4
    · by_cases h0 : 0 ≤ n
      · obtain ⟨T, hT⟩ : ∃ T : Nat, T = 2 ^ m.toNat := ⟨_, rfl⟩
        have htwo : ∀ z, Calls Tryz.prog 129 #[.int .i64 m] z fun e w' => e = .returned (.int .i64 (T : Int)) ∧ z = w' := fun z => by
          have h9 := l1Two_q m.toNat z (by omega)
          rw [Int.toNat_of_nonneg (by omega), ← hT] at h9
          exact h9
        have HTWO := Lib.hid htwo
        have hb : ((2 : Int) ^ (m.toNat)) = (T : Int) := by rw [hT]; simp
        rw [hb, decide_eq_true h1, decide_eq_true h4, decide_eq_true h0]
        clear hT hb htwo
        have g1 : decide (1 ≤ m) = true := decide_eq_true h1
        have g4 : decide (m ≤ 4) = true := decide_eq_true h4
        have g0 : decide (0 ≤ n) = true := decide_eq_true h0
        by_cases hl : n < (T : Int)
        all_goals
          go_enter Tryz.func121, Tryz.ntmps121
          go_wp2
          generalize w.alloc (.cells #[.int .i64 m, .int .i64 n] 140) = w1 at *
          have v0 := (cell_of_block HB.out 0).1
          have v1 := (cell_of_block HB.out 1).1
          go_quiet ((go_at_call 129; exact quiet_left (HTWO.out _)))
          go_wp2
          go_ret
          exact ⟨by simp [hl], below_drewN HAL.out _⟩
      · rw [decide_eq_false h0]
        have g1 : decide (1 ≤ m) = true := decide_eq_true h1
        have g4 : decide (m ≤ 4) = true := decide_eq_true h4
        have g0 : decide (0 ≤ n) = false := decide_eq_false h0
        go_enter Tryz.func121, Tryz.ntmps121
        go_wp2
        generalize w.alloc (.cells #[.int .i64 m, .int .i64 n] 140) = w1 at *
        have v0 := (cell_of_block HB.out 0).1
        have v1 := (cell_of_block HB.out 1).1
        go_quiet (fail)
        go_wp2
        go_ret
        exact ⟨by simp, below_drewN HAL.out _⟩
    · rw [decide_eq_false h4]
      have g1 : decide (1 ≤ m) = true := decide_eq_true h1
      have g4 : decide (m ≤ 4) = false := decide_eq_false h4
      go_enter Tryz.func121, Tryz.ntmps121
      go_wp2
      generalize w.alloc (.cells #[.int .i64 m, .int .i64 n] 140) = w1 at *
      have v0 := (cell_of_block HB.out 0).1
      have v1 := (cell_of_block HB.out 1).1
      go_quiet (fail)
      go_wp2
      go_ret
      exact ⟨by simp, below_drewN HAL.out _⟩
  · rw [decide_eq_false h1]
    have g1 : decide (1 ≤ m) = false := decide_eq_false h1
    go_enter Tryz.func121, Tryz.ntmps121
    go_wp2
    generalize w.alloc (.cells #[.int .i64 m, .int .i64 n] 140) = w1 at *
    have v0 := (cell_of_block HB.out 0).1
    have v1 := (cell_of_block HB.out 1).1
    go_quiet (fail)
    go_wp2
    go_ret
    exact ⟨by simp, below_drewN HAL.out _⟩
set_option maxRecDepth 100000 in
set_option maxHeartbeats 8000000 in
theorem implVecOk_any (m n : Int) (w : World) : Calls Tryz.prog 174 #[.agg #[.int .i64 m, .int .i64 n]] w (RetB w (vecB m n)) := by
  have hal : Below w.heap.size w (w.alloc (.cells #[.int .i64 m, .int .i64 n] 140)) := (Below.refl _ _).alloc (Nat.le_refl _) _
  have HAL := Lib.hid hal
  have HB := Lib.hid (heap_alloc_new w (.cells #[.int .i64 m, .int .i64 n] 140))
  clear hal
  unfold vecB
  by_cases h1 : 1 ≤ m
  · by_cases h4 : m ≤ 4
    · by_cases h0 : 0 ≤ n
      · rw [decide_eq_true h1, decide_eq_true h4, decide_eq_true h0]
        rcases (by omega : m = 1 ∨ m = 2 ∨ m = 3 ∨ m = 4) with rfl | rfl | rfl | rfl
        · rw [show ((2 : Int) ^ (Int.toNat 1)) = 2 from rfl]
          by_cases hl : n < 2
          · rw [decide_eq_true hl]
            go_enter Tryz.func174, Tryz.ntmps174
            go_wp2
            generalize w.alloc (.cells #[.int .i64 1, .int .i64 n] 140) = w1 at *
            have v0 := (cell_of_block HB.out 0).1
            have v1 := (cell_of_block HB.out 1).1
            go_quiet (fail)
            go_wp2
            go_ret
            exact ⟨by first | rfl | (simp; omega) | (simp; simpa using hl), below_drewN HAL.out _⟩
          · rw [decide_eq_false hl]
            go_enter Tryz.func174, Tryz.ntmps174
            go_wp2
            generalize w.alloc (.cells #[.int .i64 1, .int .i64 n] 140) = w1 at *
            have v0 := (cell_of_block HB.out 0).1
            have v1 := (cell_of_block HB.out 1).1
            go_quiet (fail)
            go_wp2
            go_ret
            exact ⟨by first | rfl | (simp; omega) | (simp; simpa using hl), below_drewN HAL.out _⟩
        · rw [show ((2 : Int) ^ (Int.toNat 2)) = 4 from rfl]
          by_cases hl : n < 4
          · rw [decide_eq_true hl]
            go_enter Tryz.func174, Tryz.ntmps174
            go_wp2
            generalize w.alloc (.cells #[.int .i64 2, .int .i64 n] 140) = w1 at *
            have v0 := (cell_of_block HB.out 0).1
            have v1 := (cell_of_block HB.out 1).1
            go_quiet (fail)
            go_wp2
            go_ret
            exact ⟨by first | rfl | (simp; omega) | (simp; simpa using hl), below_drewN HAL.out _⟩
          · rw [decide_eq_false hl]
            go_enter Tryz.func174, Tryz.ntmps174
            go_wp2
            generalize w.alloc (.cells #[.int .i64 2, .int .i64 n] 140) = w1 at *
            have v0 := (cell_of_block HB.out 0).1
            have v1 := (cell_of_block HB.out 1).1
            go_quiet (fail)
            go_wp2
            go_ret
            exact ⟨by first | rfl | (simp; omega) | (simp; simpa using hl), below_drewN HAL.out _⟩
        · rw [show ((2 : Int) ^ (Int.toNat 3)) = 8 from rfl]
          by_cases hl : n < 8
          · rw [decide_eq_true hl]
            go_enter Tryz.func174, Tryz.ntmps174
            go_wp2
            generalize w.alloc (.cells #[.int .i64 3, .int .i64 n] 140) = w1 at *
            have v0 := (cell_of_block HB.out 0).1
            have v1 := (cell_of_block HB.out 1).1
            go_quiet (fail)
            go_wp2
            go_ret
            exact ⟨by first | rfl | (simp; omega) | (simp; simpa using hl), below_drewN HAL.out _⟩
          · rw [decide_eq_false hl]
            go_enter Tryz.func174, Tryz.ntmps174
            go_wp2
            generalize w.alloc (.cells #[.int .i64 3, .int .i64 n] 140) = w1 at *
            have v0 := (cell_of_block HB.out 0).1
            have v1 := (cell_of_block HB.out 1).1
            go_quiet (fail)
            go_wp2
            go_ret
            exact ⟨by first | rfl | (simp; omega) | (simp; simpa using hl), below_drewN HAL.out _⟩
        · rw [show ((2 : Int) ^ (Int.toNat 4)) = 16 from rfl]
          by_cases hl : n < 16
          · rw [decide_eq_true hl]
            go_enter Tryz.func174, Tryz.ntmps174
            go_wp2
            generalize w.alloc (.cells #[.int .i64 4, .int .i64 n] 140) = w1 at *
            have v0 := (cell_of_block HB.out 0).1
            have v1 := (cell_of_block HB.out 1).1
            go_quiet (fail)
            go_wp2
            go_ret
            exact ⟨by first | rfl | (simp; omega) | (simp; simpa using hl), below_drewN HAL.out _⟩
          · rw [decide_eq_false hl]
            go_enter Tryz.func174, Tryz.ntmps174
            go_wp2
            generalize w.alloc (.cells #[.int .i64 4, .int .i64 n] 140) = w1 at *
            have v0 := (cell_of_block HB.out 0).1
            have v1 := (cell_of_block HB.out 1).1
            go_quiet (fail)
            go_wp2
            go_ret
            exact ⟨by first | rfl | (simp; omega) | (simp; simpa using hl), below_drewN HAL.out _⟩
      · rw [decide_eq_false h0]
        have g1 : decide (1 ≤ m) = true := decide_eq_true h1
        have g4 : decide (m ≤ 4) = true := decide_eq_true h4
        have g0 : decide (0 ≤ n) = false := decide_eq_false h0
        go_enter Tryz.func174, Tryz.ntmps174
        go_wp2
        generalize w.alloc (.cells #[.int .i64 m, .int .i64 n] 140) = w1 at *
        have v0 := (cell_of_block HB.out 0).1
        have v1 := (cell_of_block HB.out 1).1
        go_quiet (fail)
        go_wp2
        go_ret
        exact ⟨by simp, below_drewN HAL.out _⟩
    · rw [decide_eq_false h4]
      have g1 : decide (1 ≤ m) = true := decide_eq_true h1
      have g4 : decide (m ≤ 4) = false := decide_eq_false h4
      go_enter Tryz.func174, Tryz.ntmps174
      go_wp2
      generalize w.alloc (.cells #[.int .i64 m, .int .i64 n] 140) = w1 at *
      have v0 := (cell_of_block HB.out 0).1
      have v1 := (cell_of_block HB.out 1).1
      go_quiet (fail)
      go_wp2
      go_ret
      exact ⟨by simp, below_drewN HAL.out _⟩
  · rw [decide_eq_false h1]
    have g1 : decide (1 ≤ m) = false := decide_eq_false h1
    go_enter Tryz.func174, Tryz.ntmps174
    go_wp2
    generalize w.alloc (.cells #[.int .i64 m, .int .i64 n] 140) = w1 at *
    have v0 := (cell_of_block HB.out 0).1
    have v1 := (cell_of_block HB.out 1).1
    go_quiet (fail)
    go_wp2
    go_ret
    exact ⟨by simp, below_drewN HAL.out _⟩
end Go.Proofs.YtiahmfpfimmbgaaGreatDoor

/-! The reference's declarations: l2Name, l2Find, DeclOk, l8Bits, EnvOk. -/
namespace Go.Proofs.YtiahmfpfimmbgaaGreatDoor
open Go Go.RowKit

theorem take_let (s : ByteArray) (k : Nat) (h : k < s.size) : (s.data.toList.take (k + 1)).all letter = ((s.data.toList.take k).all letter && letter s[k]) := by
  rw [List.take_succ_eq_append_getElem (by simpa using h), List.all_append]
  simp
  rfl
theorem all_of_take {l : List UInt8} {k : Nat} (h : (l.take k).all letter = false) : l.all letter = false := by
  rw [Bool.eq_false_iff] at h ⊢
  intro h9
  exact h (List.all_eq_true.2 fun x hx => List.all_eq_true.1 h9 x (List.mem_of_mem_take hx))
set_option maxHeartbeats 1000000 in
theorem l2Name_any (s : ByteArray) (w : World) (hs : s.size ≤ 9223372036854775807) :
    Calls Tryz.prog 100 #[.string s] w fun e w' => e = .returned (.bool (nameOk s)) ∧ w = w' := by
  go_enter Tryz.func100, Tryz.ntmps100
  go_wp2
  go_loop [3] (fun i => ∃ k : Nat, k ≤ s.size ∧ i = .int .i64 k ∧ Hid ((s.data.toList.take k).all letter = true)) (fun i => s.size - (intOf i).toNat)
  case atStart => exact ⟨0, Nat.zero_le _, rfl, Lib.hid (by simp)⟩
  case round =>
    obtain ⟨k, hk, rfl, HT⟩ := hrel
    by_cases hlt : k < s.size
    · have HST := Lib.hid (take_let s k hlt)
      by_cases h1 : (s[k].toNat : Int) < 97
      · have HL : Hid (letter s[k] = false) := Lib.hid (by unfold letter; rw [decide_eq_false (by omega)]; rfl)
        have HA : Hid (allLet s = false) := Lib.hid (all_of_take (k := k + 1) (by rw [HST.out, HL.out, Bool.and_false]))
        have g1 : decide ((s[k].toNat : Int) < 97) = true := decide_eq_true h1
        go_wp2
        go_ret
        exact ⟨ret_bool (by unfold nameOk; rw [HA.out, Bool.and_false]), rfl⟩
      · by_cases h2 : (122 : Int) < s[k].toNat
        · have HL : Hid (letter s[k] = false) := Lib.hid (by unfold letter; rw [decide_eq_false (by omega : ¬ (s[k].toNat : Int) ≤ 122), Bool.and_false])
          have HA : Hid (allLet s = false) := Lib.hid (all_of_take (k := k + 1) (by rw [HST.out, HL.out, Bool.and_false]))
          have g1 : decide ((s[k].toNat : Int) < 97) = false := decide_eq_false h1
          go_wp2
          go_ret
          exact ⟨ret_bool (by unfold nameOk; rw [HA.out, Bool.and_false]), rfl⟩
        · have HL : Hid ((s.data.toList.take (k + 1)).all letter = true) := Lib.hid (by rw [HST.out, HT.out]; unfold letter; rw [decide_eq_true (by omega), decide_eq_true (by omega)]; rfl)
          have g1 : decide ((s[k].toNat : Int) < 97) = false := decide_eq_false h1
          go_wp2
          go_round
          case rel => exact ⟨k + 1, by omega, by go_num, HL⟩
          case measure => simp [intOf]; omega
    · have HA : Hid (allLet s = true) := Lib.hid (by have := HT.out; rwa [List.take_of_length_le (by simp; omega)] at this)
      have hke : k = s.size := by omega
      subst hke
      by_cases h1 : 1 ≤ s.size
      · by_cases h4 : s.size ≤ 4
        · obtain ⟨q, hq⟩ : ∃ q, q = tru s := ⟨_, rfl⟩
          have HQ := Lib.hid hq
          have g9 : (s.toList == [116, 114, 117, 101]) = q := hq.symm
          have HN : Hid (nameOk s = !q) := Lib.hid (by unfold nameOk; rw [decide_eq_true h1, decide_eq_true h4, HA.out, HQ.out, Bool.and_true, Bool.true_and, Bool.true_and])
          clear hq
          cases q
          · go_wp2
            go_ret
            exact ⟨ret_bool (by rw [HN.out]; rfl), rfl⟩
          · go_wp2
            go_ret
            exact ⟨ret_bool (by rw [HN.out]; rfl), rfl⟩
        · have HN : Hid (nameOk s = false) := Lib.hid (by unfold nameOk; rw [decide_eq_false h4, Bool.and_false, Bool.false_and, Bool.false_and])
          go_wp2
          go_ret
          exact ⟨ret_bool (by rw [HN.out]), rfl⟩
      · have HN : Hid (nameOk s = false) := Lib.hid (by unfold nameOk; rw [decide_eq_false h1, Bool.false_and, Bool.false_and, Bool.false_and])
        go_wp2
        go_ret
        exact ⟨ret_bool (by rw [HN.out]), rfl⟩
set_option maxHeartbeats 1000000 in
theorem l2Find_any (A : Option Addr) (c : Nat) (xs : List D) (s : ByteArray) (F : Nat → Prop) (w : World) (h : Lay.decl.Sl w F A xs) (hn : xs.length ≤ 9223372036854775807) :
    Calls Tryz.prog 101 #[.slice A xs.length c, .string s] w fun e w' => e = .returned (.int .i64 (fN 0 xs s)) ∧ w = w' := by
  go_enter Tryz.func101, Tryz.ntmps101
  go_wp2
  go_loop [5] (fun i => ∃ k : Nat, k ≤ xs.length ∧ i = .int .i64 k ∧ Hid (fN 0 xs s = fN k (xs.drop k) s)) (fun i => xs.length - (intOf i).toNat)
  case atStart => exact ⟨0, Nat.zero_le _, rfl, Lib.hid rfl⟩
  case round =>
    obtain ⟨k, hk, rfl, HT⟩ := hrel
    by_cases hlt : k < xs.length
    · obtain ⟨ad, rfl, hf, c1, c2⟩ := h.at_decl hlt
      have hk1 : (k : Int) < xs.length := by omega
      have HS := Lib.hid (fN_step xs k s hlt)
      obtain ⟨q, hq⟩ : ∃ q, q = (xs[k].name.toList == s.toList) := ⟨_, rfl⟩
      have HQ := Lib.hid hq
      have g9 := hq.symm
      clear hq
      cases q
      · have HE : Hid (fN 0 xs s = fN (k + 1) (xs.drop (k + 1)) s) := Lib.hid (by rw [HT.out, HS.out, ← HQ.out]; rfl)
        go_wp2
        go_round
        case rel => exact ⟨k + 1, by omega, by go_num, HE⟩
        case measure => simp [intOf]; omega
      · have HE : Hid (fN 0 xs s = (k : Int)) := Lib.hid (by rw [HT.out, HS.out, ← HQ.out]; rfl)
        go_wp2
        go_ret
        exact ⟨ret_int (by rw [HE.out]), rfl⟩
    · have HE : Hid (fN 0 xs s = -1) := Lib.hid (by rw [HT.out, List.drop_of_length_le (by omega)]; rfl)
      have hke : k = xs.length := by omega
      subst hke
      go_wp2
      go_ret
      exact ⟨ret_int (by rw [HE.out]), rfl⟩
theorem dOne_name {seen : List D} {x : D} (h : nameOk x.name = false) : dOne seen x = false := by unfold dOne; rw [h]; rfl
theorem dOne_low {seen : List D} {x : D} (h : ¬ 1 ≤ x.wide) : dOne seen x = false := by unfold dOne wideOk; rw [decide_eq_false h]; simp
theorem dOne_high {seen : List D} {x : D} (h : ¬ x.wide ≤ 4) : dOne seen x = false := by unfold dOne wideOk; rw [decide_eq_false h]; simp
theorem dOne_seen {seen : List D} {x : D} (h : hasN seen x.name = true) : dOne seen x = false := by unfold dOne; rw [h]; simp
theorem dOne_yes {seen : List D} {x : D} (h : nameOk x.name = true) (h1 : 1 ≤ x.wide) (h4 : x.wide ≤ 4) (h' : hasN seen x.name = false) : dOne seen x = true := by
  unfold dOne wideOk; rw [h, h', decide_eq_true h1, decide_eq_true h4]; rfl
def okNames (ds : List D) : Prop := ∀ d ∈ ds, d.name.size ≤ 9223372036854775807
set_option maxRecDepth 100000 in
set_option maxHeartbeats 4000000 in
theorem specDeclOk_any (A : Option Addr) (c : Nat) (xs : List D) (F : Nat → Prop) (w : World) (h : Lay.decl.Sl w F A xs) (hF : ∀ b, F b → b < w.heap.size) (hn : xs.length ≤ 9223372036854775807) (ho : okNames xs) (hc : xs.length ≤ c) :
    Calls Tryz.prog 77 #[.slice A xs.length c] w (RetB w (declOk xs)) := by
  by_cases hl4 : xs.length ≤ 4
  · go_enter Tryz.func77, Tryz.ntmps77
    go_wp2
    go_loopw [3, 4] (fun b i wr => ∃ (k : Nat) (n : Int), k ≤ xs.length ∧ i = .int .i64 k ∧ b = .int .i64 n ∧ 0 ≤ n ∧ n ≤ 4 * k ∧ Below w.heap.size w wr ∧ Hid (dGo [] 0 xs = dGo (xs.take k) n (xs.drop k))) (fun _ i _ => xs.length - (intOf i).toNat)
    case atStart => exact ⟨0, 0, Nat.zero_le _, rfl, rfl, by omega, by omega, Below.refl _ _, Lib.hid rfl⟩
    case round =>
      obtain ⟨k, n, hk, rfl, rfl, n0, n1, hb, HT⟩ := hrel
      by_cases hlt : k < xs.length
      · have hr := h.below hb hF
        have HFI := Lib.hid (fun z (hz : Lay.decl.Sl z F A (xs.take k)) => l2Find_any A c (xs.take k) xs[k].name F z hz (by rw [List.length_take]; omega))
        obtain ⟨ad, rfl, hf, c1, c2⟩ := hr.at_decl hlt
        have hk1 : (k : Int) < xs.length := by omega
        have HN := Lib.hid (fun z => l2Name_any xs[k].name z (ho _ (List.getElem_mem hlt)))
        have hkc : k ≤ c := by omega
        have HR := Lib.hid hr
        clear hr
        by_cases hnm : nameOk xs[k].name = true
        · by_cases h1 : 1 ≤ xs[k].wide
          · by_cases h4 : xs[k].wide ≤ 4
            · have e9 : (xs.take k).length = k := by rw [List.length_take]; omega
              obtain ⟨q, hq⟩ : ∃ q, q = fN 0 (xs.take k) xs[k].name := ⟨_, rfl⟩
              have HFK : Hid (∀ m, Calls Tryz.prog 101 #[.slice (some ad) k c, .string xs[k].name] (wr.drewN m) fun e w' => e = .returned (.int .i64 q) ∧ wr.drewN m = w') := Lib.hid (fun m => by
                have h9 := HFI.out (wr.drewN m) ((HR.out.take k).keep fun _ _ => rfl)
                rw [e9, ← hq] at h9
                exact h9)
              have g1 : decide (xs[k].wide < 1) = false := decide_eq_false (by omega)
              have g4 : decide (4 < xs[k].wide) = false := decide_eq_false (by omega)
              have HQ := Lib.hid hq
              rw [hnm] at HN
              clear hq e9 HFI
              by_cases hq0 : 0 ≤ q
              · have HB : Hid (declOk xs = false) := Lib.hid (declOk_bad xs k n hlt HT.out (dOne_seen ((fN_has 0 _ _).1 (by rw [← HQ.out]; exact hq0))))
                go_wp2
                go_quiet ((first | (go_at_call 100; exact quiet_left (HN.out _)) | (go_at_call 101; exact quiet_left (HFK.out _))))
                go_wp2
                go_ret
                exact ⟨ret_bool (by rw [HB.out]), below_drewN hb _⟩
              · have hh : hasN (xs.take k) xs[k].name = false := Bool.eq_false_iff.2 fun h9 => hq0 (by rw [HQ.out]; exact (fN_has 0 _ _).2 h9)
                have HX : Hid (dGo [] 0 xs = dGo (xs.take (k + 1)) (n + xs[k].wide) (xs.drop (k + 1))) := Lib.hid (declOk_next xs k n hlt HT.out (dOne_yes hnm h1 h4 hh))
                clear hh hnm
                go_wp2
                go_quiet ((first | (go_at_call 100; exact quiet_left (HN.out _)) | (go_at_call 101; exact quiet_left (HFK.out _))))
                go_wp2
                go_roundw
                case rel => exact ⟨k + 1, n + xs[k].wide, by omega, by go_num, rfl, by omega, by omega, below_drewN hb _, HX⟩
                case measure => simp [intOf]; omega
            · have HB : Hid (declOk xs = false) := Lib.hid (declOk_bad xs k n hlt HT.out (dOne_high h4))
              rw [hnm] at HN
              have g1 : decide (xs[k].wide < 1) = false := decide_eq_false (by omega)
              have g4 : decide (4 < xs[k].wide) = true := decide_eq_true (by omega)
              clear hnm HFI
              go_wp2
              go_quiet ((go_at_call 100; exact quiet_left (HN.out _)))
              go_wp2
              go_ret
              exact ⟨ret_bool (by rw [HB.out]), below_drewN hb _⟩
          · have HB : Hid (declOk xs = false) := Lib.hid (declOk_bad xs k n hlt HT.out (dOne_low h1))
            rw [hnm] at HN
            have g1 : decide (xs[k].wide < 1) = true := decide_eq_true (by omega)
            clear hnm HFI
            go_wp2
            go_quiet ((go_at_call 100; exact quiet_left (HN.out _)))
            go_wp2
            go_ret
            exact ⟨ret_bool (by rw [HB.out]), below_drewN hb _⟩
        · have hnm := Bool.eq_false_iff.2 hnm
          have HB : Hid (declOk xs = false) := Lib.hid (declOk_bad xs k n hlt HT.out (dOne_name hnm))
          rw [hnm] at HN
          clear hnm HFI
          go_wp2
          go_quiet ((go_at_call 100; exact quiet_left (HN.out _)))
          go_wp2
          go_ret
          exact ⟨ret_bool (by rw [HB.out]), below_drewN hb _⟩
      · have hke : k = xs.length := by omega
        subst hke
        have HE := Lib.hid (declOk_end xs n hl4 HT.out)
        go_wp2
        go_ret
        exact ⟨ret_bool (by rw [HE.out]), hb⟩
  · have HE := Lib.hid (declOk_long xs hl4)
    go_enter Tryz.func77, Tryz.ntmps77
    go_wp2
    go_ret
    exact ⟨ret_bool (by rw [HE.out]), Below.refl _ _⟩
end Go.Proofs.YtiahmfpfimmbgaaGreatDoor

/-! Contracts of the laws' sizes: szDeclS, szTermS, szLayerS. -/
namespace Go.Proofs.YtiahmfpfimmbgaaGreatDoor
open Go Go.RowKit

mutual
def T.w : T → Nat
  | .mk _ _ _ n k => n.size + T.wl k
def T.wl : List T → Nat
  | [] => 0
  | x :: xs => 1 + T.w x + T.wl xs
end
theorem T.wl_eq : ∀ xs : List T, T.wl xs = xs.length + wsum T.w xs
  | [] => by simp [T.wl, wsum]
  | x :: xs => by simp only [T.wl, wsum, List.length_cons, T.wl_eq xs]; omega
theorem T.w_eq (t : T) : t.w = t.name.size + (t.kids.length + wsum T.w t.kids) := by
  cases t; simp only [T.w, T.wl_eq]; rfl
def D.w (d : D) : Nat := d.name.size
def Ly.w (l : Ly) : Nat := (l.ds.length + wsum D.w l.ds) + (l.ts.length + wsum T.w l.ts)
/-- All lists are short. -/
def okT2 (t : T) : Prop := t.kids.length ≤ 1048576 ∧ t.name.size ≤ 1048576
theorem T.small (t : T) (h : t.w ≤ 1048576) : T.All okT2 t := by
  revert h
  refine T.ind (p := fun t => t.w ≤ 1048576 → T.All okT2 t) (fun t ih h => ?_) t
  rw [T.w_eq] at h
  refine .mk t ⟨by omega, by omega⟩ fun k hk => ih k hk ?_
  have := wsum_mem T.w hk
  omega
theorem T.smallS {xs : List T} (h : xs.length + wsum T.w xs ≤ 1048576) : xs.length ≤ 1048576 ∧ ∀ x ∈ xs, T.All okT2 x :=
  ⟨by omega, fun x hx => T.small x (by have := wsum_mem T.w hx; omega)⟩

end Go.Proofs.YtiahmfpfimmbgaaGreatDoor

/-! Contracts of the laws' copies: toDeclS, toTermS, toLayerS. -/
namespace Go.Proofs.YtiahmfpfimmbgaaGreatDoor
open Go Go.RowKit

theorem below_set9 {B : Nat} {w X : World} {p : Addr} (h : Below B w X) (hp : B ≤ p.block) (u : Value) : Below B w (X.setCell p u) :=
  ⟨h.os, h.tape, h.output, by simpa [World.setCell] using h.size, fun b hb => (Below.heap_setCell X p u b (by omega)).trans (h.block b hb)⟩
def okL2 (l : Ly) : Prop := l.ds.length ≤ 1048576 ∧ l.ts.length ≤ 1048576 ∧ ∀ t ∈ l.ts, T.All okT2 t
end Go.Proofs.YtiahmfpfimmbgaaGreatDoor
