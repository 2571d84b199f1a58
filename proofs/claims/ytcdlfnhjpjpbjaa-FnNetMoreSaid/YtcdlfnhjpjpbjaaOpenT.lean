/- What came in, opened, by the reader's fuel: for types that hold themselves. No program is named here. -/
import Derived.Test.YtcdlfnhjpjpbjaaOpen
import Derived.Test.YtcdlfnhjpjpbjaaTerm
namespace Go.Proofs.Ytcdlfnhjpjpbjaa
open Go Go.RowKit Go.ChangeShapes Go.WideShapes Go.Deep

def OpensF {α : Type} (P : Program) (t : TypeId) (L : Lay α) (ok : α → Prop) (N : Nat) : Prop :=
  ∀ (H : Type) (enc : TypeId × Value → H) (w : World) (base : Nat) (spare : Nat → Bool) (held : Bool) (fuel : Nat) (cs : List Value) (x : DataW H × List MemPlace),
    fuel ≤ N → DataW.trod enc P w base spare held fuel t cs = some x → ∃ a, ok a ∧ L.R w (fun b => b < w.heap.size) a cs
theorem Opens.at {α : Type} {P : Program} {t : TypeId} {L : Lay α} {ok : α → Prop} (h : Opens P t L ok) (N : Nat) : OpensF P t L ok N :=
  fun H enc w base spare held fuel cs x _ hx => h H enc w base spare held fuel cs x hx
theorem Opens.of {α : Type} {P : Program} {t : TypeId} {L : Lay α} {ok : α → Prop} (h : ∀ N, OpensF P t L ok N) : Opens P t L ok :=
  fun H enc w base spare held fuel cs x hx => h fuel H enc w base spare held fuel cs x (Nat.le_refl _) hx
theorem OpensF.mono {α : Type} {P : Program} {t : TypeId} {L : Lay α} {ok : α → Prop} {N M : Nat} (h : OpensF P t L ok N) (hM : M ≤ N) : OpensF P t L ok M :=
  fun H enc w base spare held fuel cs x hl hx => h H enc w base spare held fuel cs x (Nat.le_trans hl hM) hx

theorem OpensF.slice {α : Type} {P : Program} {t e : TypeId} {L : Lay α} {ok : α → Prop} {N : Nat} (ht : P.underlying t = some (.slice e)) (hc : P.cellsOf e = L.size) (hs : 0 < L.size) (ho : OpensF P e L ok N) :
    OpensF P t L.slice (fun xs => xs.length ≤ maxLen ∧ ∀ x ∈ xs, ok x) (N + 1) := by
  intro H enc w base spare held fuel cs x hl h
  rcases DataW.trod_slice ht h with ⟨rfl, _⟩ | ⟨a, len, cap, elems, rest, n, hfu, rfl, _, _, hlc, hcm, hel, hi, _, _⟩
  · exact ⟨[], ⟨by simp, by simp⟩, none, 0, rfl, by simp, .nil L w _ _⟩
  · obtain ⟨xs, hxl, hx⟩ := list_of_forall len (fun i a' => ok a' ∧ ∃ vs, L.R w (fun b => b < w.heap.size) a' vs ∧ ∀ j u, vs[j]? = some u → w.cell? (a.add (i * L.size + j)) = some u) (by
      intro i hil
      have key := hi i hil
      rw [List.getElem?_eq_getElem (by omega)] at key
      obtain ⟨cs', hcell, htr⟩ := Option.bind_eq_some_iff.1 key
      obtain ⟨a', hok, hr⟩ := ho H enc w base spare held n cs' _ (by omega) htr
      refine ⟨a', hok, cs', hr, fun j u hu => ?_⟩
      obtain ⟨_, hcl, hat⟩ := World.cells?_some hcell
      have hj : j < cs'.length := by
        rcases Nat.lt_or_ge j cs'.length with hj | hj
        · exact hj
        · rw [List.getElem?_eq_none hj] at hu; cases hu
      have h1 := hat j (by omega)
      rw [hc, add_of_add] at h1
      rw [h1, hu])
    refine ⟨xs, ⟨by omega, fun x hmem => ?_⟩, some a, cap, by rw [hxl], by omega, fun h0 => ⟨a, rfl, ?_, fun k x hk => (hx k x hk).2⟩⟩
    · obtain ⟨i, hi', rfl⟩ := List.getElem_of_mem hmem
      exact (hx i _ (List.getElem?_eq_getElem hi')).1
    · obtain ⟨_, vs, hr, hcell⟩ := hx 0 xs[0] (List.getElem?_eq_getElem h0)
      have hvl := L.len hr
      have h1 := hcell 0 vs[0] (List.getElem?_eq_getElem (by omega))
      have := World.block_lt_of_cell? w _ h1
      rwa [block_of_add] at this

/-- What the reader finds in a field. -/
theorem OpensF.field {α : Type} {P : Program} {t : TypeId} {fs : Array Field} {L : Lay α} {ok : α → Prop} {H : Type} {enc : TypeId × Value → H} {w : World} {base : Nat} {spare : Nat → Bool} {held : Bool} {fuel N : Nat} {cs : List Value}
    {x : DataW H × List MemPlace} (ht : P.underlying t = some (.struct fs)) (h : DataW.trod enc P w base spare held fuel t cs = some x) (hN : fuel ≤ N + 1) (i : Nat) (ty : TypeId) (o : Nat) (nm : Nat)
    (hf : (fs[i]?).map (fun f : Field => (f.type, f.offset)) = some (ty, o)) (hn : P.cellsOf ty = nm) (ho : OpensF P ty L ok N) :
    ∃ a, ok a ∧ L.R w (fun b => b < w.heap.size) a ((cs.drop o).take nm) := by
  obtain ⟨xs, n, hfu, _, _, hxl, hfld⟩ := DataW.trod_struct ht h
  cases hfi : fs[i]? with
  | none => rw [hfi] at hf; cases hf
  | some f =>
    rw [hfi] at hf
    simp at hf
    obtain ⟨rfl, rfl⟩ := hf
    have h1 := hfld i f hfi
    have hi : i < fs.size := (Array.getElem?_eq_some_iff.1 hfi).1
    rw [List.getElem?_eq_getElem (by omega), hn] at h1
    exact ho H enc w base spare held n _ _ (by omega) h1

/-- Of the term and all below it. -/
inductive T.All (p : T → Prop) : T → Prop
  | mk (t : T) (h : p t) (hk : ∀ k ∈ t.kids, T.All p k) : T.All p t
theorem T.All.here {p : T → Prop} {t : T} (h : T.All p t) : p t := by cases h; assumption
theorem T.All.kid {p : T → Prop} {t : T} (h : T.All p t) : ∀ k ∈ t.kids, T.All p k := by cases h; assumption
theorem T.All.imp {p q : T → Prop} (hpq : ∀ t, p t → q t) {t : T} (h : T.All p t) : T.All q t := by
  induction h with
  | mk t h _ ih => exact .mk t (hpq t h) ih
def okT1 (t : T) : Prop := okInt t.op ∧ okInt t.a ∧ okInt t.b ∧ t.name.size ≤ maxLen ∧ t.kids.length ≤ maxLen
abbrev okTerm (t : T) : Prop := T.All okT1 t

theorem OpensF.term {P : Program} {t sl ti ts : TypeId} {fs : Array Field} (ht : P.underlying t = some (.struct fs)) (hc : P.cellsOf t = 5) (hsl : P.underlying sl = some (.slice t)) (hsc : P.cellsOf sl = 1)
    (hti : P.underlying ti = some (.int .i64)) (htic : P.cellsOf ti = 1) (hts : P.underlying ts = some .string) (htsc : P.cellsOf ts = 1)
    (hf : fs.toList.map (fun f : Field => (f.type, f.offset)) = [(ti, 0), (ti, 1), (ti, 2), (ts, 3), (sl, 4)]) : ∀ N, OpensF P t Lay.term okTerm N ∧ OpensF P sl Lay.term.slice (fun xs => xs.length ≤ maxLen ∧ ∀ x ∈ xs, okTerm x) N := by
  have hfi : ∀ i, (fs[i]?).map (fun f : Field => (f.type, f.offset)) = [(ti, 0), (ti, 1), (ti, 2), (ts, 3), (sl, 4)][i]? := fun i => by
    rw [← hf, List.getElem?_map, Array.getElem?_toList]
  intro N
  induction N with
  | zero =>
    refine ⟨fun H enc w base spare held fuel cs x hl h => ?_, fun H enc w base spare held fuel cs x hl h => ?_⟩
    · obtain ⟨_, n, hfu, _⟩ := DataW.trod_struct ht h
      omega
    · rcases DataW.trod_slice hsl h with ⟨rfl, _⟩ | ⟨a, len, cap, elems, rest, n, hfu, _⟩
      · exact ⟨[], ⟨by simp, by simp⟩, none, 0, rfl, by simp, .nil _ w _ _⟩
      · omega
  | succ N ih =>
    refine ⟨fun H enc w base spare held fuel cs x hl h => ?_, OpensF.slice hsl hc (by decide) ih.1⟩
    obtain ⟨o, oko, ro⟩ := OpensF.field ht h hl 0 ti 0 1 (hfi 0) htic ((Opens.int hti).at N)
    obtain ⟨a, oka, ra⟩ := OpensF.field ht h hl 1 ti 1 1 (hfi 1) htic ((Opens.int hti).at N)
    obtain ⟨b, okb, rb⟩ := OpensF.field ht h hl 2 ti 2 1 (hfi 2) htic ((Opens.int hti).at N)
    obtain ⟨s, oks, rs⟩ := OpensF.field ht h hl 3 ts 3 1 (hfi 3) htsc ((Opens.str hts).at N)
    obtain ⟨ks, ⟨okl, okk⟩, A, c, rk, rl, rsl⟩ := OpensF.field ht h hl 4 sl 4 1 (hfi 4) hsc ih.2
    have hlen := trod_cells ht h
    rw [hc] at hlen
    match cs, hlen with
    | [x0, x1, x2, x3, x4], _ =>
      simp [Lay.int, Lay.str, Lay.flat] at ro ra rb rs rk
      subst ro ra rb rs rk
      exact ⟨.mk o a b s ks, .mk _ ⟨oko, oka, okb, oks, okl⟩ okk, TermR.of (t := .mk o a b s ks) rl rsl⟩

theorem Opens.term {P : Program} {t sl ti ts : TypeId} {fs : Array Field} (ht : P.underlying t = some (.struct fs)) (hc : P.cellsOf t = 5) (hsl : P.underlying sl = some (.slice t)) (hsc : P.cellsOf sl = 1)
    (hti : P.underlying ti = some (.int .i64)) (htic : P.cellsOf ti = 1) (hts : P.underlying ts = some .string) (htsc : P.cellsOf ts = 1)
    (hf : fs.toList.map (fun f : Field => (f.type, f.offset)) = [(ti, 0), (ti, 1), (ti, 2), (ts, 3), (sl, 4)]) : Opens P t Lay.term okTerm :=
  .of fun N => (OpensF.term ht hc hsl hsc hti htic hts htsc hf N).1

def okDecl (d : D) : Prop := d.name.size ≤ maxLen ∧ okInt d.wide
theorem Opens.decl {P : Program} {t ti ts : TypeId} {fs : Array Field} (ht : P.underlying t = some (.struct fs)) (hc : P.cellsOf t = 2)
    (hti : P.underlying ti = some (.int .i64)) (htic : P.cellsOf ti = 1) (hts : P.underlying ts = some .string) (htsc : P.cellsOf ts = 1)
    (hf : fs.toList.map (fun f : Field => (f.type, f.offset)) = [(ts, 0), (ti, 1)]) : Opens P t Lay.decl okDecl := by
  have hfi : ∀ i, (fs[i]?).map (fun f : Field => (f.type, f.offset)) = [(ts, 0), (ti, 1)][i]? := fun i => by
    rw [← hf, List.getElem?_map, Array.getElem?_toList]
  intro H enc w base spare held fuel cs x h
  obtain ⟨s, oks, rs⟩ := OpensF.field ht h (Nat.le_succ _) 0 ts 0 1 (hfi 0) htsc ((Opens.str hts).at _)
  obtain ⟨a, oka, ra⟩ := OpensF.field ht h (Nat.le_succ _) 1 ti 1 1 (hfi 1) htic ((Opens.int hti).at _)
  have hlen := trod_cells ht h
  rw [hc] at hlen
  match cs, hlen with
  | [x0, x1], _ =>
    simp [Lay.int, Lay.str, Lay.flat] at rs ra
    subst rs ra
    exact ⟨⟨s, a⟩, ⟨oks, oka⟩, rfl⟩

def okLayer (l : Ly) : Prop := (l.ds.length ≤ maxLen ∧ ∀ d ∈ l.ds, okDecl d) ∧ l.ts.length ≤ maxLen ∧ ∀ t ∈ l.ts, okTerm t
theorem Opens.layer {P : Program} {t sd st : TypeId} {fs : Array Field} (ht : P.underlying t = some (.struct fs)) (hc : P.cellsOf t = 2) (hsd : P.cellsOf sd = 1) (hst : P.cellsOf st = 1)
    (hf : fs.toList.map (fun f : Field => (f.type, f.offset)) = [(sd, 0), (st, 1)]) (hd : Opens P sd Lay.decl.slice (fun xs => xs.length ≤ maxLen ∧ ∀ x ∈ xs, okDecl x)) (hs : Opens P st Lay.term.slice (fun xs => xs.length ≤ maxLen ∧ ∀ x ∈ xs, okTerm x)) :
    Opens P t Lay.layer okLayer := by
  have hfi : ∀ i, (fs[i]?).map (fun f : Field => (f.type, f.offset)) = [(sd, 0), (st, 1)][i]? := fun i => by
    rw [← hf, List.getElem?_map, Array.getElem?_toList]
  intro H enc w base spare held fuel cs x h
  obtain ⟨ds, okd, A, c, r1, l1, s1⟩ := OpensF.field ht h (Nat.le_succ _) 0 sd 0 1 (hfi 0) hsd (hd.at _)
  obtain ⟨ts, okt, B, d, r2, l2, s2⟩ := OpensF.field ht h (Nat.le_succ _) 1 st 1 1 (hfi 1) hst (hs.at _)
  have hlen := trod_cells ht h
  rw [hc] at hlen
  match cs, hlen with
  | [x0, x1], _ =>
    simp at r1 r2
    subst r1 r2
    exact ⟨⟨ds, ts⟩, ⟨okd, okt⟩, A, c, B, d, rfl, l1, l2, s1, s2⟩
/-- An argument that is a struct. -/
theorem open_struct {α : Type} {P : Program} {t : TypeId} {fs : Array Field} {L : Lay α} {ok : α → Prop} (ht : P.underlying t = some (.struct fs)) (ho : Opens P t L ok) {H : Type} {enc : TypeId × Value → H} {r : Reach} {b0 : Nat} {w : World} {base : Nat}
    {spare : Nat → Bool} {held : Bool} {v : Value} {d : DataW H} {p : List MemPlace} (hv : Value.okWide P w r b0 t v) (h : DataW.Trod enc P w base spare held t v d p) :
    ∃ cs a, v = .agg cs ∧ ok a ∧ L.R w (fun b => b < w.heap.size) a cs.toList := by
  obtain ⟨cs, rfl, _⟩ := okWide_struct ht hv
  obtain ⟨fuel, hf⟩ := h
  obtain ⟨a, hok, hr⟩ := ho H enc w base spare held fuel _ _ hf
  exact ⟨cs, a, rfl, hok, hr⟩
end Go.Proofs.Ytcdlfnhjpjpbjaa
