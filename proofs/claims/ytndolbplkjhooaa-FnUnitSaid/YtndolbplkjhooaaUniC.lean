/- Formulas and rows of integers: what comes in, copies, comparisons, marks; one form for all. -/
import Derived.Test.YtndolbplkjhooaaUnitS
import Derived.Test.YtndolbplkjhooaaMarkI
namespace Go.Proofs.Ytndolbplkjhooaa
open Go Go.RowKit Go.ChangeShapes Go.WideShapes Go.ChangeAt Go.Deep

/-- A formula as a value: two cells. -/
def Lay.cnf : Lay C where
  size := 2
  R w F x vs := ∃ A c, vs = [.int .i64 x.many, .slice A x.list.length c] ∧ x.list.length ≤ c ∧ Lay.int.slice.Sl w F A x.list
  len := by rintro w F x vs ⟨A, c, rfl, _⟩; rfl
  keep := by rintro w w' F x vs hk ⟨A, c, rfl, h1, h2⟩; exact ⟨A, c, rfl, h1, h2.keep hk⟩
  mono := by rintro w F G x vs hk ⟨A, c, rfl, h1, h2⟩; exact ⟨A, c, rfl, h1, h2.mono hk⟩
def okList (l : List Int) : Prop := l.length ≤ maxLen ∧ ∀ x ∈ l, okInt x
def okCIn (x : C) : Prop := okInt x.many ∧ x.list.length ≤ maxLen ∧ ∀ l ∈ x.list, okList l
theorem Opens.cnf {P : Program} {t ti sg : TypeId} {fs : Array Field} (ht : P.underlying t = some (.struct fs)) (hc : P.cellsOf t = 2) (hti : P.underlying ti = some (.int .i64)) (htic : P.cellsOf ti = 1) (hsg : P.cellsOf sg = 1)
    (hf : fs.toList.map (fun f : Field => (f.type, f.offset)) = [(ti, 0), (sg, 1)]) (hg : Opens P sg Lay.int.slice.slice (fun xs => xs.length ≤ maxLen ∧ ∀ x ∈ xs, okList x)) : Opens P t Lay.cnf okCIn := by
  have hfi : ∀ i, (fs[i]?).map (fun f : Field => (f.type, f.offset)) = [(ti, 0), (sg, 1)][i]? := fun i => by
    rw [← hf, List.getElem?_map, Array.getElem?_toList]
  intro H enc w base spare held fuel cs x h
  obtain ⟨a, oka, ra⟩ := OpensF.field ht h (Nat.le_succ _) 0 ti 0 1 (hfi 0) htic ((Opens.int hti).at _)
  obtain ⟨gs, okg, A, c, r1, l1, s1⟩ := OpensF.field ht h (Nat.le_succ _) 1 sg 1 1 (hfi 1) hsg (hg.at _)
  have hlen := trod_cells ht h
  rw [hc] at hlen
  match cs, hlen with
  | [x0, x1], _ =>
    simp [Lay.int, Lay.flat] at ra r1
    subst ra r1
    exact ⟨⟨a, gs⟩, ⟨oka, okg⟩, A, c, rfl, l1, s1⟩
theorem opens_ints : Opens Try.prog 25 Lay.int.slice (fun xs => xs.length ≤ maxLen ∧ ∀ x ∈ xs, okInt x) := Opens.slice Try.underlying25 (by kernel_rfl) (by decide) (Opens.int Try.underlying3)
theorem opens_cnf : Opens Try.prog 24 Lay.cnf okCIn :=
  Opens.cnf Try.underlying24 (by kernel_rfl) Try.underlying3 (by kernel_rfl) (by kernel_rfl) rfl
    (Opens.slice Try.underlying22 (by kernel_rfl) (by decide) opens_ints)
/-- An argument that is a struct. -/
theorem open_struct {α : Type} {P : Program} {t : TypeId} {fs : Array Field} {L : Lay α} {ok : α → Prop} (ht : P.underlying t = some (.struct fs)) (ho : Opens P t L ok) {H : Type} {enc : TypeId × Value → H} {r : Reach} {b0 : Nat} {w : World} {base : Nat}
    {spare : Nat → Bool} {held : Bool} {v : Value} {d : DataW H} {p : List MemPlace} (hv : Value.okWide P w r b0 t v) (h : DataW.Trod enc P w base spare held t v d p) :
    ∃ cs a, v = .agg cs ∧ ok a ∧ L.R w (fun b => b < w.heap.size) a cs.toList := by
  obtain ⟨cs, rfl, _⟩ := okWide_struct ht hv
  obtain ⟨fuel, hf⟩ := h
  obtain ⟨a, hok, hr⟩ := ho H enc w base spare held fuel _ _ hf
  exact ⟨cs, a, rfl, hok, hr⟩
set_option maxRecDepth 100000 in
theorem open_cnf {H : Type} {enc : TypeId × Value → H} {r : Reach} {b0 : Nat} {w : World} {base : Nat} {spare : Nat → Bool} {held : Bool} {v : Value} {d : DataW H} {p : List MemPlace}
    (hv : Value.okWide Try.prog w r b0 24 v) (h : DataW.Trod enc Try.prog w base spare held 24 v d p) :
    ∃ A c x, v = .agg #[.int .i64 (C.many x), .slice A (C.list x).length c] ∧ x.list.length ≤ c ∧ okCIn x ∧ Lay.int.slice.Rd w A x.list := by
  have hh := open_struct (L := Lay.cnf) (ok := okCIn) Try.underlying24 opens_cnf hv h
  obtain ⟨cs, n, hv', hok, hR⟩ := hh
  obtain ⟨A, c, hcs, hl, hs⟩ := hR
  have hc : cs = #[.int .i64 n.many, .slice A n.list.length c] := Array.toList_inj.1 (hcs.trans rfl)
  exact ⟨A, c, n, by rw [hv', hc], hl, hok, hs⟩
/-- A law's post: true, and below the heap as it was nothing has turned. -/
def LawC (w : World) (e : Ending) (w' : World) : Prop := e = .returned (.bool true) ∧ Below w.heap.size w w'
/-- Small enough for every count. -/
def smInts (xs : List Int) : Prop := xs.length ≤ 1048576 ∧ i64s xs
def smRows (xs : List (List Int)) : Prop := xs.length ≤ 1048576 ∧ (∀ l ∈ xs, smInts l) ∧ nsum (xs.map List.length) ≤ 1048576
def smCnf (x : C) : Prop := okInt x.many ∧ smRows x.list
theorem nsum_wsum (xs : List (List Int)) : nsum (xs.map List.length) = wsum lw xs := by
  induction xs with
  | nil => rfl
  | cons x xs ih => simp only [List.map_cons, nsum, wsum, ih]
theorem smInts_of {xs : List Int} (h : xs.length ≤ maxLen ∧ ∀ i ∈ xs, okInt i) (hn : xs.length ≤ 1048576) : smInts xs := ⟨hn, h.2⟩
theorem smRows_of {xs : List (List Int)} (h : xs.length ≤ maxLen ∧ ∀ l ∈ xs, okList l) (hw : listsW xs ≤ 1048576) : smRows xs := by
  unfold listsW at hw
  refine ⟨by omega, fun l hl => ⟨?_, (h.2 l hl).2⟩, by rw [nsum_wsum]; omega⟩
  have h1 := wsum_mem lw hl
  have h2 : l.length = lw l := rfl
  omega
theorem smCnf.short {x : C} (h : smCnf x) : shortC x := ⟨h.2.1, fun l hl => (h.2.2.1 l hl).1⟩
theorem smCnf.ints {x : C} (h : smCnf x) : ∀ cl ∈ x.list, cl.length ≤ 1048576 ∧ i64s cl := fun l hl => h.2.2.1 l hl
def wtC (x : C) : Nat := listsW x.list
theorem smCnf_of {x : C} (h : okCIn x) (hw : wtC x ≤ 1048576) : smCnf x := ⟨h.1, smRows_of h.2 hw⟩
def RetZ (r : Int) (w : World) (e : Ending) (w' : World) : Prop := e = .returned (.int .i64 r) ∧ Below w.heap.size w w'
theorem szCnf_u (x : C) (A : Option Addr) (c : Nat) (left : Int) (w : World) (h : Lay.int.slice.Rd w A x.list) (ok : okCIn x) (h0 : 0 ≤ left) (h1 : left ≤ 1048576) :
    Calls Try.prog 9 #[.agg #[.int .i64 x.many, .slice A x.list.length c], .int .i64 left] w (RetZ (szRes left (wtC x)) w) :=
  szCnf_any A c x left _ w h (fun _ h => h) (fun l hl => by have := (ok.2.2 l hl).1; unfold maxLen at this; omega) (by have := ok.2.1; unfold maxLen at this; omega) h0 h1
/-- A copy of an integer row. -/
def CopyI (xs : List Int) (w : World) (e : Ending) (w' : World) : Prop := ∃ A c, e = .returned (.slice A xs.length c) ∧ xs.length ≤ c ∧ Lay.int.Sl w' (Own w.heap.size w') A xs ∧ Below w.heap.size w w'
theorem toInts_u (xs : List Int) (A : Option Addr) (c : Nat) (w : World) (h : Lay.int.Rd w A xs) (hs : smInts xs) :
    Calls Try.prog 12 #[.slice A xs.length c] w (CopyI xs w) := toIntO_any A c xs _ w h (fun _ h => h) hs.1
theorem eqInts_u (xs : List Int) (A B : Option Addr) (c d : Nat) (w : World) (h : Lay.int.Rd w A xs) (h' : Lay.int.Rd w B xs) (hs : xs.length ≤ 1048576) :
    Calls Try.prog 15 #[.slice A xs.length c, .slice B xs.length d] w (RetB w true) := by
  have := eqIntS_later A B c d xs xs _ _ w h h' hs hs
  rw [eqL_self] at this
  exact this
theorem eqRows_u (xs : List (List Int)) (A B : Option Addr) (c d : Nat) (w : World) (h : Lay.int.slice.Rd w A xs) (h' : Lay.int.slice.Rd w B xs) (hs : smRows xs) :
    Calls Try.prog 43 #[.slice A xs.length c, .slice B xs.length d] w (RetB w true) := by
  have := eqIntSS_any A B c d xs xs _ _ w h h' (fun _ h => h) (fun _ h => h) hs.1 hs.1 (fun l hl => (hs.2.1 l hl).1) (fun l hl => (hs.2.1 l hl).1)
  rw [allSame_self eqL_self] at this
  exact this
theorem toCnf_u (x : C) (A : Option Addr) (c : Nat) (w : World) (h : Lay.int.slice.Rd w A x.list) (hs : smCnf x) :
    Calls Try.prog 11 #[.agg #[.int .i64 x.many, .slice A x.list.length c]] w (RetC x w) := toCnf_any x A c _ w h (fun _ h => h) hs.short.1 hs.short.2
theorem eqCnf_u (x : C) (A B : Option Addr) (c d : Nat) (w : World) (h : Lay.int.slice.Rd w A x.list) (h' : Lay.int.slice.Rd w B x.list) (hs : smCnf x) :
    Calls Try.prog 14 #[.agg #[.int .i64 x.many, .slice A x.list.length c], .agg #[.int .i64 x.many, .slice B x.list.length d]] w (RetB w true) := by
  have := eqCnf_any x x A B c d _ _ w h h' (fun _ h => h) (fun _ h => h) hs.short.1 hs.short.1 hs.short.2 hs.short.2
  rw [eqC_self] at this
  exact this
def MkD (F : Nat → Prop) (k1 : Int) (w : World) (e : Ending) (w' : World) : Prop := e = .returned (.int .i64 k1) ∧ Dab F w w'
theorem markCnf_u (x : C) (A : Option Addr) (c lo hi : Nat) (k0 : Int) (w : World) (h : Lay.int.slice.Sl w (Cp lo hi w) A x.list) (hs : smCnf x) (h0 : 0 ≤ k0) (h1 : k0 ≤ 500000000) :
    Calls Try.prog 20 #[.agg #[.int .i64 x.many, .slice A x.list.length c], .int .i64 k0] w (MkD (Rng lo hi) (k0 + (nsum (x.list.map List.length) : Nat)) w) :=
  (markCnf_sl A c x k0 _ w h (fun _ h => h.2.2.2) hs.2.1 hs.2.2.2 h0 h1).mono fun _ _ ⟨h, h'⟩ => ⟨h, h'.rng⟩
/-- The marks: the next one, what turned, what the row reads as. -/
def MkI (A : Option Addr) (n lo hi : Nat) (k0 : Int) (w : World) (e : Ending) (w' : World) : Prop := e = .returned (.int .i64 (k0 + n)) ∧ Dab (Rng lo hi) w w' ∧ Lay.int.Sl w' (Cp lo hi w') A (upI n k0)
theorem markInts_u (xs : List Int) (A : Option Addr) (c lo hi : Nat) (k0 : Int) (w : World) (h : Lay.int.Sl w (Cp lo hi w) A xs) (hs : xs.length ≤ 1048576) (h0 : 0 ≤ k0) (h1 : k0 ≤ 500000000) :
    Calls Try.prog 21 #[.slice A xs.length c, .int .i64 k0] w (MkI A xs.length lo hi k0 w) :=
  (markIntS_sl A c xs k0 _ w h (fun _ h => h.2.2.2) hs h0 (by omega)).mono fun _ _ ⟨h, h', h2⟩ => ⟨h, h'.rng, h2.cp_mk h'⟩
theorem heldInts_u (n : Nat) (A : Option Addr) (c : Nat) (k0 : Int) (w : World) (h : Lay.int.Rd w A (upI n k0)) (hs : n ≤ 1048576) (h0 : 0 ≤ k0) (h1 : k0 ≤ 500000000) :
    Calls Try.prog 22 #[.slice A n c, .int .i64 k0] w (RetZ (k0 + n) w) :=
  (heldIntS_any A c n k0 _ w h hs h0 (by omega)).mono fun _ _ ⟨h, m, hm⟩ => ⟨h, by rw [hm]; exact below_drewN (Below.refl _ _) m⟩
/-- A row of the call's own is a copy that may be written. -/
theorem OwnI.own {w : World} {base c : Nat} {A : Option Addr} {xs : List Int} (h : OwnI w base (.slice A xs.length c) xs) : Lay.int.Sl w (Own base w) A xs := fun hn => by
  obtain ⟨A', c', e, _, hs⟩ := h.form
  injection e with e1 e2 e3
  subst e1
  obtain ⟨ad, e, hf, hc⟩ := hs hn
  refine ⟨ad, e, ⟨hf.1, hf.2, fun o => ?_⟩, hc⟩
  subst e
  rcases h.2 with ⟨e, _⟩ | ⟨g, cap, cur, e, _, hg, _⟩
  · cases e
  · injection e with e1 e2 e3
    injection e1 with e1
    subst e1
    unfold World.frozen?
    rw [hg]
    simp
theorem OwnI.cap {w : World} {base c : Nat} {A : Option Addr} {xs : List Int} (h : OwnI w base (.slice A xs.length c) xs) : xs.length ≤ c := by
  obtain ⟨A', c', e, hl, hs⟩ := h.form
  injection e with e1 e2 e3
  omega
/-- The facts of a drawn region. -/
def Fact.copyC (x : C) : Fact := .of (fun v xw => ∃ A c, v = .agg #[.int .i64 x.many, .slice A x.list.length c] ∧ x.list.length ≤ c ∧ Lay.int.slice.Rd xw A x.list) fun _ _ _ ⟨A, c, h1, h2, h3⟩ hb => ⟨A, c, h1, h2, h3.up hb⟩
def Fact.copyI (x : List Int) : Fact := .of (fun v xw => ∃ A c, v = .slice A x.length c ∧ x.length ≤ c ∧ Lay.int.Rd xw A x) fun _ _ _ ⟨A, c, h1, h2, h3⟩ hb => ⟨A, c, h1, h2, h3.up hb⟩
def Fact.boolC (W : World) (b : Bool) : Fact := .of (fun v xw => v = .bool b ∧ Below W.heap.size W xw) fun _ _ _ ⟨h1, h2⟩ hb => ⟨h1, bthen h2 hb⟩
end Go.Proofs.Ytndolbplkjhooaa
