/- What the laws on nets share: what came in, and what stays over a mark. -/
import Derived.Test.YtohchplomjenfaaNetI4
import Derived.Test.YtohchplomjenfaaOpenT
namespace Go.Proofs.Ytohchplomjenfaa
open Go Go.RowKit Go.ChangeShapes Go.WideShapes Go.Deep

def okG2 (g : G) : Prop := okGi g
theorem Opens.gate {P : Program} {t ti tb : TypeId} {fs : Array Field} (ht : P.underlying t = some (.struct fs)) (hc : P.cellsOf t = 3) (hti : P.underlying ti = some (.int .i64)) (htic : P.cellsOf ti = 1) (htb : P.underlying tb = some .bool) (htbc : P.cellsOf tb = 1)
    (hf : fs.toList.map (fun f : Field => (f.type, f.offset)) = [(tb, 0), (ti, 1), (ti, 2)]) : Opens P t Lay.gate okGi := by
  have hfi : ∀ i, (fs[i]?).map (fun f : Field => (f.type, f.offset)) = [(tb, 0), (ti, 1), (ti, 2)][i]? := fun i => by
    rw [← hf, List.getElem?_map, Array.getElem?_toList]
  intro H enc w base spare held fuel cs x h
  obtain ⟨b, okb, rb⟩ := OpensF.field ht h (Nat.le_succ _) 0 tb 0 1 (hfi 0) htbc ((Opens.bool htb).at _)
  obtain ⟨a, oka, ra⟩ := OpensF.field ht h (Nat.le_succ _) 1 ti 1 1 (hfi 1) htic ((Opens.int hti).at _)
  obtain ⟨a2, oka2, ra2⟩ := OpensF.field ht h (Nat.le_succ _) 2 ti 2 1 (hfi 2) htic ((Opens.int hti).at _)
  have hlen := trod_cells ht h
  rw [hc] at hlen
  match cs, hlen with
  | [x0, x1, x2], _ =>
    simp [Lay.int, Lay.bool, Lay.flat] at rb ra ra2
    subst rb ra ra2
    exact ⟨⟨b, a, a2⟩, ⟨oka, oka2⟩, rfl⟩
/-- A net as a value: two cells. -/
def Lay.net : Lay N where
  size := 2
  R w F x vs := ∃ A c, vs = [.int .i64 x.ins, .slice A x.gs.length c] ∧ x.gs.length ≤ c ∧ Lay.gate.Sl w F A x.gs ∧ (A = none → x.gs.length = 0)
  len := by rintro w F x vs ⟨A, c, rfl, _⟩; rfl
  keep := by rintro w w' F x vs hk ⟨A, c, rfl, h1, h2, h3⟩; exact ⟨A, c, rfl, h1, h2.keep hk, h3⟩
  mono := by rintro w F G x vs hk ⟨A, c, rfl, h1, h2, h3⟩; exact ⟨A, c, rfl, h1, h2.mono hk, h3⟩
def okNetIn (n : N) : Prop := okInt n.ins ∧ n.gs.length ≤ maxLen ∧ ∀ g ∈ n.gs, okGi g
theorem sl_nonnil {α : Type} {L : Lay α} {w : World} {F : Nat → Prop} {A : Option Addr} {xs : List α} (h : L.Sl w F A xs) : A = none → xs.length = 0 := fun e => by
  rcases Nat.eq_zero_or_pos xs.length with h0 | h0
  · exact h0
  · obtain ⟨ad, e', _⟩ := h h0
    rw [e] at e'; cases e'
theorem Opens.net {P : Program} {t ti sg : TypeId} {fs : Array Field} (ht : P.underlying t = some (.struct fs)) (hc : P.cellsOf t = 2) (hti : P.underlying ti = some (.int .i64)) (htic : P.cellsOf ti = 1) (hsg : P.cellsOf sg = 1)
    (hf : fs.toList.map (fun f : Field => (f.type, f.offset)) = [(ti, 0), (sg, 1)]) (hg : Opens P sg Lay.gate.slice (fun xs => xs.length ≤ maxLen ∧ ∀ x ∈ xs, okGi x)) : Opens P t Lay.net okNetIn := by
  have hfi : ∀ i, (fs[i]?).map (fun f : Field => (f.type, f.offset)) = [(ti, 0), (sg, 1)][i]? := fun i => by
    rw [← hf, List.getElem?_map, Array.getElem?_toList]
  intro H enc w base spare held fuel cs x h
  obtain ⟨a, oka, ra⟩ := OpensF.field ht h (Nat.le_succ _) 0 ti 0 1 (hfi 0) htic ((Opens.int hti).at _)
  obtain ⟨gs, okg, A, c, r1, l1, s1⟩ := OpensF.field ht h (Nat.le_succ _) 1 sg 1 1 (hfi 1) hsg (hg.at _)
  have hlen := trod_cells ht h
  rw [hc] at hlen
  match cs, hlen with
  | [x0, x1], _ =>
    simp [Lay.int, Lay.flat] at ra r1
    subst ra r1
    exact ⟨⟨a, gs⟩, ⟨oka, okg⟩, A, c, rfl, l1, s1, sl_nonnil s1⟩
theorem opens_net : Opens Try.prog 45 Lay.net okNetIn :=
  Opens.net Try.underlying45 (by kernel_rfl) Try.underlying3 (by kernel_rfl) (by kernel_rfl) rfl
    (Opens.slice Try.underlying43 (by kernel_rfl) (by decide) (Opens.gate Try.underlying109 (by kernel_rfl) Try.underlying3 (by kernel_rfl) Try.underlying4 (by kernel_rfl) rfl))

/-- An argument that is a struct. -/
theorem open_struct {α : Type} {P : Program} {t : TypeId} {fs : Array Field} {L : Lay α} {ok : α → Prop} (ht : P.underlying t = some (.struct fs)) (ho : Opens P t L ok) {H : Type} {enc : TypeId × Value → H} {r : Reach} {b0 : Nat} {w : World} {base : Nat}
    {spare : Nat → Bool} {held : Bool} {v : Value} {d : DataW H} {p : List MemPlace} (hv : Value.okWide P w r b0 t v) (h : DataW.Trod enc P w base spare held t v d p) :
    ∃ cs a, v = .agg cs ∧ ok a ∧ L.R w (fun b => b < w.heap.size) a cs.toList := by
  obtain ⟨cs, rfl, _⟩ := okWide_struct ht hv
  obtain ⟨fuel, hf⟩ := h
  obtain ⟨a, hok, hr⟩ := ho H enc w base spare held fuel _ _ hf
  exact ⟨cs, a, rfl, hok, hr⟩
set_option maxRecDepth 100000 in
theorem open_net {H : Type} {enc : TypeId × Value → H} {r : Reach} {b0 : Nat} {w : World} {base : Nat} {spare : Nat → Bool} {held : Bool} {v : Value} {d : DataW H} {p : List MemPlace}
    (hv : Value.okWide Try.prog w r b0 45 v) (h : DataW.Trod enc Try.prog w base spare held 45 v d p) :
    ∃ A c n, v = .agg #[.int .i64 n.ins, .slice A n.gs.length c] ∧ n.gs.length ≤ c ∧ okNetIn n ∧ Lay.gate.Rd w A n.gs := by
  have hh := open_struct (L := Lay.net) (ok := okNetIn) Try.underlying45 opens_net hv h
  obtain ⟨cs, n, hv', hok, hR⟩ := hh
  obtain ⟨A, c, hcs, hl, hs, _⟩ := hR
  have hc : cs = #[.int .i64 n.ins, .slice A n.gs.length c] := Array.toList_inj.1 (hcs.trans rfl)
  exact ⟨A, c, n, by rw [hv', hc], hl, hok, hs⟩
theorem own_nonnil {w : World} {lo : Nat} {A : Option Addr} {c : Nat} {xs : List G} (h : OwnGs w lo (.slice A xs.length c) xs) : A = none → xs.length = 0 := fun e => by
  subst e
  rcases h.2 with ⟨e, _⟩ | ⟨g, cap, cur, e, _⟩
  · injection e
  · injection e with e; cases e
theorem own_rd {w : World} {lo : Nat} {A : Option Addr} {c : Nat} {xs : List G} (h : OwnGs w lo (.slice A xs.length c) xs) : Lay.gate.Rd w A xs := h.sl.2.rd
/-- Two rows of the call's own, the second one made behind the first. -/
theorem row_apart {w w' : World} {lo lo' : Nat} {v v' : Value} {xs ys : List G} (h : OwnGs w lo v xs) (h' : OwnGs w' lo' v' ys) (hlo : w.heap.size ≤ lo') : ∀ g, v.ownBlock = some g → v'.ownBlock ≠ some g := fun g e e' => by
  have h1 := (h.lt g e).2
  have h2 := (h'.lt g e').1
  omega
theorem row_kept {w w' : World} {lo : Nat} {v : Value} {xs : List G} {b : Option Nat} (h : OwnGs w lo v xs) (hg : w.grownBy w' b) (hd : ∀ g, v.ownBlock = some g → b ≠ some g) : OwnGs w' lo v xs :=
  h.kept hg (by
    rcases hv : v.ownBlock with _ | g
    · exact .inl rfl
    · exact .inr (fun e => hd g hv e.symm))
theorem box_kept {w w' : World} {lo : Nat} {A : Option Addr} {c : Nat} {xs : List G} {i : Nat} {cs : Array Value} {t : TypeId} (h : OwnGs w lo (.slice A xs.length c) xs) (hg : w.grownBy w' (Value.slice A xs.length c).ownBlock)
    (hb : w.heap[i]? = some (.cells cs t (0, 0))) (ht : t ≠ 107) : w'.heap[i]? = some (.cells cs t (0, 0)) :=
  (hg.block i (lt_of_block hb) (row_ne h i _ hb (fun cs fr e => by injection e with _ e2 _; exact ht e2))).trans hb
theorem put_len9 (n : N) (op : N → Int → Int → N × Int) (a b : Int) (h : ∀ n a b, (op n a b).1.gs.length ≤ n.gs.length + 1) : (netOp op n a b).1.gs.length ≤ 601 := by
  unfold netOp
  cases hok : netOk n
  · simp
  · have := ((netOk_iff n).1 hok).2.2.1
    have := h n a b
    simp only [Bool.true_and]
    split
    · omega
    · simp
/-- A law's post: true, and below the heap as it was nothing has turned. -/
def LawN (w : World) (e : Ending) (w' : World) : Prop := e = .returned (.bool true) ∧ Below w.heap.size w w'
theorem ret_true {a : Bool} (h : a = true) : Ending.returned (.bool a) = .returned (.bool true) := by rw [h]
/-- The fact of a copy. -/
def Fact.copyN (lo : Nat) (n : N) : Fact :=
  .of (fun v x => ∃ A c, v = .agg #[.int .i64 n.ins, .slice A n.gs.length c] ∧ OwnGs x lo (.slice A n.gs.length c) n.gs) fun _ _ _ ⟨A, c, h1, h2⟩ hb => ⟨A, c, h1, h2.up hb⟩
def Fact.trueN (W : World) : Fact :=
  .of (fun v x => v = .bool true ∧ Below W.heap.size W x) fun _ _ _ ⟨h1, h2⟩ hb => ⟨h1, bthen h2 hb⟩
def Fact.falseN (W : World) : Fact :=
  .of (fun v x => v = .bool false ∧ Below W.heap.size W x) fun _ _ _ ⟨h1, h2⟩ hb => ⟨h1, bthen h2 hb⟩
end Go.Proofs.Ytohchplomjenfaa
