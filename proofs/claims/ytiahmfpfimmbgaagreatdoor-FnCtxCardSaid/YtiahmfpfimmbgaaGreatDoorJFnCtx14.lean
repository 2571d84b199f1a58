/- A term appended to the last of copied layers, as the reference does it: the states on the way. One layer of copied layers stands open: its terms may grow, as the draw of bent layers does it. A drawn region whose operations write old memory: each operation once, in whatever world its turn comes; a relation that all keep, and an invariant. No program is named here. A drawn region, each operation once, what memory does told of each. No program is named here. A drawn region, each operation once: what is so all along may look at which operations have been done. No program is named here. -/
import Derived.Test.YtiahmfpfimmbgaaGreatDoorJFnCtx6
import Derived.Test.YtiahmfpfimmbgaaGreatDoorJFnCtx12
import Derived.Test.YtiahmfpfimmbgaaGreatDoorJFnCtx13
/-! A term appended to the last of copied layers, as the reference does it: the states on the way. -/
namespace Go.Proofs.YtiahmfpfimmbgaaGreatDoor
open Go Go.RowKit

def zcells : List Value := [.int .i64 0, .int .i64 0, .int .i64 0, .string ⟨#[]⟩, .slice none 0 0]
theorem RowU.ownL {lo hi : Nat} {w : World} {v : Value} {ts : List T} (h : RowU lo hi w v ts) : OwnL Lay.term (fun _ b => lo ≤ b ∧ b < hi) 48 w lo v ts := by
  obtain ⟨h1, w0, rfl, ⟨cs, r1, Ak, ck, Fk, r2, r3, r4⟩, h3⟩ := h
  refine ⟨cs, own_of_heap r1 fun g hg => h3 g (r1.lt g hg).1 (r1.lt g hg).2, fun i x hx => ?_⟩
  obtain ⟨q1, q2, q3⟩ := r2 i x hx
  have hi : i < ts.length := (List.getElem?_eq_some_iff.1 hx).1
  refine ⟨tcells x (Ak i) (ck i), TermR.of q2 (((TrT.sl q3).keep fun b hb => ?_).mono fun b hb => ?_), fun j u hu => q1 j u hu⟩
  · obtain ⟨o1, _⟩ := r3 i b hi hb
    exact h3 b o1.1 o1.2.1
  · obtain ⟨o1, o2⟩ := r3 i b hi hb
    exact ⟨Nat.lt_of_lt_of_le o1.2.1 h1, o2, o1.1, o1.2.1⟩
/-- Behind the append: the row's block nb, of ts and one more; the outer cell. -/
structure AftA (X : World) (g k M E : Nat) (At : Option Addr) (ct : Nat) (ts : List T) (t : T) (fa fb : Bool) (x : World) (nb c8 : Nat) (A9 : Option Addr) (c9 : Nat) : Prop where
  ne : nb ≠ g
  lo : M ≤ nb
  row : ∃ cs, x.ownsRow M 48 5 (.slice (some ⟨nb, 0, none⟩) (ts.length + 1) c8) (ts.length + 1) (cs ++ (if fa then tcells t A9 c9 else zcells)) ∧ cs.length = ts.length * 5 ∧
    ∀ i y, ts[i]? = some y → ∃ vs, Lay.term.R x (fun b => b < x.heap.size ∧ b ≠ nb ∧ b ≠ g) y vs ∧ ∀ j u, vs[j]? = some u → cs[i * 5 + j]? = some u
  kids : Lay.term.Sl x (fun b => b < x.heap.size ∧ b ≠ nb ∧ b ≠ g) A9 t.kids
  cell : x.cell? ⟨g, k * 2 + 1, none⟩ = some (if fb then .slice (some ⟨nb, 0, none⟩) (ts.length + 1) c8 else .slice At ts.length ct)
  others : ∀ o, o ≠ k * 2 + 1 → x.cell? ⟨g, o, none⟩ = X.cell? ⟨g, o, none⟩
  frz : ∀ o, x.frozen? ⟨g, o, none⟩ = false
  size : X.heap.size ≤ x.heap.size
  far : ∀ b, b < X.heap.size → b ≠ g → ¬ (M ≤ b ∧ b < E) → x.heap[b]? = X.heap[b]?
  glt : g < x.heap.size
section
variable {X : World} {g k M E : Nat} {At : Option Addr} {ct : Nat} {ts : List T} {t : T} {fa fb : Bool} {x x' : World} {nb c8 : Nat} {A9 : Option Addr} {c9 : Nat}
theorem AftA.up (h : AftA X g k M E At ct ts t fa fb x nb c8 A9 c9) (hb : Below x.heap.size x x') : AftA X g k M E At ct ts t fa fb x' nb c8 A9 c9 := by
  obtain ⟨cs, h1, h2, h3⟩ := h.row
  refine ⟨h.ne, h.lo, ⟨cs, own_below h1 hb (Nat.le_refl _), h2, fun i y hy => ?_⟩, (h.kids.keep fun b hb9 => hb.block b hb9.1).mono fun b hb9 => ⟨Nat.lt_of_lt_of_le hb9.1 hb.size, hb9.2⟩, (hb.cell (p := ⟨g, _, none⟩) h.glt).trans h.cell, fun o ho => (hb.cell (p := ⟨g, _, none⟩) h.glt).trans (h.others o ho), fun o => (hb.frozen (p := ⟨g, o, none⟩) h.glt).trans (h.frz o), Nat.le_trans h.size hb.size, fun b h8 h9 h10 => (hb.block b (Nat.lt_of_lt_of_le h8 h.size)).trans (h.far b h8 h9 h10), Nat.lt_of_lt_of_le h.glt hb.size⟩
  obtain ⟨vs, hr, hu⟩ := h3 i y hy
  exact ⟨vs, Lay.term.mono (fun b hb9 => ⟨Nat.lt_of_lt_of_le hb9.1 hb.size, hb9.2⟩) (Lay.term.keep (fun b hb9 => hb.block b hb9.1) hr), hu⟩
/-- The outer cell is stored. -/
theorem AftA.outer (h : AftA X g k M E At ct ts t fa fb x nb c8 A9 c9) : AftA X g k M E At ct ts t fa true (x.setCell ⟨g, k * 2 + 1, none⟩ (.slice (some ⟨nb, 0, none⟩) (ts.length + 1) c8)) nb c8 A9 c9 := by
  obtain ⟨cs, h1, h2, h3⟩ := h.row
  have hfar : ∀ b, b ≠ g → (x.setCell ⟨g, k * 2 + 1, none⟩ (.slice (some ⟨nb, 0, none⟩) (ts.length + 1) c8)).heap[b]? = x.heap[b]? := fun b hb => Below.heap_setCell x ⟨g, _, none⟩ _ b hb
  have hc := h.cell
  refine ⟨h.ne, h.lo, ⟨cs, own_of_heap h1 fun b hb => hfar b (by have hb : some nb = some b := hb; injection hb with hb; rw [← hb]; exact h.ne), h2, fun i y hy => ?_⟩, (h.kids.keep fun b hb9 => hfar b hb9.2.2).mono fun b hb9 => by rw [size_setCell]; exact hb9, World.cell?_setCell_same _ _ _ hc, fun o ho => (World.cell?_setCell_other _ _ _ _ (fun e => by injection e with _ e _; omega)).trans (h.others o ho), fun o => (World.frozen?_setCell _ _ _ _).trans (h.frz o), by rw [size_setCell]; exact h.size, fun b h8 h9 h10 => (hfar b h9).trans (h.far b h8 h9 h10), by rw [size_setCell]; exact h.glt⟩
  obtain ⟨vs, hr, hu⟩ := h3 i y hy
  exact ⟨vs, Lay.term.mono (fun b hb9 => by rw [size_setCell]; exact hb9) (Lay.term.keep (fun b hb9 => hfar b hb9.2.2) hr), hu⟩
theorem AftA.cells (h : AftA X g k M E At ct ts t fa fb x nb c8 A9 c9) : ∀ j, j < 5 → ∃ u, x.cell? ⟨nb, ts.length * 5 + j, none⟩ = some u := fun j hj => by
  obtain ⟨cs, h1, h2, _⟩ := h.row
  have hl : (cs ++ (if fa then tcells t A9 c9 else zcells)).length = ts.length * 5 + 5 := by
    rw [List.length_append, h2]; cases fa <;> rfl
  have := h1.cellAt (ts.length * 5 + j) (by show _ < (ts.length + 1) * 5; omega)
  rw [List.getElem?_eq_getElem (by omega)] at this
  exact ⟨_, this⟩
theorem AftA.nfrz (h : AftA X g k M E At ct ts t fa fb x nb c8 A9 c9) : ∀ o, x.frozen? ⟨nb, o, none⟩ = false := fun o => by
  obtain ⟨cs, h1, _⟩ := h.row
  exact h1.frozenAt o
/-- The term's cells are stored. -/
theorem AftA.elem (h : AftA X g k M E At ct ts t false fb x nb c8 A9 c9) (hM : ∀ b, M ≤ b → b < E → True) (hnb : nb < X.heap.size → M ≤ nb ∧ nb < E) :
    AftA X g k M E At ct ts t true fb (((((x.setCell ⟨nb, ts.length * 5, none⟩ (.int .i64 t.op)).setCell ⟨nb, ts.length * 5 + 1, none⟩ (.int .i64 t.a)).setCell ⟨nb, ts.length * 5 + 2, none⟩ (.int .i64 t.b)).setCell ⟨nb, ts.length * 5 + 3, none⟩ (.string t.name)).setCell ⟨nb, ts.length * 5 + 4, none⟩ (.slice A9 t.kids.length c9)) nb c8 A9 c9 := by
  obtain ⟨cs, h1, h2, h3⟩ := h.row
  have hfar : ∀ b, b ≠ nb → (((((x.setCell ⟨nb, ts.length * 5, none⟩ (.int .i64 t.op)).setCell ⟨nb, ts.length * 5 + 1, none⟩ (.int .i64 t.a)).setCell ⟨nb, ts.length * 5 + 2, none⟩ (.int .i64 t.b)).setCell ⟨nb, ts.length * 5 + 3, none⟩ (.string t.name)).setCell ⟨nb, ts.length * 5 + 4, none⟩ (.slice A9 t.kids.length c9)).heap[b]? = x.heap[b]? := fun b hb =>
    (Below.heap_setCell _ ⟨nb, _, none⟩ _ b hb).trans ((Below.heap_setCell _ ⟨nb, _, none⟩ _ b hb).trans ((Below.heap_setCell _ ⟨nb, _, none⟩ _ b hb).trans ((Below.heap_setCell _ ⟨nb, _, none⟩ _ b hb).trans (Below.heap_setCell _ ⟨nb, _, none⟩ _ b hb))))
  have hst1 := (h1.stored (ts.length * 5) (.int .i64 t.op)).1
  have hst2 := (hst1.stored (ts.length * 5 + 1) (.int .i64 t.a)).1
  have hst3 := (hst2.stored (ts.length * 5 + 2) (.int .i64 t.b)).1
  have hst4 := (hst3.stored (ts.length * 5 + 3) (.string t.name)).1
  have hst5 := (hst4.stored (ts.length * 5 + 4) (.slice A9 t.kids.length c9)).1
  have hcs : ((((((cs ++ (if false = true then tcells t A9 c9 else zcells)).set (ts.length * 5) (.int .i64 t.op)).set (ts.length * 5 + 1) (.int .i64 t.a)).set (ts.length * 5 + 2) (.int .i64 t.b)).set (ts.length * 5 + 3) (.string t.name)).set (ts.length * 5 + 4) (.slice A9 t.kids.length c9)) = cs ++ tcells t A9 c9 := by
    rw [List.set_append_right _ _ (by omega), List.set_append_right _ _ (by omega), List.set_append_right _ _ (by omega), List.set_append_right _ _ (by omega), List.set_append_right _ _ (by omega), h2,
      show ts.length * 5 - ts.length * 5 = 0 by omega, show ts.length * 5 + 1 - ts.length * 5 = 1 by omega, show ts.length * 5 + 2 - ts.length * 5 = 2 by omega, show ts.length * 5 + 3 - ts.length * 5 = 3 by omega, show ts.length * 5 + 4 - ts.length * 5 = 4 by omega]
    rfl
  rw [hcs] at hst5
  have hgx := hfar g h.ne.symm
  refine ⟨h.ne, h.lo, ⟨cs, hst5, h2, fun i y hy => ?_⟩, (h.kids.keep fun b hb9 => hfar b hb9.2.1).mono fun b hb9 => by simp only [size_setCell]; exact hb9, (World.cell?_of_block (a := ⟨g, _, none⟩) hgx).trans h.cell, fun o ho => (World.cell?_of_block (a := ⟨g, _, none⟩) hgx).trans (h.others o ho), fun o => (World.frozen?_of_block (a := ⟨g, o, none⟩) hgx).trans (h.frz o), by simp only [size_setCell]; exact h.size, fun b h8 h9 h10 => (hfar b (fun e => by rw [e] at h8 h10; exact h10 (hnb h8))).trans (h.far b h8 h9 h10), by simp only [size_setCell]; exact h.glt⟩
  obtain ⟨vs, hr, hu⟩ := h3 i y hy
  exact ⟨vs, Lay.term.mono (fun b hb9 => by simp only [size_setCell]; exact hb9) (Lay.term.keep (fun b hb9 => hfar b hb9.2.1) hr), hu⟩
/-- The terms, read. -/
theorem AftA.rd (h : AftA X g k M E At ct ts t true fb x nb c8 A9 c9) (hc9 : t.kids.length ≤ c9) : Lay.term.Rd x (some ⟨nb, 0, none⟩) (ts ++ [t]) := fun _ => by
  obtain ⟨cs, h1, h2, h3⟩ := h.row
  refine ⟨_, rfl, (h1.lt nb rfl).2, fun i y hy => ?_⟩
  have hcell : ∀ j u, (cs ++ tcells t A9 c9)[j]? = some u → x.cell? ((⟨nb, 0, none⟩ : Addr).add j) = some u := fun j u hu => by
    have hj : j < (cs ++ tcells t A9 c9).length := (List.getElem?_eq_some_iff.1 hu).1
    rw [List.length_append, h2, show (tcells t A9 c9).length = 5 from rfl] at hj
    rw [add_zero9]
    have := h1.cellAt j (by show _ < (ts.length + 1) * 5; omega)
    rw [this]
    exact hu
  by_cases hi : i < ts.length
  · rw [List.getElem?_append_left hi] at hy
    obtain ⟨vs, hr, hu⟩ := h3 i y hy
    refine ⟨vs, Lay.term.mono (fun b hb => hb.1) hr, fun j u hj => hcell _ _ ?_⟩
    have h9 := hu j u hj
    show (cs ++ tcells t A9 c9)[i * 5 + j]? = some u
    rw [List.getElem?_append_left (List.getElem?_eq_some_iff.1 h9).1]
    exact h9
  · have hil : i = ts.length := by have := (List.getElem?_eq_some_iff.1 hy).1; simp at this; omega
    subst hil
    rw [List.getElem?_append_right (Nat.le_refl _), Nat.sub_self] at hy
    simp at hy
    subst hy
    refine ⟨tcells t A9 c9, TermR.of hc9 (h.kids.mono fun b hb => hb.1), fun j u hj => hcell _ _ ?_⟩
    show (cs ++ tcells t A9 c9)[ts.length * 5 + j]? = some u
    rw [List.getElem?_append_right (by omega), h2, show ts.length * 5 + j - ts.length * 5 = j by omega]
    exact hj
end
/-- append of a zero term onto the terms of the last of copied layers. -/
theorem run_append_zero {X x : World} {g k M E b : Nat} {At : Option Addr} {ct d : Nat} {ts : List T} {t : T} {ty : TypeId} {A9 : Option Addr} {c9 : Nat} (hru : RowU M E X (.slice At ts.length ct) ts) (hn : ts.length ≤ 1048576) (hME : M ≤ E) (hE : E ≤ X.heap.size) (hg : g < X.heap.size) (hge : ¬ (M ≤ g ∧ g < E)) (hgl : ∃ cs9, X.heap[g]? = some (.cells cs9 58 (0, 0)))
    (hcell : X.cell? ⟨g, k * 2 + 1, none⟩ = some (.slice At ts.length ct)) (hfz : ∀ o, X.frozen? ⟨g, o, none⟩ = false) (hb : Below X.heap.size X x) (hzb : x.heap[b]? = some (.cells #[.int .i64 0, .int .i64 0, .int .i64 0, .string ⟨#[]⟩, .slice none 0 0] 48 (0, 0))) (hk : Lay.term.Sl x (fun b => X.heap.size ≤ b ∧ b < x.heap.size) A9 t.kids) :
    ∃ nb c' w', (Builtin.append_ #[24, 24] ty #[.slice At ts.length ct, .slice (some ⟨b, 0, none⟩) 1 d]).run Tryz.prog x = .ok (.slice (some ⟨nb, 0, none⟩) (ts.length + 1) c') w' ∧ AftA X g k M E At ct ts t false false w' nb c' A9 c9 ∧ (nb < X.heap.size → M ≤ nb ∧ nb < E) ∧ x.grownBy w' (Value.slice At ts.length ct).ownBlock := by
  obtain ⟨i0, hi0, hz0, hz1, hz2⟩ := info_parts term_info
  have hlt : ∀ b9, (Value.slice At ts.length ct).ownBlock = some b9 → M ≤ b9 ∧ b9 < E := fun b9 hb9 => by
    obtain ⟨_, w0, rfl, h2, _⟩ := hru
    exact h2.lt b9 hb9
  obtain ⟨cs, h1, h2⟩ := hru.ownL
  have h1x : x.ownsRow M 48 5 (.slice At ts.length ct) ts.length cs := own_below h1 hb (Nat.le_refl _)
  have hsrc : Src x 5 (some ⟨b, 0, none⟩) 1 [.int .i64 0, .int .i64 0, .int .i64 0, .string ⟨#[]⟩, .slice none 0 0] := by
    have := src_block (m := 1) (size := 5) hzb rfl
    simpa using this
  have hsx := hb.size
  obtain ⟨A', c', w', hrun, ho', hg', hbk⟩ := run_append_src_at (P := Tryz.prog) x M 24 ty 48 i0 _ 5 64 Tryz.underlying24 hi0 hz0 hz1 hz2 rfl (by omega) _ ts.length cs h1x (some ⟨b, 0, none⟩) 1 d _ hsrc (by intro u hu; simp at hu; rcases hu with rfl | rfl | rfl | rfl | rfl <;> rfl) (ts.length + 1) rfl (by unfold maxLen; omega) (by omega) (by omega) (fun e => by cases e)
  have hA : ∃ nb, A' = some ⟨nb, 0, none⟩ := by
    rcases ho'.2 with ⟨_, e2⟩ | ⟨g9, cap, cur, e1, _⟩
    · omega
    · injection e1 with e1; exact ⟨g9, e1⟩
  obtain ⟨nb, rfl⟩ := hA
  have hgn : (Value.slice At ts.length ct).ownBlock ≠ some g := fun e => hge (hlt g e)
  have hgx : w'.heap[g]? = X.heap[g]? := (hg'.block g (by omega) (fun e => hgn e.symm)).trans (hb.block g hg)
  have hng : nb ≠ g := fun e => by
    obtain ⟨cs9, h9⟩ := hgl
    rcases ho'.2 with ⟨e1, _⟩ | ⟨g9, cap, cur, e1, _, h8, _⟩
    · cases e1
    · injection e1 with e1; injection e1 with e1; injection e1 with e1
      rw [← e1, e, hgx, h9] at h8
      injection h8 with h8
      injection h8 with _ h8 _
      exact neLT h8
  have hnb : ∀ b9, b9 < x.heap.size → (Value.slice At ts.length ct).ownBlock ≠ some b9 → b9 ≠ nb := fun b9 h8 h9 e => by
    rcases hbk with e9 | ⟨g2, e9, h7⟩
    · exact h9 (by rw [← e9, e]; rfl)
    · have e9 : some nb = some g2 := e9
      injection e9 with e9
      omega
  refine ⟨nb, c', w', hrun, ⟨hng, (ho'.lt nb rfl).1, ⟨cs, ho', h1.1, fun i y hy => ?_⟩, ?_, (World.cell?_of_block (a := ⟨g, _, none⟩) hgx).trans hcell, fun o _ => World.cell?_of_block (a := ⟨g, _, none⟩) hgx, fun o => (World.frozen?_of_block (a := ⟨g, o, none⟩) hgx).trans (hfz o), Nat.le_trans hsx hg'.size, fun b9 h8 _ h10 => (hg'.block b9 (by omega) (fun e => h10 (hlt b9 e.symm))).trans (hb.block b9 h8), by have := hg'.size; omega⟩, fun h9 => ?_, hg'⟩
  · obtain ⟨vs, hr, hu⟩ := h2 i y hy
    refine ⟨vs, Lay.term.mono (fun b9 h9 => ⟨by have := hg'.size; omega, hnb b9 (by omega) h9.2.1, fun e => hge (by rw [← e]; exact h9.2.2)⟩) (Lay.term.keep (fun b9 h9 => (hg'.block b9 (by omega) (fun e => h9.2.1 e.symm)).trans (hb.block b9 h9.1)) hr), hu⟩
  · exact (hk.keep fun b9 h9 => hg'.block b9 h9.2 (fun e => by have := (hlt b9 e.symm).2; omega)).mono fun b9 h9 => ⟨by have := hg'.size; omega, hnb b9 h9.2 (fun e => by have := (hlt b9 e).2; omega), by omega⟩
  · rcases hbk with e9 | ⟨g2, e9, h7⟩
    · exact hlt nb (by rw [← e9]; rfl)
    · have e9 : some nb = some g2 := e9
      injection e9 with e9
      omega
theorem AftA.cap {X : World} {g k M E : Nat} {At : Option Addr} {ct : Nat} {ts : List T} {t : T} {fa fb : Bool} {x : World} {nb c8 : Nat} {A9 : Option Addr} {c9 : Nat} (h : AftA X g k M E At ct ts t fa fb x nb c8 A9 c9) : ts.length + 1 ≤ c8 := by
  obtain ⟨cs, h1, _⟩ := h.row
  rcases h1.2 with ⟨e1, _⟩ | ⟨g9, cap, cur, e1, _, _, h3, _⟩
  · cases e1
  · injection e1 with _ _ e1; omega
theorem wpList_append_zero {Q' : Exit → Act → World → Prop} {ops : Array Oper} {rest : List Oper} {o : Oper} {a : Act} {X x : World} {g k M E b : Nat} {At : Option Addr} {ct d : Nat} {ts : List T} {t : T} {A9 : Option Addr} {c9 : Nat} (hgd : o.guard = none) (s y : Operand)
    (ho : o.op = .call { callee := .builtin .append, args := #[s, y], argTypes := #[24, 24] }) (hs : a.eval s = .slice At ts.length ct) (hyv : a.eval y = .slice (some ⟨b, 0, none⟩) 1 d)
    (hru : RowU M E X (.slice At ts.length ct) ts) (hn : ts.length ≤ 1048576) (hME : M ≤ E) (hE : E ≤ X.heap.size) (hg : g < X.heap.size) (hge : ¬ (M ≤ g ∧ g < E)) (hgl : ∃ cs9, X.heap[g]? = some (.cells cs9 58 (0, 0)))
    (hcell : X.cell? ⟨g, k * 2 + 1, none⟩ = some (.slice At ts.length ct)) (hfz : ∀ o, X.frozen? ⟨g, o, none⟩ = false) (hb : Below X.heap.size X x) (hzb : x.heap[b]? = some (.cells #[.int .i64 0, .int .i64 0, .int .i64 0, .string ⟨#[]⟩, .slice none 0 0] 48 (0, 0))) (hk : Lay.term.Sl x (fun b => X.heap.size ≤ b ∧ b < x.heap.size) A9 t.kids)
    (h : ∀ nb c' w', AftA X g k M E At ct ts t false false w' nb c' A9 c9 → (nb < X.heap.size → M ≤ nb ∧ nb < E) → x.grownBy w' (Value.slice At ts.length ct).ownBlock → wpList Tryz.prog ops Q' rest (a.put o.dst (.slice (some ⟨nb, 0, none⟩) (ts.length + 1) c')) w') : wpList Tryz.prog ops Q' (o :: rest) a x := by
  obtain ⟨nb, c', w', hrun, h1, h2, h3⟩ := run_append_zero (d := d) (ty := o.type) (c9 := c9) hru hn hME hE hg hge hgl hcell hfz hb hzb hk
  refine wpList_plain hgd fun _ hK => ?_
  unfold Oper.wp execOp
  simp only [ho, resolve, invoke, builtin, Sem.run_bind, Sem.run_pure, Result.andThen_ok, List.map_toArray, List.map_cons, List.map_nil, hs, hyv, hrun]
  exact hK _ _ (h nb c' w' h1 h2 h3)
/-- The states of the drawn statement; which operations are done. -/
def AsI (lo : Nat) (X : World) (g k M E : Nat) (At : Option Addr) (ct : Nat) (ts : List T) (t : T) (v6 v8 v9 v10 : Value) (f6 f8 f9 f10 f11 f14 : Bool) (x : World) : Prop :=
  Below lo X x ∧ (f9 = false → Below X.heap.size X x) ∧
  (f6 = true → f9 = false → ∃ A9 c9, v6 = .agg (tcells t A9 c9).toArray ∧ t.kids.length ≤ c9 ∧ Lay.term.Sl x (fun b => X.heap.size ≤ b ∧ b < x.heap.size) A9 t.kids) ∧
  (f8 = true → f9 = false → ∃ b, v8 = .slice (some ⟨b, 0, none⟩) 1 1 ∧ x.heap[b]? = some (.cells #[.int .i64 0, .int .i64 0, .int .i64 0, .string ⟨#[]⟩, .slice none 0 0] 48 (0, 0))) ∧
  (f9 = true → ∃ nb c8 A9 c9, v9 = .slice (some ⟨nb, 0, none⟩) (ts.length + 1) c8 ∧ v6 = .agg (tcells t A9 c9).toArray ∧ t.kids.length ≤ c9 ∧ (nb < X.heap.size → M ≤ nb ∧ nb < E) ∧ (f10 = true → v10 = .pointer (some ⟨nb, ts.length * 5, none⟩)) ∧ AftA X g k M E At ct ts t f11 f14 x nb c8 A9 c9)
theorem AsI.up {lo : Nat} {X : World} {g k M E : Nat} {At : Option Addr} {ct : Nat} {ts : List T} {t : T} {v6 v8 v9 v10 : Value} {f6 f8 f9 f10 f11 f14 : Bool} {x x' : World} (h : AsI lo X g k M E At ct ts t v6 v8 v9 v10 f6 f8 f9 f10 f11 f14 x) (hl : lo ≤ X.heap.size) (hb : Below x.heap.size x x') : AsI lo X g k M E At ct ts t v6 v8 v9 v10 f6 f8 f9 f10 f11 f14 x' := by
  obtain ⟨h1, h2, h3, h4, h5⟩ := h
  refine ⟨h1.trans (hb.mono (Nat.le_trans hl h1.size)), fun e => bthen (h2 e) hb, fun e e' => ?_, fun e e' => ?_, fun e => ?_⟩
  · obtain ⟨A9, c9, q1, q2, q3⟩ := h3 e e'
    exact ⟨A9, c9, q1, q2, (q3.keep fun b h9 => hb.block b h9.2).mono fun b h9 => ⟨h9.1, Nat.lt_of_lt_of_le h9.2 hb.size⟩⟩
  · obtain ⟨b, q1, q2⟩ := h4 e e'
    exact ⟨b, q1, (hb.block b (lt_of_block q2)).trans q2⟩
  · obtain ⟨nb, c8, A9, c9, q1, q2, q3, q4, q5, q6⟩ := h5 e
    exact ⟨nb, c8, A9, c9, q1, q2, q3, q4, q5, q6.up hb⟩
end Go.Proofs.YtiahmfpfimmbgaaGreatDoor

/-! One layer of copied layers stands open: its terms may grow, as the draw of bent layers does it. -/
namespace Go.Proofs.YtiahmfpfimmbgaaGreatDoor
open Go Go.RowKit

theorem own_cap9 {w : World} {base n c : Nat} {e : TypeId} {size : Nat} {A : Option Addr} {cs : List Value} (h : w.ownsRow base e size (.slice A n c) n cs) : n ≤ c := by
  rcases h.2 with ⟨e1, e2⟩ | ⟨g9, cap, cur, e1, _, _, h3, _⟩
  · omega
  · injection e1 with _ _ e1; omega
/-- Layers in one block, each read. -/
theorem layers_rd {w : World} {g : Nat} {c : List Ly} (hg : g < w.heap.size) (h : ∀ i l9, c[i]? = some l9 → ∃ u0 u1, Lay.layer.R w (fun b => b < w.heap.size) l9 [u0, u1] ∧ w.cell? ⟨g, i * 2, none⟩ = some u0 ∧ w.cell? ⟨g, i * 2 + 1, none⟩ = some u1) : Lay.layer.Rd w (some ⟨g, 0, none⟩) c :=
  sl_two fun _ => ⟨_, rfl, hg, fun k l9 hl9 => by rw [add_zero9, add_zero9]; exact h k l9 hl9⟩
/-- What is not the row of terms, nor the layers' block. -/
def FarB (w : World) (v : Value) (g : Nat) (b : Nat) : Prop := b < w.heap.size ∧ v.ownBlock ≠ some b ∧ b ≠ g
/-- Layer k of the layers in block g stands open. -/
structure BentS (lo : Nat) (X : World) (g : Nat) (c : List Ly) (k : Nat) (l : Ly) (At : Option Addr) (ct : Nat) : Prop where
  at_k : c[k]? = some l
  glo : lo ≤ g
  glt : g < X.heap.size
  gne : (Value.slice At l.ts.length ct).ownBlock ≠ some g
  frz : ∀ o, X.frozen? ⟨g, o, none⟩ = false
  gty : ∃ cs9, X.heap[g]? = some (.cells cs9 58 (0, 0))
  ds : ∃ Ad cd, X.cell? ⟨g, k * 2, none⟩ = some (.slice Ad l.ds.length cd) ∧ l.ds.length ≤ cd ∧ Lay.decl.Sl X (FarB X (.slice At l.ts.length ct) g) Ad l.ds
  ts : X.cell? ⟨g, k * 2 + 1, none⟩ = some (.slice At l.ts.length ct)
  row : ∃ cs, X.ownsRow lo 48 5 (.slice At l.ts.length ct) l.ts.length cs ∧ ∀ i y, l.ts[i]? = some y → ∃ vs, Lay.term.R X (FarB X (.slice At l.ts.length ct) g) y vs ∧ ∀ j u, vs[j]? = some u → cs[i * 5 + j]? = some u
  others : ∀ i l9, i ≠ k → c[i]? = some l9 → ∃ u0 u1, Lay.layer.R X (FarB X (.slice At l.ts.length ct) g) l9 [u0, u1] ∧ X.cell? ⟨g, i * 2, none⟩ = some u0 ∧ X.cell? ⟨g, i * 2 + 1, none⟩ = some u1
theorem FarB.up {w w' : World} {v : Value} {g b : Nat} (h : FarB w v g b) (hs : w.heap.size ≤ w'.heap.size) : FarB w' v g b := ⟨Nat.lt_of_lt_of_le h.1 hs, h.2⟩
/-- Any layer of copied layers. -/
theorem RowP.atPR {lo c' : Nat} {w : World} {A : Option Addr} {c : List Ly} (h : RowP PR lo w (.slice A c.length c') c) {k : Nat} {l : Ly} (hk : c[k]? = some l) :
    ∃ g S M E Ad cd At ct, A = some ⟨g, 0, none⟩ ∧ (lo ≤ g ∧ g < w.heap.size) ∧ w.cell? ⟨g, k * 2, none⟩ = some (.slice Ad l.ds.length cd) ∧ w.cell? ⟨g, k * 2 + 1, none⟩ = some (.slice At l.ts.length ct) ∧ (∀ o, w.frozen? ⟨g, o, none⟩ = false) ∧ (∃ cs9, w.heap[g]? = some (.cells cs9 58 (0, 0))) ∧
      (lo ≤ S ∧ S ≤ M ∧ M ≤ E ∧ E ≤ w.heap.size ∧ ¬ (S ≤ g ∧ g < E)) ∧ (∀ b, (Value.slice Ad l.ds.length cd).ownBlock = some b → b < M) ∧ OwnDs w S (.slice Ad l.ds.length cd) l.ds ∧ RowU M E w (.slice At l.ts.length ct) l.ts ∧
      ∀ i l9, i ≠ k → c[i]? = some l9 → ∃ u0 u1, Lay.layer.R w (fun b => b < w.heap.size ∧ b ≠ g ∧ ¬ (S ≤ b ∧ b < E)) l9 [u0, u1] ∧ w.cell? ⟨g, i * 2, none⟩ = some u0 ∧ w.cell? ⟨g, i * 2 + 1, none⟩ = some u1 := by
  have hlt := h.lt
  obtain ⟨cs, h1, S, E, Vd, Vt, h2, h3⟩ := h
  have hcl : cs.length = c.length * 2 := h1.1
  have hkl : k < c.length := (List.getElem?_eq_some_iff.1 hk).1
  have hA : ∃ g, A = some ⟨g, 0, none⟩ := by
    rcases h1.2 with ⟨_, e2⟩ | ⟨g, cap, cur, e1, _⟩
    · omega
    · injection e1 with e1; exact ⟨g, e1⟩
  obtain ⟨g, rfl⟩ := hA
  have hgl : ∃ cs9, w.heap[g]? = some (.cells cs9 58 (0, 0)) := by
    rcases h1.2 with ⟨e1, _⟩ | ⟨g9, cap, cur, e1, _, hg9, _⟩
    · cases e1
    · injection e1 with e1; injection e1 with e1; injection e1 with e1; subst e1; exact ⟨cur, hg9⟩
  have hcell : ∀ j u, cs[j]? = some u → w.cell? ⟨g, j, none⟩ = some u := fun j u hu => by
    have hj : j < cs.length := (List.getElem?_eq_some_iff.1 hu).1
    rw [World.ownsRow.cellAt h1 j (by omega)]
    exact hu
  obtain ⟨g1, g2, ⟨g3, g4, g5⟩, g6, g7⟩ := h2 k l hk
  obtain ⟨M, Ad, cd, At, ct, e1, e2, k1, k2, k3, k4, k5⟩ := g7
  rw [e1] at g1 k3
  rw [e2] at g2
  refine ⟨g, S k, M, E k, Ad, cd, At, ct, rfl, hlt g rfl, hcell _ _ g1, hcell _ _ g2, fun o => World.ownsRow.frozenAt h1 o, hgl, ⟨g3, k1, k2, g5, g6 g rfl⟩, k3, k4, k5, fun i l9 hi hl9 => ?_⟩
  have hil : i < c.length := (List.getElem?_eq_some_iff.1 hl9).1
  obtain ⟨q1, q2, ⟨q3, q4, q5⟩, q6, q7⟩ := h2 i l9 hl9
  have hdis : E i ≤ S k ∨ E k ≤ S i := by
    rcases Nat.lt_or_gt_of_ne hi with h | h
    · exact .inl (h3 i k h hkl)
    · exact .inr (h3 k i h hil)
  refine ⟨Vd i, Vt i, Lay.layer.mono (fun b h9 => ⟨h9.lt, fun e => q6 g rfl (by rw [← e]; exact ⟨h9.1, h9.2.1⟩), fun h8 => ?_⟩) (q7.pp.layer (lo := S i) (Nat.le_refl _) (Nat.le_refl _) q5), hcell _ _ q1, hcell _ _ q2⟩
  have := h9.1
  have := h9.2.1
  omega
theorem RowP.bent {lo c' : Nat} {w : World} {A : Option Addr} {c : List Ly} (h : RowP PR lo w (.slice A c.length c') c) {k : Nat} {l : Ly} (hk : c[k]? = some l) : ∃ g At ct, A = some ⟨g, 0, none⟩ ∧ BentS lo w g c k l At ct := by
  obtain ⟨g, S, M, E, Ad, cd, At, ct, rfl, ⟨hg1, hg2⟩, e0, e1, hfz, hgl, ⟨s1, s2, s3, s4, s5⟩, hdm, hod, hru, hoth⟩ := h.atPR hk
  have hown : ∀ b, (Value.slice At l.ts.length ct).ownBlock = some b → M ≤ b ∧ b < E := fun b hb => by
    obtain ⟨_, w0, rfl, h2, _⟩ := hru
    exact h2.lt b hb
  obtain ⟨cs, r1, r2⟩ := hru.ownL
  refine ⟨g, At, ct, rfl, hk, hg1, hg2, fun e => s5 (by have := hown g e; omega), hfz, hgl, ⟨Ad, cd, e0, (OwnDs.cap hod).2, fun h0 => ?_⟩, e1, ⟨cs, own_mono r1 (by omega), fun i y hy => ?_⟩, fun i l9 hi hl9 => ?_⟩
  · obtain ⟨ad, e, hf, hc⟩ := (Lay.Sl.decl_own hod) h0
    have hm := hdm ad.block (by rw [e]; rfl)
    refine ⟨ad, e, ⟨by omega, fun e9 => by have := (hown _ e9).1; omega, fun e9 => s5 (by have := hf.1; omega)⟩, fun k x hx => ?_⟩
    obtain ⟨vs, hr, hcell⟩ := hc k x hx
    exact ⟨vs, hr, hcell⟩
  · obtain ⟨vs, hr, hu⟩ := r2 i y hy
    exact ⟨vs, Lay.term.mono (fun b hb => ⟨hb.1, hb.2.1, fun e => s5 (by have := hb.2.2; omega)⟩) hr, hu⟩
  · obtain ⟨u0, u1, hr, c0, c1⟩ := hoth i l9 hi hl9
    exact ⟨u0, u1, Lay.layer.mono (fun b hb => ⟨hb.1, fun e9 => hb.2.2 (by have := hown b e9; omega), hb.2.1⟩) hr, c0, c1⟩
/-- Read. -/
theorem BentS.rd {lo : Nat} {X : World} {g : Nat} {c : List Ly} {k : Nat} {l : Ly} {At : Option Addr} {ct : Nat} (h : BentS lo X g c k l At ct) : Lay.layer.Rd X (some ⟨g, 0, none⟩) c := layers_rd h.glt fun i l9 hl9 => by
  by_cases hi : i = k
  · subst hi
    have e := h.at_k.symm.trans hl9
    injection e with e
    subst e
    obtain ⟨Ad, cd, d1, d2, d3⟩ := h.ds
    obtain ⟨cs, r1, r2⟩ := h.row
    refine ⟨_, _, ⟨Ad, cd, At, ct, rfl, d2, own_cap9 r1, d3.mono fun b hb => hb.1, fun h0 => ?_⟩, d1, h.ts⟩
    obtain ⟨g9, eg⟩ : ∃ g9, At = some ⟨g9, 0, none⟩ := by
      rcases r1.2 with ⟨e1, e2⟩ | ⟨g9, cap, cur, e1, _⟩
      · omega
      · injection e1 with e1; exact ⟨g9, e1⟩
    subst eg
    refine ⟨_, rfl, (r1.lt g9 rfl).2, fun i y hy => ?_⟩
    obtain ⟨vs, hr, hu⟩ := r2 i y hy
    have hil : i < l.ts.length := (List.getElem?_eq_some_iff.1 hy).1
    refine ⟨vs, Lay.term.mono (fun b hb => hb.1) hr, fun j u hj => ?_⟩
    have h9 := hu j u hj
    have hj9 : i * 5 + j < cs.length := (List.getElem?_eq_some_iff.1 h9).1
    rw [show i * Lay.term.size + j = i * 5 + j from rfl, add_zero9, r1.cellAt _ (by have := r1.1; omega)]
    exact h9
  · obtain ⟨u0, u1, hr, c0, c1⟩ := h.others i l9 hi hl9
    exact ⟨u0, u1, Lay.layer.mono (fun b hb => hb.1) hr, c0, c1⟩
end Go.Proofs.YtiahmfpfimmbgaaGreatDoor

/-! A drawn region whose operations write old memory: each operation once, in whatever world its turn comes; a relation that all keep, and an invariant. No program is named here. -/
namespace Go.Proofs.YtiahmfpfimmbgaaGreatDoor
open Go Go.RowKit

/-- The operation without its guard. -/
def bare (o : Oper) : Oper := { o with guard := none }
abbrev Say := (Nat → Value) → World → Prop
def says (L : List Say) (vals : Nat → Value) (x : World) : List Nat → Prop
  | [] => True
  | i :: l => L.getD i (fun _ _ => True) vals x ∧ says L vals x l
/-- It waits for all others. -/
def isLast (ops : List Oper) (k : Nat) : Bool := (List.range ops.length).all fun r => r == k || reach ops ops.length k r
/-- Each stays over the relation, or is the last. -/
def Stabs (ops : List Oper) (R : World → World → Prop) : Nat → List Say → Prop
  | _, [] => True
  | k, V :: l => (isLast ops k = true ∨ ∀ vs x x', V vs x → R x x' → V vs x') ∧ Stabs ops R (k + 1) l
theorem Stabs.get {ops : List Oper} {R : World → World → Prop} : ∀ {L : List Say} {k : Nat}, Stabs ops R k L → ∀ i vs x x', isLast ops (k + i) = false → L.getD i (fun _ _ => True) vs x → R x x' → L.getD i (fun _ _ => True) vs x'
  | [], _, _, i, vs, x, x', _, _, _ => by simp
  | V :: l, k, h, 0, vs, x, x', hl, hv, hr => by
    rcases h.1 with h1 | h1
    · rw [Nat.add_zero] at hl; rw [hl] at h1; cases h1
    · simpa using h1 vs x x' (by simpa using hv) hr
  | V :: l, k, h, i + 1, vs, x, x', hl, hv, hr => by simpa using Stabs.get h.2 i vs x x' (by rw [← hl]; congr 1; omega) (by simpa using hv) hr
/-- Each looks at its own value and those of the ones that it looks at. -/
def Locals (D : List (List Nat)) : Nat → List Say → Prop
  | _, [] => True
  | k, V :: l => (∀ vs vs' x, vs k = vs' k → (∀ i ∈ D.getD k [], vs i = vs' i) → V vs x → V vs' x) ∧ Locals D (k + 1) l
theorem Locals.get {D : List (List Nat)} : ∀ {L : List Say} {k : Nat}, Locals D k L → ∀ i vs vs' x, vs (k + i) = vs' (k + i) → (∀ m ∈ D.getD (k + i) [], vs m = vs' m) → L.getD i (fun _ _ => True) vs x → L.getD i (fun _ _ => True) vs' x
  | [], _, _, i, vs, vs', x, _, _, _ => by simp
  | V :: l, k, h, 0, vs, vs', x, h1, h2, hv => by simpa using h.1 vs vs' x (by simpa using h1) (by simpa using h2) (by simpa using hv)
  | V :: l, k, h, i + 1, vs, vs', x, h1, h2, hv => by
    have e : k + (i + 1) = k + 1 + i := by omega
    rw [e] at h1 h2
    simpa using Locals.get h.2 i vs vs' x h1 h2 (by simpa using hv)
def upd (vs : Nat → Value) (k : Nat) (v : Value) : Nat → Value := fun j => if j = k then v else vs j
variable {P : Program} {Q : Exit → Act → World → Prop}
theorem says_iff {L : List Say} {vals : Nat → Value} {x : World} : ∀ {l : List Nat}, says L vals x l ↔ ∀ i ∈ l, L.getD i (fun _ _ => True) vals x
  | [] => by simp [says]
  | i :: l => by simp [says, says_iff (l := l)]
def idxs (D : List (List (Nat × Tmp))) : List (List Nat) := D.map fun l => l.map fun p => p.1
def saysD (L : List Say) (vals : Nat → Value) (x : World) : List (Nat × Tmp) → Prop
  | [] => True
  | (i, _) :: l => L.getD i (fun _ _ => True) vals x ∧ saysD L vals x l
theorem says_saysD {L : List Say} {vals : Nat → Value} {x : World} : ∀ {l : List (Nat × Tmp)}, says L vals x (l.map (·.1)) = saysD L vals x l
  | [] => rfl
  | (i, t) :: l => by simp only [List.map_cons, says, saysD, says_saysD (l := l)]
theorem bare_wp (o : Oper) (a : Act) (w : World) (K : Act → World → Prop) : Oper.wp P (bare o) a w K Q = Oper.wp P o a w K Q := by cases o; rfl
theorem wpList_bare {o : Oper} {a : Act} {w : World} (h : wpList P #[] Q [bare o] a w) : Oper.wp P o a w (Q .normal) Q ∨ LetsOut Q := by
  have hg : (bare o).guard = none := rfl
  unfold wpList at h
  rw [if_pos (by unfold Region.wanted; rw [hg])] at h
  rcases h with h | ⟨_, h⟩
  · rw [← bare_wp]; exact .inl h
  · exact .inr h
end Go.Proofs.YtiahmfpfimmbgaaGreatDoor

/-! A drawn region, each operation once, what memory does told of each. No program is named here. -/
namespace Go.Proofs.YtiahmfpfimmbgaaGreatDoor
open Go Go.RowKit
variable {P : Program} {Q : Exit → Act → World → Prop}

/-- What the operation does to memory: R0, or what is told of it. -/
def relOf (R0 : World → World → Prop) : List (Nat × (World → World → Prop)) → Nat → World → World → Prop
  | [], _ => R0
  | p :: l, k => fun x x' => (k = p.1 → p.2 x x') ∧ (k ≠ p.1 → relOf R0 l k x x')
def Refls : List (Nat × (World → World → Prop)) → Prop
  | [] => True
  | p :: l => (∀ x, p.2 x x) ∧ Refls l
theorem relOf_refl {R0 : World → World → Prop} (h0 : ∀ x, R0 x x) : ∀ {l : List (Nat × (World → World → Prop))}, Refls l → ∀ k x, relOf R0 l k x x
  | [], _, _, x => h0 x
  | _ :: _, h, k, x => ⟨fun _ => h.1 x, fun _ => relOf_refl h0 h.2 k x⟩
def StabS (ops : List Oper) (V : Say) (i : Nat) : List (Nat × (World → World → Prop)) → Prop
  | [] => True
  | p :: l => (reach ops ops.length i p.1 = true ∨ i = p.1 ∨ ∀ vs x x', V vs x → p.2 x x' → V vs x') ∧ StabS ops V i l
def Stabs3 (ops : List Oper) (R0 : World → World → Prop) (Rs : List (Nat × (World → World → Prop))) : Nat → List Say → Prop
  | _, [] => True
  | i, V :: l => ((isLast ops i = true ∨ ∀ vs x x', V vs x → R0 x x' → V vs x') ∧ StabS ops V i Rs) ∧ Stabs3 ops R0 Rs (i + 1) l
theorem relOf_stab {ops : List Oper} {R0 : World → World → Prop} {V : Say} {i k : Nat} (hik : i ≠ k) (hr : reach ops ops.length i k = false) (h0 : ∀ vs x x', V vs x → R0 x x' → V vs x') : ∀ {l : List (Nat × (World → World → Prop))}, StabS ops V i l → ∀ vs x x', V vs x → relOf R0 l k x x' → V vs x'
  | [], _, vs, x, x', hv, h => h0 vs x x' hv h
  | p :: l, hs, vs, x, x', hv, h => by
    by_cases e : k = p.1
    · rcases hs.1 with h1 | h1 | h1
      · rw [e, h1] at hr; cases hr
      · exact absurd (h1.trans e.symm) hik
      · exact h1 vs x x' hv (h.1 e)
    · exact relOf_stab hik hr h0 hs.2 vs x x' hv (h.2 e)
theorem relOf_last {ops : List Oper} {R0 : World → World → Prop} {V : Say} {i k : Nat} (hik : i ≠ k) (hr : reach ops ops.length i k = false) (hk : k < ops.length) (hl : isLast ops i = true) : False := by
  unfold isLast at hl
  have h1 := List.all_eq_true.1 hl k (List.mem_range.2 hk)
  rw [Bool.or_eq_true, hr] at h1
  rcases h1 with h1 | h1
  · exact hik (by simpa using Eq.symm (by simpa using h1 : k = i))
  · cases h1
theorem Stabs3.get {ops : List Oper} {R0 : World → World → Prop} {Rs : List (Nat × (World → World → Prop))} {k : Nat} (hk : k < ops.length) : ∀ {L : List Say} {m : Nat}, Stabs3 ops R0 Rs m L → ∀ i, m + i ≠ k → reach ops ops.length (m + i) k = false → ∀ vs x x', L.getD i (fun _ _ => True) vs x → relOf R0 Rs k x x' → L.getD i (fun _ _ => True) vs x'
  | [], _, _, i, _, _, vs, x, x', _, _ => by simp
  | V :: l, m, h, 0, hik, hr, vs, x, x', hv, hR => by
    rcases h.1.1 with h1 | h1
    · exact (relOf_last (R0 := R0) (V := V) hik hr hk h1).elim
    · simpa using relOf_stab hik hr h1 h.1.2 vs x x' (by simpa using hv) hR
  | V :: l, m, h, i + 1, hik, hr, vs, x, x', hv, hR => by
    have e : m + (i + 1) = m + 1 + i := by omega
    rw [e] at hik hr
    simpa using Stabs3.get hk h.2 i hik hr vs x x' (by simpa using hv) hR
end Go.Proofs.YtiahmfpfimmbgaaGreatDoor

/-! A drawn region, each operation once: what is so all along may look at which operations have been done. No program is named here. -/
namespace Go.Proofs.YtiahmfpfimmbgaaGreatDoor
open Go Go.RowKit
variable {P : Program} {Q : Exit → Act → World → Prop}

/-- It has been done too. -/
def did (f : Nat → Bool) (k : Nat) : Nat → Bool := fun j => if j = k then true else f j
def relQ4 (R : World → World → Prop) (I : (Nat → Bool) → World → Prop) (L : List Say) (vals : Nat → Value) (f : Nat → Bool) (k : Nat) (o : Oper) (a : Act) (x : World) : Exit → Act → World → Prop
  | .normal, a', x' => a'.defers = a.defers ∧ L.getD k (fun _ _ => True) (upd vals k (got o a')) x' ∧ R x x' ∧ I (did f k) x'
  | _, _, _ => False
def obligR4 (P : Program) (ops : List Oper) (D : List (List Nat)) (R : World → World → Prop) (I : (Nat → Bool) → World → Prop) (L : List Say) (a : Act) (k : Nat) (o : Oper) : Prop :=
  ∀ (vals : Nat → Value) (x : World) (f : Nat → Bool), f k = false → (∀ j, reach ops ops.length k j = true → f j = true) → (∀ j, reach ops ops.length j k = true → f j = false) → I f x → says L vals x (D.getD k []) →
    ((∀ g b, o.guard = some (g, b) → vals g = .bool b) → o.wp P (puts ops vals (D.getD k []) a) x (relQ4 R I L vals f k o (puts ops vals (D.getD k []) a) x .normal) (relQ4 R I L vals f k o (puts ops vals (D.getD k []) a) x)) ∧
    (∀ g b, o.guard = some (g, b) → vals g ≠ .bool b → L.getD k (fun _ _ => True) (upd vals k undef) x ∧ I (did f k) x)
structure RelInv4 (ops : List Oper) (I : (Nat → Bool) → World → Prop) (L : List Say) (a : Act) (listed : Array Bool) (a' : Act) (x : World) (vals : Nat → Value) : Prop where
  size : listed.size = ops.length
  closed : ∀ j k, waits ops k j = true → listed.getD k false = true → listed.getD j false = true
  tsize : a'.tmps.size = a.tmps.size
  defers : a'.defers = a.defers
  old : ∀ t, (∀ j, listed.getD j false = true → dstOf ops j ≠ some t) → a'.tmps[t]? = a.tmps[t]?
  new : ∀ j t, listed.getD j false = true → dstOf ops j = some t → a'.tmps[t]? = some (vals j)
  inv : I (fun i => listed.getD i false) x
  fact : ∀ j, listed.getD j false = true → L.getD j (fun _ _ => True) vals x
def owes4 (P : Program) (R : World → World → Prop) (I : (Nat → Bool) → World → Prop) (L : List Say) (vals : Nat → Value) (a : Act) (x : World) (f : Nat → Bool) (k : Nat) (o : Oper) (gd : Option (Nat × Bool)) : Prop :=
  match gd with
  | none => wpList P #[] (relQ4 R I L vals f k o a x) [bare o] a x
  | some (g, b) => (vals g = .bool b → wpList P #[] (relQ4 R I L vals f k o a x) [bare o] a x) ∧ (vals g ≠ .bool b → L.getD k (fun _ _ => True) (upd vals k undef) x ∧ I (did f k) x)
/-- As 'relOk'; an operation may look at a slot that a later one writes, if that one waits for it. -/
def relOk4 (ops : List Oper) (D : List (List Nat)) (size : Nat) : Bool :=
  (List.range ops.length).all fun k =>
    (match ops[k]? with
      | some o => (match o.guard with | none => true | some (g, _) => (D.getD k []).contains g && (dstOf ops g).isSome) && (match o.op with | .select .. => false | _ => true) && (o.after.all fun e => !Region.binds .any e || decide (e.on < k)) && (match o.dst with | some d => decide (d < size) | none => true)
      | none => false) &&
    ((D.getD k []).all fun j => waits ops k j && decide (j < ops.length)) &&
    (decide ((D.getD k []).Nodup)) &&
    (List.range ops.length).all fun j =>
      (!looks ops k j || (D.getD k []).contains j || reach ops ops.length j k) &&
      (decide (j = k) || (match dstOf ops j, dstOf ops k with | some d, some e => d != e | _, _ => true))
theorem relOk4_spec {ops : List Oper} {D : List (List Nat)} {size : Nat} (h : relOk4 ops D size = true) (k : Nat) (o : Oper) (hk : ops[k]? = some o) :
    (∀ g b, o.guard = some (g, b) → g ∈ D.getD k [] ∧ ∃ d, dstOf ops g = some d) ∧ (∀ cs b, o.op ≠ .select cs b) ∧ (∀ e ∈ o.after, Region.binds .any e = true → e.on < k) ∧ (∀ d, o.dst = some d → d < size) ∧
    (∀ j ∈ D.getD k [], waits ops k j = true ∧ j < ops.length) ∧ (∀ j, j < ops.length → looks ops k j = true → j ∈ D.getD k [] ∨ reach ops ops.length j k = true) ∧
    (∀ j d, j < ops.length → dstOf ops j = some d → o.dst = some d → j = k) := by
  have hlt : k < ops.length := (List.getElem?_eq_some_iff.1 hk).1
  unfold relOk4 at h
  have h := List.all_eq_true.1 h k (List.mem_range.2 hlt)
  have hdk : dstOf ops k = o.dst := by simp [dstOf, hk]
  simp only [hk, Bool.and_eq_true, hdk] at h
  obtain ⟨⟨⟨⟨⟨⟨h1, h2⟩, h3⟩, h4⟩, h5⟩, _⟩, h6⟩ := h
  have h6 : ∀ j, j < ops.length → _ := fun j hj => List.all_eq_true.1 h6 j (List.mem_range.2 hj)
  refine ⟨fun g b hg => ?_, fun cs b e => (by rw [e] at h2; cases h2), fun e he hb => ?_, fun d hd => by rw [hd] at h4; simpa using h4, fun j hj => ?_, fun j hj hl => ?_, fun j d hj hd hd' => ?_⟩
  · rw [hg] at h1
    simp only [Bool.and_eq_true, List.contains_iff_mem] at h1
    exact ⟨h1.1, Option.isSome_iff_exists.1 h1.2⟩
  · have := (Array.all_eq_true_iff_forall_mem.1 h3) e he
    simpa [hb] using this
  · have := List.all_eq_true.1 h5 j hj
    simpa using this
  · have := h6 j hj
    simp only [Bool.and_eq_true, hl] at this
    simpa using this.1
  · have := h6 j hj
    simp only [Bool.and_eq_true, hd, hd'] at this
    simpa using this.2
theorem rel4_any {ops : List Oper} {D : List (List Nat)} {R : Nat → World → World → Prop} {I : (Nat → Bool) → World → Prop} {L : List Say} {a : Act} (hRr : ∀ k x, R k x x) (hL : ∀ j k, k < ops.length → j ≠ k → reach ops ops.length j k = false → ∀ vs x x', L.getD j (fun _ _ => True) vs x → R k x x' → L.getD j (fun _ _ => True) vs x') (hLo : Locals D 0 L) (hB : relOk4 ops D a.tmps.size = true)
    (hs : ∀ k o, ops[k]? = some o → obligR4 P ops D (R k) I L a k o)
    (hfin : ∀ vals x f, (∀ i, i < ops.length → f i = true) → I f x → says L vals x (List.range ops.length) → Q .normal (puts ops vals (List.range ops.length) a) x) :
    ∀ (fuel : Nat) (listed : Array Bool) (a' : Act) (x : World) (vals : Nat → Value), cnt (fun i => listed.getD i false) ops.length ≤ fuel →
      RelInv4 ops I L a listed a' x vals → wpAny P .any ops.toArray Q fuel listed a' x := by
  have hdd : ∀ i j t, dstOf ops i = some t → dstOf ops j = some t → i = j := fun i j t hi hj => by
    have hjl : j < ops.length := dst_lt hj
    have ho : ops[j]? = some ops[j] := List.getElem?_eq_getElem hjl
    exact (relOk4_spec hB j _ ho).2.2.2.2.2.2 i t (dst_lt hi) hi (by simpa [dstOf, ho] using hj)
  have hds : ∀ j t, dstOf ops j = some t → t < a.tmps.size := fun j t hj => by
    have hjl : j < ops.length := dst_lt hj
    have ho : ops[j]? = some ops[j] := List.getElem?_eq_getElem hjl
    exact (relOk4_spec hB j _ ho).2.2.2.1 t (by simpa [dstOf, ho] using hj)
  have hdone : ∀ (listed : Array Bool) (a' : Act) (x : World) (vals : Nat → Value), (∀ i, i < ops.length → listed.getD i false = true) → RelInv4 ops I L a listed a' x vals → Q .normal a' x := by
    intro listed a' x vals hall inv
    have ha : a' = puts ops vals (List.range ops.length) a := by
      have ht : a'.tmps = (puts ops vals (List.range ops.length) a).tmps := by
        apply Array.ext_getElem?
        intro t
        by_cases h : ∃ j, dstOf ops j = some t
        · obtain ⟨j, hj⟩ := h
          rw [inv.new j t (hall j (dst_lt hj)) hj, puts_get (fun i j => hdd i j t) _ _ j (List.mem_range.2 (dst_lt hj)) hj (hds j t hj)]
        · rw [inv.old t (fun j _ e => h ⟨j, e⟩), puts_ne _ _ (fun i _ e => h ⟨i, e⟩)]
      have hdf : a'.defers = (puts ops vals (List.range ops.length) a).defers := by rw [puts_defers]; exact inv.defers
      cases a'
      cases hp : puts ops vals (List.range ops.length) a
      rw [hp] at ht hdf
      simp only at ht hdf
      rw [ht, hdf]
    rw [ha]
    exact hfin vals x _ hall inv.inv (says_iff.2 fun i hi => inv.fact i (hall i (List.mem_range.1 hi)))
  have hmin : ∀ (listed : Array Bool), listed.size = ops.length → ∀ i, i < ops.length → listed.getD i false = false → Region.ready .any ops.toArray listed ≠ [] := by
    intro listed hsz i
    induction i using Nat.strongRecOn with
    | _ i ih =>
      intro hi hun hr
      have ho : ops[i]? = some ops[i] := List.getElem?_eq_getElem hi
      by_cases h : ∀ e ∈ ops[i].after, Region.binds .any e = true → listed.getD e.on false = true
      · have : i ∈ Region.ready .any ops.toArray listed := mem_ready.2 ⟨getD_in (by omega) hun, ops[i], by simp [ho], h⟩
        rw [hr] at this; cases this
      · simp only [Classical.not_forall] at h
        obtain ⟨e, he, hb, hl⟩ := h
        have hlt := (relOk4_spec hB i _ ho).2.2.1 e he hb
        exact ih e.on hlt (by omega) (by simpa using hl) hr
  intro fuel
  induction fuel with
  | zero =>
    intro listed a' x vals hc inv
    have hall := cnt_zero (f := fun i => listed.getD i false) (Nat.le_zero.1 hc)
    refine ⟨?_, hdone _ _ _ _ hall inv⟩
    cases hr : Region.ready .any ops.toArray listed with
    | nil => rfl
    | cons k rs =>
      exfalso
      have hk : k ∈ Region.ready .any ops.toArray listed := by rw [hr]; simp
      obtain ⟨h0, o, ho, _⟩ := mem_ready.1 hk
      have hlt : k < ops.length := by
        have := (Array.getElem?_eq_some_iff.1 ho).1; simpa using this
      have h1 : listed.getD k false = true := hall k hlt
      rw [getD_both h0] at h1; cases h1
  | succ fuel ih =>
    intro listed a' x vals hc inv
    refine ⟨fun hr => ?_, fun k hk => ?_⟩
    · refine hdone _ _ _ _ (fun i hi => ?_) inv
      cases h : listed.getD i false with
      | true => rfl
      | false => exact absurd hr (hmin listed inv.size i hi h)
    · obtain ⟨h0, o, hoA, hwait⟩ := mem_ready.1 hk
      have ho : ops[k]? = some o := by simpa using hoA
      have hkl : k < ops.length := (List.getElem?_eq_some_iff.1 ho).1
      have h0f : listed.getD k false = false := getD_both h0
      have hsz : k < listed.size := by rw [inv.size]; exact hkl
      obtain ⟨hg, hsel, _, hdsz, hD, hlook, hdist⟩ := relOk4_spec hB k o ho
      have hw : ∀ m, waits ops k m = true → listed.getD m false = true := fun m hm => by
        obtain ⟨o', ho', e, he, hb, rfl⟩ := waits_spec.1 hm
        have : o' = o := Option.some.inj (ho'.symm.trans ho)
        subst this
        exact hwait e he hb
      have hDl : ∀ j ∈ D.getD k [], listed.getD j false = true := fun j hj => hw j (hD j hj).1
      have hdk : dstOf ops k = o.dst := by simp [dstOf, ho]
      -- the operation runs as it does in the small state
      have hexec : execOp a'.eval o = execOp (puts ops vals (D.getD k []) a).eval o := execOp_congr o hsel fun y hy => by
        cases y with
        | tmp t =>
          have ht : a'.tmps[t]? = (puts ops vals (D.getD k []) a).tmps[t]? := by
            by_cases h : ∃ j, dstOf ops j = some t
            · obtain ⟨j, hj⟩ := h
              rcases hlook j (dst_lt hj) (looks_spec ho hj hy) with hm | hm
              · rw [inv.new j t (hDl j hm) hj, puts_get (fun i j => hdd i j t) _ _ j hm hj (hds j t hj)]
              · have hjf : listed.getD j false = true → False := fun hjl => by
                  have := reach_listed inv.closed _ j k (fun m hm => inv.closed m j hm hjl) hm
                  rw [this] at h0f; cases h0f
                rw [inv.old t (fun i hi e => by have := hdd i j t e hj; subst this; exact hjf hi), puts_ne _ _ (fun i hi e => by have := hdd i j t e hj; subst this; exact hjf (hDl i hi))]
            · rw [inv.old t (fun j _ e => h ⟨j, e⟩), puts_ne _ _ (fun i _ e => h ⟨i, e⟩)]
          show a'.tmps.getD t undef = (puts ops vals (D.getD k []) a).tmps.getD t undef
          rw [Array.getD_eq_getD_getElem?, Array.getD_eq_getD_getElem?, ht]
        | _ => rfl
      have hcs := (cnt_set (f := fun i => listed.getD i false) (g := fun i => (listed.setIfInBounds k true).getD i false) h0f (getD_set (listed := listed) hsz) (n := ops.length)).2 hkl
      have hob := hs k o ho vals x (fun i => listed.getD i false) h0f (fun r h => reach_listed inv.closed _ k r (fun m hm => hw m hm) h) (fun r hr => by
        cases h : listed.getD r false with
        | false => rfl
        | true => exact absurd ((reach_listed inv.closed _ r k (fun m hm => inv.closed m r hm h) hr).symm.trans h0f) (by simp)) inv.inv (says_iff.2 fun j hj => inv.fact j (hDl j hj))
      have hbs : (puts ops vals (D.getD k []) a).tmps.size = a.tmps.size := puts_size _ _
      have hbd : (puts ops vals (D.getD k []) a).defers = a.defers := puts_defers _ _
      have next : ∀ v x', (L.getD k (fun _ _ => True) (upd vals k (got o ((puts ops vals (D.getD k []) a).put o.dst v))) x' ∧ R k x x' ∧ I (did (fun i => listed.getD i false) k) x') →
          wpAny P .any ops.toArray Q fuel (listed.setIfInBounds k true) (a'.put o.dst v) x' := by
        intro v x' hq
        obtain ⟨hV, hR, hI'⟩ := hq
        have hgs := getD_set (listed := listed) hsz
        have hold : ∀ j, (listed.setIfInBounds k true).getD j false = true → j ≠ k → listed.getD j false = true := fun j hj hne => by
          rw [hgs, if_neg hne] at hj; exact hj
        refine ih _ _ x' (fun j => if j = k then got o ((puts ops vals (D.getD k []) a).put o.dst v) else vals j) ?_ ⟨by simp [inv.size], fun j m hm hl => ?_, by rw [put_size]; exact inv.tsize, by rw [put_defers]; exact inv.defers, fun t ht => ?_, fun j t hj hdj => ?_, by rw [show (fun i => (listed.setIfInBounds k true).getD i false) = fun j => if j = k then true else listed.getD j false from funext hgs]; exact hI', fun j hj => ?_⟩
        · omega
        · rw [hgs]
          by_cases e : j = k
          · rw [if_pos e]
          · rw [if_neg e]
            by_cases e' : m = k
            · subst e'; exact hw j hm
            · exact inv.closed j m hm (hold m hl e')
        · rw [put_get_ne _ _ _ _ (by
            have := ht k (by rw [hgs, if_pos rfl])
            rwa [hdk] at this)]
          refine inv.old t fun j hj => ht j ?_
          rw [hgs]; split <;> first | rfl | exact hj
        · by_cases e : j = k
          · subst e
            rw [hdk] at hdj
            have htl := hdsz t hdj
            rw [if_pos rfl, hdj, put_get _ _ _ (by rw [inv.tsize]; exact htl)]
            simp only [got, hdj]
            rw [Array.getD_eq_getD_getElem?, put_get _ _ _ (by rw [hbs]; exact htl)]
            rfl
          · rw [if_neg e, put_get_ne _ _ _ _ (fun e' => e (hdist j t (dst_lt hdj) hdj e'))]
            exact inv.new j t (hold j hj e) hdj
        · by_cases e : j = k
          · subst e; exact hV
          · have hjl := hold j hj e
            have hrj : reach ops ops.length j k = false := by
              cases h : reach ops ops.length j k with
              | false => rfl
              | true => rw [reach_listed inv.closed _ j k (fun m hm => inv.closed m j hm hjl) h] at h0f; cases h0f
            have hfj := hL j k hkl e hrj vals x x' (inv.fact j hjl) hR
            refine hLo.get j vals _ x' (by simp [upd, e]) (fun m hm => ?_) hfj
            have hmk : m ≠ k := fun e' => by
              have hjlt := listed_lt inv.size hjl
              have hw' := ((relOk4_spec hB j ops[j] (List.getElem?_eq_getElem hjlt)).2.2.2.2.1 m (by simpa using hm)).1
              rw [e'] at hw'
              rw [inv.closed k j hw' hjl] at h0f; cases h0f
            simp [upd, hmk]
      unfold wpOp
      rw [hoA]
      dsimp only
      have hgv : ∀ g b, o.guard = some (g, b) → ∃ d, dstOf ops g = some d ∧ a'.tmps[d]? = some (vals g) := fun g b hgb => by
        obtain ⟨h1, d, h2⟩ := hg g b hgb
        exact ⟨d, h2, inv.new g d (hDl g h1) h2⟩
      have hyield : ∀ g b, o.guard = some (g, b) → (Region.wanted o (yielded ops.toArray a'.tmps) = true ↔ vals g = .bool b) := fun g b hgb => by
        obtain ⟨d, h1, h2⟩ := hgv g b hgb
        have hy : yielded ops.toArray a'.tmps g = match some (vals g) with | some (.bool b) => some b | _ => none := by
          unfold yielded
          rw [show (ops.toArray[g]?).bind (·.dst) = some d from by simpa [dstOf] using h1]
          simp only [Option.bind_some, h2]
          cases vals g <;> rfl
        unfold Region.wanted
        rw [hgb]
        simp only [hy]
        constructor
        · intro h
          split at h
          · rename_i b' he
            injection he with he
            rw [he]
            have : b' = b := by simpa using h
            rw [this]
          · cases h
        · intro h
          rw [h]; simp
      have hskip : Region.wanted o (yielded ops.toArray a'.tmps) = false → wpAny P .any ops.toArray Q fuel (listed.setIfInBounds k true) (a'.put o.dst undef) x := fun hw0 => by
        cases hgd : o.guard with
        | none => unfold Region.wanted at hw0; rw [hgd] at hw0; cases hw0
        | some p =>
          obtain ⟨g, b⟩ := p
          have hne : vals g ≠ .bool b := fun e => by rw [(hyield g b hgd).2 e] at hw0; cases hw0
          obtain ⟨h1, h2⟩ := hob.2 g b hgd hne
          refine next undef x ⟨?_, hRr k x, h2⟩
          have : got o ((puts ops vals (D.getD k []) a).put o.dst undef) = undef := by
            unfold got
            cases hd : o.dst with
            | none => rfl
            | some d =>
              simp only
              rw [Array.getD_eq_getD_getElem?, put_get _ _ _ (by rw [hbs]; exact hdsz d hd)]
              rfl
          rw [this]; exact h1
      by_cases hwant : Region.wanted o (yielded ops.toArray a'.tmps) = true
      rotate_left
      · rw [if_neg hwant]
        exact hskip (by simpa using hwant)
      rw [if_pos hwant]
      have hob := hob.1 fun g b hgd => (hyield g b hgd).1 hwant
      refine .inl ?_
      unfold Oper.wp at hob ⊢
      rw [hexec]
      generalize (execOp (puts ops vals (D.getD k []) a).eval o).run P x = r at hob ⊢
      cases r with
      | ok n w' =>
        cases n <;> simp only [Oper.upon] at hob ⊢
        case value v => exact next v w' hob.2
        case skip => exact next _ w' hob.2
        case defer d =>
          have := hob.1
          rw [put_defers] at this
          exact absurd (congrArg List.length this) (by simp)
        case enter f args =>
          refine Calls.mono hob fun e w'' he => ?_
          cases e with
          | returned u => exact next u w'' he.2
          | panicked c => exact he.elim
          | outgrown => obtain ⟨_, _, h⟩ := he; exact h.elim
        case row row args => exact Rows.mono hob fun u w'' he => next u w'' he.2
      | halt e w' =>
        cases e <;> simp only [Oper.upon] at hob ⊢ <;> exact hob.elim


def shareR4 (P : Program) (ops : List Oper) (R : World → World → Prop) (I : (Nat → Bool) → World → Prop) (L : List Say) (a : Act) (k : Nat) (o : Oper) (d : List (Nat × Tmp)) : Prop :=
  ∀ (vals : Nat → Value) (x : World) (f : Nat → Bool), f k = false → (∀ j, reach ops ops.length k j = true → f j = true) → (∀ j, reach ops ops.length j k = true → f j = false) → I f x → saysD L vals x d →
    owes4 P R I L vals (putsD vals d a) x f k o o.guard
def sharesR4 (P : Program) (ops : List Oper) (R : Nat → World → World → Prop) (I : (Nat → Bool) → World → Prop) (L : List Say) (a : Act) : Nat → List Oper → List (List (Nat × Tmp)) → Prop
  | _, [], _ => True
  | _, _ :: _, [] => False
  | k, o :: l, d :: ds => shareR4 P ops (R k) I L a k o d ∧ sharesR4 P ops R I L a (k + 1) l ds
theorem sharesR4_get {ops : List Oper} {R : Nat → World → World → Prop} {I : (Nat → Bool) → World → Prop} {L : List Say} {a : Act} : ∀ {l : List Oper} {ds : List (List (Nat × Tmp))} {k : Nat}, sharesR4 P ops R I L a k l ds →
    ∀ i o, l[i]? = some o → shareR4 P ops (R (k + i)) I L a (k + i) o (ds.getD i [])
  | [], _, _, _, i, o, h => by simp at h
  | _ :: _, [], _, h, _, _, _ => h.elim
  | o' :: l, d :: ds, k, h, 0, o, ho => by
    simp only [List.getElem?_cons_zero, Option.some.injEq] at ho
    subst ho; exact h.1
  | o' :: l, d :: ds, k, h, i + 1, o, ho => by
    simp only [List.getElem?_cons_succ] at ho
    have := sharesR4_get h.2 i o ho
    rw [show k + (i + 1) = k + 1 + i by omega]
    simpa using this
/-- A drawn region, each operation once. D: of each operation the ones that it looks at, with their slots; L: what is said of each one's value; R: what every operation does to memory; I: what is so all along, by which have been done. -/
theorem wp_region_rel4 {id : Nat} {ops : List Oper} {a : Act} {w : World} (D : List (List (Nat × Tmp))) (R0 : World → World → Prop) (Rs : List (Nat × (World → World → Prop))) (I : (Nat → Bool) → World → Prop) (L : List Say) (all : List (Nat × Tmp)) (hm : P.follows .mixedOrders = true)
    (hB : relOk4 ops (idxs D) a.tmps.size = true) (hD : D.all (fitsD ops) = true)
    (hall : (List.range ops.length).filterMap (fun i => (dstOf ops i).map fun t => (i, t)) = all)
    (hRr : ∀ x, R0 x x) (hRs : Refls Rs) (hL : Stabs3 ops R0 Rs 0 L) (hLo : Locals (idxs D) 0 L) (h0 : I (fun _ => false) (w.drewN 1))
    (hs : sharesR4 P ops (relOf R0 Rs) I L a 0 ops D)
    (hfin : ∀ vals x f, (∀ i, i < ops.length → f i = true) → I f x → says L vals x (List.range ops.length) → Q .normal (putsD vals all a) x) : (Code.region id ops.toArray true).wp P Q a w := by
  refine wp_region_any hm ?_
  have z0 : ∀ j, (Array.replicate ops.toArray.size false).getD j false = false := fun j => getD_replicate_false _ _
  have hle : ∀ (f : Nat → Bool) (n : Nat), cnt f n ≤ n := fun f n => by
    induction n with
    | zero => exact Nat.le_refl _
    | succ n ih => simp only [cnt]; split <;> omega
  have hrel := rel4_any (P := P) (Q := Q) (ops := ops) (a := a) (D := idxs D) (R := relOf R0 Rs) (I := I) (L := L) (relOf_refl hRr hRs) (fun j k hk hjk hr vs x x' => Stabs3.get hk hL j (by rw [Nat.zero_add]; exact hjk) (by rw [Nat.zero_add]; exact hr) vs x x') hLo hB
  refine hrel (fun k o hk => ?_) (fun vals x f hn hI hf => ?_) _ _ _ _ (fun _ => undef) (Nat.le_trans (hle _ _) (by simp)) ?_
  rotate_left
  · rw [puts_all, hall]; exact hfin vals x f hn hI hf
  · exact ⟨by simp, fun j k _ hl => (by rw [z0] at hl; cases hl), rfl, rfl, fun _ _ => rfl, fun j t hj => (by rw [z0] at hj; cases hj), by rw [show (fun i => (Array.replicate ops.toArray.size false).getD i false) = fun _ => false from funext z0]; exact h0, fun j hj => (by rw [z0] at hj; cases hj)⟩
  · have hsh := sharesR4_get hs k o hk
    rw [Nat.zero_add] at hsh
    have hfit : fitsD ops (D.getD k []) = true := by
      rcases Nat.lt_or_ge k D.length with h | h
      · rw [show D.getD k [] = D[k] by simp [h]]; exact List.all_eq_true.1 hD _ (List.getElem_mem h)
      · rw [show D.getD k [] = [] by simp [h]]; rfl
    have hDk : (idxs D).getD k [] = (D.getD k []).map (·.1) := by
      unfold idxs
      rcases Nat.lt_or_ge k D.length with h | h
      · simp [h]
      · simp [h]
    intro vals x f hn hl hl2 hI hf
    rw [hDk, says_saysD] at hf
    have h := hsh vals x f hn hl hl2 hI hf
    rw [hDk, puts_putsD hfit]
    have hun : wpList P #[] (relQ4 (relOf R0 Rs k) I L vals f k o (putsD vals (D.getD k []) a) x) [bare o] (putsD vals (D.getD k []) a) x → o.wp P (putsD vals (D.getD k []) a) x (relQ4 (relOf R0 Rs k) I L vals f k o (putsD vals (D.getD k []) a) x .normal) (relQ4 (relOf R0 Rs k) I L vals f k o (putsD vals (D.getD k []) a) x) := fun h => by
      rcases wpList_bare h with h | ⟨_, _, h⟩
      · exact h
      · exact h.elim
    generalize o.guard = gd at h ⊢
    cases gd with
    | none => exact ⟨fun _ => hun h, fun g b e => by cases e⟩
    | some p =>
      obtain ⟨g, b⟩ := p
      exact ⟨fun e => hun (h.1 (e g b rfl)), fun g' b' e hne => by injection e with e; injection e with e1 e2; subst e1; subst e2; exact h.2 hne⟩
end Go.Proofs.YtiahmfpfimmbgaaGreatDoor
