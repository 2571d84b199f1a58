/- A term appended to the open layer: the states on the way. Contracts of the reference's reader of codes: l12Open, pick. Draws: what a reader's user leaves; a number of a list. Own rows of truth values; append. The reference's environments: EnvOk, l1Bit, BlastIns, l2Bool, BlastEnv. Declarations and inputs as arguments. Drawn regions that draw from a reader; literals. Rows of declarations of the call's own; readers of strings; the reference's l1Max and l1Min. What is drawn does not lie in the reader's block. -/
import Derived.Test.YtiahmfpfimmbgaaGreatDoorJFnCtxBent0
import Derived.Test.YtiahmfpfimmbgaaGreatDoorJFnCtxBent1
import Derived.Test.YtiahmfpfimmbgaaGreatDoorJFnCtxBent2
import Derived.Test.YtiahmfpfimmbgaaGreatDoorJFnCtxBent3
import Derived.Test.YtiahmfpfimmbgaaGreatDoorJFnCtxBent5
import Derived.Test.YtiahmfpfimmbgaaGreatDoorJFnCtxBent7
import Derived.Test.YtiahmfpfimmbgaaGreatDoorJFnCtxBent8
import Derived.Test.YtiahmfpfimmbgaaGreatDoorJFnCtxBent11
import Derived.Test.YtiahmfpfimmbgaaGreatDoorJFnCtxBent12
/-! A term appended to the open layer: the states on the way. -/
namespace Go.Proofs.YtiahmfpfimmbgaaGreatDoor
open Go Go.RowKit

/-- Behind the append: the row's block nb, of ts and one more; the outer cell. -/
structure AftB (X : World) (g k lo : Nat) (At : Option Addr) (ct : Nat) (ts : List T) (ev : List Value) (fa fb : Bool) (x : World) (nb c8 : Nat) : Prop where
  ne : nb ≠ g
  blo : lo ≤ nb
  own : nb < X.heap.size → (Value.slice At ts.length ct).ownBlock = some nb
  row : ∃ cs, x.ownsRow lo 48 5 (.slice (some ⟨nb, 0, none⟩) (ts.length + 1) c8) (ts.length + 1) (cs ++ (if fa then ev else zcells)) ∧ cs.length = ts.length * 5 ∧
    ∀ i y, ts[i]? = some y → ∃ vs, Lay.term.R x (fun b => b < x.heap.size ∧ b ≠ nb ∧ b ≠ g) y vs ∧ ∀ j u, vs[j]? = some u → cs[i * 5 + j]? = some u
  cell : x.cell? ⟨g, k * 2 + 1, none⟩ = some (if fb then .slice (some ⟨nb, 0, none⟩) (ts.length + 1) c8 else .slice At ts.length ct)
  others : ∀ o, o ≠ k * 2 + 1 → x.cell? ⟨g, o, none⟩ = X.cell? ⟨g, o, none⟩
  frz : ∀ o, x.frozen? ⟨g, o, none⟩ = false
  gty : ∃ cs9, x.heap[g]? = some (.cells cs9 58 (0, 0))
  size : X.heap.size ≤ x.heap.size
  far : ∀ b, b < X.heap.size → b ≠ g → (Value.slice At ts.length ct).ownBlock ≠ some b → x.heap[b]? = X.heap[b]?
  glt : g < x.heap.size
section
variable {X : World} {g k lo : Nat} {At : Option Addr} {ct : Nat} {ts : List T} {ev : List Value} {fa fb : Bool} {x x' : World} {nb c8 : Nat}
theorem AftB.up (h : AftB X g k lo At ct ts ev fa fb x nb c8) (hb : Below x.heap.size x x') : AftB X g k lo At ct ts ev fa fb x' nb c8 := by
  obtain ⟨cs, h1, h2, h3⟩ := h.row
  obtain ⟨cs9, h9⟩ := h.gty
  refine ⟨h.ne, h.blo, h.own, ⟨cs, own_below h1 hb (Nat.le_refl _), h2, fun i y hy => ?_⟩, (hb.cell (p := ⟨g, _, none⟩) h.glt).trans h.cell, fun o ho => (hb.cell (p := ⟨g, _, none⟩) h.glt).trans (h.others o ho), fun o => (hb.frozen (p := ⟨g, o, none⟩) h.glt).trans (h.frz o), ⟨cs9, (hb.block _ h.glt).trans h9⟩, Nat.le_trans h.size hb.size, fun b h8 h9 h10 => (hb.block b (Nat.lt_of_lt_of_le h8 h.size)).trans (h.far b h8 h9 h10), Nat.lt_of_lt_of_le h.glt hb.size⟩
  obtain ⟨vs, hr, hu⟩ := h3 i y hy
  exact ⟨vs, Lay.term.mono (fun b hb9 => ⟨Nat.lt_of_lt_of_le hb9.1 hb.size, hb9.2⟩) (Lay.term.keep (fun b hb9 => hb.block b hb9.1) hr), hu⟩
/-- The outer cell is stored. -/
theorem AftB.outer (h : AftB X g k lo At ct ts ev fa fb x nb c8) : AftB X g k lo At ct ts ev fa true (x.setCell ⟨g, k * 2 + 1, none⟩ (.slice (some ⟨nb, 0, none⟩) (ts.length + 1) c8)) nb c8 := by
  obtain ⟨cs, h1, h2, h3⟩ := h.row
  obtain ⟨cs9, h9⟩ := h.gty
  have hfar : ∀ b, b ≠ g → (x.setCell ⟨g, k * 2 + 1, none⟩ (.slice (some ⟨nb, 0, none⟩) (ts.length + 1) c8)).heap[b]? = x.heap[b]? := fun b hb => Below.heap_setCell x ⟨g, _, none⟩ _ b hb
  have hc := h.cell
  refine ⟨h.ne, h.blo, h.own, ⟨cs, own_of_heap h1 fun b hb => hfar b (by have hb : some nb = some b := hb; injection hb with hb; rw [← hb]; exact h.ne), h2, fun i y hy => ?_⟩, World.cell?_setCell_same _ _ _ hc, fun o ho => (World.cell?_setCell_other _ _ _ _ (fun e => by injection e with _ e _; omega)).trans (h.others o ho), fun o => (World.frozen?_setCell _ _ _ _).trans (h.frz o), ⟨_, heap_set_same _ g _ _ _ _ h9⟩, by rw [size_setCell]; exact h.size, fun b h8 h9 h10 => (hfar b h9).trans (h.far b h8 h9 h10), by rw [size_setCell]; exact h.glt⟩
  obtain ⟨vs, hr, hu⟩ := h3 i y hy
  exact ⟨vs, Lay.term.mono (fun b hb9 => by rw [size_setCell]; exact hb9) (Lay.term.keep (fun b hb9 => hfar b hb9.2.2) hr), hu⟩
theorem AftB.cells (h : AftB X g k lo At ct ts ev false fb x nb c8) : ∀ j, j < 5 → ∃ u, x.cell? ⟨nb, ts.length * 5 + j, none⟩ = some u := fun j hj => by
  obtain ⟨cs, h1, h2, _⟩ := h.row
  have hl : (cs ++ (if false = true then ev else zcells)).length = ts.length * 5 + 5 := by
    rw [List.length_append, h2]; rfl
  have := h1.cellAt (ts.length * 5 + j) (by show _ < (ts.length + 1) * 5; omega)
  rw [List.getElem?_eq_getElem (by omega)] at this
  exact ⟨_, this⟩
theorem AftB.nlt (h : AftB X g k lo At ct ts ev fa fb x nb c8) : nb < x.heap.size := by
  obtain ⟨cs, h1, _⟩ := h.row
  exact (h1.lt nb rfl).2
theorem AftB.nfrz (h : AftB X g k lo At ct ts ev fa fb x nb c8) : ∀ o, x.frozen? ⟨nb, o, none⟩ = false := fun o => by
  obtain ⟨cs, h1, _⟩ := h.row
  exact h1.frozenAt o
theorem AftB.cap (h : AftB X g k lo At ct ts ev fa fb x nb c8) : ts.length + 1 ≤ c8 := by
  obtain ⟨cs, h1, _⟩ := h.row
  exact own_cap9 h1
/-- The term's cells are stored. -/
theorem AftB.elem {v0 v1 v2 v3 v4 : Value} (h : AftB X g k lo At ct ts ev false fb x nb c8) :
    AftB X g k lo At ct ts [v0, v1, v2, v3, v4] true fb (((((x.setCell ⟨nb, ts.length * 5, none⟩ v0).setCell ⟨nb, ts.length * 5 + 1, none⟩ v1).setCell ⟨nb, ts.length * 5 + 2, none⟩ v2).setCell ⟨nb, ts.length * 5 + 3, none⟩ v3).setCell ⟨nb, ts.length * 5 + 4, none⟩ v4) nb c8 := by
  obtain ⟨cs, h1, h2, h3⟩ := h.row
  obtain ⟨cs9, h9⟩ := h.gty
  have hfar : ∀ b, b ≠ nb → (((((x.setCell ⟨nb, ts.length * 5, none⟩ v0).setCell ⟨nb, ts.length * 5 + 1, none⟩ v1).setCell ⟨nb, ts.length * 5 + 2, none⟩ v2).setCell ⟨nb, ts.length * 5 + 3, none⟩ v3).setCell ⟨nb, ts.length * 5 + 4, none⟩ v4).heap[b]? = x.heap[b]? := fun b hb =>
    (Below.heap_setCell _ ⟨nb, _, none⟩ _ b hb).trans ((Below.heap_setCell _ ⟨nb, _, none⟩ _ b hb).trans ((Below.heap_setCell _ ⟨nb, _, none⟩ _ b hb).trans ((Below.heap_setCell _ ⟨nb, _, none⟩ _ b hb).trans (Below.heap_setCell _ ⟨nb, _, none⟩ _ b hb))))
  have hst1 := (h1.stored (ts.length * 5) v0).1
  have hst2 := (hst1.stored (ts.length * 5 + 1) v1).1
  have hst3 := (hst2.stored (ts.length * 5 + 2) v2).1
  have hst4 := (hst3.stored (ts.length * 5 + 3) v3).1
  have hst5 := (hst4.stored (ts.length * 5 + 4) v4).1
  have hcs : ((((((cs ++ (if false = true then ev else zcells)).set (ts.length * 5) v0).set (ts.length * 5 + 1) v1).set (ts.length * 5 + 2) v2).set (ts.length * 5 + 3) v3).set (ts.length * 5 + 4) v4) = cs ++ [v0, v1, v2, v3, v4] := by
    rw [List.set_append_right _ _ (by omega), List.set_append_right _ _ (by omega), List.set_append_right _ _ (by omega), List.set_append_right _ _ (by omega), List.set_append_right _ _ (by omega), h2,
      show ts.length * 5 - ts.length * 5 = 0 by omega, show ts.length * 5 + 1 - ts.length * 5 = 1 by omega, show ts.length * 5 + 2 - ts.length * 5 = 2 by omega, show ts.length * 5 + 3 - ts.length * 5 = 3 by omega, show ts.length * 5 + 4 - ts.length * 5 = 4 by omega]
    rfl
  rw [hcs] at hst5
  have hgx := hfar g h.ne.symm
  refine ⟨h.ne, h.blo, h.own, ⟨cs, hst5, h2, fun i y hy => ?_⟩, (World.cell?_of_block (a := ⟨g, _, none⟩) hgx).trans h.cell, fun o ho => (World.cell?_of_block (a := ⟨g, _, none⟩) hgx).trans (h.others o ho), fun o => (World.frozen?_of_block (a := ⟨g, o, none⟩) hgx).trans (h.frz o), ⟨cs9, hgx.trans h9⟩, by simp only [size_setCell]; exact h.size, fun b h8 h9 h10 => (hfar b (fun e => by rw [e] at h8 h10; exact h10 (h.own h8))).trans (h.far b h8 h9 h10), by simp only [size_setCell]; exact h.glt⟩
  obtain ⟨vs, hr, hu⟩ := h3 i y hy
  exact ⟨vs, Lay.term.mono (fun b hb9 => by simp only [size_setCell]; exact hb9) (Lay.term.keep (fun b hb9 => hfar b hb9.2.1) hr), hu⟩
end
/-- append of a zero term onto the terms of the open layer. -/
theorem run_append_zeroB {lo : Nat} {X x : World} {g k b : Nat} {c : List Ly} {l : Ly} {At : Option Addr} {ct d : Nat} {ty : TypeId} {ev : List Value} (hB : BentS lo X g c k l At ct) (hlo : lo ≤ X.heap.size) (hn : l.ts.length ≤ 1048576)
    (hb : Below X.heap.size X x) (hzb : x.heap[b]? = some (.cells #[.int .i64 0, .int .i64 0, .int .i64 0, .string ⟨#[]⟩, .slice none 0 0] 48 (0, 0))) :
    ∃ nb c' w', (Builtin.append_ #[24, 24] ty #[.slice At l.ts.length ct, .slice (some ⟨b, 0, none⟩) 1 d]).run Tryz.prog x = .ok (.slice (some ⟨nb, 0, none⟩) (l.ts.length + 1) c') w' ∧ AftB X g k lo At ct l.ts ev false false w' nb c' ∧ (∀ b9, b9 < x.heap.size → (Value.slice At l.ts.length ct).ownBlock ≠ some b9 → b9 ≠ nb) ∧ x.grownBy w' (Value.slice At l.ts.length ct).ownBlock := by
  obtain ⟨i0, hi0, hz0, hz1, hz2⟩ := info_parts term_info
  obtain ⟨cs, h1, h2⟩ := hB.row
  have hg := hB.glt
  have hlt : ∀ b9, (Value.slice At l.ts.length ct).ownBlock = some b9 → lo ≤ b9 ∧ b9 < X.heap.size := h1.lt
  have h1x : x.ownsRow lo 48 5 (.slice At l.ts.length ct) l.ts.length cs := own_below h1 hb (Nat.le_refl _)
  have hsrc : Src x 5 (some ⟨b, 0, none⟩) 1 [.int .i64 0, .int .i64 0, .int .i64 0, .string ⟨#[]⟩, .slice none 0 0] := by
    have := src_block (m := 1) (size := 5) hzb rfl
    simpa using this
  have hsx := hb.size
  obtain ⟨A', c', w', hrun, ho', hg', hbk⟩ := run_append_src_at (P := Tryz.prog) x lo 24 ty 48 i0 _ 5 64 Tryz.underlying24 hi0 hz0 hz1 hz2 rfl (by omega) _ l.ts.length cs h1x (some ⟨b, 0, none⟩) 1 d _ hsrc (by intro u hu; simp at hu; rcases hu with rfl | rfl | rfl | rfl | rfl <;> rfl) (l.ts.length + 1) rfl (by unfold maxLen; omega) (by omega) (by omega) (fun e => by cases e)
  have hA : ∃ nb, A' = some ⟨nb, 0, none⟩ := by
    rcases ho'.2 with ⟨_, e2⟩ | ⟨g9, cap, cur, e1, _⟩
    · omega
    · injection e1 with e1; exact ⟨g9, e1⟩
  obtain ⟨nb, rfl⟩ := hA
  have hgn := hB.gne
  have hgx : w'.heap[g]? = X.heap[g]? := (hg'.block g (by omega) (fun e => hgn e.symm)).trans (hb.block g hg)
  obtain ⟨cs9, h9⟩ := hB.gty
  have hng : nb ≠ g := fun e => by
    rcases ho'.2 with ⟨e1, _⟩ | ⟨g9, cap, cur, e1, _, h8, _⟩
    · cases e1
    · injection e1 with e1; injection e1 with e1; injection e1 with e1
      rw [← e1, e, hgx, h9] at h8
      injection h8 with h8
      injection h8 with _ h8 _
      exact neLT h8
  have hnb : ∀ b9, b9 < x.heap.size → (Value.slice At l.ts.length ct).ownBlock ≠ some b9 → b9 ≠ nb := fun b9 h8 h9 e => by
    rcases hbk with e9 | ⟨g2, e9, h7⟩
    · exact h9 (by rw [← e9, e]; rfl)
    · have e9 : some nb = some g2 := e9
      injection e9 with e9
      omega
  refine ⟨nb, c', w', hrun, ⟨hng, (ho'.lt nb rfl).1, fun h9 => ?_, ⟨cs, ho', h1.1, fun i y hy => ?_⟩, (World.cell?_of_block (a := ⟨g, _, none⟩) hgx).trans hB.ts, fun o _ => World.cell?_of_block (a := ⟨g, _, none⟩) hgx, fun o => (World.frozen?_of_block (a := ⟨g, o, none⟩) hgx).trans (hB.frz o), ⟨cs9, hgx.trans h9⟩, Nat.le_trans hsx hg'.size, fun b9 h8 _ h10 => (hg'.block b9 (by omega) (fun e => h10 e.symm)).trans (hb.block b9 h8), by have := hg'.size; omega⟩, hnb, hg'⟩
  · rcases hbk with e9 | ⟨g2, e9, h7⟩
    · rw [← e9]; rfl
    · have e9 : nb = g2 := Option.some.inj e9
      exact absurd (Nat.lt_of_lt_of_le h9 (Nat.le_trans hsx (by rw [e9]; exact h7))) (Nat.lt_irrefl _)
  · obtain ⟨vs, hr, hu⟩ := h2 i y hy
    refine ⟨vs, Lay.term.mono (fun b9 h9 => ⟨by have := hg'.size; have := h9.1; omega, hnb b9 (by have := h9.1; omega) h9.2.1, h9.2.2⟩) (Lay.term.keep (fun b9 h9 => (hg'.block b9 (by have := h9.1; omega) (fun e => h9.2.1 e.symm)).trans (hb.block b9 h9.1)) hr), hu⟩
theorem wpList_append_zeroB {Q' : Exit → Act → World → Prop} {ops : Array Oper} {rest : List Oper} {o : Oper} {a : Act} {lo : Nat} {X x : World} {g k b : Nat} {c : List Ly} {l : Ly} {At : Option Addr} {ct d : Nat} (ev : List Value) (hgd : o.guard = none) (s y : Operand)
    (ho : o.op = .call { callee := .builtin .append, args := #[s, y], argTypes := #[24, 24] }) (hs : a.eval s = .slice At l.ts.length ct) (hyv : a.eval y = .slice (some ⟨b, 0, none⟩) 1 d)
    (hB : BentS lo X g c k l At ct) (hlo : lo ≤ X.heap.size) (hn : l.ts.length ≤ 1048576) (hb : Below X.heap.size X x) (hzb : x.heap[b]? = some (.cells #[.int .i64 0, .int .i64 0, .int .i64 0, .string ⟨#[]⟩, .slice none 0 0] 48 (0, 0)))
    (h : ∀ nb c' w', AftB X g k lo At ct l.ts ev false false w' nb c' → (∀ b9, b9 < x.heap.size → (Value.slice At l.ts.length ct).ownBlock ≠ some b9 → b9 ≠ nb) → x.grownBy w' (Value.slice At l.ts.length ct).ownBlock → wpList Tryz.prog ops Q' rest (a.put o.dst (.slice (some ⟨nb, 0, none⟩) (l.ts.length + 1) c')) w') : wpList Tryz.prog ops Q' (o :: rest) a x := by
  obtain ⟨nb, c', w', hrun, h1, h2, h3⟩ := run_append_zeroB (d := d) (ty := o.type) (ev := ev) hB hlo hn hb hzb
  refine wpList_plain hgd fun _ hK => ?_
  unfold Oper.wp execOp
  simp only [ho, resolve, invoke, builtin, Sem.run_bind, Sem.run_pure, Result.andThen_ok, List.map_toArray, List.map_cons, List.map_nil, hs, hyv, hrun]
  exact hK _ _ (h nb c' w' h1 h2 h3)
/-- The layer with one term more, still open. -/
theorem AftB.bent {lo : Nat} {X x : World} {g k : Nat} {c : List Ly} {l : Ly} {At : Option Addr} {ct nb c8 : Nat} {t : T} {A9 : Option Addr} {c9 : Nat} (hB : BentS lo X g c k l At ct) (h : AftB X g k lo At ct l.ts (tcells t A9 c9) true true x nb c8) (hc9 : t.kids.length ≤ c9) (hk : Lay.term.Sl x (fun b => b < x.heap.size ∧ b ≠ nb ∧ b ≠ g) A9 t.kids) :
    BentS lo x g (c.set k ⟨l.ds, l.ts ++ [t]⟩) k ⟨l.ds, l.ts ++ [t]⟩ (some ⟨nb, 0, none⟩) c8 := by
  have hlen : (l.ts ++ [t]).length = l.ts.length + 1 := by simp
  have hkl : k < c.length := (List.getElem?_eq_some_iff.1 hB.at_k).1
  obtain ⟨cs, h1, h2, h3⟩ := h.row
  have hfb : ∀ b, FarB X (.slice At l.ts.length ct) g b → FarB x (.slice (some ⟨nb, 0, none⟩) (l.ts ++ [t]).length c8) g b := fun b hb => ⟨Nat.lt_of_lt_of_le hb.1 h.size, fun e => by
    have e : some nb = some b := e
    injection e with e
    exact hb.2.1 (by rw [← e]; exact h.own (by rw [e]; exact hb.1)), hb.2.2⟩
  have hkeep : ∀ b, FarB X (.slice At l.ts.length ct) g b → x.heap[b]? = X.heap[b]? := fun b hb => h.far b hb.1 hb.2.2 hb.2.1
  have hfn : ∀ b, (b < x.heap.size ∧ b ≠ nb ∧ b ≠ g) → FarB x (.slice (some ⟨nb, 0, none⟩) (l.ts ++ [t]).length c8) g b := fun b hb => ⟨hb.1, fun e => by
    have e : some nb = some b := e
    injection e with e
    exact hb.2.1 e.symm, hb.2.2⟩
  obtain ⟨Ad, cd, d1, d2, d3⟩ := hB.ds
  refine ⟨by rw [List.getElem?_set]; simp [hkl], hB.glo, h.glt, fun e => ?_, h.frz, h.gty, ⟨Ad, cd, (h.others _ (by omega)).trans d1, d2, (d3.keep hkeep).mono hfb⟩, by show x.cell? _ = some (.slice _ (l.ts ++ [t]).length c8); rw [hlen]; exact h.cell, ⟨cs ++ tcells t A9 c9, by show x.ownsRow lo _ 5 (.slice _ (l.ts ++ [t]).length c8) (l.ts ++ [t]).length _; rw [hlen]; exact h1, fun i y hy => ?_⟩, fun i l9 hi hl9 => ?_⟩
  · have e : some nb = some g := e
    injection e with e
    exact h.ne e
  · have hy : (l.ts ++ [t])[i]? = some y := hy
    by_cases hi : i < l.ts.length
    · rw [List.getElem?_append_left hi] at hy
      obtain ⟨vs, hr, hu⟩ := h3 i y hy
      refine ⟨vs, Lay.term.mono hfn hr, fun j u hj => ?_⟩
      have h9 := hu j u hj
      rw [List.getElem?_append_left (List.getElem?_eq_some_iff.1 h9).1]
      exact h9
    · have hil : i = l.ts.length := by have := (List.getElem?_eq_some_iff.1 hy).1; simp at this; omega
      subst hil
      rw [List.getElem?_append_right (Nat.le_refl _), Nat.sub_self] at hy
      simp at hy
      subst hy
      refine ⟨tcells t A9 c9, TermR.of hc9 (hk.mono hfn), fun j u hj => ?_⟩
      rw [List.getElem?_append_right (by omega), h2, show l.ts.length * 5 + j - l.ts.length * 5 = j by omega]
      exact hj
  · rw [List.getElem?_set_ne (Ne.symm hi)] at hl9
    obtain ⟨u0, u1, hr, c0, c1⟩ := hB.others i l9 hi hl9
    exact ⟨u0, u1, Lay.layer.mono hfb (Lay.layer.keep hkeep hr), (h.others _ (by omega)).trans c0, (h.others _ (by omega)).trans c1⟩
/-- The states of the drawn statement; which operations are done. -/
def AsB (lo : Nat) (X : World) (g k : Nat) (At : Option Addr) (ct : Nat) (ts : List T) (t : T) (vk vt vz va vp : Value) (fk ft fz fa fp fe fo : Bool) (x : World) : Prop :=
  Below lo X x ∧ (fa = false → Below X.heap.size X x) ∧
  (fz = true → fa = false → ∃ b, vz = .slice (some ⟨b, 0, none⟩) 1 1 ∧ x.heap[b]? = some (.cells #[.int .i64 0, .int .i64 0, .int .i64 0, .string ⟨#[]⟩, .slice none 0 0] 48 (0, 0))) ∧
  (fk = true → ∃ A9 c9, vk = .slice A9 t.kids.length c9 ∧ t.kids.length ≤ c9 ∧ (ft = true → vt = .agg (tcells t A9 c9).toArray) ∧ Lay.term.Sl x (fun b => X.heap.size ≤ b ∧ b < x.heap.size ∧ (fa = true → va.ownBlock ≠ some b)) A9 t.kids) ∧
  (fa = true → ∃ nb c8, va = .slice (some ⟨nb, 0, none⟩) (ts.length + 1) c8 ∧ (fp = true → vp = .pointer (some ⟨nb, ts.length * 5, none⟩)) ∧ ∃ ev, (fe = true → vt = .agg ev.toArray) ∧ AftB X g k lo At ct ts ev fe fo x nb c8)
section
variable {lo : Nat} {X x x' : World} {g k : Nat} {At : Option Addr} {ct : Nat} {ts : List T} {t : T} {vk vt vz va vp : Value} {fk ft fz fa fp fe fo : Bool}
theorem AsB.up (h : AsB lo X g k At ct ts t vk vt vz va vp fk ft fz fa fp fe fo x) (hl : lo ≤ X.heap.size) (hb : Below x.heap.size x x') : AsB lo X g k At ct ts t vk vt vz va vp fk ft fz fa fp fe fo x' := by
  obtain ⟨h1, h2, h3, h4, h5⟩ := h
  refine ⟨h1.trans (hb.mono (Nat.le_trans hl h1.size)), fun e => bthen (h2 e) hb, fun e e' => ?_, fun e => ?_, fun e => ?_⟩
  · obtain ⟨b, q1, q2⟩ := h3 e e'
    exact ⟨b, q1, (hb.block b (lt_of_block q2)).trans q2⟩
  · obtain ⟨A9, c9, q1, q2, q3, q4⟩ := h4 e
    exact ⟨A9, c9, q1, q2, q3, (q4.keep fun b h9 => hb.block b h9.2.1).mono fun b h9 => ⟨h9.1, Nat.lt_of_lt_of_le h9.2.1 hb.size, h9.2.2⟩⟩
  · obtain ⟨nb, c8, q1, q2, ev, q3, q4⟩ := h5 e
    exact ⟨nb, c8, q1, q2, ev, q3, q4.up hb⟩
theorem AsB.zero (h : AsB lo X g k At ct ts t vk vt vz va vp fk ft fz fa fp fe fo x) (hl : lo ≤ X.heap.size) : AsB lo X g k At ct ts t vk vt (.slice (some ⟨x.heap.size, 0, none⟩) 1 1) va vp fk ft true fa fp fe fo (x.alloc (.cells #[.int .i64 0, .int .i64 0, .int .i64 0, .string ⟨#[]⟩, .slice none 0 0] 48)) := by
  obtain ⟨h1, h2, _, h4, h5⟩ := h.up hl ((Below.refl _ _).alloc (Nat.le_refl _) (.cells #[.int .i64 0, .int .i64 0, .int .i64 0, .string ⟨#[]⟩, .slice none 0 0] 48))
  exact ⟨h1, h2, fun _ _ => ⟨_, rfl, heap_alloc_new _ _⟩, h4, h5⟩
theorem AsB.term {vt' : Value} (h : AsB lo X g k At ct ts t vk vt vz va vp fk ft fz fa fp fe fo x) (hfe : fe = false) (hv : ∀ A9 c9, vk = .slice A9 t.kids.length c9 → vt' = .agg (tcells t A9 c9).toArray) : AsB lo X g k At ct ts t vk vt' vz va vp fk true fz fa fp fe fo x := by
  obtain ⟨h1, h2, h3, h4, h5⟩ := h
  refine ⟨h1, h2, h3, fun e => ?_, fun e => ?_⟩
  · obtain ⟨A9, c9, q1, q2, _, q4⟩ := h4 e
    exact ⟨A9, c9, q1, q2, fun _ => hv A9 c9 q1, q4⟩
  · obtain ⟨nb, c8, q1, q2, ev, q3, q4⟩ := h5 e
    exact ⟨nb, c8, q1, q2, ev, fun e9 => absurd (hfe.symm.trans e9) (by simp), q4⟩
theorem AsB.kid {cs : Array Value} (h : AsB lo X g k At ct ts t vk vt vz va vp fk ft fz fa fp fe fo x) (hl : lo ≤ X.heap.size) (hft : ft = false) (hk : ∀ i y, t.kids[i]? = some y → y.kids = [] ∧ ∀ j u, (tcells y none 0)[j]? = some u → cs[i * 5 + j]? = some u) : AsB lo X g k At ct ts t (.slice (some ⟨x.heap.size, 0, none⟩) t.kids.length t.kids.length) vt vz va vp true ft fz fa fp fe fo (x.alloc (.cells cs 48)) := by
  have hx : X.heap.size ≤ x.heap.size := h.1.size
  have hal : Below x.heap.size x (x.alloc (.cells cs 48)) := (Below.refl _ _).alloc (Nat.le_refl _) _
  have hnb := h.2.2.2.2
  obtain ⟨h1, h2, h3, _, h5⟩ := h.up hl hal
  refine ⟨h1, h2, h3, fun _ => ⟨_, _, rfl, Nat.le_refl _, fun e => absurd (hft.symm.trans e) (by simp), fun h0 => ⟨_, rfl, ⟨hx, by simp, fun e e9 => ?_⟩, fun i y hy => ?_⟩⟩, h5⟩
  · obtain ⟨nb, c8, q1, _, ev, _, q4⟩ := hnb e
    rw [q1] at e9
    have e9 : nb = x.heap.size := Option.some.inj e9
    have := q4.nlt
    omega
  · obtain ⟨q1, q2⟩ := hk i y hy
    refine ⟨tcells y none 0, TermR.of (by rw [q1]; simp) (by rw [q1]; exact Lay.Sl.nil _ _ _ _), fun j u hu => ?_⟩
    show (x.alloc _).cell? ((⟨x.heap.size, 0, none⟩ : Addr).add (i * 5 + j)) = some u
    rw [add_zero9, (cell_of_block (heap_alloc_new x _) _).1]
    exact q2 j u hu
theorem AsB.app {w' : World} {nb c8 : Nat} {ev : List Value} (h : AsB lo X g k At ct ts t vk vt vz va vp fk ft fz fa fp fe fo x) (hl : lo ≤ X.heap.size) (hfp : fp = false) (hfe : fe = false) (hfo : fo = false) (haft : AftB X g k lo At ct ts ev false false w' nb c8) (hnb : ∀ b9, b9 < x.heap.size → (Value.slice At ts.length ct).ownBlock ≠ some b9 → b9 ≠ nb) (hg : x.grownBy w' (Value.slice At ts.length ct).ownBlock) (hown : ∀ b, (Value.slice At ts.length ct).ownBlock = some b → lo ≤ b ∧ b < X.heap.size) :
    AsB lo X g k At ct ts t vk vt vz (.slice (some ⟨nb, 0, none⟩) (ts.length + 1) c8) vp fk ft fz true fp fe fo w' := by
  subst hfp hfe hfo
  obtain ⟨h1, h2, h3, h4, h5⟩ := h
  have hlt := haft.nlt
  refine ⟨h1.grown hg (Nat.le_trans hl h1.size) (fun b e => (hown b e).1), fun e => absurd e (by simp), fun _ e => absurd e (by simp), fun e => ?_, fun _ => ⟨nb, c8, rfl, fun e => absurd e (by simp), ev, fun e => absurd e (by simp), haft⟩⟩
  obtain ⟨A9, c9, q1, q2, q3, q4⟩ := h4 e
  have hne : ∀ b, X.heap.size ≤ b → (Value.slice At ts.length ct).ownBlock ≠ some b := fun b hb e9 => by have := (hown b e9).2; omega
  exact ⟨A9, c9, q1, q2, q3, (q4.keep fun b h9 => hg.block b h9.2.1 (fun e9 => hne b h9.1 e9.symm)).mono fun b h9 => ⟨h9.1, Nat.lt_of_lt_of_le h9.2.1 hg.size, fun _ e9 => hnb b h9.2.1 (hne b h9.1) (Option.some.inj e9).symm⟩⟩
theorem AsB.ptr {nb c8 n : Nat} (h : AsB lo X g k At ct ts t vk vt vz va vp fk ft fz fa fp fe fo x) (hva : va = .slice (some ⟨nb, 0, none⟩) n c8) : AsB lo X g k At ct ts t vk vt vz va (.pointer (some ⟨nb, ts.length * 5, none⟩)) fk ft fz fa true fe fo x := by
  obtain ⟨h1, h2, h3, h4, h5⟩ := h
  refine ⟨h1, h2, h3, h4, fun e => ?_⟩
  obtain ⟨nb', c8', q1, q2, ev, q3, q4⟩ := h5 e
  rw [hva] at q1
  injection q1 with q1 _ _
  injection q1 with q1
  injection q1 with q1
  subst q1
  exact ⟨_, c8', by rw [hva]; congr 1 <;> simp_all, fun _ => rfl, ev, q3, q4⟩
theorem AsB.elem {nb c8 : Nat} {v0 v1 v2 v3 v4 : Value} (h : AsB lo X g k At ct ts t vk vt vz va vp fk ft fz fa fp fe fo x) (hfa : fa = true) (hfe : fe = false) (hva : va = .slice (some ⟨nb, 0, none⟩) (ts.length + 1) c8) (hvt : vt = .agg #[v0, v1, v2, v3, v4]) :
    AsB lo X g k At ct ts t vk vt vz va vp fk ft fz fa fp true fo (((((x.setCell ⟨nb, ts.length * 5, none⟩ v0).setCell ⟨nb, ts.length * 5 + 1, none⟩ v1).setCell ⟨nb, ts.length * 5 + 2, none⟩ v2).setCell ⟨nb, ts.length * 5 + 3, none⟩ v3).setCell ⟨nb, ts.length * 5 + 4, none⟩ v4) := by
  subst hfa hfe
  obtain ⟨h1, h2, h3, h4, h5⟩ := h
  obtain ⟨nb', c8', q1, q2, ev, q3, q4⟩ := h5 rfl
  have hnn : nb' = nb ∧ c8' = c8 := by
    rw [hva] at q1
    injection q1 with q1 _ q9
    injection q1 with q1
    injection q1 with q1
    exact ⟨q1.symm, q9.symm⟩
  obtain ⟨rfl, rfl⟩ := hnn
  have hlo := q4.blo
  refine ⟨below_set9 (p := ⟨nb', ts.length * 5 + 4, none⟩) (below_set9 (p := ⟨nb', ts.length * 5 + 3, none⟩) (below_set9 (p := ⟨nb', ts.length * 5 + 2, none⟩) (below_set9 (p := ⟨nb', ts.length * 5 + 1, none⟩) (below_set9 (p := ⟨nb', ts.length * 5, none⟩) h1 hlo v0) hlo v1) hlo v2) hlo v3) hlo v4, fun e => absurd e (by simp), fun _ e => absurd e (by simp), fun e => ?_, fun _ => ⟨nb', c8', hva, q2, [v0, v1, v2, v3, v4], fun _ => hvt, q4.elem⟩⟩
  obtain ⟨A9, c9, r1, r2, r3, r4⟩ := h4 e
  have hne : ∀ b, (X.heap.size ≤ b ∧ b < x.heap.size ∧ (true = true → va.ownBlock ≠ some b)) → b ≠ nb' := fun b hb e9 => hb.2.2 rfl (by rw [hva, e9]; rfl)
  have hfar : ∀ b, b ≠ nb' → (((((x.setCell ⟨nb', ts.length * 5, none⟩ v0).setCell ⟨nb', ts.length * 5 + 1, none⟩ v1).setCell ⟨nb', ts.length * 5 + 2, none⟩ v2).setCell ⟨nb', ts.length * 5 + 3, none⟩ v3).setCell ⟨nb', ts.length * 5 + 4, none⟩ v4).heap[b]? = x.heap[b]? := fun b hb =>
    (Below.heap_setCell _ ⟨nb', _, none⟩ _ b hb).trans ((Below.heap_setCell _ ⟨nb', _, none⟩ _ b hb).trans ((Below.heap_setCell _ ⟨nb', _, none⟩ _ b hb).trans ((Below.heap_setCell _ ⟨nb', _, none⟩ _ b hb).trans (Below.heap_setCell _ ⟨nb', _, none⟩ _ b hb))))
  exact ⟨A9, c9, r1, r2, r3, (r4.keep fun b hb => hfar b (hne b hb)).mono fun b hb => ⟨hb.1, by simp only [size_setCell]; exact hb.2.1, hb.2.2⟩⟩
theorem AsB.outer {nb c8 : Nat} (h : AsB lo X g k At ct ts t vk vt vz va vp fk ft fz fa fp fe fo x) (hfa : fa = true) (hlg : lo ≤ g) (hgX : g < X.heap.size) (hva : va = .slice (some ⟨nb, 0, none⟩) (ts.length + 1) c8) :
    AsB lo X g k At ct ts t vk vt vz va vp fk ft fz fa fp fe true (x.setCell ⟨g, k * 2 + 1, none⟩ (.slice (some ⟨nb, 0, none⟩) (ts.length + 1) c8)) := by
  subst hfa
  obtain ⟨h1, h2, h3, h4, h5⟩ := h
  obtain ⟨nb', c8', q1, q2, ev, q3, q4⟩ := h5 rfl
  have hnn : nb' = nb ∧ c8' = c8 := by
    rw [hva] at q1
    injection q1 with q1 _ q9
    injection q1 with q1
    injection q1 with q1
    exact ⟨q1.symm, q9.symm⟩
  obtain ⟨rfl, rfl⟩ := hnn
  refine ⟨below_set9 (p := ⟨g, k * 2 + 1, none⟩) h1 hlg _, fun e => absurd e (by simp), fun _ e => absurd e (by simp), fun e => ?_, fun _ => ⟨nb', c8', hva, q2, ev, q3, q4.outer⟩⟩
  obtain ⟨A9, c9, r1, r2, r3, r4⟩ := h4 e
  exact ⟨A9, c9, r1, r2, r3, (r4.keep fun b hb => Below.heap_setCell x ⟨g, _, none⟩ _ b (Nat.ne_of_gt (Nat.lt_of_lt_of_le hgX hb.1))).mono fun b hb => ⟨hb.1, by rw [size_setCell]; exact hb.2.1, hb.2.2⟩⟩
end
theorem AsB.fin {lo : Nat} {X x : World} {g k : Nat} {c : List Ly} {l : Ly} {At : Option Addr} {ct : Nat} {t : T} {vk vt vz va vp : Value} {fz fp : Bool} (hB : BentS lo X g c k l At ct) (h : AsB lo X g k At ct l.ts t vk vt vz va vp true true fz true fp true true x) :
    ∃ At' ct', BentS lo x g (c.set k ⟨l.ds, l.ts ++ [t]⟩) k ⟨l.ds, l.ts ++ [t]⟩ At' ct' := by
  obtain ⟨h1, h2, h3, h4, h5⟩ := h
  obtain ⟨A9, c9, r1, r2, r3, r4⟩ := h4 rfl
  obtain ⟨nb, c8, q1, q2, ev, q3, q4⟩ := h5 rfl
  have he : ev = tcells t A9 c9 := by
    have e1 := (q3 rfl).symm.trans (r3 rfl)
    injection e1 with e1
    simpa using e1
  subst he
  exact ⟨_, _, q4.bent hB r2 (r4.mono fun b hb => ⟨hb.2.1, fun e => hb.2.2 rfl (by rw [q1, e]; rfl), Nat.ne_of_gt (Nat.lt_of_lt_of_le hB.glt hb.1)⟩)⟩
/-- At the region's beginning. -/
theorem AsB.start {lo : Nat} {X : World} {g k : Nat} {At : Option Addr} {ct : Nat} {ts : List T} {t : T} {vk vt vz va vp : Value} {fk ft fz fa fp fe fo : Bool} (hz : fz = false) (ha : fa = false) (hk : fk = true → vk = .slice none 0 0 ∧ t.kids = [] ∧ ft = false) : AsB lo X g k At ct ts t vk vt vz va vp fk ft fz fa fp fe fo X :=
  ⟨Below.refl _ _, fun _ => Below.refl _ _, fun e => absurd (hz.symm.trans e) (by simp), fun e => by
    obtain ⟨h1, h2, h3⟩ := hk e
    exact ⟨none, 0, by rw [h1, h2]; rfl, by rw [h2]; simp, fun e => absurd (h3.symm.trans e) (by simp), by rw [h2]; exact Lay.Sl.nil _ _ _ _⟩, fun e => absurd (ha.symm.trans e) (by simp)⟩
end Go.Proofs.YtiahmfpfimmbgaaGreatDoor

/-! Contracts of the reference's reader of codes: l12Open, pick. -/
namespace Go.Proofs.YtiahmfpfimmbgaaGreatDoor
open Go Go.RowKit

/-- Block r is a reader at place p, of at most 2000 bytes that lie below it. -/
def Rdr (w : World) (r : Nat) (p : Int) : Prop :=
  ∃ A c bs, w.heap[r]? = some (.cells #[.slice A bs.length c, .int .i64 p] 119 (0, 0)) ∧ bs.length ≤ 2000 ∧ Lay.byte.Sl w (fun b => b < r) A bs

/-- The reader stays over what leaves its block and the blocks below it alone. -/
theorem Rdr.keep {w w' : World} {r : Nat} {p : Int} (h : Rdr w r p) (hk : ∀ b, b ≤ r → w'.heap[b]? = w.heap[b]?) : Rdr w' r p := by
  obtain ⟨A, c, bs, hb, hl, hs⟩ := h
  exact ⟨A, c, bs, (hk r (Nat.le_refl _)).trans hb, hl, hs.keep fun b hb => hk b (Nat.le_of_lt hb)⟩
theorem Rdr.lt {w : World} {r : Nat} {p : Int} (h : Rdr w r p) : r < w.heap.size := by
  obtain ⟨A, c, bs, hb, _⟩ := h
  exact lt_of_block hb
theorem Rdr.up {w w' : World} {r : Nat} {p : Int} (h : Rdr w r p) (hb : Below w.heap.size w w') : Rdr w' r p :=
  h.keep fun b hbr => hb.block b (Nat.lt_of_le_of_lt hbr h.lt)

def OpenPost (w : World) (e : Ending) (w' : World) : Prop := ∃ r, e = .returned (.pointer (some ⟨r, 0, none⟩)) ∧ w.heap.size ≤ r ∧ Rdr w' r 0 ∧ Below w.heap.size w w'

theorem open_any (A : Option Addr) (c : Nat) (bs : List UInt8) (w : World) (h : Lay.byte.Rd w A bs) (hc : bs.length ≤ c) (hn : bs.length ≤ 9223372036854775807) :
    Calls Tryz.prog 74 #[.slice A bs.length c] w (OpenPost w) := by
  by_cases hl : 2000 < bs.length
  · go_enter Tryz.func74, Tryz.ntmps74
    go_wp2
    go_ret
    refine ⟨w.heap.size, rfl, Nat.le_refl _, ⟨A, c, bs.take 2000, ?_, by simp; omega, ?_⟩, (Below.refl _ _).alloc (Nat.le_refl _) _⟩
    · have e : (bs.take 2000).length = 2000 := by simp; omega
      rw [e]
      exact heap_alloc_new w _
    · exact (h.take 2000).keep fun b hb => Below.heap_alloc w _ b hb
  · go_enter Tryz.func74, Tryz.ntmps74
    go_wp2
    go_ret
    refine ⟨w.heap.size, rfl, Nat.le_refl _, ⟨A, c, bs, ?_, by omega, ?_⟩, (Below.refl _ _).alloc (Nat.le_refl _) _⟩
    · exact heap_alloc_new w _
    · exact h.keep fun b hb => Below.heap_alloc w _ b hb

/-- A number below n, and the reader one place on. -/
def PickPost (w : World) (r : Nat) (p n : Int) (e : Ending) (w' : World) : Prop :=
  ∃ k : Int, e = .returned (.int .i64 k) ∧ 0 ≤ k ∧ (1 ≤ n → k < n) ∧ (n < 1 → k = 0) ∧ Rdr w' r (p + 1) ∧ w.grownBy w' (some r)

theorem pick_end {w : World} {r : Nat} {p n k : Int} (m : Nat) (h : Rdr w r p) (k0 : 0 ≤ k) (k1 : 1 ≤ n → k < n) (k2 : n < 1 → k = 0) :
    PickPost w r p n (.returned (.int .i64 k)) ((w.setCell ⟨r, 1, none⟩ (.int .i64 (p + 1))).drewN m) := by
  have hlt := h.lt
  refine ⟨k, rfl, k0, k1, k2, ?_, ⟨rfl, rfl, rfl, by simp [World.setCell, World.drewN], fun i hi hne => Below.heap_setCell w ⟨r, 1, none⟩ _ i (fun e => hne (by rw [e]))⟩⟩
  obtain ⟨A, c, bs, hb, hl, hs⟩ := h
  refine ⟨A, c, bs, ?_, hl, hs.keep fun b hb => Below.heap_setCell w ⟨r, 1, none⟩ _ b (Nat.ne_of_lt hb)⟩
  show (w.setCell ⟨r, 1, none⟩ (.int .i64 (p + 1))).heap[r]? = _
  simp [World.setCell, Array.getElem?_modify, hb]

theorem far_cell {w : World} {a b : Addr} {v u : Value} (h : w.cell? a = some u) (hne : a.block ≠ b.block) : (w.setCell b v).cell? a = some u := by
  rw [World.cell?_setCell_other w b a v (fun e => hne (by rw [e]))]; exact h

theorem ofInt_i64 (a : Nat) (ha : a < 9223372036854775808) : (BitVec.ofInt 64 (a : Int)).toNat = a := by
  rw [BitVec.ofInt_natCast, BitVec.toNat_ofNat]; exact Nat.mod_eq_of_lt (by omega)
theorem i64_xor_nat (a b : Nat) (ha : a < 9223372036854775808) (hb : b < 9223372036854775808) : bits .xor .i64 (a : Int) (b : Int) = ((a ^^^ b : Nat) : Int) := by
  have hx : a ^^^ b < 2 ^ 63 := Nat.xor_lt_two_pow (by omega) (by omega)
  show IntKind.i64.wrap ((BitVec.ofInt 64 (a : Int) ^^^ BitVec.ofInt 64 (b : Int)).toNat : Int) = _
  rw [BitVec.toNat_xor, ofInt_i64 a ha, ofInt_i64 b hb, IntKind.wrap_i64]
  omega

theorem mix_wraps (P y z D : Nat) (hP : P ≤ 1000000000) (hy : y < 256) (hz : z < 256) (hD : D ≤ 1000000000) :
    IntKind.i64.wrap ((P : Int) * 7) = (P : Int) * 7 ∧ IntKind.i64.wrap ((P : Int) * 7 + 3) = (P : Int) * 7 + 3 ∧ IntKind.i64.wrap (y : Int) = (y : Int) ∧ IntKind.i64.wrap ((y : Int) * 131) = (y : Int) * 131 ∧
    IntKind.i64.wrap (z : Int) = (z : Int) ∧ IntKind.i64.wrap ((z : Int) * 1117) = (z : Int) * 1117 ∧ IntKind.i64.wrap ((y : Int) * 131 + (z : Int) * 1117) = (y : Int) * 131 + (z : Int) * 1117 ∧
    IntKind.i64.wrap ((P : Int) * 29) = (P : Int) * 29 ∧ IntKind.i64.wrap ((y : Int) * 131 + (z : Int) * 1117 + (P : Int) * 29) = (y : Int) * 131 + (z : Int) * 1117 + (P : Int) * 29 ∧
    IntKind.i64.wrap (D : Int) = (D : Int) ∧ IntKind.i64.wrap ((D : Int) * 53) = (D : Int) * 53 ∧
    IntKind.i64.wrap ((y : Int) * 131 + (z : Int) * 1117 + (P : Int) * 29 + (D : Int) * 53) = (y : Int) * 131 + (z : Int) * 1117 + (P : Int) * 29 + (D : Int) * 53 :=
  ⟨IntWalk.i64_in _ (by omega), IntWalk.i64_in _ (by omega), IntWalk.i64_in _ (by omega), IntWalk.i64_in _ (by omega), IntWalk.i64_in _ (by omega), IntWalk.i64_in _ (by omega),
    IntWalk.i64_in _ (by omega), IntWalk.i64_in _ (by omega), IntWalk.i64_in _ (by omega), IntWalk.i64_in _ (by omega), IntWalk.i64_in _ (by omega), IntWalk.i64_in _ (by omega)⟩

set_option maxRecDepth 100000 in
set_option maxHeartbeats 1000000 in
theorem pick_any (r : Nat) (p n : Int) (w : World) (h : Rdr w r p) (p0 : 0 ≤ p) (p1 : p ≤ 1000000000) (n1 : n ≤ 9223372036854775807) (n0 : -9223372036854775808 ≤ n) :
    Calls Tryz.prog 84 #[.pointer (some ⟨r, 0, none⟩), .int .i64 n] w (PickPost w r p n) := by
  obtain ⟨A, c, bs, hb, hl, hs⟩ := h
  have hc0 : w.cell? ⟨r, 0, none⟩ = some (.slice A bs.length c) := by simp [World.cell?, hb]
  have hc1 : w.cell? ⟨r, 1, none⟩ = some (.int .i64 p) := by simp [World.cell?, hb]
  have hf : w.frozen? ⟨r, 1, none⟩ = false := by simp [World.frozen?, hb]
  have Hb := Lib.hid hb
  clear hb
  have hR : Rdr w r p := ⟨A, c, bs, Hb.out, hl, hs⟩
  have HR := Lib.hid hR
  clear hR
  by_cases hn : n < 1
  · go_enter Tryz.func84, Tryz.ntmps84
    go_wp2
    go_ret
    exact pick_end 0 HR.out (by omega) (by omega) (fun _ => rfl)
  · by_cases he : bs.length = 0
    · go_enter Tryz.func84, Tryz.ntmps84
      go_wp2
      go_ret
      exact pick_end 0 HR.out (by omega) (by omega) (fun _ => rfl)
    · by_cases hk : p < bs.length
      · have hkn : p.toNat < bs.length := by omega
        obtain ⟨ad, rfl, hfr, hcb⟩ := hs.at_byte hkn
        have hcb' : (w.setCell ⟨r, 1, none⟩ (.int .i64 (p + 1))).cell? (ad.add p.toNat) = some (.int .u8 (bs[p.toNat].toNat : Int)) := far_cell hcb (by rw [block_of_add]; exact Nat.ne_of_lt hfr)
        have hb0 : (0 : Int) ≤ bs[p.toNat].toNat := by omega
        have hb1 : (bs[p.toNat].toNat : Int) < 256 := by have := bs[p.toNat].toNat_lt; omega
        generalize (bs[p.toNat].toNat : Int) = y at *
        go_enter Tryz.func84, Tryz.ntmps84
        go_wp2
        go_ret
        exact pick_end 0 HR.out (Int.emod_nonneg _ (by omega)) (fun _ => Int.emod_lt_of_pos _ (by omega)) (fun h => by omega)
      · have hq0 : 0 < bs.length := by omega
        obtain ⟨P, rfl⟩ := Int.eq_ofNat_of_zero_le p0
        obtain ⟨X, hx, t1⟩ : ∃ X : Nat, X < bs.length ∧ (P : Int).tmod bs.length = X := ⟨P % bs.length, Nat.mod_lt _ hq0, by rw [Int.tmod_eq_emod_of_nonneg (by omega)]; simp⟩
        obtain ⟨Y, hy, t2⟩ : ∃ Y : Nat, Y < bs.length ∧ ((P : Int) * 7 + 3).tmod bs.length = Y := ⟨(P * 7 + 3) % bs.length, Nat.mod_lt _ hq0, by rw [Int.tmod_eq_emod_of_nonneg (by omega)]; simp⟩
        obtain ⟨D, hd, t3⟩ : ∃ D : Nat, D ≤ P ∧ (P : Int).tdiv bs.length = D := ⟨P / bs.length, Nat.div_le_self _ _, by rw [Int.tdiv_eq_ediv_of_nonneg (by omega)]; simp⟩
        obtain ⟨ad, rfl, hfr, hcb⟩ := hs.at_byte hx
        obtain ⟨ad', e, _, hcb2⟩ := hs.at_byte hy
        cases e
        have hcb' : (w.setCell ⟨r, 1, none⟩ (.int .i64 ((P : Int) + 1))).cell? (ad.add _) = some _ := far_cell hcb (by rw [block_of_add]; exact Nat.ne_of_lt hfr)
        have hcb2' : (w.setCell ⟨r, 1, none⟩ (.int .i64 ((P : Int) + 1))).cell? (ad.add _) = some _ := far_cell hcb2 (by rw [block_of_add]; exact Nat.ne_of_lt hfr)
        have hb1 := bs[X].toNat_lt
        have hb2 := bs[Y].toNat_lt
        generalize bs[X].toNat = y at *
        generalize bs[Y].toNat = z at *
        clear hcb hcb2
        have hx' : (X : Int) < bs.length := by omega
        have hy' : (Y : Int) < bs.length := by omega
        obtain ⟨e1, e2, e3, e4, e5, e6, e7, e8, e9, e10, e11, e12⟩ := mix_wraps P y z D (by omega) hb1 hb2 (by omega)
        have hlen : ((bs.length : Int) == 0) = false := beq_eq_false_iff_ne.2 (by omega)
        go_enter Tryz.func84, Tryz.ntmps84
        go_wp2
        go_quiet (fail)
        clear e1 e2 e3 e4 e5 e6 e7 e8 e9 e10 e11 e12 t1 t2 t3 hlen
        go_wp2
        go_ret
        have hM : (y : Int) * 131 + (z : Int) * 1117 + (P : Int) * 29 + (D : Int) * 53 = ((y * 131 + z * 1117 + P * 29 + D * 53 : Nat) : Int) := by omega
        have hlt : y * 131 + z * 1117 + P * 29 + D * 53 < 9223372036854775808 := by omega
        show PickPost w r P n (.returned (.int .i64 ((bits BinOp.xor IntKind.i64 ((y : Int) * 131 + z * 1117 + P * 29 + D * 53) (((y : Int) * 131 + z * 1117 + P * 29 + D * 53) / 64)).tmod n))) _
        rw [hM]
        generalize y * 131 + z * 1117 + P * 29 + D * 53 = M at *
        rw [show ((M : Int) / 64) = ((M / 64 : Nat) : Int) from by omega, i64_xor_nat _ _ hlt (by omega)]
        generalize (M ^^^ M / 64) = Q
        rw [Int.tmod_eq_emod_of_nonneg (by omega)]
        exact pick_end nq HR.out (Int.emod_nonneg _ (by omega)) (fun _ => Int.emod_lt_of_pos _ (by omega)) (fun h => by omega)
end Go.Proofs.YtiahmfpfimmbgaaGreatDoor

/-! Draws: what a reader's user leaves; a number of a list. -/
namespace Go.Proofs.YtiahmfpfimmbgaaGreatDoor
open Go Go.RowKit

abbrev NotIn (S : Nat → Prop) : World → Nat → Prop := fun _ b => ¬ S b
theorem OwnL.gr {α : Type} {L : Lay α} {e : TypeId} {w w' : World} {lo : Nat} {S : Nat → Prop} {v : Value} {xs : List α} (h : OwnL L (NotIn S) e w lo v xs) (hg : Gr S w w') (hr : ∀ b, S b → b < lo) : OwnL L (NotIn S) e w' lo v xs := by
  obtain ⟨cs, h1, h2⟩ := h
  refine ⟨cs, own_of_heap h1 fun g hg' => hg.block g (h1.lt g hg').2 (fun e => by have := hr g e; have := (h1.lt g hg').1; omega), fun i x hx => ?_⟩
  obtain ⟨vs, hr, hu⟩ := h2 i x hx
  exact ⟨vs, L.mono (fun b hb => ⟨Nat.lt_of_lt_of_le hb.1 hg.size, hb.2.1, hb.2.2⟩) (L.keep (fun b hb => hg.block b hb.1 hb.2.2) hr), hu⟩
theorem Rdr.gr {S : Nat → Prop} {w w' : World} {r : Nat} {p : Int} (h : Rdr w r p) (k : Gr S w w') (hS : ∀ x, S x → r < x) : Rdr w' r p :=
  h.keep fun b hb => k.block b (Nat.lt_of_le_of_lt hb h.lt) (fun e => by have := hS b e; omega)
theorem Rdr.own {w w' : World} {r : Nat} {p : Int} {row : Option Nat} (h : Rdr w r p) (k : w.grownBy w' row) (hr : ∀ g, row = some g → r < g) : Rdr w' r p :=
  h.keep fun b hb => k.block b (Nat.lt_of_le_of_lt hb h.lt) (fun e => by have := hr b e.symm; omega)
theorem Rdr.set {w : World} {r g o : Nat} {p : Int} {u : Value} (h : Rdr w r p) (hg : r < g) : Rdr (w.setCell ⟨g, o, none⟩ u) r p :=
  h.keep fun b hb => Below.heap_setCell w ⟨g, o, none⟩ u b (fun e => by have : b = g := e; omega)
/-- The reader has gone on by at most N places; but for its block nothing turned. -/
def Drawn (r : Nat) (p N : Int) (w w' : World) : Prop := ∃ p', p ≤ p' ∧ p' ≤ p + N ∧ Rdr w' r p' ∧ Gr (fun b => b = r) w w'
theorem num_any (r : Nat) (p : Int) (B : Option Addr) (d : Nat) (xs : List Int) (w : World) (h : Rdr w r p) (hs : Lay.int.Sl w (Ab (fun b => b = r) w) B xs) (h0 : 0 < xs.length) (hn : xs.length ≤ 1048576) (p0 : 0 ≤ p) (p1 : p ≤ 1000000000) :
    Calls Tryz.prog 89 #[.pointer (some ⟨r, 0, none⟩), .slice B xs.length d] w fun e w' => ∃ x ∈ xs, e = .returned (.int .i64 x) ∧ Rdr w' r (p + 1) ∧ Gr (fun b => b = r) w w' := by
  go_enter Tryz.func89, Tryz.ntmps89
  go_wp2_with fail
  refine (pick_any r p xs.length w h p0 p1 (by omega) (by omega)).mono ?_
  rintro e w' ⟨k, rfl, k0, k1, _, hR, hg⟩
  have hk := k1 (by omega)
  have hg := Gr.one (S := fun b => b = r) hg rfl
  obtain ⟨n, rfl⟩ := Int.eq_ofNat_of_zero_le k0
  have hnl : n < xs.length := by omega
  obtain ⟨ad, rfl, _, hc⟩ := (hs.gr hg).at_int hnl
  have hm : xs[n] ∈ xs := List.getElem_mem hnl
  generalize xs[n] = x at *
  have HR := Lib.hid (And.intro hm (And.intro hR hg))
  clear hR hg hm k1 hs h
  go_wp2
  go_ret
  exact ⟨x, HR.out.1, rfl, HR.out.2⟩
end Go.Proofs.YtiahmfpfimmbgaaGreatDoor

/-! Own rows of truth values; append. -/
namespace Go.Proofs.YtiahmfpfimmbgaaGreatDoor
open Go Go.RowKit

def OwnB (w : World) (lo : Nat) (v : Value) (bs : List Bool) : Prop := w.ownsRow lo 4 1 v bs.length (bs.map Value.bool)
theorem OwnB.rd {w : World} {lo c : Nat} {A : Option Addr} {bs : List Bool} (h : OwnB w lo (.slice A bs.length c) bs) : Lay.bool.Rd w A bs := (sl_bools_of_own h (fun g _ hg => hg)).1
theorem OwnB.gr {S : Nat → Prop} {w w' : World} {lo : Nat} {v : Value} {bs : List Bool} (h : OwnB w lo v bs) (hg : Gr S w w') (hr : ∀ b, S b → b < lo) : OwnB w' lo v bs :=
  own_of_heap h fun g hg' => hg.block g (h.lt g hg').2 (fun e => by have := hr g e; have := (h.lt g hg').1; omega)
theorem OwnB.up {w w' : World} {lo : Nat} {v : Value} {bs : List Bool} (h : OwnB w lo v bs) (hb : Below w.heap.size w w') : OwnB w' lo v bs := own_below h hb (Nat.le_refl _)
theorem OwnB.set {w : World} {lo g c k : Nat} {bs : List Bool} (h : OwnB w lo (.slice (some ⟨g, 0, none⟩) bs.length c) bs) (b : Bool) : OwnB (w.setCell ⟨g, k, none⟩ (.bool b)) lo (.slice (some ⟨g, 0, none⟩) bs.length c) (bs.set k b) := by
  have := (h.stored k (.bool b)).1
  unfold OwnB
  rw [List.length_set, List.map_set]
  exact this
theorem OwnB.cell {w : World} {lo g c k : Nat} {bs : List Bool} (h : OwnB w lo (.slice (some ⟨g, 0, none⟩) bs.length c) bs) (hk : k < bs.length) : w.cell? ⟨g, k, none⟩ = some (.bool bs[k]) ∧ w.frozen? ⟨g, k, none⟩ = false := by
  refine ⟨?_, h.frozenAt k⟩
  have hc := h.2
  rcases hc with ⟨e, _⟩ | ⟨g', cap, cur, e, _, _, h3, _⟩
  · cases e
  · have hx := h.cellAt k (by simp; omega)
    rw [hx, List.getElem?_map, List.getElem?_eq_getElem hk]; rfl
theorem OwnB.form {w : World} {lo : Nat} {v : Value} {bs : List Bool} (h : OwnB w lo v bs) : ∃ A c, v = .slice A bs.length c ∧ bs.length ≤ c := by
  rcases h.2 with ⟨h1, h2⟩ | ⟨g, cap, cur, h1, _, _, h3, _⟩
  · exact ⟨none, 0, by rw [h1, h2], by rw [h2]; exact Nat.le_refl _⟩
  · exact ⟨_, cap, h1, h3⟩
theorem OwnB.cap {w : World} {lo c n : Nat} {A : Option Addr} {bs : List Bool} (h : OwnB w lo (.slice A n c) bs) : n = bs.length ∧ bs.length ≤ c := by
  obtain ⟨A', c', e, hl⟩ := h.form
  injection e with e1 e2 e3
  exact ⟨e2, by omega⟩
end Go.Proofs.YtiahmfpfimmbgaaGreatDoor

/-! The reference's environments: EnvOk, l1Bit, BlastIns, l2Bool, BlastEnv. -/
namespace Go.Proofs.YtiahmfpfimmbgaaGreatDoor
open Go Go.RowKit

theorem OwnB.own {w : World} {base c : Nat} {A : Option Addr} {xs : List Bool} (h : OwnB w base (.slice A xs.length c) xs) : Lay.bool.Sl w (Own base w) A xs := fun hn => by
  obtain ⟨h1, _, h3⟩ := sl_bools_of_own (F := fun b => base ≤ b ∧ b < w.heap.size) h (fun g a b => ⟨a, b⟩)
  obtain ⟨ad, e, hf, hc⟩ := h1 hn
  subst e
  refine ⟨ad, rfl, ⟨hf.1, hf.2, fun o => ?_⟩, hc⟩
  rcases h.2 with ⟨e, _⟩ | ⟨g, cap, cur, e, _, hg, _⟩
  · cases e
  · injection e with e1 e2 e3
    injection e1 with e1
    subst e1
    unfold World.frozen?
    rw [hg]
    simp
end Go.Proofs.YtiahmfpfimmbgaaGreatDoor

/-! Declarations and inputs as arguments. -/
namespace Go.Proofs.YtiahmfpfimmbgaaGreatDoor
open Go Go.RowKit Go.ChangeShapes Go.WideShapes Go.ChangeAt Go.Deep

end Go.Proofs.YtiahmfpfimmbgaaGreatDoor

/-! Drawn regions that draw from a reader; literals. -/
namespace Go.Proofs.YtiahmfpfimmbgaaGreatDoor
open Go Go.RowKit

abbrev IsR (r : Nat) : Nat → Prop := fun b => b = r
/-- A row that was just written down. -/
theorem lit_sl {S : Nat → Prop} (w : World) (xs : List Int) (cs : Array Value) (t : TypeId) (hc : cs = (xs.map (Value.int .i64)).toArray) (hS : ¬ S w.heap.size) : Lay.int.Sl (w.alloc (.cells cs t)) (Ab S (w.alloc (.cells cs t))) (some ⟨w.heap.size, 0, none⟩) xs := by
  intro _
  refine ⟨_, rfl, ⟨by simp, hS⟩, fun k x hx => ⟨[.int .i64 x], rfl, fun j u hu => ?_⟩⟩
  rcases j with _ | j
  · injection hu with hu
    subst hu
    have hb := (cell_of_block (heap_alloc_new w (.cells cs t)) k).1
    have ha : (⟨w.heap.size, 0, none⟩ : Addr).add (k * Lay.int.size + 0) = ⟨w.heap.size, k, none⟩ := by
      show (⟨w.heap.size, 0, none⟩ : Addr).add (k * 1 + 0) = _
      rw [Nat.mul_one, Nat.add_zero]; unfold Addr.add; split
      · rename_i h; rw [h]
      · simp
    rw [ha, hb, hc]
    simp [hx]
  · simp at hu
/-- A block without bytes may turn: the reader stays. -/
theorem Rdr.far {w w' : World} {r b : Nat} {p : Int} (h : Rdr w r p) (hg : Gr (fun y => y = b) w w') (hbr : b ≠ r) (hk : ∃ cs t fr, w.heap[b]? = some (.cells cs t fr) ∧ ∀ u ∈ cs.toList, ∀ z, u ≠ .int .u8 z) : Rdr w' r p := by
  obtain ⟨A, c, bs, hb, hl, hs⟩ := h
  obtain ⟨cs, t, fr, hkb, hku⟩ := hk
  refine ⟨A, c, bs, hg.heap (fun e => hbr e.symm) hb, hl, fun hn => ?_⟩
  obtain ⟨ad, e, hf, hc⟩ := hs hn
  have hne : ad.block ≠ b := fun e9 => by
    obtain ⟨vs, hr, hcell⟩ := hc 0 bs[0] (List.getElem?_eq_getElem hn)
    have h0 := hcell 0 (.int .u8 (bs[0].toNat : Int)) (by rw [hr]; rfl)
    unfold World.cell? at h0
    rw [block_of_add, e9, hkb] at h0
    dsimp only at h0
    split at h0
    · cases h0
    · exact hku _ (by rw [Array.mem_toList_iff]; exact Array.mem_of_getElem? h0) _ rfl
  refine ⟨ad, e, hf, fun k x hx => ?_⟩
  obtain ⟨vs, hr, hcell⟩ := hc k x hx
  refine ⟨vs, hr, fun j u hu => ?_⟩
  have h9 := hcell j u hu
  exact (World.cell?_of_block (hg.block _ (by have := World.block_lt_of_cell? w _ h9; exact this) (by rw [block_of_add]; exact hne))).trans h9
end Go.Proofs.YtiahmfpfimmbgaaGreatDoor

/-! Rows of declarations of the call's own; readers of strings; the reference's l1Max and l1Min. -/
namespace Go.Proofs.YtiahmfpfimmbgaaGreatDoor
open Go Go.RowKit

theorem Lay.Sl.at_str {w : World} {F : Nat → Prop} {A : Option Addr} {xs : List ByteArray} (h : Lay.str.Sl w F A xs) {k : Nat} (hk : k < xs.length) :
    ∃ ad, A = some ad ∧ F ad.block ∧ w.cell? (ad.add k) = some (.string xs[k]) := by
  obtain ⟨ad, e, hf, hc⟩ := h (by omega)
  obtain ⟨vs, rfl, hcell⟩ := hc k xs[k] (List.getElem?_eq_getElem hk)
  exact ⟨ad, e, hf, by simpa [Lay.str, Lay.flat] using hcell 0 _ rfl⟩
/-- A row of strings that was just written down. -/
theorem lit_str {S : Nat → Prop} (w : World) (xs : List ByteArray) (cs : Array Value) (t : TypeId) (hc : cs = (xs.map Value.string).toArray) (hS : ¬ S w.heap.size) : Lay.str.Sl (w.alloc (.cells cs t)) (Ab S (w.alloc (.cells cs t))) (some ⟨w.heap.size, 0, none⟩) xs := by
  intro _
  refine ⟨_, rfl, ⟨by simp, hS⟩, fun k x hx => ⟨[.string x], rfl, fun j u hu => ?_⟩⟩
  rcases j with _ | j
  · injection hu with hu
    subst hu
    have hb := (cell_of_block (heap_alloc_new w (.cells cs t)) k).1
    have ha : (⟨w.heap.size, 0, none⟩ : Addr).add (k * Lay.str.size + 0) = ⟨w.heap.size, k, none⟩ := by
      show (⟨w.heap.size, 0, none⟩ : Addr).add (k * 1 + 0) = _
      rw [Nat.mul_one, Nat.add_zero]; unfold Addr.add; split
      · rename_i h; rw [h]
      · simp
    rw [ha, hb, hc]
    simp [hx]
  · simp at hu
set_option maxHeartbeats 1000000 in
theorem of_any (r : Nat) (p : Int) (B : Option Addr) (d : Nat) (xs : List ByteArray) (w : World) (h : Rdr w r p) (hs : Lay.str.Sl w (Ab (fun b => b = r) w) B xs) (h0 : 0 < xs.length) (hn : xs.length ≤ 1048576) (p0 : 0 ≤ p) (p1 : p ≤ 1000000000) :
    Calls Tryz.prog 90 #[.pointer (some ⟨r, 0, none⟩), .slice B xs.length d] w fun e w' => ∃ x ∈ xs, e = .returned (.string x) ∧ Rdr w' r (p + 1) ∧ Gr (fun b => b = r) w w' := by
  go_enter Tryz.func90, Tryz.ntmps90
  go_wp2_with fail
  refine (pick_any r p xs.length w h p0 p1 (by omega) (by omega)).mono ?_
  rintro e w' ⟨k, rfl, k0, k1, _, hR, hg⟩
  have hk := k1 (by omega)
  have hg := Gr.one (S := fun b => b = r) hg rfl
  obtain ⟨n, rfl⟩ := Int.eq_ofNat_of_zero_le k0
  have hnl : n < xs.length := by omega
  obtain ⟨ad, rfl, _, hc⟩ := (hs.gr hg).at_str hnl
  have hm : xs[n] ∈ xs := List.getElem_mem hnl
  generalize xs[n] = x at *
  have HR := Lib.hid (And.intro hm (And.intro hR hg))
  clear hR hg hm k1 hs h
  go_wp2
  go_ret
  exact ⟨x, HR.out.1, rfl, HR.out.2⟩
end Go.Proofs.YtiahmfpfimmbgaaGreatDoor

/-! What is drawn does not lie in the reader's block. -/
namespace Go.Proofs.YtiahmfpfimmbgaaGreatDoor
open Go Go.RowKit

theorem l1Two_tt (m : Int) (h0 : 0 ≤ m) (h1 : m ≤ 16) : ∃ T : Int, 1 ≤ T ∧ T ≤ 65536 ∧ ∀ w, Calls Tryz.prog 129 #[.int .i64 m] w fun e w' => e = .returned (.int .i64 T) ∧ w = w' := by
  refine ⟨((2 ^ m.toNat : Nat) : Int), ?_, ?_, fun w => ?_⟩
  · have := Nat.two_pow_pos m.toNat; omega
  · have := pow_small16 (n := m.toNat) (by omega); omega
  · have h9 := l1Two_q m.toNat w (by omega)
    rw [Int.toNat_of_nonneg h0] at h9
    exact h9
theorem rdr_cell {w : World} {r : Nat} {p : Int} (h : Rdr w r p) {a : Addr} {v : Value} (hc : w.cell? a = some v) (ha : a.block = r) : (a.off = 0 ∧ ∃ A n c, v = .slice A n c) ∨ (a.off = 1 ∧ ∃ z, v = .int .i64 z) := by
  obtain ⟨A, c, bs, hb, _⟩ := h
  unfold World.cell? at hc
  rw [ha, hb] at hc
  dsimp only at hc
  split at hc
  · cases hc
  · rcases ho : a.off with _ | _ | o
    · rw [ho] at hc; simp at hc; exact .inl ⟨rfl, A, _, c, hc.symm⟩
    · rw [ho] at hc; simp at hc; exact .inr ⟨rfl, p, hc.symm⟩
    · rw [ho] at hc; simp at hc
theorem decl_notR {w : World} {r : Nat} {p : Int} {A : Option Addr} {ds : List D} (h : Lay.decl.Rd w A ds) (hr : Rdr w r p) : Lay.decl.Sl w (Ab (IsR r) w) A ds := fun h0 => by
  obtain ⟨ad, e, hf, c0, _⟩ := h.at_decl h0
  obtain ⟨ad', e', _, hc⟩ := h h0
  rw [e] at e'; injection e' with e'; subst e'
  refine ⟨ad, e, ⟨hf, fun e9 => ?_⟩, fun k x hx => ?_⟩
  · rcases rdr_cell hr c0 (by rw [block_of_add]; exact e9) with ⟨_, _, _, _, h9⟩ | ⟨_, _, h9⟩ <;> cases h9
  · obtain ⟨vs, hr, hcell⟩ := hc k x hx
    exact ⟨vs, hr, hcell⟩
theorem term_notR {w : World} {r : Nat} {p : Int} (hr : Rdr w r p) (t : T) : ∀ (A : Option Addr), Lay.term.Rd w A t.kids → Lay.term.Sl w (Ab (IsR r) w) A t.kids := by
  refine T.ind (p := fun t => ∀ (A : Option Addr), Lay.term.Rd w A t.kids → Lay.term.Sl w (Ab (IsR r) w) A t.kids) (fun t ih A h => ?_) t
  intro h0
  obtain ⟨ad, A1, c1, e, hf, q0, q1, _⟩ := h.at_term h0
  obtain ⟨ad', e', _, hc⟩ := h h0
  rw [e] at e'; injection e' with e'; subst e'
  refine ⟨ad, e, ⟨hf, fun e9 => ?_⟩, fun k x hx => ?_⟩
  · rcases rdr_cell hr q0 (by rw [block_of_add]; exact e9) with ⟨_, _, _, _, h9⟩ | ⟨ho, _, _⟩
    · cases h9
    · rcases rdr_cell hr q1 (by show (ad.add (0 * 5)).block = r; rw [block_of_add]; exact e9) with ⟨ho2, _⟩ | ⟨ho2, _⟩
      · have ho2 : (ad.add (0 * 5)).off + 1 = 0 := ho2; omega
      · have ho2 : (ad.add (0 * 5)).off + 1 = 1 := ho2; omega
  · obtain ⟨vs, hr9, hcell⟩ := hc k x hx
    obtain ⟨A', c', rfl, hl, hs⟩ := TermR.form hr9
    exact ⟨_, TermR.of hl (ih x (List.mem_of_getElem? hx) A' hs), hcell⟩
theorem layer_notR {w : World} {r : Nat} {p : Int} {A : Option Addr} {c : List Ly} (h : Lay.layer.Rd w A c) (hr : Rdr w r p) : Lay.layer.Sl w (Ab (IsR r) w) A c := fun h0 => by
  obtain ⟨ad, A1, c1, A2, c2, e, hf, q0, q1, _⟩ := h.at_layer h0
  obtain ⟨ad', e', _, hc⟩ := h h0
  rw [e] at e'; injection e' with e'; subst e'
  refine ⟨ad, e, ⟨hf, fun e9 => ?_⟩, fun k x hx => ?_⟩
  · rcases rdr_cell hr q0 (by rw [block_of_add]; exact e9) with ⟨ho, _⟩ | ⟨_, _, h9⟩
    · rcases rdr_cell hr q1 (by show (ad.add (0 * 2)).block = r; rw [block_of_add]; exact e9) with ⟨ho2, _⟩ | ⟨_, _, h9⟩
      · have ho2 : (ad.add (0 * 2)).off + 1 = 0 := ho2; omega
      · cases h9
    · cases h9
  · obtain ⟨vs, ⟨A', c', B', d', rfl, h1, h2, h3, h4⟩, hcell⟩ := hc k x hx
    exact ⟨_, ⟨A', c', B', d', rfl, h1, h2, decl_notR h3 hr, term_notR hr (.mk 0 0 0 ⟨#[]⟩ x.ts) B' h4⟩, hcell⟩
/-- Names of a drawn context. -/
def okD5 (ds : List D) : Prop := ds.length ≤ 8 ∧ ∀ d ∈ ds, d.name.size ≤ 5 ∧ 1 ≤ d.wide ∧ d.wide ≤ 4
/-- Terms in blocks from lo on. -/
def TF (lo : Nat) (w : World) (A : Option Addr) (ks : List T) : Prop := Lay.term.Sl w (fun b => lo ≤ b ∧ b < w.heap.size) A ks
theorem TF.gr {lo r : Nat} {w w' : World} {A : Option Addr} {ks : List T} (h : TF lo w A ks) (hg : Gr (IsR r) w w') (hr : r < lo) : TF lo w' A ks :=
  (Lay.Sl.keep h fun b hb => hg.block b hb.2 (fun e => by have := hb.1; have e : b = r := e; omega)).mono fun b hb => ⟨hb.1, Nat.lt_of_lt_of_le hb.2 hg.size⟩
theorem TF.up {lo : Nat} {w w' : World} {A : Option Addr} {ks : List T} (h : TF lo w A ks) (hb : Below w.heap.size w w') : TF lo w' A ks :=
  (Lay.Sl.keep h fun b hb9 => hb.block b hb9.2).mono fun b hb9 => ⟨hb9.1, Nat.lt_of_lt_of_le hb9.2 hb.size⟩
theorem TF.low {lo lo' : Nat} {w : World} {A : Option Addr} {ks : List T} (h : TF lo w A ks) (hl : lo' ≤ lo) : TF lo' w A ks := Lay.Sl.mono h fun b hb => ⟨Nat.le_trans hl hb.1, hb.2⟩
theorem TF.rd {lo : Nat} {w : World} {A : Option Addr} {ks : List T} (h : TF lo w A ks) : Lay.term.Rd w A ks := Lay.Sl.mono h fun b hb => hb.2
/-- A drawn term. -/
def RetDT (r : Nat) (p M : Int) (w : World) (e : Ending) (w' : World) : Prop :=
  ∃ (t : T) (A : Option Addr) (c : Nat), e = .returned (.agg #[.int .i64 t.op, .int .i64 t.a, .int .i64 t.b, .string t.name, .slice A t.kids.length c]) ∧ t.kids.length ≤ c ∧ TF w.heap.size w' A t.kids ∧ T.All okT3 t ∧ Drawn r p M w w'
theorem box5 {w : World} {b : Nat} {o0 o1 o2 o3 o4 v0 v1 v2 v3 v4 : Value} (h : w.heap[b]? = some (.cells #[o0, o1, o2, o3, o4] 48 (0, 0))) :
    (((((w.setCell ⟨b, 0, none⟩ v0).setCell ⟨b, 1, none⟩ v1).setCell ⟨b, 2, none⟩ v2).setCell ⟨b, 3, none⟩ v3).setCell ⟨b, 4, none⟩ v4).heap[b]? = some (.cells #[v0, v1, v2, v3, v4] 48 (0, 0)) := by
  have s0 := heap_set_same w b 0 v0 _ _ h
  have s1 := heap_set_same _ b 1 v1 _ _ s0
  have s2 := heap_set_same _ b 2 v2 _ _ s1
  have s3 := heap_set_same _ b 3 v3 _ _ s2
  have s4 := heap_set_same _ b 4 v4 _ _ s3
  simpa using s4
theorem box5_far {w : World} {b : Nat} {v0 v1 v2 v3 v4 : Value} {g : Nat} (hg : g ≠ b) :
    (((((w.setCell ⟨b, 0, none⟩ v0).setCell ⟨b, 1, none⟩ v1).setCell ⟨b, 2, none⟩ v2).setCell ⟨b, 3, none⟩ v3).setCell ⟨b, 4, none⟩ v4).heap[g]? = w.heap[g]? :=
  (Below.heap_setCell _ ⟨b, _, none⟩ _ g hg).trans ((Below.heap_setCell _ ⟨b, _, none⟩ _ g hg).trans ((Below.heap_setCell _ ⟨b, _, none⟩ _ g hg).trans ((Below.heap_setCell _ ⟨b, _, none⟩ _ g hg).trans (Below.heap_setCell _ ⟨b, _, none⟩ _ g hg))))
/-- The box of the answer is stored: the draw is done. -/
theorem drawn_store {r b : Nat} {p q M : Int} {w0 w : World} {v0 v1 v2 v3 v4 : Value} (h1 : p ≤ q) (h2 : q ≤ p + M) (hR : Rdr w r q) (hg : Gr (IsR r) w0 w) (hb : w0.heap.size ≤ b) (hr : r < w0.heap.size) :
    Drawn r p M w0 (((((w.setCell ⟨b, 0, none⟩ v0).setCell ⟨b, 1, none⟩ v1).setCell ⟨b, 2, none⟩ v2).setCell ⟨b, 3, none⟩ v3).setCell ⟨b, 4, none⟩ v4) :=
  have hgs : Gr (IsR r) w0 (((((w.setCell ⟨b, 0, none⟩ v0).setCell ⟨b, 1, none⟩ v1).setCell ⟨b, 2, none⟩ v2).setCell ⟨b, 3, none⟩ v3).setCell ⟨b, 4, none⟩ v4) :=
    ((((hg.set b 0 v0 (.inr hb)).set b 1 v1 (.inr hb)).set b 2 v2 (.inr hb)).set b 3 v3 (.inr hb)).set b 4 v4 (.inr hb)
  have hRs := ((((hR.set (g := b) (o := 0) (u := v0) (by omega)).set (g := b) (o := 1) (u := v1) (by omega)).set (g := b) (o := 2) (u := v2) (by omega)).set (g := b) (o := 3) (u := v3) (by omega)).set (g := b) (o := 4) (u := v4) (by omega)
  ⟨q, h1, h2, hRs, hgs⟩
theorem TF.box5 {lo b : Nat} {w : World} {A : Option Addr} {ks : List T} {v0 v1 v2 v3 v4 : Value} (h : TF lo w A ks) (hb : b < lo) :
    TF lo (((((w.setCell ⟨b, 0, none⟩ v0).setCell ⟨b, 1, none⟩ v1).setCell ⟨b, 2, none⟩ v2).setCell ⟨b, 3, none⟩ v3).setCell ⟨b, 4, none⟩ v4) A ks :=
  (Lay.Sl.keep h fun g hg => box5_far (by have := hg.1; omega)).mono fun g hg => ⟨hg.1, by simp only [size_setCell]; exact hg.2⟩
/-- Terms laid in a block of their own. -/
theorem lit_terms {lo : Nat} {w : World} {ks : List T} {cs : Array Value} {Ak : Nat → Option Addr} {ck : Nat → Nat} (hlo : lo ≤ w.heap.size) (hc : ∀ i k, ks[i]? = some k → k.kids.length ≤ ck i ∧ TF lo w (Ak i) k.kids ∧ ∀ j u, [Value.int .i64 k.op, .int .i64 k.a, .int .i64 k.b, .string k.name, .slice (Ak i) k.kids.length (ck i)][j]? = some u → cs[i * 5 + j]? = some u) :
    TF lo (w.alloc (.cells cs 48)) (some ⟨w.heap.size, 0, none⟩) ks := fun _ => by
  have hal : Below w.heap.size w (w.alloc (.cells cs 48)) := (Below.refl _ _).alloc (Nat.le_refl _) _
  refine ⟨_, rfl, ⟨hlo, by simp⟩, fun i k hk => ?_⟩
  obtain ⟨h1, h2, h3⟩ := hc i k hk
  refine ⟨_, TermR.of h1 (h2.up hal), fun j u hu => ?_⟩
  show (w.alloc _).cell? ((⟨w.heap.size, 0, none⟩ : Addr).add (i * 5 + j)) = some u
  rw [add_zero9, (cell_of_block (heap_alloc_new w _) _).1]
  exact h3 j u hu
end Go.Proofs.YtiahmfpfimmbgaaGreatDoor
