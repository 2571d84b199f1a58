/- The reference's search: l5Copy. -/
import Derived.Test.YtbljfhmcebgdaaaJFnSatBent13
/-! The reference's search: l5Copy. -/
namespace Go.Proofs.Ytbljfhmcebgdaaa
open Go Go.RowKit

/-- append of some integers onto an empty slice of the call's own: no old block is written. -/
theorem wpList_append_cp {Q : Exit → Act → World → Prop} {ops : Array Oper} {rest : List Oper} {o : Oper} {a : Act} {w : World} {lo : Nat} {p : Addr} {Y : Option Addr} {cy : Nat} {ys : List Int} (hgd : o.guard = none) (s y : Operand)
    (ho : o.op = .call { callee := .builtin .append, args := #[s, y], argTypes := #[26, 26] }) (hs : a.eval s = .slice (some p) 0 0) (hy : a.eval y = .slice Y ys.length cy)
    (hown : w.ownsRow lo 3 1 (.slice (some p) 0 0) 0 []) (hY : Lay.int.Rd w Y ys) (hn : ys.length ≤ 1048576) (hlo : lo ≤ w.heap.size)
    (h : ∀ A' c' w', OwnI w' lo (.slice A' ys.length c') ys → Below w.heap.size w w' → ((Value.slice A' ys.length c').ownBlock = (Value.slice (some p) 0 0).ownBlock ∨ ∃ g, (Value.slice A' ys.length c').ownBlock = some g ∧ w.heap.size ≤ g) → wpList Try.prog ops Q rest (a.put o.dst (.slice A' ys.length c')) w') : wpList Try.prog ops Q (o :: rest) a w := by
  obtain ⟨i0, hi0, hz0, hz1, hz2⟩ := info_parts int_info
  refine wpList_plain hgd fun _ hK => ?_
  obtain ⟨A', c', w', hrun, h2, h3⟩ := run_append_lit (P := Try.prog) w lo 26 o.type 3 i0 _ 1 8 Try.underlying26 hi0 hz0 hz1 hz2 (by rfl) (by omega) p hown Y ys.length cy (ys.map (Value.int .i64)) (src_ints hY) (ints_one _) (by unfold maxLen; omega) (by omega) hlo (none_len hY)
  obtain ⟨A2, c2, w2, hrun2, _, _, hbk⟩ := run_append_src_at (P := Try.prog) (w := w) lo 26 o.type 3 i0 _ 1 8 Try.underlying26 hi0 hz0 hz1 hz2 (by rfl) (by omega) (.slice (some p) 0 0) 0 [] hown Y ys.length cy (ys.map (Value.int .i64)) (src_ints hY) (ints_one _) ys.length (by omega) (by unfold maxLen; omega) (by omega) hlo (none_len hY)
  rw [hrun] at hrun2
  injection hrun2 with e1 e2
  rw [← e1] at hbk
  unfold Oper.wp execOp
  simp only [ho, resolve, invoke, builtin, Sem.run_bind, Sem.run_pure, Result.andThen_ok, List.map_toArray, List.map_cons, List.map_nil, hs, hy, hrun]
  exact hK _ _ (h A' c' w' h2 h3 hbk)
/-- A row in the making: the empty one, or the copy. -/
def Mk (v0 v3 : Value) (f0 f3 : Bool) (g : Nat) : Prop := (f0 = true ∧ f3 = false ∧ v0.ownBlock = some g) ∨ (f3 = true ∧ v3.ownBlock = some g)
structure CpR (W : World) (ps qs : List Int) (v0 v3 v4 v7 : Value) (f0 f3 f4 f7 : Bool) (x : World) : Prop where
  bel : Below W.heap.size W x
  l0 : f0 = true → f3 = false → ∃ p, v0 = .slice (some p) 0 0 ∧ x.ownsRow W.heap.size 3 1 (.slice (some p) 0 0) 0 []
  o3 : f3 = true → ∃ A c, v3 = .slice A ps.length c ∧ OwnI x W.heap.size (.slice A ps.length c) ps
  l4 : f4 = true → f7 = false → ∃ p, v4 = .slice (some p) 0 0 ∧ x.ownsRow W.heap.size 3 1 (.slice (some p) 0 0) 0 []
  o7 : f7 = true → ∃ A c, v7 = .slice A qs.length c ∧ OwnI x W.heap.size (.slice A qs.length c) qs
  ap : ∀ g, Mk v0 v3 f0 f3 g → ¬ Mk v4 v7 f4 f7 g
theorem CpR.flip {W : World} {ps qs : List Int} {v0 v3 v4 v7 : Value} {f0 f3 f4 f7 : Bool} {x : World} (h : CpR W ps qs v0 v3 v4 v7 f0 f3 f4 f7 x) : CpR W qs ps v4 v7 v0 v3 f4 f7 f0 f3 x := ⟨h.bel, h.l4, h.o7, h.l0, h.o3, fun g h1 h2 => h.ap g h2 h1⟩
theorem CpR.up {W : World} {ps qs : List Int} {v0 v3 v4 v7 : Value} {f0 f3 f4 f7 : Bool} {x x' : World} (h : CpR W ps qs v0 v3 v4 v7 f0 f3 f4 f7 x) (hb : Below x.heap.size x x') : CpR W ps qs v0 v3 v4 v7 f0 f3 f4 f7 x' :=
  ⟨h.bel.trans (hb.mono h.bel.size), fun a b => (h.l0 a b).imp fun p ⟨e, ho⟩ => ⟨e, own_below ho hb (Nat.le_refl _)⟩, fun a => by obtain ⟨A, c, e, ho⟩ := h.o3 a; exact ⟨A, c, e, ho.up hb⟩, fun a b => (h.l4 a b).imp fun p ⟨e, ho⟩ => ⟨e, own_below ho hb (Nat.le_refl _)⟩, fun a => by obtain ⟨A, c, e, ho⟩ := h.o7 a; exact ⟨A, c, e, ho.up hb⟩, h.ap⟩
/-- The row's block lies in the world. -/
theorem CpR.lt {W : World} {ps qs : List Int} {v0 v3 v4 v7 : Value} {f0 f3 f4 f7 : Bool} {x : World} (h : CpR W ps qs v0 v3 v4 v7 f0 f3 f4 f7 x) (g : Nat) (hg : Mk v0 v3 f0 f3 g) : W.heap.size ≤ g ∧ g < x.heap.size ∧ ∃ cs, x.heap[g]? = some (.cells cs 3 (0, 0)) := by
  have key : ∀ {v : Value} {n : Nat} {cs : List Value}, x.ownsRow W.heap.size 3 1 v n cs → v.ownBlock = some g → W.heap.size ≤ g ∧ g < x.heap.size ∧ ∃ cs, x.heap[g]? = some (.cells cs 3 (0, 0)) := fun {v n cs} ho e => by
    rcases ho.2 with ⟨rfl, _⟩ | ⟨g9, cap, cur, rfl, hb, hc, _⟩
    · cases e
    · have e9 : g9 = g := by simpa [Value.ownBlock] using e
      subst e9
      exact ⟨hb, lt_of_block hc, cur, hc⟩
  rcases hg with ⟨h1, h2, h3⟩ | ⟨h1, h2⟩
  · obtain ⟨p, e, ho⟩ := h.l0 h1 h2
    rw [e] at h3
    exact key ho h3
  · obtain ⟨A, c, e, ho⟩ := h.o3 h1
    rw [e] at h2
    exact key ho h2
theorem CpR.lit {W : World} {ps qs : List Int} {v0 v3 v4 v7 : Value} {f0 f3 f4 f7 : Bool} {x : World} (h : CpR W ps qs v0 v3 v4 v7 f0 f3 f4 f7 x) (h3 : f3 = false) : CpR W ps qs (.slice (some ⟨x.heap.size, 0, none⟩) 0 0) v3 v4 v7 true f3 f4 f7 (x.alloc (.cells #[] 3)) := by
  have h9 := h.up ((Below.refl x.heap.size x).alloc (Nat.le_refl _) (.cells #[] 3))
  subst h3
  refine ⟨h9.bel, fun _ _ => ⟨_, rfl, own_mono (own_lit0 rfl) h.bel.size⟩, fun e => (by cases e), h9.l4, h9.o7, fun g h1 h2 => ?_⟩
  rcases h1 with ⟨_, _, e⟩ | ⟨e, _⟩
  · have e : x.heap.size = g := by simpa [Value.ownBlock] using e
    have := (h.flip.lt g h2).2.1
    omega
  · cases e
theorem CpR.app {W : World} {ps qs : List Int} {v0 v3 v4 v7 : Value} {f0 f3 f4 f7 : Bool} {x x' : World} {p : Addr} {A : Option Addr} {c : Nat} (h : CpR W ps qs v0 v3 v4 v7 f0 f3 f4 f7 x) (h0 : f0 = true) (h3 : f3 = false) (e0 : v0 = .slice (some p) 0 0) (ho : OwnI x' W.heap.size (.slice A ps.length c) ps) (hb : Below x.heap.size x x')
    (hk : (Value.slice A ps.length c).ownBlock = (Value.slice (some p) 0 0).ownBlock ∨ ∃ g, (Value.slice A ps.length c).ownBlock = some g ∧ x.heap.size ≤ g) : CpR W ps qs v0 (.slice A ps.length c) v4 v7 f0 true f4 f7 x' := by
  have h9 := h.up hb
  refine ⟨h9.bel, fun _ e => (by cases e), fun _ => ⟨A, c, rfl, ho⟩, h9.l4, h9.o7, fun g h1 h2 => ?_⟩
  rcases h1 with ⟨_, e, _⟩ | ⟨_, e⟩
  · cases e
  · rcases hk with hk | ⟨g9, hk, hl⟩
    · rw [hk] at e
      exact h.ap g (.inl ⟨h0, h3, by rw [e0]; exact e⟩) h2
    · rw [hk] at e
      injection e with e
      have := (h.flip.lt g h2).2.1
      omega
/-- The box in the making. -/
structure CpB (W : World) (z : Int) (v3 v7 v10 v11 : Value) (f10 f11 f12 : Bool) (x : World) : Prop where
  b10 : f10 = true → v10 = .agg #[v3, v7, .slice none 0 0, .int .i64 z]
  bx : f11 = true → ∃ g, v11 = .pointer (some ⟨g, 0, none⟩) ∧ W.heap.size ≤ g ∧ g < x.heap.size ∧ (f12 = false → x.heap[g]? = some (.cells #[.slice none 0 0, .slice none 0 0, .slice none 0 0, .int .i64 0] 35 (0, 0))) ∧ (f12 = true → x.heap[g]? = some (.cells #[v3, v7, .slice none 0 0, .int .i64 z] 35 (0, 0)))
theorem CpB.up {W : World} {z : Int} {v3 v7 v10 v11 : Value} {f10 f11 f12 : Bool} {x x' : World} (h : CpB W z v3 v7 v10 v11 f10 f11 f12 x) (hb : Below x.heap.size x x') : CpB W z v3 v7 v10 v11 f10 f11 f12 x' :=
  ⟨h.b10, fun a => by obtain ⟨g, e, h1, h2, h3, h4⟩ := h.bx a; exact ⟨g, e, h1, Nat.lt_of_lt_of_le h2 hb.size, fun b => (hb.block g h2).trans (h3 b), fun b => (hb.block g h2).trans (h4 b)⟩⟩
theorem CpB.upV {W : World} {z : Int} {v3 v7 u3 u7 v10 v11 : Value} {f10 f11 f12 : Bool} {x x' : World} (h : CpB W z v3 v7 v10 v11 f10 f11 f12 x) (hb : Below x.heap.size x x') (h0 : f10 = false) (h2 : f12 = false) : CpB W z u3 u7 v10 v11 f10 f11 f12 x' := by
  have h9 := h.up hb
  subst h0 h2
  exact ⟨fun e => (by cases e), fun a => by obtain ⟨g, e, h1, h2, h3, h4⟩ := h9.bx a; exact ⟨g, e, h1, h2, h3, fun e => (by cases e)⟩⟩
/-- What l5Copy gives. -/
def RetCp (s : S) (w : World) (e : Ending) (w' : World) : Prop :=
  ∃ (P Q D : Option Addr) (p q d lim : Nat), e = .returned (.agg #[.slice P s.put.length p, .slice Q s.why.length q, .slice D s.learned.length d, .int .i64 s.code]) ∧ OwnI w' w.heap.size (.slice P s.put.length p) s.put ∧ OwnI w' w.heap.size (.slice Q s.why.length q) s.why ∧ (∀ g, (Value.slice P s.put.length p).ownBlock = some g → (Value.slice Q s.why.length q).ownBlock ≠ some g ∧ g < lim) ∧ (∀ g, (Value.slice Q s.why.length q).ownBlock = some g → g < lim) ∧
    OwnL Lay.int.slice (fun _ b => lim ≤ b) 26 w' lim (.slice D s.learned.length d) s.learned ∧ w.heap.size ≤ lim ∧ Below w.heap.size w w'
theorem cp_store {x : World} {g : Nat} {u0 u1 u2 u3 : Value} (h : x.heap[g]? = some (.cells #[.slice none 0 0, .slice none 0 0, .slice none 0 0, .int .i64 0] 35 (0, 0))) : ((((x.setCell ⟨g, 0, none⟩ u0).setCell ⟨g, 1, none⟩ u1).setCell ⟨g, 2, none⟩ u2).setCell ⟨g, 3, none⟩ u3).heap[g]? = some (.cells #[u0, u1, u2, u3] 35 (0, 0)) ∧ Gr (fun k => k = g) x ((((x.setCell ⟨g, 0, none⟩ u0).setCell ⟨g, 1, none⟩ u1).setCell ⟨g, 2, none⟩ u2).setCell ⟨g, 3, none⟩ u3) := by
  have f0 := heap_set_same _ g 0 u0 _ _ h
  have f1 := heap_set_same _ g 1 u1 _ _ f0
  have f2 := heap_set_same _ g 2 u2 _ _ f1
  have f3 := heap_set_same _ g 3 u3 _ _ f2
  exact ⟨f3, Gr.set (Gr.set (Gr.set (Gr.set (Gr.refl (fun k => k = g) x) g 0 _ (.inl rfl)) g 1 _ (.inl rfl)) g 2 _ (.inl rfl)) g 3 _ (.inl rfl)⟩
theorem CpR.box {W : World} {ps qs : List Int} {v0 v3 v4 v7 : Value} {f0 f3 f4 f7 : Bool} {x x' : World} {g : Nat} {cs : Array Value} (h : CpR W ps qs v0 v3 v4 v7 f0 f3 f4 f7 x) (hc : x.heap[g]? = some (.cells cs 35 (0, 0))) (hg : Gr (fun k => k = g) x x') (hl : W.heap.size ≤ g) : CpR W ps qs v0 v3 v4 v7 f0 f3 f4 f7 x' := by
  have key : ∀ {v : Value} {n : Nat} {cs' : List Value}, x.ownsRow W.heap.size 3 1 v n cs' → x'.ownsRow W.heap.size 3 1 v n cs' := fun {v n cs'} ho => by
    refine own_of_heap ho fun k hk => hg.block k (ho.lt k hk).2 fun e => ?_
    have e : k = g := e
    subst e
    rcases ho.2 with ⟨rfl, _⟩ | ⟨g9, cap, cur, rfl, hb, hc9, _⟩
    · cases hk
    · have e9 : g9 = k := by simpa [Value.ownBlock] using hk
      subst e9
      rw [hc] at hc9
      injection hc9 with hc9
      injection hc9 with _ hc9 _
      exact absurd hc9 (by decide)
  exact ⟨h.bel.trans (hg.to_below' h.bel.size fun k hk => by have : k = g := hk; omega), fun a b => (h.l0 a b).imp fun p ⟨e, ho⟩ => ⟨e, key ho⟩, fun a => by obtain ⟨A, c, e, ho⟩ := h.o3 a; exact ⟨A, c, e, key ho⟩, fun a b => (h.l4 a b).imp fun p ⟨e, ho⟩ => ⟨e, key ho⟩, fun a => by obtain ⟨A, c, e, ho⟩ := h.o7 a; exact ⟨A, c, e, key ho⟩, h.ap⟩
/-- append of one row, laid in a block of its own. -/
theorem wpList_append_row1 {Q9 : Exit → Act → World → Prop} {ops : Array Oper} {rest : List Oper} {o : Oper} {a : Act} {w : World} {lim g mid : Nat} {A B : Option Addr} {c r : Nat} {xs ys : List (List Int)} {R : List Int} (hgd : o.guard = none) (s x : Operand)
    (ho : o.op = .call { callee := .builtin .append, args := #[s, x], argTypes := #[23, 23] }) (hs : a.eval s = .slice A xs.length c) (hx : a.eval x = .slice (some ⟨g, 0, none⟩) 1 1)
    (hown : OwnL Lay.int.slice (fun _ b => lim ≤ b) 26 w lim (.slice A xs.length c) xs) (hb : w.heap[g]? = some (.cells #[.slice B R.length r] 26 (0, 0))) (hR : OwnI w mid (.slice B R.length r) R) (hm : lim ≤ mid) (hA : ∀ b, (Value.slice A xs.length c).ownBlock = some b → b < mid) (hn : xs.length ≤ 2000000) (hlo : lim ≤ w.heap.size) (hy : ys = xs ++ [R])
    (h : ∀ A' c' w', OwnL Lay.int.slice (fun _ b => lim ≤ b) 26 w' lim (.slice A' ys.length c') ys → w.grownBy w' (Value.slice A xs.length c).ownBlock → wpList Try.prog ops Q9 rest (a.put o.dst (.slice A' ys.length c')) w') : wpList Try.prog ops Q9 (o :: rest) a w := by
  obtain ⟨i0, hi0, hz0, hz1, hz2⟩ := info_parts rowi_info
  have hsrc : Src w 1 (some ⟨g, 0, none⟩) 1 [.slice B R.length r] := by
    have := src_block (m := 1) (size := 1) hb rfl
    simpa using this
  have hcap := OwnI.cap hR
  obtain ⟨A8, c8, e8, _, hsl⟩ := hR.form
  injection e8 with e8
  subst e8
  refine wpList_append_rowsS (L := Lay.int.slice) (Q := fun _ b => lim ≤ b) (G := fun b => mid ≤ b ∧ b < w.heap.size) (news := [.slice B R.length r]) (zs := [R]) hgd s x ho Try.underlying23 hi0 hz0 hz1 hz2 rfl (by show 0 < 1; omega) hs hx hown (fun _ _ _ _ h => h) hsrc (by intro u hu; simp at hu; subst hu; rfl) (fun i y hiy => ?_) (fun e => by cases e) (fun b hb9 => ⟨hb9.2, fun e => by have := hA b e; omega, by omega⟩) hn (by simp) (by omega) hlo hy ?_
  · match i, hiy with
    | 0, hiy =>
      injection hiy with hiy
      subst hiy
      exact ⟨_, ⟨B, r, rfl, hcap, hsl⟩, fun j u hu => by
        match j, hu with
        | 0, hu => exact hu
        | j + 1, hu => simp at hu⟩
    | i + 1, hiy => simp at hiy
  · intro A' c' w' h1 h2 _
    exact h A' c' w' h1 h2
/-- What was learned, so far, in the copy's box. -/
structure Cp5 (xw : World) (g : Nat) (u0 u1 u3 : Value) (zs : List (List Int)) (wr : World) : Prop where
  gr : Gr (fun k => k = g) xw wr
  row : ∃ E e, wr.heap[g]? = some (.cells #[u0, u1, .slice E zs.length e, u3] 35 (0, 0)) ∧ OwnL Lay.int.slice (fun _ b => xw.heap.size ≤ b) 26 wr xw.heap.size (.slice E zs.length e) zs
theorem OwnL.gr9 {w w' : World} {lim : Nat} {T : Nat → Prop} {v : Value} {zs : List (List Int)} (h : OwnL Lay.int.slice (fun _ b => lim ≤ b) 26 w lim v zs) (hg : Gr T w w') (hT : ∀ k, T k → k < lim) : OwnL Lay.int.slice (fun _ b => lim ≤ b) 26 w' lim v zs := by
  have hlt := h.lt
  obtain ⟨cs, h1, h2⟩ := h
  refine ⟨cs, own_of_heap h1 fun g hg' => hg.block g (hlt g hg').2 (fun e => by have := hT g e; have := (hlt g hg').1; omega), fun i x hx => ?_⟩
  obtain ⟨vs, hr, hu⟩ := h2 i x hx
  refine ⟨vs, Lay.int.slice.mono (fun b hb => ⟨Nat.lt_of_lt_of_le hb.1 hg.size, hb.2.1, hb.2.2⟩) (Lay.int.slice.keep (fun b hb => hg.block b hb.1 (fun e => by have := hT b e; have h9 : lim ≤ b := hb.2.2; omega)) hr), hu⟩
/-- The end: the copy is handed out through the box behind. -/
theorem cp_fin {s : S} {w w2 xw wr : World} {b g : Nat} {A8 A7 : Option Addr} {c8 c7 : Nat} (hb : b = w.heap.size) (h2 : w2.heap.size = b + 1 + 1) (hal : Below w.heap.size w w2) (hx : Below w2.heap.size w2 xw) (hc : Cp5 xw g (.slice A8 s.put.length c8) (.slice A7 s.why.length c7) (.int .i64 s.code) s.learned wr) (hg : w2.heap.size ≤ g ∧ g < xw.heap.size) (hbg : xw.heap[g]? = some (.cells #[.slice A8 s.put.length c8, .slice A7 s.why.length c7, .slice none 0 0, .int .i64 s.code] 35 (0, 0)))
    (ho8 : OwnI xw w2.heap.size (.slice A8 s.put.length c8) s.put) (ho7 : OwnI xw w2.heap.size (.slice A7 s.why.length c7) s.why) (hap : ∀ k, (Value.slice A8 s.put.length c8).ownBlock = some k → (Value.slice A7 s.why.length c7).ownBlock ≠ some k) (hB2 : wr.heap[b + 1]? = some (.cells #[.slice none 0 0, .slice none 0 0, .slice none 0 0, .int .i64 0] 35 (0, 0))) {E : Option Addr} {e : Nat} (_he : wr.heap[g]? = some (.cells #[.slice A8 s.put.length c8, .slice A7 s.why.length c7, .slice E s.learned.length e, .int .i64 s.code] 35 (0, 0)))
    (hoe : OwnL Lay.int.slice (fun _ b => xw.heap.size ≤ b) 26 wr xw.heap.size (.slice E s.learned.length e) s.learned) : ((((wr.setCell ⟨b + 1, 0, none⟩ (.slice A8 s.put.length c8)).setCell ⟨b + 1, 1, none⟩ (.slice A7 s.why.length c7)).setCell ⟨b + 1, 2, none⟩ (.slice E s.learned.length e)).setCell ⟨b + 1, 3, none⟩ (.int .i64 s.code)).heap[b + 1]? = some (.cells #[.slice A8 s.put.length c8, .slice A7 s.why.length c7, .slice E s.learned.length e, .int .i64 s.code] 35 (0, 0)) ∧ RetCp s w (.returned (.agg #[.slice A8 s.put.length c8, .slice A7 s.why.length c7, .slice E s.learned.length e, .int .i64 s.code])) ((((wr.setCell ⟨b + 1, 0, none⟩ (.slice A8 s.put.length c8)).setCell ⟨b + 1, 1, none⟩ (.slice A7 s.why.length c7)).setCell ⟨b + 1, 2, none⟩ (.slice E s.learned.length e)).setCell ⟨b + 1, 3, none⟩ (.int .i64 s.code)) := by
  obtain ⟨f3, hgr⟩ := cp_store (x := wr) (u0 := .slice A8 s.put.length c8) (u1 := .slice A7 s.why.length c7) (u2 := .slice E s.learned.length e) (u3 := .int .i64 s.code) hB2
  have hbel : Below w.heap.size w xw := hal.trans (hx.mono hal.size)
  have hrow : ∀ {v : Value} {l : List Int}, OwnI xw w2.heap.size v l → OwnI ((((wr.setCell ⟨b + 1, 0, none⟩ (.slice A8 s.put.length c8)).setCell ⟨b + 1, 1, none⟩ (.slice A7 s.why.length c7)).setCell ⟨b + 1, 2, none⟩ (.slice E s.learned.length e)).setCell ⟨b + 1, 3, none⟩ (.int .i64 s.code)) w2.heap.size v l := fun {v l} ho => by
    refine own_of_heap ho fun k hk => ?_
    have hk9 := ownI_lt ho k hk
    have hkg : k ≠ g := fun e9 => by
      subst e9
      exact rowI_ne ho _ _ hbg (tne (by decide)) hk
    exact (hgr.block k (Nat.lt_of_lt_of_le hk9.2 hc.gr.size) (by show ¬ k = b + 1; omega)).trans (hc.gr.block k hk9.2 hkg)
  refine ⟨f3, A8, A7, E, c8, c7, e, xw.heap.size, rfl, own_low (hrow ho8) hal.size, own_low (hrow ho7) hal.size, fun k hk => ⟨hap k hk, (ownI_lt ho8 k hk).2⟩, fun k hk => (ownI_lt ho7 k hk).2, hoe.gr9 hgr fun k hk => ?_, hbel.size, ?_⟩
  · have hk : k = b + 1 := hk
    have := hx.size
    omega
  · exact (hbel.trans (hc.gr.to_below' hbel.size fun k hk => by have : k = g := hk; omega)).trans (hgr.to_below' (Nat.le_trans hbel.size hc.gr.size) fun k hk => by have : k = b + 1 := hk; omega)
set_option maxRecDepth 100000 in
set_option maxHeartbeats 16000000 in
theorem l5Copy_any (s : S) (P Q D : Option Addr) (p q d : Nat) (w : World) (hP : Lay.int.Rd w P s.put) (hQ : Lay.int.Rd w Q s.why) (hD : Lay.int.slice.Rd w D s.learned) (hp : s.put.length ≤ 1048576) (hq : s.why.length ≤ 1048576) (hd : s.learned.length ≤ 1048576) (hds : ∀ cl ∈ s.learned, cl.length ≤ 1048576) :
    Calls Try.prog 56 #[.agg #[.slice P s.put.length p, .slice Q s.why.length q, .slice D s.learned.length d, .int .i64 s.code]] w (RetCp s w) := by
  have hal1 : Below w.heap.size w (w.alloc (.cells #[.slice P s.put.length p, .slice Q s.why.length q, .slice D s.learned.length d, .int .i64 s.code] 35)) := (Below.refl _ _).alloc (Nat.le_refl _) _
  have hs1 : (w.alloc (.cells #[.slice P s.put.length p, .slice Q s.why.length q, .slice D s.learned.length d, .int .i64 s.code] 35)).heap.size = w.heap.size + 1 := by simp
  have hb1 := heap_alloc_new w (.cells #[.slice P s.put.length p, .slice Q s.why.length q, .slice D s.learned.length d, .int .i64 s.code] 35)
  obtain ⟨w1, hw1⟩ : ∃ w1, w1 = w.alloc (.cells #[.slice P s.put.length p, .slice Q s.why.length q, .slice D s.learned.length d, .int .i64 s.code] 35) := ⟨_, rfl⟩
  rw [← hw1] at hal1 hs1 hb1
  have hal2 : Below w1.heap.size w1 (w1.alloc (.cells #[.slice none 0 0, .slice none 0 0, .slice none 0 0, .int .i64 0] 35)) := (Below.refl _ _).alloc (Nat.le_refl _) _
  have hs2 : (w1.alloc (.cells #[.slice none 0 0, .slice none 0 0, .slice none 0 0, .int .i64 0] 35)).heap.size = w.heap.size + 1 + 1 := by simp [hs1]
  have hb2 := heap_alloc_new w1 (.cells #[.slice none 0 0, .slice none 0 0, .slice none 0 0, .int .i64 0] 35)
  rw [hs1] at hb2
  obtain ⟨w2, hw2⟩ : ∃ w2, w2 = w1.alloc (.cells #[.slice none 0 0, .slice none 0 0, .slice none 0 0, .int .i64 0] 35) := ⟨_, rfl⟩
  rw [← hw2] at hal2 hs2 hb2
  have hw02 := bthen hal1 hal2
  have HB1 := Lib.hid ((hal2.block _ (lt_of_block hb1)).trans hb1)
  have HB2 := Lib.hid hb2
  have HAL := Lib.hid hw02
  have HP := Lib.hid (hP.up hw02)
  have HQ := Lib.hid (hQ.up hw02)
  have HD : Hid (Lay.int.slice.Sl w2 (fun k => k < w.heap.size) D s.learned) := Lib.hid (hD.keep fun k hk => hw02.block k hk)
  have HDS := Lib.hid hds
  have HW1 := Lib.hid hw1
  have HW2 := Lib.hid hw2
  have HS2 := Lib.hid hs2
  clear hP hQ hD hds hal1 hs1 hb1 hal2 hs2 hb2 hw02 hw1 hw2
  go_enter Try.func56, Try.ntmps56
  go_wp2
  rw [← HW1.out, ← HW2.out]
  clear HW1 HW2
  obtain ⟨b, hbe⟩ : ∃ b, b = w.heap.size := ⟨_, rfl⟩
  rw [← hbe] at HB1 HB2 HS2 ⊢
  have HBE := Lib.hid hbe
  clear hbe
  have q0 := Later.cell (cell_of_block HB1.out 0).1
  have q1 := Later.cell (cell_of_block HB1.out 1).1
  have q3 := Later.cell (cell_of_block HB1.out 3).1
  simp at q0 q1 q3
  refine wp_region_rel6 [[], [], [(1, 6)], [(2, 7), (0, 5)], [], [], [(5, 10)], [(6, 11), (4, 9)], [], [(8, 13)], [(9, 14), (3, 8), (7, 12)], [], [(11, 3), (10, 15)]]
    (fun _ _ => True)
    []
    (fun v9 f9 x9 => CpR w2 s.put s.why (v9 0) (v9 3) (v9 4) (v9 7) (f9 0) (f9 3) (f9 4) (f9 7) x9 ∧ CpB w2 s.code (v9 3) (v9 7) (v9 10) (v9 11) (f9 10) (f9 11) (f9 12) x9)
    [fun _ _ => True,
    fun vs9 _ => vs9 1 = (.pointer (some ⟨b, 0, none⟩)),
    fun vs9 _ => vs9 2 = (.slice P s.put.length p),
    fun _ _ => True,
    fun _ _ => True,
    fun vs9 _ => vs9 5 = (.pointer (some ⟨b, 1, none⟩)),
    fun vs9 _ => vs9 6 = (.slice Q s.why.length q),
    fun _ _ => True,
    fun vs9 _ => vs9 8 = (.pointer (some ⟨b, 3, none⟩)),
    fun vs9 _ => vs9 9 = (.int .i64 s.code),
    fun _ _ => True,
    fun _ _ => True,
    fun _ _ => True]
    [(0, 5), (1, 6), (2, 7), (3, 8), (4, 9), (5, 10), (6, 11), (7, 12), (8, 13), (9, 14), (10, 15), (11, 3)] (by kernel_rfl) (by kernel_rfl) (by kernel_rfl) (by kernel_rfl)
    (fun _ => trivial) trivial
    ⟨⟨.inr (fun _ _ _ h _ => h), trivial⟩,
    ⟨.inr (fun _ _ _ h _ => h), trivial⟩,
    ⟨.inr (fun _ _ _ h _ => h), trivial⟩,
    ⟨.inr (fun _ _ _ h _ => h), trivial⟩,
    ⟨.inr (fun _ _ _ h _ => h), trivial⟩,
    ⟨.inr (fun _ _ _ h _ => h), trivial⟩,
    ⟨.inr (fun _ _ _ h _ => h), trivial⟩,
    ⟨.inr (fun _ _ _ h _ => h), trivial⟩,
    ⟨.inr (fun _ _ _ h _ => h), trivial⟩,
    ⟨.inr (fun _ _ _ h _ => h), trivial⟩,
    ⟨.inr (fun _ _ _ h _ => h), trivial⟩,
    ⟨.inr (fun _ _ _ h _ => h), trivial⟩,
    ⟨.inr (fun _ _ _ h _ => h), trivial⟩, trivial⟩ ⟨fun _ _ _ _ _ _ => trivial,
    fun vs vs' x h _ hv => (by dsimp only at hv ⊢; first | (rw [← h]; exact hv) | exact hv),
    fun vs vs' x h _ hv => (by dsimp only at hv ⊢; first | (rw [← h]; exact hv) | exact hv),
    fun _ _ _ _ _ _ => trivial,
    fun _ _ _ _ _ _ => trivial,
    fun vs vs' x h _ hv => (by dsimp only at hv ⊢; first | (rw [← h]; exact hv) | exact hv),
    fun vs vs' x h _ hv => (by dsimp only at hv ⊢; first | (rw [← h]; exact hv) | exact hv),
    fun _ _ _ _ _ _ => trivial,
    fun vs vs' x h _ hv => (by dsimp only at hv ⊢; first | (rw [← h]; exact hv) | exact hv),
    fun vs vs' x h _ hv => (by dsimp only at hv ⊢; first | (rw [← h]; exact hv) | exact hv),
    fun _ _ _ _ _ _ => trivial,
    fun _ _ _ _ _ _ => trivial,
    fun _ _ _ _ _ _ => trivial, trivial⟩ (⟨⟨below_drewN (Below.refl _ _) 1, fun e => absurd e (by simp), fun e => absurd e (by simp), fun e => absurd e (by simp), fun e => absurd e (by simp), fun g h => by rcases h with ⟨e, _⟩ | ⟨e, _⟩ <;> exact absurd e (by simp)⟩, ⟨fun e => absurd e (by simp), fun e => absurd e (by simp)⟩⟩) ⟨?_, ?_, ?_, ?_, ?_, ?_, ?_, ?_, ?_, ?_, ?_, ?_, ?_, trivial⟩ ?_
  · intro vals xw f hf1 hf2 hf3 hI hF
    have k3 : f 3 = false := hf3 3 (by kernel_rfl)
    clear hf2 hf3
    dsimp only [owes6, bare]
    simp only [putsD, Act.put, List.setIfInBounds_toArray, List.set_cons_zero, List.set_cons_succ]
    have HI9 := Lib.hid hI
    clear hI
    go_wp2
    exact ⟨rfl, trivial, trivial, HI9.out.1.lit k3, HI9.out.2.up ((Below.refl _ _).alloc (Nat.le_refl _) _)⟩
  · intro vals xw f hf1 hf2 hf3 hI hF
    clear hf2 hf3
    dsimp only [owes6, bare]
    simp only [putsD, Act.put, List.setIfInBounds_toArray, List.set_cons_zero, List.set_cons_succ]
    go_wp2
    exact ⟨rfl, rfl, trivial, hI⟩
  · intro vals xw f hf1 hf2 hf3 hI hF
    clear hf2 hf3
    simp only [saysD, List.getD_cons_zero, List.getD_cons_succ, and_true] at hF
    have e6 := hF
    dsimp only [owes6, bare]
    simp only [putsD, Act.put, List.setIfInBounds_toArray, List.set_cons_zero, List.set_cons_succ]
    simp only [e6]
    have hbl9 := hI.1.bel
    have c9 : xw.cell? _ = _ := q0 ⟨xw, hbl9⟩
    go_wp2
    exact ⟨rfl, rfl, trivial, hI⟩
  · intro vals xw f hf1 hf2 hf3 hI hF
    have k0 : f 0 = true := hf2 0 (by kernel_rfl)
    have k10 : f 10 = false := hf3 10 (by kernel_rfl)
    have k12 : f 12 = false := hf3 12 (by kernel_rfl)
    clear hf2 hf3
    simp only [saysD, List.getD_cons_zero, List.getD_cons_succ, and_true] at hF
    obtain ⟨p9, e5, own9⟩ := hI.1.l0 k0 hf1
    have e7 := hF
    dsimp only [owes6, bare]
    simp only [putsD, Act.put, List.setIfInBounds_toArray, List.set_cons_zero, List.set_cons_succ]
    simp only [e5, e7]
    have HI9 := Lib.hid hI
    have HO9 := Lib.hid own9
    have HR9 := Lib.hid (HP.out.up hI.1.bel)
    have hlo9 := hI.1.bel.size
    have HE9 := Lib.hid e5
    clear hI own9
    refine wpList_append_cp (ys := s.put) (by rfl) (.tmp 5) (.tmp 7) (by rfl) (by rfl) (by rfl) HO9.out HR9.out (by omega) hlo9 ?_
    intro A9 c9 w9 hown hbl hbk
    exact ⟨rfl, trivial, trivial, (HI9.out.1.app k0 hf1 HE9.out hown hbl hbk), HI9.out.2.upV hbl k10 k12⟩
  · intro vals xw f hf1 hf2 hf3 hI hF
    have k7 : f 7 = false := hf3 7 (by kernel_rfl)
    clear hf2 hf3
    dsimp only [owes6, bare]
    simp only [putsD, Act.put, List.setIfInBounds_toArray, List.set_cons_zero, List.set_cons_succ]
    have HI9 := Lib.hid hI
    clear hI
    go_wp2
    exact ⟨rfl, trivial, trivial, (HI9.out.1.flip.lit k7).flip, HI9.out.2.up ((Below.refl _ _).alloc (Nat.le_refl _) _)⟩
  · intro vals xw f hf1 hf2 hf3 hI hF
    clear hf2 hf3
    dsimp only [owes6, bare]
    simp only [putsD, Act.put, List.setIfInBounds_toArray, List.set_cons_zero, List.set_cons_succ]
    go_wp2
    exact ⟨rfl, rfl, trivial, hI⟩
  · intro vals xw f hf1 hf2 hf3 hI hF
    clear hf2 hf3
    simp only [saysD, List.getD_cons_zero, List.getD_cons_succ, and_true] at hF
    have e10 := hF
    dsimp only [owes6, bare]
    simp only [putsD, Act.put, List.setIfInBounds_toArray, List.set_cons_zero, List.set_cons_succ]
    simp only [e10]
    have hbl9 := hI.1.bel
    have c9 : xw.cell? _ = _ := q1 ⟨xw, hbl9⟩
    go_wp2
    exact ⟨rfl, rfl, trivial, hI⟩
  · intro vals xw f hf1 hf2 hf3 hI hF
    have k4 : f 4 = true := hf2 4 (by kernel_rfl)
    have k10 : f 10 = false := hf3 10 (by kernel_rfl)
    have k12 : f 12 = false := hf3 12 (by kernel_rfl)
    clear hf2 hf3
    simp only [saysD, List.getD_cons_zero, List.getD_cons_succ, and_true] at hF
    obtain ⟨p9, e9, own9⟩ := hI.1.flip.l0 k4 hf1
    have e11 := hF
    dsimp only [owes6, bare]
    simp only [putsD, Act.put, List.setIfInBounds_toArray, List.set_cons_zero, List.set_cons_succ]
    simp only [e9, e11]
    have HI9 := Lib.hid hI
    have HO9 := Lib.hid own9
    have HR9 := Lib.hid (HQ.out.up hI.1.bel)
    have hlo9 := hI.1.bel.size
    have HE9 := Lib.hid e9
    clear hI own9
    refine wpList_append_cp (ys := s.why) (by rfl) (.tmp 9) (.tmp 11) (by rfl) (by rfl) (by rfl) HO9.out HR9.out (by omega) hlo9 ?_
    intro A9 c9 w9 hown hbl hbk
    exact ⟨rfl, trivial, trivial, (HI9.out.1.flip.app k4 hf1 HE9.out hown hbl hbk).flip, HI9.out.2.upV hbl k10 k12⟩
  · intro vals xw f hf1 hf2 hf3 hI hF
    clear hf2 hf3
    dsimp only [owes6, bare]
    simp only [putsD, Act.put, List.setIfInBounds_toArray, List.set_cons_zero, List.set_cons_succ]
    go_wp2
    exact ⟨rfl, rfl, trivial, hI⟩
  · intro vals xw f hf1 hf2 hf3 hI hF
    clear hf2 hf3
    simp only [saysD, List.getD_cons_zero, List.getD_cons_succ, and_true] at hF
    have e13 := hF
    dsimp only [owes6, bare]
    simp only [putsD, Act.put, List.setIfInBounds_toArray, List.set_cons_zero, List.set_cons_succ]
    simp only [e13]
    have hbl9 := hI.1.bel
    have c9 : xw.cell? _ = _ := q3 ⟨xw, hbl9⟩
    go_wp2
    exact ⟨rfl, rfl, trivial, hI⟩
  · intro vals xw f hf1 hf2 hf3 hI hF
    have k3 : f 3 = true := hf2 3 (by kernel_rfl)
    have k7 : f 7 = true := hf2 7 (by kernel_rfl)
    have k12 : f 12 = false := hf3 12 (by kernel_rfl)
    clear hf2 hf3
    simp only [saysD, List.getD_cons_zero, List.getD_cons_succ, and_true] at hF
    have e14 := hF
    obtain ⟨A8, c8, e8, own8⟩ := hI.1.o3 k3
    obtain ⟨A7, c7, e12, own7⟩ := hI.1.o7 k7
    dsimp only [owes6, bare]
    simp only [putsD, Act.put, List.setIfInBounds_toArray, List.set_cons_zero, List.set_cons_succ]
    simp only [e14, e8, e12]
    have HI9 := Lib.hid hI
    have HE9 := Lib.hid (And.intro e8 e12)
    clear hI own8 own7
    go_wp2
    exact ⟨rfl, trivial, trivial, HI9.out.1, ⟨fun _ => by show _ = Value.agg #[vals 3, vals 7, _, _]; rw [HE9.out.1, HE9.out.2]; rfl, HI9.out.2.bx⟩⟩
  · intro vals xw f hf1 hf2 hf3 hI hF
    have k12 : f 12 = false := hf3 12 (by kernel_rfl)
    clear hf2 hf3
    dsimp only [owes6, bare]
    simp only [putsD, Act.put, List.setIfInBounds_toArray, List.set_cons_zero, List.set_cons_succ]
    have HI9 := Lib.hid hI
    clear hI
    have HA9 := Lib.hid ((Below.refl xw.heap.size xw).alloc (Nat.le_refl _) (.cells #[.slice none 0 0, .slice none 0 0, .slice none 0 0, .int .i64 0] 35))
    go_wp2
    exact ⟨rfl, trivial, trivial, HI9.out.1.up HA9.out, ⟨HI9.out.2.b10, fun _ => ⟨_, rfl, HI9.out.1.bel.size, by simp, fun _ => heap_alloc_new _ _, fun e => absurd (k12.symm.trans e) (by simp)⟩⟩⟩
  · intro vals xw f hf1 hf2 hf3 hI hF
    have k3 : f 3 = true := hf2 3 (by kernel_rfl)
    have k7 : f 7 = true := hf2 7 (by kernel_rfl)
    have k10 : f 10 = true := hf2 10 (by kernel_rfl)
    have k11 : f 11 = true := hf2 11 (by kernel_rfl)
    clear hf2 hf3
    simp only [saysD, List.getD_cons_zero, List.getD_cons_succ, and_true] at hF
    have e15 := hI.2.b10 k10
    obtain ⟨g, e3, hg1, hg2, hg3, _⟩ := hI.2.bx k11
    obtain ⟨A8, c8, e8, own8⟩ := hI.1.o3 k3
    obtain ⟨A7, c7, e12, own7⟩ := hI.1.o7 k7
    have hbx := hg3 hf1
    rw [e8, e12] at e15
    dsimp only [owes6, bare]
    simp only [putsD, Act.put, List.setIfInBounds_toArray, List.set_cons_zero, List.set_cons_succ]
    simp only [e3, e15]
    obtain ⟨o0, o0'⟩ := cell_of_block hbx 0
    obtain ⟨o1, o1'⟩ := cell_of_block hbx 1
    obtain ⟨o2, o2'⟩ := cell_of_block hbx 2
    obtain ⟨o3, o3'⟩ := cell_of_block hbx 3
    have HI9 := Lib.hid hI
    have HE9 := Lib.hid (And.intro e8 (And.intro e12 e3))
    have HX9 := Lib.hid (And.intro hg1 hbx)
    clear hI own8 own7 hbx hg3 hg1 hg2
    go_wp2
    have hst := cp_store (x := xw) (u0 := .slice A8 s.put.length c8) (u1 := .slice A7 s.why.length c7) (u2 := .slice none 0 0) (u3 := .int .i64 s.code) HX9.out.2
    refine ⟨rfl, trivial, trivial, HI9.out.1.box HX9.out.2 hst.2 HX9.out.1, ⟨HI9.out.2.b10, fun _ => ⟨g, HE9.out.2.2, HX9.out.1, Nat.lt_of_lt_of_le (lt_of_block HX9.out.2) hst.2.size, fun e => absurd e (by simp [did]), fun _ => ?_⟩⟩⟩
    show _ = some (Obj.cells #[vals 3, vals 7, _, _] _ _)
    rw [HE9.out.1, HE9.out.2.1]
    exact hst.1
  · intro vals xw f hall hI hF
    rw [show List.range _ = [0, 1, 2, 3, 4, 5, 6, 7, 8, 9, 10, 11, 12] from rfl] at hF
    simp only [says, List.getD_cons_zero, List.getD_cons_succ, and_true] at hF
    have HI9 := Lib.hid hI
    obtain ⟨A8, c8, e8, own8⟩ := hI.1.o3 (hall 3 (by decide))
    obtain ⟨A7, c7, e12, own7⟩ := hI.1.o7 (hall 7 (by decide))
    obtain ⟨g, e3, hg1, hg2, _, hbx⟩ := hI.2.bx (hall 11 (by decide))
    have hbx := hbx (hall 12 (by decide))
    rw [e8, e12] at hbx
    have hap : ∀ k, (Value.slice A8 s.put.length c8).ownBlock = some k → (Value.slice A7 s.why.length c7).ownBlock ≠ some k := fun k h1 h2 => hI.1.ap k (.inr ⟨hall 3 (by decide), by rw [e8]; exact h1⟩) (.inr ⟨hall 7 (by decide), by rw [e12]; exact h2⟩)
    simp only [putsD, Act.put, List.setIfInBounds_toArray, List.set_cons_zero, List.set_cons_succ]
    simp only [e3]
    clear e8 e12 e3 hI hall hF q0 q1 q3
    go_wp2
    have HO8 := Lib.hid own8
    have HO7 := Lib.hid own7
    have HAP := Lib.hid hap
    have HBG := Lib.hid hbx
    have HG := Lib.hid (And.intro hg1 hg2)
    have HXB := Lib.hid HI9.out.1.bel
    have HC5 : Hid (Cp5 xw g (.slice A8 s.put.length c8) (.slice A7 s.why.length c7) (.int .i64 s.code) (s.learned.take 0) xw) := Lib.hid ⟨Gr.refl _ _, none, 0, hbx, OwnL.nil _ _ _ _ _⟩
    clear own8 own7 hap hbx hg1 hg2 HI9
    go_loopw [4] (fun i wr => ∃ k : Nat, k ≤ s.learned.length ∧ i = .int .i64 k ∧ Hid (Cp5 xw g (.slice A8 s.put.length c8) (.slice A7 s.why.length c7) (.int .i64 s.code) (s.learned.take k) wr)) (fun i _ => s.learned.length - (intOf i).toNat)
    case atStart => exact ⟨0, Nat.zero_le _, rfl, HC5⟩
    case round =>
      obtain ⟨k, hk, rfl, HC⟩ := hrel
      clear HC5
      obtain ⟨zs, hzs⟩ : ∃ zs, zs = s.learned.take k := ⟨_, rfl⟩
      rw [← hzs] at HC
      have HZS := Lib.hid hzs
      clear hzs
      obtain ⟨E, e, hbe, hoe⟩ := HC.out.row
      have HBE9 := Lib.hid hbe
      have HOE := Lib.hid hoe
      have hb1 : wr.heap[b]? = _ := HC.out.gr.heap (by have := HG.out.1; have := HS2.out; omega) ((HXB.out.block _ (lt_of_block HB1.out)).trans HB1.out)
      have hb2 : wr.heap[b + 1]? = _ := HC.out.gr.heap (by have := HG.out.1; have := HS2.out; omega) ((HXB.out.block _ (lt_of_block HB2.out)).trans HB2.out)
      have HB1R := Lib.hid hb1
      have HB2R := Lib.hid hb2
      obtain ⟨n2, n2'⟩ := cell_of_block hb1 2
      clear hb1 hb2 hbe hoe
      by_cases hlt : k < s.learned.length
      · have h1 : (k : Int) < (s.learned.length : Int) := by omega
        have HDR := Lib.hid (HD.out.keep fun y hy => (HC.out.gr.block y (by have := HG.out; have := HAL.out.size; have h : y < w.heap.size := hy; omega) (by have := HG.out.1; have := HAL.out.size; have h : y < w.heap.size := hy; omega)).trans (HXB.out.block y (by have := HAL.out.size; have h : y < w.heap.size := hy; omega)))
        obtain ⟨ad, A0, c0, hDe, hb0, hc0, _, hs0⟩ := HDR.out.at_slice hlt
        have HROW0 := Lib.hid hs0
        obtain ⟨R, hR⟩ : ∃ R, R = s.learned[k] := ⟨_, rfl⟩
        rw [← hR] at hc0 HROW0
        have HROW : Hid (Lay.int.Rd wr A0 R) := Lib.hid (HROW0.out.mono fun y hy => by have h : y < w.heap.size := hy; have := HAL.out.size; have := HXB.out.size; have := HC.out.gr.size; omega)
        have HRL : Hid (R.length ≤ 1048576) := Lib.hid (by rw [hR]; exact HDS.out _ (List.getElem_mem hlt))
        obtain ⟨ys, hys⟩ : ∃ ys, ys = zs ++ [R] := ⟨_, rfl⟩
        have HYS := Lib.hid hys
        have HYT : Hid (ys = s.learned.take (k + 1)) := Lib.hid (by rw [hys, HZS.out, hR, List.take_append_getElem])
        have hzl : zs.length ≤ 2000000 := by rw [HZS.out, List.length_take]; omega
        have HGW : Hid (g < xw.heap.size) := Lib.hid HG.out.2
        have HGL : Hid (g < wr.heap.size) := Lib.hid (Nat.lt_of_lt_of_le HG.out.2 HC.out.gr.size)
        have HLT : Hid (∀ y, (Value.slice E zs.length e).ownBlock = some y → y < wr.heap.size) := Lib.hid (fun y hy => (HOE.out.lt y hy).2)
        have HEL : Hid (∀ y, (Value.slice E zs.length e).ownBlock = some y → xw.heap.size ≤ y) := Lib.hid (fun y hy => (HOE.out.lt y hy).1)
        have HEG : Hid ((Value.slice E zs.length e).ownBlock ≠ some g) := Lib.hid (fun h => by have := HEL.out g h; have := HG.out.2; omega)
        have r0 := Later.cell (cell_of_block HBE9.out 2).1
        have r1 := Later.cell n2
        have r2 := Later.cell hc0
        simp at r0 r1
        subst hDe
        clear hs0 hb0 hR hys
        go_wp2
        clear n2 n2' hc0
        refine wp_region_rel4 [[], [(0, 23)], [], [], [(3, 26)], [], [(4, 27), (5, 28)], [(6, 29)], [(2, 25), (7, 30)], [(8, 31)], [(1, 24), (9, 32)], [], [(11, 34), (10, 33)]]
          (fun y y' => Below y.heap.size y y')
          [(10, fun y y' => Gr (fun k => (Value.slice E zs.length e).ownBlock = some k) y y'), (12, fun y y' => Gr (fun k => k = g) y y')]
          (fun f9 x9 => (f9 10 = false → Below wr.heap.size wr x9) ∧ (f9 12 = false → Gr (fun k => (Value.slice E zs.length e).ownBlock = some k) wr x9) ∧ Gr (fun k => k = g ∨ (Value.slice E zs.length e).ownBlock = some k) wr x9)
          [fun vs9 _ => vs9 0 = (.pointer (some ⟨g, 2, none⟩)),
        fun vs9 _ => vs9 1 = (.slice E zs.length e),
        fun vs9 y9 => (fun v y => ∃ p, v = .slice (some p) 0 0 ∧ y.ownsRow wr.heap.size 3 1 (.slice (some p) 0 0) 0 []) (vs9 2) y9,
        fun vs9 _ => vs9 3 = (.pointer (some ⟨b, 2, none⟩)),
        fun vs9 _ => vs9 4 = (.slice (some ad) s.learned.length d),
        fun vs9 _ => vs9 5 = (.int .i64 (k : Int)),
        fun vs9 _ => vs9 6 = (.pointer (some (ad.add k))),
        fun vs9 _ => vs9 7 = (.slice A0 R.length c0),
        fun vs9 y9 => (fun v y => ∃ A9 c9, v = .slice A9 R.length c9 ∧ OwnI y wr.heap.size (.slice A9 R.length c9) R) (vs9 8) y9,
        fun vs9 y9 => (fun v y => ∃ h9 A9 c9, v = .slice (some ⟨h9, 0, none⟩) 1 1 ∧ wr.heap.size ≤ h9 ∧ h9 < y.heap.size ∧ y.heap[h9]? = some (.cells #[.slice A9 R.length c9] 26 (0, 0)) ∧ OwnI y wr.heap.size (.slice A9 R.length c9) R) (vs9 9) y9,
        fun vs9 y9 => (fun v y => ∃ E9 e9, v = .slice E9 ys.length e9 ∧ OwnL Lay.int.slice (fun _ b => xw.heap.size ≤ b) 26 y xw.heap.size (.slice E9 ys.length e9) ys) (vs9 10) y9,
        fun vs9 _ => vs9 11 = (.pointer (some ⟨g, 2, none⟩)),
        fun _ y9 => (fun _ y => ∃ E9 e9, y.heap[g]? = some (.cells #[.slice A8 s.put.length c8, .slice A7 s.why.length c7, .slice E9 ys.length e9, .int .i64 s.code] 35 (0, 0)) ∧ OwnL Lay.int.slice (fun _ b => xw.heap.size ≤ b) 26 y xw.heap.size (.slice E9 ys.length e9) ys) undef y9]
          [(0, 23), (1, 24), (2, 25), (3, 26), (4, 27), (5, 28), (6, 29), (7, 30), (8, 31), (9, 32), (10, 33), (11, 34)] (by kernel_rfl) (by kernel_rfl) (by kernel_rfl) (by kernel_rfl)
          (fun _ => Below.refl _ _) ⟨fun _ => Gr.refl _ _, fun _ => Gr.refl _ _, trivial⟩
          ⟨⟨.inr (fun vs9 _ _ (h9 : vs9 0 = (.pointer (some ⟨g, 2, none⟩))) _ => h9), ⟨.inr (.inr (fun _ _ _ h _ => h)), .inr (.inr (fun _ _ _ h _ => h)), trivial⟩⟩,
        ⟨.inr (fun vs9 _ _ (h9 : vs9 1 = (.slice E zs.length e)) _ => h9), ⟨.inr (.inr (fun _ _ _ h _ => h)), .inr (.inr (fun _ _ _ h _ => h)), trivial⟩⟩,
        ⟨.inr (fun vs9 x9 y9 h9 hR9 => (show ∀ v9 y8 y7, (fun v y => ∃ p, v = .slice (some p) 0 0 ∧ y.ownsRow wr.heap.size 3 1 (.slice (some p) 0 0) 0 []) v9 y8 → (fun y y' => Below y.heap.size y y') y8 y7 → (fun v y => ∃ p, v = .slice (some p) 0 0 ∧ y.ownsRow wr.heap.size 3 1 (.slice (some p) 0 0) 0 []) v9 y7 from fun _ _ _ ⟨p, h1, h2⟩ hR => ⟨p, h1, own_below h2 hR (Nat.le_refl _)⟩) (vs9 2) x9 y9 h9 hR9), ⟨.inr (.inr (fun vs9 x9 y9 h9 hR9 => (show ∀ v9 y8 y7, (fun v y => ∃ p, v = .slice (some p) 0 0 ∧ y.ownsRow wr.heap.size 3 1 (.slice (some p) 0 0) 0 []) v9 y8 → (fun y y' => Gr (fun k => (Value.slice E zs.length e).ownBlock = some k) y y') y8 y7 → (fun v y => ∃ p, v = .slice (some p) 0 0 ∧ y.ownsRow wr.heap.size 3 1 (.slice (some p) 0 0) 0 []) v9 y7 from fun _ _ _ ⟨p, h1, h2⟩ hR => ⟨p, h1, own_of_heap h2 fun k hk => hR.block k (h2.lt k hk).2 fun e7 => by have := (fun k (hk : (Value.slice E zs.length e).ownBlock = some k) => HLT.out k hk) k e7; have := (h2.lt k hk).1; omega⟩) (vs9 2) x9 y9 h9 hR9)), .inr (.inr (fun vs9 x9 y9 h9 hR9 => (show ∀ v9 y8 y7, (fun v y => ∃ p, v = .slice (some p) 0 0 ∧ y.ownsRow wr.heap.size 3 1 (.slice (some p) 0 0) 0 []) v9 y8 → (fun y y' => Gr (fun k => k = g) y y') y8 y7 → (fun v y => ∃ p, v = .slice (some p) 0 0 ∧ y.ownsRow wr.heap.size 3 1 (.slice (some p) 0 0) 0 []) v9 y7 from fun _ _ _ ⟨p, h1, h2⟩ hR => ⟨p, h1, own_of_heap h2 fun k hk => hR.block k (h2.lt k hk).2 fun e7 => by have := (fun k (hk : k = g) => Nat.lt_of_le_of_lt (Nat.le_of_eq hk) HGL.out) k e7; have := (h2.lt k hk).1; omega⟩) (vs9 2) x9 y9 h9 hR9)), trivial⟩⟩,
        ⟨.inr (fun vs9 _ _ (h9 : vs9 3 = (.pointer (some ⟨b, 2, none⟩))) _ => h9), ⟨.inr (.inr (fun _ _ _ h _ => h)), .inr (.inr (fun _ _ _ h _ => h)), trivial⟩⟩,
        ⟨.inr (fun vs9 _ _ (h9 : vs9 4 = (.slice (some ad) s.learned.length d)) _ => h9), ⟨.inr (.inr (fun _ _ _ h _ => h)), .inr (.inr (fun _ _ _ h _ => h)), trivial⟩⟩,
        ⟨.inr (fun vs9 _ _ (h9 : vs9 5 = (.int .i64 (k : Int))) _ => h9), ⟨.inr (.inr (fun _ _ _ h _ => h)), .inr (.inr (fun _ _ _ h _ => h)), trivial⟩⟩,
        ⟨.inr (fun vs9 _ _ (h9 : vs9 6 = (.pointer (some (ad.add k)))) _ => h9), ⟨.inr (.inr (fun _ _ _ h _ => h)), .inr (.inr (fun _ _ _ h _ => h)), trivial⟩⟩,
        ⟨.inr (fun vs9 _ _ (h9 : vs9 7 = (.slice A0 R.length c0)) _ => h9), ⟨.inr (.inr (fun _ _ _ h _ => h)), .inr (.inr (fun _ _ _ h _ => h)), trivial⟩⟩,
        ⟨.inr (fun vs9 x9 y9 h9 hR9 => (show ∀ v9 y8 y7, (fun v y => ∃ A9 c9, v = .slice A9 R.length c9 ∧ OwnI y wr.heap.size (.slice A9 R.length c9) R) v9 y8 → (fun y y' => Below y.heap.size y y') y8 y7 → (fun v y => ∃ A9 c9, v = .slice A9 R.length c9 ∧ OwnI y wr.heap.size (.slice A9 R.length c9) R) v9 y7 from fun _ _ _ ⟨A9, c9, h1, h2⟩ hR => ⟨A9, c9, h1, h2.up hR⟩) (vs9 8) x9 y9 h9 hR9), ⟨.inr (.inr (fun vs9 x9 y9 h9 hR9 => (show ∀ v9 y8 y7, (fun v y => ∃ A9 c9, v = .slice A9 R.length c9 ∧ OwnI y wr.heap.size (.slice A9 R.length c9) R) v9 y8 → (fun y y' => Gr (fun k => (Value.slice E zs.length e).ownBlock = some k) y y') y8 y7 → (fun v y => ∃ A9 c9, v = .slice A9 R.length c9 ∧ OwnI y wr.heap.size (.slice A9 R.length c9) R) v9 y7 from fun _ _ _ ⟨A9, c9, h1, h2⟩ hR => ⟨A9, c9, h1, ownI_gr h2 hR (fun k (hk : (Value.slice E zs.length e).ownBlock = some k) => HLT.out k hk)⟩) (vs9 8) x9 y9 h9 hR9)), .inr (.inr (fun vs9 x9 y9 h9 hR9 => (show ∀ v9 y8 y7, (fun v y => ∃ A9 c9, v = .slice A9 R.length c9 ∧ OwnI y wr.heap.size (.slice A9 R.length c9) R) v9 y8 → (fun y y' => Gr (fun k => k = g) y y') y8 y7 → (fun v y => ∃ A9 c9, v = .slice A9 R.length c9 ∧ OwnI y wr.heap.size (.slice A9 R.length c9) R) v9 y7 from fun _ _ _ ⟨A9, c9, h1, h2⟩ hR => ⟨A9, c9, h1, ownI_gr h2 hR (fun k (hk : k = g) => Nat.lt_of_le_of_lt (Nat.le_of_eq hk) HGL.out)⟩) (vs9 8) x9 y9 h9 hR9)), trivial⟩⟩,
        ⟨.inr (fun vs9 x9 y9 h9 hR9 => (show ∀ v9 y8 y7, (fun v y => ∃ h9 A9 c9, v = .slice (some ⟨h9, 0, none⟩) 1 1 ∧ wr.heap.size ≤ h9 ∧ h9 < y.heap.size ∧ y.heap[h9]? = some (.cells #[.slice A9 R.length c9] 26 (0, 0)) ∧ OwnI y wr.heap.size (.slice A9 R.length c9) R) v9 y8 → (fun y y' => Below y.heap.size y y') y8 y7 → (fun v y => ∃ h9 A9 c9, v = .slice (some ⟨h9, 0, none⟩) 1 1 ∧ wr.heap.size ≤ h9 ∧ h9 < y.heap.size ∧ y.heap[h9]? = some (.cells #[.slice A9 R.length c9] 26 (0, 0)) ∧ OwnI y wr.heap.size (.slice A9 R.length c9) R) v9 y7 from fun _ _ _ ⟨h9, A9, c9, h1, h2, h3, h4, h5⟩ hR => ⟨h9, A9, c9, h1, h2, Nat.lt_of_lt_of_le h3 hR.size, (hR.block _ h3).trans h4, h5.up hR⟩) (vs9 9) x9 y9 h9 hR9), ⟨.inr (.inr (fun vs9 x9 y9 h9 hR9 => (show ∀ v9 y8 y7, (fun v y => ∃ h9 A9 c9, v = .slice (some ⟨h9, 0, none⟩) 1 1 ∧ wr.heap.size ≤ h9 ∧ h9 < y.heap.size ∧ y.heap[h9]? = some (.cells #[.slice A9 R.length c9] 26 (0, 0)) ∧ OwnI y wr.heap.size (.slice A9 R.length c9) R) v9 y8 → (fun y y' => Gr (fun k => (Value.slice E zs.length e).ownBlock = some k) y y') y8 y7 → (fun v y => ∃ h9 A9 c9, v = .slice (some ⟨h9, 0, none⟩) 1 1 ∧ wr.heap.size ≤ h9 ∧ h9 < y.heap.size ∧ y.heap[h9]? = some (.cells #[.slice A9 R.length c9] 26 (0, 0)) ∧ OwnI y wr.heap.size (.slice A9 R.length c9) R) v9 y7 from fun _ _ _ ⟨h9, A9, c9, h1, h2, h3, h4, h5⟩ hR => ⟨h9, A9, c9, h1, h2, Nat.lt_of_lt_of_le h3 hR.size, (hR.block _ h3 (fun e7 => by have := (fun k (hk : (Value.slice E zs.length e).ownBlock = some k) => HLT.out k hk) _ e7; omega)).trans h4, ownI_gr h5 hR (fun k (hk : (Value.slice E zs.length e).ownBlock = some k) => HLT.out k hk)⟩) (vs9 9) x9 y9 h9 hR9)), .inr (.inr (fun vs9 x9 y9 h9 hR9 => (show ∀ v9 y8 y7, (fun v y => ∃ h9 A9 c9, v = .slice (some ⟨h9, 0, none⟩) 1 1 ∧ wr.heap.size ≤ h9 ∧ h9 < y.heap.size ∧ y.heap[h9]? = some (.cells #[.slice A9 R.length c9] 26 (0, 0)) ∧ OwnI y wr.heap.size (.slice A9 R.length c9) R) v9 y8 → (fun y y' => Gr (fun k => k = g) y y') y8 y7 → (fun v y => ∃ h9 A9 c9, v = .slice (some ⟨h9, 0, none⟩) 1 1 ∧ wr.heap.size ≤ h9 ∧ h9 < y.heap.size ∧ y.heap[h9]? = some (.cells #[.slice A9 R.length c9] 26 (0, 0)) ∧ OwnI y wr.heap.size (.slice A9 R.length c9) R) v9 y7 from fun _ _ _ ⟨h9, A9, c9, h1, h2, h3, h4, h5⟩ hR => ⟨h9, A9, c9, h1, h2, Nat.lt_of_lt_of_le h3 hR.size, (hR.block _ h3 (fun e7 => by have := (fun k (hk : k = g) => Nat.lt_of_le_of_lt (Nat.le_of_eq hk) HGL.out) _ e7; omega)).trans h4, ownI_gr h5 hR (fun k (hk : k = g) => Nat.lt_of_le_of_lt (Nat.le_of_eq hk) HGL.out)⟩) (vs9 9) x9 y9 h9 hR9)), trivial⟩⟩,
        ⟨.inr (fun vs9 x9 y9 h9 hR9 => (show ∀ v9 y8 y7, (fun v y => ∃ E9 e9, v = .slice E9 ys.length e9 ∧ OwnL Lay.int.slice (fun _ b => xw.heap.size ≤ b) 26 y xw.heap.size (.slice E9 ys.length e9) ys) v9 y8 → (fun y y' => Below y.heap.size y y') y8 y7 → (fun v y => ∃ E9 e9, v = .slice E9 ys.length e9 ∧ OwnL Lay.int.slice (fun _ b => xw.heap.size ≤ b) 26 y xw.heap.size (.slice E9 ys.length e9) ys) v9 y7 from fun _ _ _ ⟨E9, e9, h1, h2⟩ hR => ⟨E9, e9, h1, h2.up (fun _ _ _ _ h => h) hR⟩) (vs9 10) x9 y9 h9 hR9), ⟨.inr (.inl rfl), .inr (.inr (fun vs9 x9 y9 h9 hR9 => (show ∀ v9 y8 y7, (fun v y => ∃ E9 e9, v = .slice E9 ys.length e9 ∧ OwnL Lay.int.slice (fun _ b => xw.heap.size ≤ b) 26 y xw.heap.size (.slice E9 ys.length e9) ys) v9 y8 → (fun y y' => Gr (fun k => k = g) y y') y8 y7 → (fun v y => ∃ E9 e9, v = .slice E9 ys.length e9 ∧ OwnL Lay.int.slice (fun _ b => xw.heap.size ≤ b) 26 y xw.heap.size (.slice E9 ys.length e9) ys) v9 y7 from fun _ _ _ ⟨E9, e9, h1, h2⟩ hR => ⟨E9, e9, h1, h2.gr9 hR (fun k (hk : k = g) => Nat.lt_of_le_of_lt (Nat.le_of_eq hk) HGW.out)⟩) (vs9 10) x9 y9 h9 hR9)), trivial⟩⟩,
        ⟨.inr (fun vs9 _ _ (h9 : vs9 11 = (.pointer (some ⟨g, 2, none⟩))) _ => h9), ⟨.inr (.inr (fun _ _ _ h _ => h)), .inr (.inr (fun _ _ _ h _ => h)), trivial⟩⟩,
        ⟨.inl (by kernel_rfl), ⟨.inl (by kernel_rfl), .inr (.inl rfl), trivial⟩⟩, trivial⟩ ⟨fun vs vs' x h _ hv => (by dsimp only at hv ⊢; first | (rw [← h]; exact hv) | exact hv),
        fun vs vs' x h _ hv => (by dsimp only at hv ⊢; first | (rw [← h]; exact hv) | exact hv),
        fun vs vs' x h _ hv => (by dsimp only at hv ⊢; first | (rw [← h]; exact hv) | exact hv),
        fun vs vs' x h _ hv => (by dsimp only at hv ⊢; first | (rw [← h]; exact hv) | exact hv),
        fun vs vs' x h _ hv => (by dsimp only at hv ⊢; first | (rw [← h]; exact hv) | exact hv),
        fun vs vs' x h _ hv => (by dsimp only at hv ⊢; first | (rw [← h]; exact hv) | exact hv),
        fun vs vs' x h _ hv => (by dsimp only at hv ⊢; first | (rw [← h]; exact hv) | exact hv),
        fun vs vs' x h _ hv => (by dsimp only at hv ⊢; first | (rw [← h]; exact hv) | exact hv),
        fun vs vs' x h _ hv => (by dsimp only at hv ⊢; first | (rw [← h]; exact hv) | exact hv),
        fun vs vs' x h _ hv => (by dsimp only at hv ⊢; first | (rw [← h]; exact hv) | exact hv),
        fun vs vs' x h _ hv => (by dsimp only at hv ⊢; first | (rw [← h]; exact hv) | exact hv),
        fun vs vs' x h _ hv => (by dsimp only at hv ⊢; first | (rw [← h]; exact hv) | exact hv),
        fun vs vs' x h _ hv => (by dsimp only at hv ⊢; first | (rw [← h]; exact hv) | exact hv), trivial⟩ (⟨fun _ => below_drewN (Below.refl _ _) 1, fun _ => Gr.below (below_drewN (Below.refl _ _) 1), Gr.below (below_drewN (Below.refl _ _) 1)⟩) ⟨?_, ?_, ?_, ?_, ?_, ?_, ?_, ?_, ?_, ?_, ?_, ?_, ?_, trivial⟩ ?_
        · intro vals yw f hf1 hf2 hf3 hI hF
          clear hf2 hf3
          dsimp only [owes4, bare]
          simp only [putsD, Act.put, List.setIfInBounds_toArray, List.set_cons_zero, List.set_cons_succ]
          go_wp2
          exact ⟨rfl, rfl, ⟨fun h9 => absurd h9 (Nat.ne_of_beq_eq_false rfl), fun _ => ⟨fun h9 => absurd h9 (Nat.ne_of_beq_eq_false rfl), fun _ => Below.refl _ _⟩⟩, hI⟩
        · intro vals yw f hf1 hf2 hf3 hI hF
          have k10 : f 10 = false := hf3 10 (by kernel_rfl)
          clear hf2 hf3
          simp only [saysD, List.getD_cons_zero, List.getD_cons_succ, and_true] at hF
          have e23 := hF
          dsimp only [owes4, bare]
          simp only [putsD, Act.put, List.setIfInBounds_toArray, List.set_cons_zero, List.set_cons_succ]
          simp only [e23]
          have hbl9 := hI.1 k10
          have c9 : yw.cell? _ = _ := r0 ⟨yw, hbl9⟩
          go_wp2
          exact ⟨rfl, rfl, ⟨fun h9 => absurd h9 (Nat.ne_of_beq_eq_false rfl), fun _ => ⟨fun h9 => absurd h9 (Nat.ne_of_beq_eq_false rfl), fun _ => Below.refl _ _⟩⟩, hI⟩
        · intro vals yw f hf1 hf2 hf3 hI hF
          have k10 : f 10 = false := hf3 10 (by kernel_rfl)
          clear hf2 hf3
          dsimp only [owes4, bare]
          simp only [putsD, Act.put, List.setIfInBounds_toArray, List.set_cons_zero, List.set_cons_succ]
          have HI9 := Lib.hid (hI.1 k10)
          clear hI
          have HA9 := Lib.hid ((Below.refl yw.heap.size yw).alloc (Nat.le_refl _) (.cells #[] 3))
          go_wp2
          exact ⟨rfl, ⟨_, rfl, own_mono (own_lit0 rfl) HI9.out.size⟩, ⟨fun h9 => absurd h9 (Nat.ne_of_beq_eq_false rfl), fun _ => ⟨fun h9 => absurd h9 (Nat.ne_of_beq_eq_false rfl), fun _ => HA9.out⟩⟩, ⟨fun _ => HI9.out.trans (HA9.out.mono HI9.out.size), fun _ => Gr.below (HI9.out.trans (HA9.out.mono HI9.out.size)), Gr.below (HI9.out.trans (HA9.out.mono HI9.out.size))⟩⟩
        · intro vals yw f hf1 hf2 hf3 hI hF
          clear hf2 hf3
          dsimp only [owes4, bare]
          simp only [putsD, Act.put, List.setIfInBounds_toArray, List.set_cons_zero, List.set_cons_succ]
          go_wp2
          exact ⟨rfl, rfl, ⟨fun h9 => absurd h9 (Nat.ne_of_beq_eq_false rfl), fun _ => ⟨fun h9 => absurd h9 (Nat.ne_of_beq_eq_false rfl), fun _ => Below.refl _ _⟩⟩, hI⟩
        · intro vals yw f hf1 hf2 hf3 hI hF
          have k10 : f 10 = false := hf3 10 (by kernel_rfl)
          clear hf2 hf3
          simp only [saysD, List.getD_cons_zero, List.getD_cons_succ, and_true] at hF
          have e26 := hF
          dsimp only [owes4, bare]
          simp only [putsD, Act.put, List.setIfInBounds_toArray, List.set_cons_zero, List.set_cons_succ]
          simp only [e26]
          have hbl9 := hI.1 k10
          have c9 : yw.cell? _ = _ := r1 ⟨yw, hbl9⟩
          go_wp2
          exact ⟨rfl, rfl, ⟨fun h9 => absurd h9 (Nat.ne_of_beq_eq_false rfl), fun _ => ⟨fun h9 => absurd h9 (Nat.ne_of_beq_eq_false rfl), fun _ => Below.refl _ _⟩⟩, hI⟩
        · intro vals yw f hf1 hf2 hf3 hI hF
          clear hf2 hf3
          dsimp only [owes4, bare]
          simp only [putsD, Act.put, List.setIfInBounds_toArray, List.set_cons_zero, List.set_cons_succ]
          go_wp2
          exact ⟨rfl, rfl, ⟨fun h9 => absurd h9 (Nat.ne_of_beq_eq_false rfl), fun _ => ⟨fun h9 => absurd h9 (Nat.ne_of_beq_eq_false rfl), fun _ => Below.refl _ _⟩⟩, hI⟩
        · intro vals yw f hf1 hf2 hf3 hI hF
          clear hf2 hf3
          simp only [saysD, List.getD_cons_zero, List.getD_cons_succ, and_true] at hF
          obtain ⟨e27, e28⟩ := hF
          dsimp only [owes4, bare]
          simp only [putsD, Act.put, List.setIfInBounds_toArray, List.set_cons_zero, List.set_cons_succ]
          simp only [e27, e28]
          go_wp2
          exact ⟨rfl, rfl, ⟨fun h9 => absurd h9 (Nat.ne_of_beq_eq_false rfl), fun _ => ⟨fun h9 => absurd h9 (Nat.ne_of_beq_eq_false rfl), fun _ => Below.refl _ _⟩⟩, hI⟩
        · intro vals yw f hf1 hf2 hf3 hI hF
          have k10 : f 10 = false := hf3 10 (by kernel_rfl)
          clear hf2 hf3
          simp only [saysD, List.getD_cons_zero, List.getD_cons_succ, and_true] at hF
          have e29 := hF
          dsimp only [owes4, bare]
          simp only [putsD, Act.put, List.setIfInBounds_toArray, List.set_cons_zero, List.set_cons_succ]
          simp only [e29]
          have hbl9 := hI.1 k10
          have c9 : yw.cell? _ = _ := r2 ⟨yw, hbl9⟩
          go_wp2
          exact ⟨rfl, rfl, ⟨fun h9 => absurd h9 (Nat.ne_of_beq_eq_false rfl), fun _ => ⟨fun h9 => absurd h9 (Nat.ne_of_beq_eq_false rfl), fun _ => Below.refl _ _⟩⟩, hI⟩
        · intro vals yw f hf1 hf2 hf3 hI hF
          have k10 : f 10 = false := hf3 10 (by kernel_rfl)
          clear hf2 hf3
          simp only [saysD, List.getD_cons_zero, List.getD_cons_succ, and_true] at hF
          obtain ⟨⟨p9, e25, own9⟩, e30⟩ := hF
          dsimp only [owes4, bare]
          simp only [putsD, Act.put, List.setIfInBounds_toArray, List.set_cons_zero, List.set_cons_succ]
          simp only [e25, e30]
          have HI9 := Lib.hid (hI.1 k10)
          clear hI
          have HO9 := Lib.hid own9
          have HR9 := Lib.hid (HROW.out.up HI9.out)
          have hlo9 := HI9.out.size
          clear own9
          refine wpList_append_cp (ys := R) (by rfl) (.tmp 25) (.tmp 30) (by rfl) (by rfl) (by rfl) HO9.out HR9.out HRL.out hlo9 ?_
          intro A9 c9 w9 hown hbl hbk
          exact ⟨rfl, ⟨A9, c9, rfl, hown⟩, ⟨fun h9 => absurd h9 (Nat.ne_of_beq_eq_false rfl), fun _ => ⟨fun h9 => absurd h9 (Nat.ne_of_beq_eq_false rfl), fun _ => hbl⟩⟩, ⟨fun _ => HI9.out.trans (hbl.mono HI9.out.size), fun _ => Gr.below (HI9.out.trans (hbl.mono HI9.out.size)), Gr.below (HI9.out.trans (hbl.mono HI9.out.size))⟩⟩
        · intro vals yw f hf1 hf2 hf3 hI hF
          have k10 : f 10 = false := hf3 10 (by kernel_rfl)
          clear hf2 hf3
          simp only [saysD, List.getD_cons_zero, List.getD_cons_succ, and_true] at hF
          obtain ⟨A9, c9, e31, own9⟩ := hF
          dsimp only [owes4, bare]
          simp only [putsD, Act.put, List.setIfInBounds_toArray, List.set_cons_zero, List.set_cons_succ]
          simp only [e31]
          have HI9 := Lib.hid (hI.1 k10)
          clear hI
          have HO9 := Lib.hid own9
          clear own9
          have HA9 := Lib.hid ((Below.refl yw.heap.size yw).alloc (Nat.le_refl _) (.cells #[.slice A9 R.length c9] 26))
          go_wp2
          exact ⟨rfl, ⟨_, A9, c9, rfl, HI9.out.size, by simp, heap_alloc_new _ _, HO9.out.up HA9.out⟩, ⟨fun h9 => absurd h9 (Nat.ne_of_beq_eq_false rfl), fun _ => ⟨fun h9 => absurd h9 (Nat.ne_of_beq_eq_false rfl), fun _ => HA9.out⟩⟩, ⟨fun _ => HI9.out.trans (HA9.out.mono HI9.out.size), fun _ => Gr.below (HI9.out.trans (HA9.out.mono HI9.out.size)), Gr.below (HI9.out.trans (HA9.out.mono HI9.out.size))⟩⟩
        · intro vals yw f hf1 hf2 hf3 hI hF
          clear hf2 hf3
          simp only [saysD, List.getD_cons_zero, List.getD_cons_succ, and_true] at hF
          obtain ⟨e24, h9, A9, c9, e32, hh1, hh2, hh3, own9⟩ := hF
          dsimp only [owes4, bare]
          simp only [putsD, Act.put, List.setIfInBounds_toArray, List.set_cons_zero, List.set_cons_succ]
          simp only [e24, e32]
          have HI9 := Lib.hid (hI.1 hf1)
          have HO9 := Lib.hid own9
          have HH3 := Lib.hid hh3
          clear hI own9 hh3
          have HE9 := Lib.hid (HOE.out.up (fun _ _ _ _ h => h) HI9.out)
          have hlo9 := Nat.le_trans HC.out.gr.size HI9.out.size
          refine wpList_append_row1 (ys := ys) (by rfl) (.tmp 24) (.tmp 32) (by rfl) (by rfl) (by rfl) HE9.out HH3.out HO9.out HC.out.gr.size HLT.out hzl hlo9 HYS.out ?_
          intro A' c' w9 hown hg9
          have hgr9 : Gr (fun k => (Value.slice E zs.length e).ownBlock = some k) yw w9 := ⟨hg9.os, hg9.tape, hg9.output, hg9.size, fun i hi hn => hg9.block i hi (fun e => hn e.symm)⟩
          exact ⟨rfl, ⟨A', c', rfl, hown⟩, ⟨fun _ => hgr9, fun h9 => absurd rfl h9⟩, fun e => absurd e (by simp [did]), fun _ => (Gr.below HI9.out).trans hgr9, (Gr.below HI9.out).trans (hgr9.mono fun _ h => .inr h)⟩
        · intro vals yw f hf1 hf2 hf3 hI hF
          clear hf2 hf3
          dsimp only [owes4, bare]
          simp only [putsD, Act.put, List.setIfInBounds_toArray, List.set_cons_zero, List.set_cons_succ]
          go_wp2
          exact ⟨rfl, rfl, ⟨fun h9 => absurd h9 (Nat.ne_of_beq_eq_false rfl), fun _ => ⟨fun h9 => absurd h9 (Nat.ne_of_beq_eq_false rfl), fun _ => Below.refl _ _⟩⟩, hI⟩
        · intro vals yw f hf1 hf2 hf3 hI hF
          have k10 : f 10 = true := hf2 10 (by kernel_rfl)
          clear hf2 hf3
          simp only [saysD, List.getD_cons_zero, List.getD_cons_succ, and_true] at hF
          obtain ⟨e34, E9, e9, e33, hown9⟩ := hF
          dsimp only [owes4, bare]
          simp only [putsD, Act.put, List.setIfInBounds_toArray, List.set_cons_zero, List.set_cons_succ]
          simp only [e34, e33]
          have HI9 := Lib.hid (hI.2.1 hf1)
          have HJ9 := Lib.hid hI.2.2
          have HO9 := Lib.hid hown9
          have hbg := HI9.out.heap (fun e => HEG.out e) HBE9.out
          have HBG9 := Lib.hid hbg
          obtain ⟨o2, o2'⟩ := cell_of_block hbg 2
          clear hI hown9 hbg
          go_wp2
          have f2 := heap_set_same _ g 2 (.slice E9 ys.length e9) _ _ HBG9.out
          have hgr9 : Gr (fun k => k = g) yw (yw.setCell ⟨g, 2, none⟩ (.slice E9 ys.length e9)) := Gr.set (Gr.refl (fun k => k = g) yw) g 2 _ (.inl rfl)
          exact ⟨rfl, ⟨E9, e9, by simpa using f2, HO9.out.gr9 hgr9 (fun k (hk : k = g) => Nat.lt_of_le_of_lt (Nat.le_of_eq hk) HGW.out)⟩, ⟨fun h9 => absurd h9 (Nat.ne_of_beq_eq_false rfl), fun _ => ⟨fun _ => hgr9, fun h9 => absurd rfl h9⟩⟩, fun e => absurd (k10.symm.trans e) (by simp), fun e => absurd e (by simp [did]), HJ9.out.trans (hgr9.mono fun _ h => .inl h)⟩
        · intro vals yw f hall hI hF
          rw [show List.range _ = [0, 1, 2, 3, 4, 5, 6, 7, 8, 9, 10, 11, 12] from rfl] at hF
          simp only [says, List.getD_cons_zero, List.getD_cons_succ, and_true] at hF
          obtain ⟨E9, e9, hbx9, hoe9⟩ := hF.2.2.2.2.2.2.2.2.2.2.2.2
          have HN : Hid (Cp5 xw g (.slice A8 s.put.length c8) (.slice A7 s.why.length c7) (.int .i64 s.code) (s.learned.take (k + 1)) yw) := Lib.hid (by rw [← HYT.out]; exact ⟨HC.out.gr.then hI.2.2 (fun y hy => hy.imp id fun h => HEL.out y h), E9, e9, hbx9, hoe9⟩)
          clear hI hF hall hbx9 hoe9 r0 r1 r2
          simp only [putsD, Act.put, List.setIfInBounds_toArray, List.set_cons_zero, List.set_cons_succ]
          go_wp2
          go_roundw
          case rel => exact ⟨k + 1, by omega, by go_num, HN⟩
          case measure => simp [intOf]; omega
      · have h1 : ¬ (k : Int) < (s.learned.length : Int) := by omega
        have HZF : Hid (zs = s.learned) := Lib.hid (by rw [HZS.out, List.take_of_length_le (by omega)])
        have hzl := HZF.out
        subst hzl
        have hfin := cp_fin HBE.out HS2.out HAL.out HXB.out HC.out HG.out HBG.out HO8.out HO7.out HAP.out HB2R.out HBE9.out HOE.out
        have HFI := Lib.hid hfin
        obtain ⟨o0, o0'⟩ := cell_of_block HB2R.out 0
        obtain ⟨o1, o1'⟩ := cell_of_block HB2R.out 1
        obtain ⟨o2, o2'⟩ := cell_of_block HB2R.out 2
        obtain ⟨o3, o3'⟩ := cell_of_block HB2R.out 3
        obtain ⟨m0, m0'⟩ := cell_of_block HBE9.out 0
        obtain ⟨m1, m1'⟩ := cell_of_block HBE9.out 1
        obtain ⟨m2, m2'⟩ := cell_of_block HBE9.out 2
        obtain ⟨m3, m3'⟩ := cell_of_block HBE9.out 3
        clear hfin
        go_wp2
        have hfin := HFI.out
        generalize ((((wr.setCell ⟨b + 1, 0, none⟩ (.slice A8 s.put.length c8)).setCell ⟨b + 1, 1, none⟩ (.slice A7 s.why.length c7)).setCell ⟨b + 1, 2, none⟩ (.slice E s.learned.length e)).setCell ⟨b + 1, 3, none⟩ (.int .i64 s.code)) = w9 at *
        obtain ⟨hbx, hres⟩ := hfin
        have HRES := Lib.hid hres
        clear hres
        have e0 := (cell_of_block hbx 0).1
        have e1 := (cell_of_block hbx 1).1
        have e2 := (cell_of_block hbx 2).1
        have e3 := (cell_of_block hbx 3).1
        simp at e0 e1 e2 e3
        refine bodyPost_ret (v := .agg #[.slice A8 s.put.length c8, .slice A7 s.why.length c7, .slice E s.learned.length e, .int .i64 s.code]) (by simp [results, Try.results56, go_sem, e0, e1, e2, e3]) rfl ?_
        exact HRES.out
end Go.Proofs.Ytbljfhmcebgdaaa
