/- The reference's draws of searches: a row turns. The reference's draws of searches: one clause more is learned. -/
import Derived.Test.YtbljfhmcebgdaaaJFnSatBent16
/-! The reference's draws of searches: a row turns. -/
namespace Go.Proofs.Ytbljfhmcebgdaaa
open Go Go.RowKit

/-- The search with another row of marks, and the boxes below. -/
def KPut (b g : Nat) (cn : Array Value) (FL : Nat → Prop) (s : S) (Q D : Option Addr) (q' d' : Nat) : RowK := fun A c xs x =>
  StR b g FL ⟨xs, s.why, s.learned, s.code⟩ A Q D c q' d' x ∧ x.heap[b + 1]? = some (.cells #[.slice none 0 0, .slice none 0 0, .slice none 0 0, .int .i64 0] 35 (0, 0)) ∧ x.heap[b]? = some (.cells cn 25 (0, 0))
def KWhy (b g : Nat) (cn : Array Value) (FL : Nat → Prop) (s : S) (P D : Option Addr) (p' d' : Nat) : RowK := fun A c xs x =>
  StR b g FL ⟨s.put, xs, s.learned, s.code⟩ P A D p' c d' x ∧ x.heap[b + 1]? = some (.cells #[.slice none 0 0, .slice none 0 0, .slice none 0 0, .int .i64 0] 35 (0, 0)) ∧ x.heap[b]? = some (.cells cn 25 (0, 0))
section
variable {w X x : World} {b r g off : Nat} {q : Int} {cn : Array Value} {FL : Nat → Prop} {s : S} {P Q D : Option Addr} {p' q' d' : Nat} {lit : List Int} {v3 v4 v5 v6 v7 v8 : Value} {f3 f4 f5 f6 f7 f8 f9 : Bool}
theorem kPutB (hgb : b + 1 < g) : KOk b g (KPut b g cn FL s Q D q' d') :=
  ⟨fun h => h.1.put, fun h hg hT => ⟨h.1.gr hg hT, hg.heap (fun e => by have := hT _ e; omega) h.2.1, hg.heap (fun e => by have := hT _ e; omega) h.2.2⟩,
    fun h ho hg hk => ⟨h.1.putRow ho hg hk, (hg.block _ (lt_of_block h.2.1) fun e => rowI_box h.1.put h.2.1 e.symm).trans h.2.1, (hg.block _ (lt_of_block h.2.2) fun e => rowI_ne h.1.put b _ h.2.2 (tne (by decide)) e.symm).trans h.2.2⟩,
    fun h hb hg => ⟨h.1.box hb hg, hg.heap (by show ¬ b + 1 = g; omega) h.2.1, hg.heap (by show ¬ b = g; omega) h.2.2⟩, fun h => h.1.glo⟩
theorem kWhyB (hgb : b + 1 < g) : KOk b g (KWhy b g cn FL s P D p' d') :=
  ⟨fun h => h.1.why, fun h hg hT => ⟨h.1.gr hg hT, hg.heap (fun e => by have := hT _ e; omega) h.2.1, hg.heap (fun e => by have := hT _ e; omega) h.2.2⟩,
    fun h ho hg hk => ⟨h.1.whyRow ho hg hk, (hg.block _ (lt_of_block h.2.1) fun e => rowI_box h.1.why h.2.1 e.symm).trans h.2.1, (hg.block _ (lt_of_block h.2.2) fun e => rowI_ne h.1.why b _ h.2.2 (tne (by decide)) e.symm).trans h.2.2⟩,
    fun h hb hg => ⟨h.1.box hb hg, hg.heap (by show ¬ b + 1 = g; omega) h.2.1, hg.heap (by show ¬ b = g; omega) h.2.2⟩, fun h => h.1.glo⟩
theorem StA.startPut (h : StA w b r q cn g FL s P Q D p' q' d' X) : ApI w r q g 0 #[.slice P s.put.length p', .slice Q s.why.length q', .slice D s.learned.length d', .int .i64 s.code] (KPut b g cn FL s Q D q' d') P p' s.put lit v3 v4 v5 v6 false false false false false (X.drewN 1) :=
  ApI.start (kPutB h.gb) (by exact ⟨h.so, h.b4, h.b3⟩) h.gr h.rd h.bx
theorem StA.endPut (h : StA w b r q cn g FL s P Q D p' q' d' X) (hI : ApI w r q g 0 #[.slice P s.put.length p', .slice Q s.why.length q', .slice D s.learned.length d', .int .i64 s.code] (KPut b g cn FL s Q D q' d') P p' s.put lit v3 v4 v5 v6 f3 f4 f5 f6 f8 x) (h4 : f4 = true) (h6 : f6 = true) (h8 : f8 = true) :
    ∃ (A : Option Addr) (c : Nat) (y : Int), okInt y ∧ StA w b r (q + 1) cn g FL ⟨s.put ++ [y], s.why, s.learned, s.code⟩ A Q D c q' d' x := by
  subst h4 h6 h8
  obtain ⟨h1, h2, h3, _, _, _, h7, _, h9⟩ := hI
  obtain ⟨A, c, y, k1, k2, k3⟩ := h7 rfl
  have hb := h9 rfl
  rw [k1] at hb
  exact ⟨A, c, y, k2, k3.1, by simpa using hb, k3.2.1, k3.2.2, h.fl, (h3 rfl).1, h1, h.gb, h.rb, h.eb⟩
theorem StA.beginPut {gp : Nat} (h : StA w b r q cn g FL s (some ⟨gp, 0, none⟩) Q D p' q' d' X) : ElI w r q g gp #[.slice (some ⟨gp, 0, none⟩) s.put.length p', .slice Q s.why.length q', .slice D s.learned.length d', .int .i64 s.code] (KPut b g cn FL s Q D q' d') p' s.put lit v4 v6 v7 v8 false false false false false (X.drewN 1) :=
  ElI.start (kPutB h.gb) (by exact ⟨h.so, h.b4, h.b3⟩) h.gr h.rd h.bx
theorem StA.closePut {gp : Nat} (h : StA w b r q cn g FL s (some ⟨gp, 0, none⟩) Q D p' q' d' X) (hI : ElI w r q g gp #[.slice (some ⟨gp, 0, none⟩) s.put.length p', .slice Q s.why.length q', .slice D s.learned.length d', .int .i64 s.code] (KPut b g cn FL s Q D q' d') p' s.put lit v4 v6 v7 v8 f4 f6 f7 f8 f9 x) (h7 : f7 = true) (h9 : f9 = true) :
    ∃ (k : Nat) (y : Int), okInt y ∧ StA w b r (q + 1 + 1) cn g FL ⟨s.put.set k y, s.why, s.learned, s.code⟩ (some ⟨gp, 0, none⟩) Q D p' q' d' x := by
  subst h7 h9
  obtain ⟨h1, _, _, _, h5, _, _, h8, hb⟩ := hI
  obtain ⟨k, y, k2, k3⟩ := h8 rfl
  exact ⟨k, y, k2, k3.1, by simpa using hb, k3.2.1, k3.2.2, h.fl, (h5 rfl).1, h1, h.gb, h.rb, h.eb⟩
theorem StA.startWhy (h : StA w b r q cn g FL s P Q D p' q' d' X) : ApI w r q g 1 #[.slice P s.put.length p', .slice Q s.why.length q', .slice D s.learned.length d', .int .i64 s.code] (KWhy b g cn FL s P D p' d') Q q' s.why lit v3 v4 v5 v6 false false false false false (X.drewN 1) :=
  ApI.start (kWhyB h.gb) (by exact ⟨h.so, h.b4, h.b3⟩) h.gr h.rd h.bx
theorem StA.endWhy (h : StA w b r q cn g FL s P Q D p' q' d' X) (hI : ApI w r q g 1 #[.slice P s.put.length p', .slice Q s.why.length q', .slice D s.learned.length d', .int .i64 s.code] (KWhy b g cn FL s P D p' d') Q q' s.why lit v3 v4 v5 v6 f3 f4 f5 f6 f8 x) (h4 : f4 = true) (h6 : f6 = true) (h8 : f8 = true) :
    ∃ (A : Option Addr) (c : Nat) (y : Int), okInt y ∧ StA w b r (q + 1) cn g FL ⟨s.put, s.why ++ [y], s.learned, s.code⟩ P A D p' c d' x := by
  subst h4 h6 h8
  obtain ⟨h1, h2, h3, _, _, _, h7, _, h9⟩ := hI
  obtain ⟨A, c, y, k1, k2, k3⟩ := h7 rfl
  have hb := h9 rfl
  rw [k1] at hb
  exact ⟨A, c, y, k2, k3.1, by simpa using hb, k3.2.1, k3.2.2, h.fl, (h3 rfl).1, h1, h.gb, h.rb, h.eb⟩
theorem StA.beginWhy {gp : Nat} (h : StA w b r q cn g FL s P (some ⟨gp, 0, none⟩) D p' q' d' X) : ElI w r q g gp #[.slice P s.put.length p', .slice (some ⟨gp, 0, none⟩) s.why.length q', .slice D s.learned.length d', .int .i64 s.code] (KWhy b g cn FL s P D p' d') q' s.why lit v4 v6 v7 v8 false false false false false (X.drewN 1) :=
  ElI.start (kWhyB h.gb) (by exact ⟨h.so, h.b4, h.b3⟩) h.gr h.rd h.bx
theorem StA.closeWhy {gp : Nat} (h : StA w b r q cn g FL s P (some ⟨gp, 0, none⟩) D p' q' d' X) (hI : ElI w r q g gp #[.slice P s.put.length p', .slice (some ⟨gp, 0, none⟩) s.why.length q', .slice D s.learned.length d', .int .i64 s.code] (KWhy b g cn FL s P D p' d') q' s.why lit v4 v6 v7 v8 f4 f6 f7 f8 f9 x) (h7 : f7 = true) (h9 : f9 = true) :
    ∃ (k : Nat) (y : Int), okInt y ∧ StA w b r (q + 1 + 1) cn g FL ⟨s.put, s.why.set k y, s.learned, s.code⟩ P (some ⟨gp, 0, none⟩) D p' q' d' x := by
  subst h7 h9
  obtain ⟨h1, _, _, _, h5, _, _, h8, hb⟩ := hI
  obtain ⟨k, y, k2, k3⟩ := h8 rfl
  exact ⟨k, y, k2, k3.1, by simpa using hb, k3.2.1, k3.2.2, h.fl, (h5 rfl).1, h1, h.gb, h.rb, h.eb⟩
end
theorem okS.addPut {n : Nat} {s : S} {y : Int} (h : okS n s) (hy : okInt y) : okS (n + 1) ⟨s.put ++ [y], s.why, s.learned, s.code⟩ :=
  ⟨by show (s.put ++ [y]).length ≤ _; rw [List.length_append, List.length_singleton]; have := h.put; omega, by have := h.why; show s.why.length ≤ _; omega, by have := h.lrn; show s.learned.length ≤ _; omega, mem_snoc9 h.puts hy, h.whys, h.cls, h.code⟩
theorem okS.addWhy {n : Nat} {s : S} {y : Int} (h : okS n s) (hy : okInt y) : okS (n + 1) ⟨s.put, s.why ++ [y], s.learned, s.code⟩ :=
  ⟨by have := h.put; show s.put.length ≤ _; omega, by show (s.why ++ [y]).length ≤ _; rw [List.length_append, List.length_singleton]; have := h.why; omega, by have := h.lrn; show s.learned.length ≤ _; omega, h.puts, mem_snoc9 h.whys hy, h.cls, h.code⟩
theorem okS.setPut {n k : Nat} {s : S} {y : Int} (h : okS n s) (hy : okInt y) : okS n ⟨s.put.set k y, s.why, s.learned, s.code⟩ :=
  ⟨by show (s.put.set k y).length ≤ _; rw [List.length_set]; exact h.put, h.why, h.lrn, mem_set9 h.puts hy, h.whys, h.cls, h.code⟩
theorem okS.setWhy {n k : Nat} {s : S} {y : Int} (h : okS n s) (hy : okInt y) : okS n ⟨s.put, s.why.set k y, s.learned, s.code⟩ :=
  ⟨h.put, by show (s.why.set k y).length ≤ _; rw [List.length_set]; exact h.why, h.lrn, h.puts, mem_set9 h.whys hy, h.cls, h.code⟩
theorem okS.short {n k m : Nat} {s : S} (h : okS n s) : okS n ⟨s.put.take k, s.why.take m, s.learned, s.code⟩ :=
  ⟨by show (s.put.take k).length ≤ _; rw [List.length_take]; have := h.put; omega, by show (s.why.take m).length ≤ _; rw [List.length_take]; have := h.why; omega, h.lrn, fun l hl => h.puts l (List.mem_of_mem_take hl), fun l hl => h.whys l (List.mem_of_mem_take hl), h.cls, h.code⟩
theorem okS.addLrn {n : Nat} {s : S} {cl : List Int} (h : okS n s) (hl : cl.length ≤ 700) (hy : ∀ l ∈ cl, okInt l) : okS (n + 1) ⟨s.put, s.why, s.learned ++ [cl], s.code⟩ :=
  ⟨by have := h.put; show s.put.length ≤ _; omega, by have := h.why; show s.why.length ≤ _; omega, by show (s.learned ++ [cl]).length ≤ _; rw [List.length_append, List.length_singleton]; have := h.lrn; omega, h.puts, h.whys, fun c hc => by
    rcases List.mem_append.1 hc with hc | hc
    · exact h.cls c hc
    · rw [List.mem_singleton.1 hc]; exact ⟨hl, hy⟩, h.code⟩
theorem ownI_first {w : World} {base c : Nat} {A : Option Addr} {xs : List Int} (h : OwnI w base (.slice A xs.length c) xs) (hx : 0 < xs.length) : ∃ g, A = some ⟨g, 0, none⟩ := by
  rcases h.2 with ⟨_, h2⟩ | ⟨g, cap, cur, h1, _⟩
  · omega
  · injection h1 with h1; exact ⟨g, h1⟩
theorem ownI_cell {w : World} {base g c k : Nat} {xs : List Int} (h : OwnI w base (.slice (some ⟨g, 0, none⟩) xs.length c) xs) (hk : k < xs.length) : w.cell? ⟨g, k, none⟩ = some (.int .i64 xs[k]) ∧ w.frozen? ⟨g, k, none⟩ = false := by
  refine ⟨?_, World.ownsRow.frozenAt h k⟩
  rw [World.ownsRow.cellAt h k (by omega), List.getElem?_map, List.getElem?_eq_getElem hk]
  rfl
theorem own_eq (A : Option Addr) (n m c : Nat) : (Value.slice A n c).ownBlock = (Value.slice A m c).ownBlock := by cases A <;> rfl
theorem StA.shortPut {w X : World} {b r g n : Nat} {q : Int} {cn : Array Value} {FL : Nat → Prop} {s : S} {P Q D : Option Addr} {p' q' d' : Nat} (h : StA w b r q cn g FL s P Q D p' q' d' X) (hn : n ≤ s.put.length) :
    StA w b r q cn g FL ⟨s.put.take n, s.why, s.learned, s.code⟩ P Q D p' q' d' (X.setCell ⟨g, 0, none⟩ (.slice P (s.put.take n).length p')) :=
  (h.addPut (h.so.put.short hn) (World.grownBy.refl _ _) (.inl (own_eq ..))).2
theorem StA.shortWhy {w X : World} {b r g n : Nat} {q : Int} {cn : Array Value} {FL : Nat → Prop} {s : S} {P Q D : Option Addr} {p' q' d' : Nat} (h : StA w b r q cn g FL s P Q D p' q' d' X) (hn : n ≤ s.why.length) :
    StA w b r q cn g FL ⟨s.put, s.why.take n, s.learned, s.code⟩ P Q D p' q' d' (X.setCell ⟨g, 1, none⟩ (.slice Q (s.why.take n).length q')) :=
  (h.addWhy (h.so.why.short hn) (World.grownBy.refl _ _) (.inl (own_eq ..))).2
end Go.Proofs.Ytbljfhmcebgdaaa

/-! The reference's draws of searches: one clause more is learned. -/
namespace Go.Proofs.Ytbljfhmcebgdaaa
open Go Go.RowKit

theorem OwnL.monoQ8 {w : World} {lo : Nat} {F G : Nat → Prop} {v : Value} {zs : List (List Int)} (h : OwnL Lay.int.slice (fun _ b => F b) 26 w lo v zs) (hFG : ∀ b, F b → G b) : OwnL Lay.int.slice (fun _ b => G b) 26 w lo v zs := by
  obtain ⟨cs, h1, h2⟩ := h
  refine ⟨cs, h1, fun i x hx => ?_⟩
  obtain ⟨vs, hr, hu⟩ := h2 i x hx
  exact ⟨vs, Lay.int.slice.mono (fun b hb => ⟨hb.1, hb.2.1, hFG b hb.2.2⟩) hr, hu⟩
set_option maxRecDepth 100000 in
theorem wpList_append_lrn {Q9 : Exit → Act → World → Prop} {ops : Array Oper} {rest : List Oper} {o : Oper} {a : Act} {x : World} {lo g b5 b6 : Nat} {FL : Nat → Prop} {s : S} {P Q D : Option Addr} {p' q' d' : Nat} {y : Int} {ys : List (List Int)} (hgd : o.guard = none) (s9 x9 : Operand)
    (ho : o.op = .call { callee := .builtin .append, args := #[s9, x9], argTypes := #[23, 23] }) (hs : a.eval s9 = .slice D s.learned.length d') (hx : a.eval x9 = .slice (some ⟨b6, 0, none⟩) 1 1) (hso : StR lo g FL s P Q D p' q' d' x)
    (hb6 : x.heap[b6]? = some (.cells #[.slice (some ⟨b5, 0, none⟩) 1 1] 26 (0, 0))) (h5 : Lay.int.Sl x (fun k => k = b5) (some ⟨b5, 0, none⟩) [y])
    (h5' : lo ≤ b5 ∧ b5 < x.heap.size ∧ b5 ≠ g ∧ (Value.slice P s.put.length p').ownBlock ≠ some b5 ∧ (Value.slice Q s.why.length q').ownBlock ≠ some b5 ∧ (Value.slice D s.learned.length d').ownBlock ≠ some b5) (hn : s.learned.length ≤ 2000000) (hys : ys = s.learned ++ [[y]])
    (h : ∀ D9 d9 z, StR lo g (fun k => FL k ∨ k = b5) ⟨s.put, s.why, ys, s.code⟩ P Q D9 p' q' d9 z → x.grownBy z (Value.slice D s.learned.length d').ownBlock → wpList Try.prog ops Q9 rest (a.put o.dst (.slice D9 ys.length d9)) z) : wpList Try.prog ops Q9 (o :: rest) a x := by
  obtain ⟨i0, hi0, hz0, hz1, hz2⟩ := info_parts rowi_info
  refine wpList_append_rowAt (P := Try.prog) (L := Lay.int.slice) (Q := fun _ k => FL k ∨ k = b5) (G := fun k => k = b5) (lo := lo) (A := D) (c := d') (xs := s.learned) (ys := ys) (x := [y]) (cs := #[.slice (some ⟨b5, 0, none⟩) 1 1]) (ad := ⟨b6, 0, none⟩) (k9 := 1) hgd s9 x9 ho Try.underlying23 hi0 hz0 hz1 hz2 rfl (by show 0 < 1; omega) hs hx (fun j u hu => ?_) (hso.lrn.monoQ8 fun _ h => .inl h) (fun _ _ _ _ h => h) ⟨_, 1, rfl, by simp, h5⟩ (fun k hk => by subst hk; exact ⟨h5'.2.1, h5'.2.2.2.2.2, .inr rfl⟩) (by simp [Value.oneCell']) hn (by omega) (by have := hso.glo; omega) hys ?_
  · rcases j with _ | j
    · injection hu with hu
      subst hu
      exact (cell_of_block hb6 0).1
    · simp at hu
  · intro D9 d9 z hown hg hbk
    refine h D9 d9 z ⟨own_of_heap hso.put fun k hk => hg.block k (hso.put.lt k hk).2 fun e => hso.lrn.neI hso.put hk e.symm, own_of_heap hso.why fun k hk => hg.block k (hso.why.lt k hk).2 fun e => hso.lrn.neI hso.why hk e.symm, hown, hso.apart, fun k hk => ?_, hso.glo.1, Nat.lt_of_lt_of_le hso.glo.2 hg.size⟩ hg
    rcases hk with hk | hk
    · exact ⟨(hso.fl k hk).1, Nat.lt_of_lt_of_le (hso.fl k hk).2.1 hg.size, (hso.fl k hk).2.2⟩
    · subst hk
      exact ⟨h5'.1, Nat.lt_of_lt_of_le h5'.2.1 hg.size, h5'.2.2.1, h5'.2.2.2.1, h5'.2.2.2.2.1⟩
/-- pick 3, number 4, its row 5, its list 6, append 7, store 9. -/
def LrI (w : World) (b r : Nat) (q : Int) (cn : Array Value) (g : Nat) (FL : Nat → Prop) (s : S) (P Q D : Option Addr) (p' q' d' : Nat) (v3 v4 v5 v6 v7 : Value) (f3 f4 f5 f6 f7 f9 : Bool) (x : World) : Prop :=
  (Gr (IsR r) w x ∧ x.heap[b + 1]? = some (.cells #[.slice none 0 0, .slice none 0 0, .slice none 0 0, .int .i64 0] 35 (0, 0)) ∧ x.heap[b]? = some (.cells cn 25 (0, 0))) ∧
  (f3 = false → Rdr x r q) ∧ (f3 = true → Rdr x r (q + 1) ∧ ∃ y : Int, v3 = .int .i64 y ∧ 0 ≤ y ∧ y < 9) ∧ (f4 = true → ∃ y : Int, v4 = .int .i64 y ∧ okInt y) ∧
  (f5 = true → f7 = false → ∃ b5 y, v5 = .slice (some ⟨b5, 0, none⟩) 1 1 ∧ okInt y ∧ Lay.int.Sl x (fun k => k = b5) (some ⟨b5, 0, none⟩) [y] ∧ (b + 1 < b5 ∧ b5 < x.heap.size ∧ b5 ≠ g ∧ (Value.slice P s.put.length p').ownBlock ≠ some b5 ∧ (Value.slice Q s.why.length q').ownBlock ≠ some b5 ∧ (Value.slice D s.learned.length d').ownBlock ≠ some b5)) ∧
  (f6 = true → f7 = false → ∃ b6, v6 = .slice (some ⟨b6, 0, none⟩) 1 1 ∧ x.heap[b6]? = some (.cells #[v5] 26 (0, 0))) ∧
  (f7 = false → StR b g FL s P Q D p' q' d' x) ∧ (f7 = true → ∃ (D9 : Option Addr) (d9 : Nat) (y : Int) (FL9 : Nat → Prop) (ys : List (List Int)), ys = s.learned ++ [[y]] ∧ v7 = .slice D9 ys.length d9 ∧ okInt y ∧ StR b g FL9 ⟨s.put, s.why, ys, s.code⟩ P Q D9 p' q' d9 x ∧ ∀ k, FL9 k → b + 1 < k) ∧
  (f9 = false → x.heap[g]? = some (.cells #[.slice P s.put.length p', .slice Q s.why.length q', .slice D s.learned.length d', .int .i64 s.code] 35 (0, 0))) ∧ (f9 = true → x.heap[g]? = some (.cells #[.slice P s.put.length p', .slice Q s.why.length q', v7, .int .i64 s.code] 35 (0, 0)))
section
variable {w X x z : World} {b r g : Nat} {q : Int} {cn : Array Value} {FL : Nat → Prop} {s : S} {P Q D : Option Addr} {p' q' d' : Nat} {v3 v4 v5 v6 v7 : Value} {f3 f4 f5 f6 f7 f9 : Bool}
theorem LrI.up (h : LrI w b r q cn g FL s P Q D p' q' d' v3 v4 v5 v6 v7 f3 f4 f5 f6 f7 f9 x) (hb : Below x.heap.size x z) : LrI w b r q cn g FL s P Q D p' q' d' v3 v4 v5 v6 v7 f3 f4 f5 f6 f7 f9 z := by
  obtain ⟨⟨h1, h1b, h1c⟩, h2, h3, h4, h5, h6, h7, h8, h9, h10⟩ := h
  have bk : ∀ {k : Nat} {o : Obj}, x.heap[k]? = some o → z.heap[k]? = some o := fun h => (hb.block _ (lt_of_block h)).trans h
  refine ⟨⟨h1.up hb, bk h1b, bk h1c⟩, fun e => (h2 e).up hb, fun e => ⟨(h3 e).1.up hb, (h3 e).2⟩, h4, fun e e' => ?_, fun e e' => (h6 e e').imp fun b6 ⟨k1, k2⟩ => ⟨k1, bk k2⟩, fun e => (h7 e).up hb, fun e => ?_, fun e => bk (h9 e), fun e => bk (h10 e)⟩
  · obtain ⟨b5, y, k1, k2, k3, k4⟩ := h5 e e'
    exact ⟨b5, y, k1, k2, k3.keep fun k hk => hb.block k (by rw [show k = b5 from hk]; exact k4.2.1), k4.1, Nat.lt_of_lt_of_le k4.2.1 hb.size, k4.2.2⟩
  · obtain ⟨D9, d9, y, FL9, ys, k1, k2, k3, k4, k5⟩ := h8 e
    exact ⟨D9, d9, y, FL9, ys, k1, k2, k3, k4.up hb, k5⟩
theorem LrI.start (h : StA w b r q cn g FL s P Q D p' q' d' X) : LrI w b r q cn g FL s P Q D p' q' d' v3 v4 v5 v6 v7 false false false false false false (X.drewN 1) := by
  have hbl : Below X.heap.size X (X.drewN 1) := below_drewN (Below.refl _ _) 1
  have h := h.up hbl
  exact ⟨⟨h.gr, h.b4, h.b3⟩, fun _ => h.rd, fun e => absurd e (by simp), fun e => absurd e (by simp), fun e => absurd e (by simp), fun e => absurd e (by simp), fun _ => h.so, fun e => absurd e (by simp), fun _ => h.bx, fun e => absurd e (by simp)⟩
theorem LrI.pick {y : Int} (h : LrI w b r q cn g FL s P Q D p' q' d' v3 v4 v5 v6 v7 f3 f4 f5 f6 f7 f9 x) (h3 : f3 = false) (h5 : f5 = false) (h6 : f6 = false) (h7 : f7 = false) (h9 : f9 = false) (hr : r < b) (y0 : 0 ≤ y) (y1 : y < 9) (hR : Rdr z r (q + 1)) (hg : Gr (IsR r) x z) : LrI w b r q cn g FL s P Q D p' q' d' (.int .i64 y) v4 v5 v6 v7 true f4 f5 f6 f7 f9 z := by
  subst h3 h5 h6 h7 h9
  obtain ⟨⟨h1, h1b, h1c⟩, h2, h3, h4, h5, h6, h7, h8, h9, h10⟩ := h
  have ne : ∀ k, b ≤ k → ¬ IsR r k := fun k hk e => by have e : k = r := e; omega
  have so := h7 rfl
  have hgl := so.glo.1
  exact ⟨⟨h1.trans hg, hg.heap (ne _ (Nat.le_succ b)) h1b, hg.heap (ne _ (Nat.le_refl _)) h1c⟩, fun e => absurd e (by simp), fun _ => ⟨hR, y, rfl, y0, y1⟩, h4, fun e => absurd e (by simp), fun e => absurd e (by simp), fun _ => so.gr hg (fun k hk => by have hk : k = r := hk; omega), fun e => absurd e (by simp), fun _ => hg.heap (ne _ hgl) (h9 rfl), fun e => absurd e (by simp)⟩
theorem LrI.sub {y : Int} (h : LrI w b r q cn g FL s P Q D p' q' d' v3 v4 v5 v6 v7 f3 f4 f5 f6 f7 f9 x) (hy : okInt y) : LrI w b r q cn g FL s P Q D p' q' d' v3 (.int .i64 y) v5 v6 v7 f3 true f5 f6 f7 f9 x := by
  obtain ⟨h1, h2, h3, h4, h5, h6, h7, h8, h9, h10⟩ := h
  exact ⟨h1, h2, h3, fun _ => ⟨y, rfl, hy⟩, h5, h6, h7, h8, h9, h10⟩
theorem LrI.row {y : Int} (h : LrI w b r q cn g FL s P Q D p' q' d' v3 v4 v5 v6 v7 f3 f4 f5 f6 f7 f9 x) (h6 : f6 = false) (h7 : f7 = false) (hy : okInt y) : LrI w b r q cn g FL s P Q D p' q' d' v3 v4 (.slice (some ⟨x.heap.size, 0, none⟩) 1 1) v6 v7 f3 f4 true f6 f7 f9 (x.alloc (.cells #[.int .i64 y] 3)) := by
  subst h6 h7
  have so := h.2.2.2.2.2.2.1 rfl
  have hb4 := lt_of_block h.1.2.1
  have hsl : Lay.int.Sl (x.alloc (.cells #[.int .i64 y] 3)) (fun k => k = x.heap.size) (some ⟨x.heap.size, 0, none⟩) [y] := sl_block (rd_one x y)
  obtain ⟨h1, h2, h3, h4, h5, h6, h7, h8, h9, h10⟩ := h.up ((Below.refl _ _).alloc (Nat.le_refl _) (.cells #[.int .i64 y] 3))
  exact ⟨h1, h2, h3, h4, fun _ _ => ⟨x.heap.size, y, rfl, hy, hsl, hb4, by simp, by have := so.glo.2; omega, fun e => by have := (so.put.lt _ e).2; omega, fun e => by have := (so.why.lt _ e).2; omega, fun e => by have := (so.lrn.lt _ e).2; omega⟩, fun e => absurd e (by simp), h7, h8, h9, h10⟩
theorem LrI.list {b5 : Nat} (h : LrI w b r q cn g FL s P Q D p' q' d' v3 v4 v5 v6 v7 f3 f4 f5 f6 f7 f9 x) (e5 : v5 = .slice (some ⟨b5, 0, none⟩) 1 1) : LrI w b r q cn g FL s P Q D p' q' d' v3 v4 v5 (.slice (some ⟨x.heap.size, 0, none⟩) 1 1) v7 f3 f4 f5 true f7 f9 (x.alloc (.cells #[.slice (some ⟨b5, 0, none⟩) 1 1] 26)) := by
  obtain ⟨h1, h2, h3, h4, h5, h6, h7, h8, h9, h10⟩ := h.up ((Below.refl _ _).alloc (Nat.le_refl _) (.cells #[.slice (some ⟨b5, 0, none⟩) 1 1] 26))
  exact ⟨h1, h2, h3, h4, h5, fun _ _ => ⟨_, rfl, by rw [e5]; exact heap_alloc_new _ _⟩, h7, h8, h9, h10⟩
theorem LrI.app {y : Int} {b5 d9 : Nat} {D9 : Option Addr} {ys : List (List Int)} (h : LrI w b r q cn g FL s P Q D p' q' d' v3 v4 v5 v6 v7 f3 f4 f5 f6 f7 f9 x) (hw : b = w.heap.size) (h3 : f3 = true) (h7 : f7 = false) (h9 : f9 = false) (hr : r < b) (hfl : ∀ k, FL k → b + 1 < k) (h5 : b + 1 < b5) (hy : okInt y) (hys : ys = s.learned ++ [[y]])
    (hso : StR b g (fun k => FL k ∨ k = b5) ⟨s.put, s.why, ys, s.code⟩ P Q D9 p' q' d9 z) (hg : x.grownBy z (Value.slice D s.learned.length d').ownBlock) : LrI w b r q cn g FL s P Q D p' q' d' v3 v4 v5 v6 (.slice D9 ys.length d9) f3 f4 f5 f6 true f9 z := by
  subst h3 h7 h9
  obtain ⟨⟨h1, h1b, h1c⟩, h2, h3, h4, h5, h6, h7, h8, h9, h10⟩ := h
  have so := h7 rfl
  have hlt := so.lrn.lt
  have ne : ∀ {k : Nat} {cs : Array Value} {t : TypeId}, x.heap[k]? = some (.cells cs t (0, 0)) → t ≠ 26 → z.heap[k]? = some (.cells cs t (0, 0)) := fun {k cs t} hb ht => (hg.block _ (lt_of_block hb) fun e => so.lrn.ne8 k _ hb (fun _ _ e => by injection e with _ e _; exact ht e) e.symm).trans hb
  exact ⟨⟨h1.own hg (fun k e => by have := (hlt k e).1; omega), ne h1b (by decide), ne h1c (by decide)⟩, fun e => absurd e (by simp), fun _ => ⟨(h3 rfl).1.own hg (fun k e => by have := (hlt k e).1; omega), (h3 rfl).2⟩, h4, fun _ e => absurd e (by simp), fun _ e => absurd e (by simp), fun e => absurd e (by simp), fun _ => ⟨D9, d9, y, _, ys, hys, rfl, hy, hso, fun k hk => hk.elim (hfl k) fun e => by omega⟩, fun _ => ne (h9 rfl) (by decide), fun e => absurd e (by simp)⟩
theorem LrI.store (h : LrI w b r q cn g FL s P Q D p' q' d' v3 v4 v5 v6 v7 f3 f4 f5 f6 f7 f9 x) (hw : b = w.heap.size) (hgb : b + 1 < g) (h3 : f3 = true) (h7 : f7 = true) (h9 : f9 = false) (hr : r < b) : LrI w b r q cn g FL s P Q D p' q' d' v3 v4 v5 v6 v7 f3 f4 f5 f6 f7 true (x.setCell ⟨g, 2, none⟩ v7) := by
  subst h3 h7 h9
  obtain ⟨⟨h1, h1b, h1c⟩, h2, h3, h4, h5, h6, h7, h8, h9, h10⟩ := h
  obtain ⟨D9, d9, y, FL9, ys, k1, k2, k3, k4, k5⟩ := h8 rfl
  have hg : Gr (fun k => k = g) x (x.setCell ⟨g, 2, none⟩ v7) := Gr.set (Gr.refl (fun k => k = g) x) g 2 v7 (.inl rfl)
  exact ⟨⟨h1.set g 2 v7 (.inr (by omega)), hg.heap (by show ¬ b + 1 = g; omega) h1b, hg.heap (by show ¬ b = g; omega) h1c⟩, fun e => absurd e (by simp), fun _ => ⟨(h3 rfl).1.set (by omega), (h3 rfl).2⟩, h4, fun _ e => absurd e (by simp), fun _ e => absurd e (by simp), fun e => absurd e (by simp), fun _ => ⟨D9, d9, y, FL9, ys, k1, k2, k3, k4.box (h9 rfl) hg, k5⟩, fun e => absurd e (by simp), fun _ => by simpa using heap_set_same x g 2 v7 _ _ (h9 rfl)⟩
theorem LrI.fin (h : LrI w b r q cn g FL s P Q D p' q' d' v3 v4 v5 v6 v7 f3 f4 f5 f6 f7 f9 x) (h0 : StA w b r q cn g FL s P Q D p' q' d' X) (h3 : f3 = true) (h7 : f7 = true) (h9 : f9 = true) : ∃ (D9 : Option Addr) (d9 : Nat) (y : Int) (FL9 : Nat → Prop), okInt y ∧ StA w b r (q + 1) cn g FL9 ⟨s.put, s.why, s.learned ++ [[y]], s.code⟩ P Q D9 p' q' d9 x := by
  subst h3 h7 h9
  obtain ⟨⟨h1, h1b, h1c⟩, h2, h3, h4, h5, h6, h7, h8, h9, h10⟩ := h
  obtain ⟨D9, d9, y, FL9, ys, k1, k2, k3, k4, k5⟩ := h8 rfl
  have hb := h10 rfl
  rw [k2] at hb
  subst k1
  exact ⟨D9, d9, y, FL9, k3, k4, hb, h1b, h1c, k5, (h3 rfl).1, h1, h0.gb, h0.rb, h0.eb⟩
end
end Go.Proofs.Ytbljfhmcebgdaaa
