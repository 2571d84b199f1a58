/- The reference's search: l5Back. append of a whole slice onto a row of the call's own whose elements lead to other blocks. No program is named here. -/
import Derived.Test.YtbljfhmcebgdaaaJFnSatBent0
import Derived.Test.YtbljfhmcebgdaaaJFnSatBent4
import Derived.Test.YtbljfhmcebgdaaaJFnSatBent9
/-! The reference's search: l5Back. -/
namespace Go.Proofs.Ytbljfhmcebgdaaa
open Go Go.RowKit

theorem below_setE {B : Nat} {w X : World} {p : Addr} (h : Below B w X) (hp : B ≤ p.block) (u : Value) : Below B w (X.setCell p u) :=
  ⟨h.os, h.tape, h.output, by simpa [World.setCell] using h.size, fun b hb => (Below.heap_setCell X p u b (by omega)).trans (h.block b hb)⟩
/-- append of some integers onto a row of the call's own. -/
theorem wpList_append_intsC {Q : Exit → Act → World → Prop} {ops : Array Oper} {rest : List Oper} {o : Oper} {a : Act} {w : World} {lo : Nat} {A Y : Option Addr} {c cy : Nat} {xs ys zs : List Int} (hgd : o.guard = none) (s y : Operand)
    (ho : o.op = .call { callee := .builtin .append, args := #[s, y], argTypes := #[26, 26] }) (hs : a.eval s = .slice A xs.length c) (hy : a.eval y = .slice Y ys.length cy)
    (hown : OwnI w lo (.slice A xs.length c) xs) (hY : Lay.int.Rd w Y ys) (hYn : Y = none → ys.length = 0) (hn : xs.length + ys.length ≤ 1048576) (hlo : lo ≤ w.heap.size) (hzs : zs = xs ++ ys)
    (h : ∀ A' c' w', OwnI w' lo (.slice A' zs.length c') zs → Below lo w w' → w.grownBy w' (Value.slice A xs.length c).ownBlock → wpList Try.prog ops Q rest (a.put o.dst (.slice A' zs.length c')) w') : wpList Try.prog ops Q (o :: rest) a w := by
  obtain ⟨i0, hi0, hz0, hz1, hz2⟩ := info_parts int_info
  have hl : zs.length = xs.length + ys.length := by rw [hzs]; simp
  have hc : zs.map (Value.int .i64) = xs.map (Value.int .i64) ++ ys.map (Value.int .i64) := by rw [hzs]; simp
  refine wpList_append_src (P := Try.prog) w hgd s y 26 ho lo 3 i0 _ 1 8 Try.underlying26 hi0 hz0 hz1 hz2 (by rfl) (by omega) _ xs.length (xs.map (Value.int .i64)) hs hown Y ys.length cy (ys.map (Value.int .i64)) hy (src_ints hY) (ints_one _) zs.length hl.symm (by unfold maxLen; omega) (by omega) hlo hYn ?_
  intro A' c' w' h2 h4 h3
  have h9 : OwnI w' lo (.slice A' zs.length c') zs := by unfold OwnI; rw [hc]; exact h2
  exact h A' c' w' h9 h4 h3
theorem size_int (W : World) : (sizeOf (Try.prog.elem 26)).run Try.prog W = .ok Lay.int.size W := by
  obtain ⟨i0, hi0, hz0, hz1, hz2⟩ := info_parts int_info
  have he : Try.prog.elem 26 = 3 := by kernel_rfl
  rw [he]
  unfold sizeOf
  simp [hi0, hz1]
  rfl
/-- s[:m] of a row that is read. -/
theorem slice_hI {w : World} {F : Nat → Prop} {A : Option Addr} {xs : List Int} {c : Nat} (h : Lay.int.Sl w F A xs) (m : Nat) (hm : m ≤ xs.length) (hc : xs.length ≤ c) :
    (∀ W : World, (Instr.slice 26 (.slice A xs.length c) none (some (.int .i64 (m : Int))) none).run Try.prog W = .ok (.slice A (xs.take m).length c) W) := by
  have hlen : (xs.take m).length = m := by rw [List.length_take]; omega
  refine fun W => ?_
  have ht : Try.prog.underlying 26 = some (.slice (Try.prog.elem 26)) := by
    rw [show Try.prog.elem 26 = 3 by kernel_rfl]; exact Try.underlying26
  rw [run_slice_h (P := Try.prog) (w := W) 26 A xs.length c ht .i64 (m : Int) (by omega) (by omega), size_int W, hlen]
  show Result.ok (sliced A 0 m c Lay.int.size) W = _
  unfold sliced
  rw [Nat.sub_zero, Nat.sub_zero, Nat.zero_mul]
  rcases A with _ | ad
  · simp
  · have e : ad.add 0 = ad := rfl
    simp [e]
theorem none_len {w : World} {F : Nat → Prop} {A : Option Addr} {xs : List Int} (h : Lay.int.Sl w F A xs) : A = none → xs.length = 0 := fun e => by
  rcases Nat.eq_zero_or_pos xs.length with h9 | h9
  · exact h9
  · obtain ⟨a9, e9, _⟩ := h h9
    rw [e] at e9; cases e9
/-- Rows of the call's own, apart from each other. -/
def RetBk (s : S) (ps qs : List Int) (D : Option Addr) (d : Nat) (w : World) (e : Ending) (w' : World) : Prop :=
  ∃ (P Q : Option Addr) (p q : Nat), e = .returned (.agg #[.slice P ps.length p, .slice Q qs.length q, .slice D s.learned.length d, .int .i64 s.code]) ∧ OwnI w' w.heap.size (.slice P ps.length p) ps ∧ OwnI w' w.heap.size (.slice Q qs.length q) qs ∧ (∀ g, (Value.slice P ps.length p).ownBlock = some g → (Value.slice Q qs.length q).ownBlock ≠ some g) ∧ Below w.heap.size w w'
theorem own_low {w : World} {b b' : Nat} {v : Value} {l : List Int} (h : OwnI w b v l) (hb : b' ≤ b) : OwnI w b' v l := ⟨h.1, h.2.imp id fun ⟨g, cap, cur, e, hg, r⟩ => ⟨g, cap, cur, e, Nat.le_trans hb hg, r⟩⟩
/-- After the first copy: the boxes, what is still to be copied. -/
structure Bk1 (w : World) (b : Nat) (s : S) (P Q D : Option Addr) (p q d : Nat) (ps qs : List Int) (A5 : Option Addr) (c5 : Nat) (w5 : World) : Prop where
  eb : b = w.heap.size
  bel : Below w.heap.size w w5
  b1 : w5.heap[b]? = some (.cells #[.slice P s.put.length p, .slice Q s.why.length q, .slice D s.learned.length d, .int .i64 s.code] 35 (0, 0))
  b2 : w5.heap[b + 1]? = some (.cells #[.slice none 0 0, .slice none 0 0, .slice none 0 0, .int .i64 0] 35 (0, 0))
  row : OwnI w5 (b + 1 + 1) (.slice A5 ps.length c5) ps
  le : w5.heap.size ≤ ((w5.setCell ⟨b, 0, none⟩ (.slice A5 ps.length c5)).alloc (.cells #[] 3)).heap.size
  x1 : ((w5.setCell ⟨b, 0, none⟩ (.slice A5 ps.length c5)).alloc (.cells #[] 3)).cell? ⟨b, 1, none⟩ = some (.slice Q s.why.length q)
  qrd : Lay.int.Rd ((w5.setCell ⟨b, 0, none⟩ (.slice A5 ps.length c5)).alloc (.cells #[] 3)) Q qs
theorem back_first {w w2 w5 : World} {b : Nat} {s : S} {P Q D : Option Addr} {p q d : Nat} {ps qs : List Int} {A5 : Option Addr} {c5 : Nat} (h1 : w2.heap[b]? = some (.cells #[.slice P s.put.length p, .slice Q s.why.length q, .slice D s.learned.length d, .int .i64 s.code] 35 (0, 0))) (h2 : w2.heap[b + 1]? = some (.cells #[.slice none 0 0, .slice none 0 0, .slice none 0 0, .int .i64 0] 35 (0, 0))) (hq : Lay.int.Sl w2 (fun y => y < w.heap.size) Q qs) (hal : Below w.heap.size w w2) (hb : b = w.heap.size) (hs : w2.heap.size = b + 1 + 1)
    (hown : OwnI w5 w2.heap.size (.slice A5 ps.length c5) ps) (hbl : Below w2.heap.size (w2.alloc (.cells #[] 3)) w5) : Bk1 w b s P Q D p q d ps qs A5 c5 w5 := by
  have hal3 : Below w2.heap.size w2 (w2.alloc (.cells #[] 3)) := (Below.refl _ _).alloc (Nat.le_refl _) _
  have h25 := hal3.trans hbl
  have k1 := (h25.block _ (lt_of_block h1)).trans h1
  have k2 := (h25.block _ (lt_of_block h2)).trans h2
  have hal6 : Below (w5.setCell ⟨b, 0, none⟩ (.slice A5 ps.length c5)).heap.size (w5.setCell ⟨b, 0, none⟩ (.slice A5 ps.length c5)) ((w5.setCell ⟨b, 0, none⟩ (.slice A5 ps.length c5)).alloc (.cells #[] 3)) := (Below.refl _ _).alloc (Nat.le_refl _) _
  have k3 := heap_set_same w5 b 0 (.slice A5 ps.length c5) _ _ k1
  have k4 := (hal6.block _ (lt_of_block k3)).trans k3
  have hsz := h25.size
  have hsz6 := hal6.size
  have hszs : (w5.setCell ⟨b, 0, none⟩ (.slice A5 ps.length c5)).heap.size = w5.heap.size := by simp [World.setCell]
  refine ⟨hb, hal.trans (h25.mono (by rw [hs, hb]; omega)), k1, k2, by rw [← hs]; exact hown, by rw [hszs] at hsz6; exact hsz6, (cell_of_block k4 1).1, ?_⟩
  refine (hq.keep fun y hy => ?_).mono fun y hy => by have h9 : y < w.heap.size := hy; omega
  have h9 : y < w.heap.size := hy
  rw [hal6.block y (by omega), Below.heap_setCell w5 ⟨b, 0, none⟩ _ y (by show y ≠ b; omega), h25.block y (by omega)]
/-- After the second copy. -/
structure Bk2 (w : World) (b : Nat) (s : S) (P Q D : Option Addr) (p q d : Nat) (ps qs : List Int) (A5 A6 : Option Addr) (c5 c6 : Nat) (w6 : World) : Prop where
  b1 : w6.heap[b]? = some (.cells #[.slice A5 ps.length c5, .slice Q s.why.length q, .slice D s.learned.length d, .int .i64 s.code] 35 (0, 0))
  cells : (w6.setCell ⟨b, 1, none⟩ (.slice A6 qs.length c6)).cell? ⟨b, 0, none⟩ = some (.slice A5 ps.length c5) ∧ (w6.setCell ⟨b, 1, none⟩ (.slice A6 qs.length c6)).cell? ⟨b, 1, none⟩ = some (.slice A6 qs.length c6) ∧ (w6.setCell ⟨b, 1, none⟩ (.slice A6 qs.length c6)).cell? ⟨b, 2, none⟩ = some (.slice D s.learned.length d) ∧ (w6.setCell ⟨b, 1, none⟩ (.slice A6 qs.length c6)).cell? ⟨b, 3, none⟩ = some (.int .i64 s.code)
  outs : ((w6.setCell ⟨b, 1, none⟩ (.slice A6 qs.length c6)).cell? ⟨b + 1, 0, none⟩ = some (.slice none 0 0) ∧ (w6.setCell ⟨b, 1, none⟩ (.slice A6 qs.length c6)).frozen? ⟨b + 1, 0, none⟩ = false) ∧ ((w6.setCell ⟨b, 1, none⟩ (.slice A6 qs.length c6)).cell? ⟨b + 1, 1, none⟩ = some (.slice none 0 0) ∧ (w6.setCell ⟨b, 1, none⟩ (.slice A6 qs.length c6)).frozen? ⟨b + 1, 1, none⟩ = false) ∧ ((w6.setCell ⟨b, 1, none⟩ (.slice A6 qs.length c6)).cell? ⟨b + 1, 2, none⟩ = some (.slice none 0 0) ∧ (w6.setCell ⟨b, 1, none⟩ (.slice A6 qs.length c6)).frozen? ⟨b + 1, 2, none⟩ = false) ∧ ((w6.setCell ⟨b, 1, none⟩ (.slice A6 qs.length c6)).cell? ⟨b + 1, 3, none⟩ = some (.int .i64 0) ∧ (w6.setCell ⟨b, 1, none⟩ (.slice A6 qs.length c6)).frozen? ⟨b + 1, 3, none⟩ = false)
  fin : (((((w6.setCell ⟨b, 1, none⟩ (.slice A6 qs.length c6)).setCell ⟨b + 1, 0, none⟩ (.slice A5 ps.length c5)).setCell ⟨b + 1, 1, none⟩ (.slice A6 qs.length c6)).setCell ⟨b + 1, 2, none⟩ (.slice D s.learned.length d)).setCell ⟨b + 1, 3, none⟩ (.int .i64 s.code)).heap[b + 1]? = some (.cells #[.slice A5 ps.length c5, .slice A6 qs.length c6, .slice D s.learned.length d, .int .i64 s.code] 35 (0, 0)) ∧ RetBk s ps qs D d w (.returned (.agg #[.slice A5 ps.length c5, .slice A6 qs.length c6, .slice D s.learned.length d, .int .i64 s.code])) (((((w6.setCell ⟨b, 1, none⟩ (.slice A6 qs.length c6)).setCell ⟨b + 1, 0, none⟩ (.slice A5 ps.length c5)).setCell ⟨b + 1, 1, none⟩ (.slice A6 qs.length c6)).setCell ⟨b + 1, 2, none⟩ (.slice D s.learned.length d)).setCell ⟨b + 1, 3, none⟩ (.int .i64 s.code))
theorem back_second {w w5 w6 : World} {b : Nat} {s : S} {P Q D : Option Addr} {p q d : Nat} {ps qs : List Int} {A5 A6 : Option Addr} {c5 c6 : Nat} (h : Bk1 w b s P Q D p q d ps qs A5 c5 w5) (hown : OwnI w6 w5.heap.size (.slice A6 qs.length c6) qs) (hbl : Below w5.heap.size ((w5.setCell ⟨b, 0, none⟩ (.slice A5 ps.length c5)).alloc (.cells #[] 3)) w6) : Bk2 w b s P Q D p q d ps qs A5 A6 c5 c6 w6 := by
  have hal6 : Below (w5.setCell ⟨b, 0, none⟩ (.slice A5 ps.length c5)).heap.size (w5.setCell ⟨b, 0, none⟩ (.slice A5 ps.length c5)) ((w5.setCell ⟨b, 0, none⟩ (.slice A5 ps.length c5)).alloc (.cells #[] 3)) := (Below.refl _ _).alloc (Nat.le_refl _) _
  have hszs : (w5.setCell ⟨b, 0, none⟩ (.slice A5 ps.length c5)).heap.size = w5.heap.size := by simp [World.setCell]
  rw [← hszs] at hown hbl
  have h56 := hal6.trans hbl
  have k3 := heap_set_same w5 b 0 (.slice A5 ps.length c5) _ _ h.b1
  have k4 := (h56.block _ (lt_of_block k3)).trans k3
  have k5 : w6.heap[b + 1]? = some (.cells #[.slice none 0 0, .slice none 0 0, .slice none 0 0, .int .i64 0] 35 (0, 0)) := by
    rw [h56.block _ (by rw [hszs]; exact lt_of_block h.b2), Below.heap_setCell w5 ⟨b, 0, none⟩ _ (b + 1) (by show b + 1 ≠ b; omega)]
    exact h.b2
  have k6 := heap_set_same w6 b 1 (.slice A6 qs.length c6) _ _ k4
  have k7 : (w6.setCell ⟨b, 1, none⟩ (.slice A6 qs.length c6)).heap[b + 1]? = some (.cells #[.slice none 0 0, .slice none 0 0, .slice none 0 0, .int .i64 0] 35 (0, 0)) := by rw [Below.heap_setCell w6 ⟨b, 1, none⟩ _ (b + 1) (by show b + 1 ≠ b; omega)]; exact k5
  have f0 := heap_set_same _ (b + 1) 0 (.slice A5 ps.length c5) _ _ k7
  have f1 := heap_set_same _ (b + 1) 1 (.slice A6 qs.length c6) _ _ f0
  have f2 := heap_set_same _ (b + 1) 2 (.slice D s.learned.length d) _ _ f1
  have f3 := heap_set_same _ (b + 1) 3 (.int .i64 s.code) _ _ f2
  have hkeep : ∀ y, y ≠ b → y ≠ b + 1 → (((((w6.setCell ⟨b, 1, none⟩ (.slice A6 qs.length c6)).setCell ⟨b + 1, 0, none⟩ (.slice A5 ps.length c5)).setCell ⟨b + 1, 1, none⟩ (.slice A6 qs.length c6)).setCell ⟨b + 1, 2, none⟩ (.slice D s.learned.length d)).setCell ⟨b + 1, 3, none⟩ (.int .i64 s.code)).heap[y]? = w6.heap[y]? := fun y h1 h2 => by
    rw [Below.heap_setCell _ ⟨b + 1, 3, none⟩ _ y h2, Below.heap_setCell _ ⟨b + 1, 2, none⟩ _ y h2, Below.heap_setCell _ ⟨b + 1, 1, none⟩ _ y h2, Below.heap_setCell _ ⟨b + 1, 0, none⟩ _ y h2, Below.heap_setCell _ ⟨b, 1, none⟩ _ y h1]
  have hb2l := lt_of_block h.b2
  have hrow5 : ∀ g, (Value.slice A5 ps.length c5).ownBlock = some g → b + 1 + 1 ≤ g ∧ g < w5.heap.size := fun g hg => World.ownsRow.lt h.row g hg
  have hrow6 : ∀ g, (Value.slice A6 qs.length c6).ownBlock = some g → w5.heap.size ≤ g ∧ g < w6.heap.size := fun g hg => by have := World.ownsRow.lt hown g hg; omega
  have r5 : OwnI (((((w6.setCell ⟨b, 1, none⟩ (.slice A6 qs.length c6)).setCell ⟨b + 1, 0, none⟩ (.slice A5 ps.length c5)).setCell ⟨b + 1, 1, none⟩ (.slice A6 qs.length c6)).setCell ⟨b + 1, 2, none⟩ (.slice D s.learned.length d)).setCell ⟨b + 1, 3, none⟩ (.int .i64 s.code)) (b + 1 + 1) (.slice A5 ps.length c5) ps := own_of_heap h.row fun g hg => by
    have h9 := hrow5 g hg
    rw [hkeep g (by omega) (by omega), h56.block g (by omega), Below.heap_setCell w5 ⟨b, 0, none⟩ _ g (by show g ≠ b; omega)]
  have r6 : OwnI (((((w6.setCell ⟨b, 1, none⟩ (.slice A6 qs.length c6)).setCell ⟨b + 1, 0, none⟩ (.slice A5 ps.length c5)).setCell ⟨b + 1, 1, none⟩ (.slice A6 qs.length c6)).setCell ⟨b + 1, 2, none⟩ (.slice D s.learned.length d)).setCell ⟨b + 1, 3, none⟩ (.int .i64 s.code)) (w5.setCell ⟨b, 0, none⟩ (.slice A5 ps.length c5)).heap.size (.slice A6 qs.length c6) qs := own_of_heap hown fun g hg => by
    have h9 := hrow6 g hg
    exact hkeep g (by omega) (by omega)
  have hbw : Below w.heap.size w (((((w6.setCell ⟨b, 1, none⟩ (.slice A6 qs.length c6)).setCell ⟨b + 1, 0, none⟩ (.slice A5 ps.length c5)).setCell ⟨b + 1, 1, none⟩ (.slice A6 qs.length c6)).setCell ⟨b + 1, 2, none⟩ (.slice D s.learned.length d)).setCell ⟨b + 1, 3, none⟩ (.int .i64 s.code)) := by
    have e := h.eb
    refine below_setE (p := ⟨b + 1, 3, none⟩) (below_setE (p := ⟨b + 1, 2, none⟩) (below_setE (p := ⟨b + 1, 1, none⟩) (below_setE (p := ⟨b + 1, 0, none⟩) (below_setE (p := ⟨b, 1, none⟩) ((below_setE (p := ⟨b, 0, none⟩) h.bel (by show w.heap.size ≤ b; omega) _).trans (h56.mono (by rw [hszs]; exact h.bel.size))) (by show w.heap.size ≤ b; omega) _) (by show w.heap.size ≤ b + 1; omega) _) (by show w.heap.size ≤ b + 1; omega) _) (by show w.heap.size ≤ b + 1; omega) _) (by show w.heap.size ≤ b + 1; omega) _
  refine ⟨k4, ⟨(cell_of_block k6 0).1, (cell_of_block k6 1).1, (cell_of_block k6 2).1, (cell_of_block k6 3).1⟩, ⟨cell_of_block k7 0, cell_of_block k7 1, cell_of_block k7 2, cell_of_block k7 3⟩, f3, A5, A6, c5, c6, rfl, own_low r5 (by have := h.eb; omega), own_low r6 (by have := h.eb; omega), fun g hg hg' => ?_, hbw⟩
  have h1 := hrow5 g hg
  have h2 := hrow6 g hg'
  omega
theorem backN_step {level k : Int} {why : List Int} {i : Nat} (h : i < why.length) : backN level (why.drop i) k = if level < k + (if why[i] < 0 then 1 else 0) then 0 else 1 + backN level (why.drop (i + 1)) (k + (if why[i] < 0 then 1 else 0)) := by
  rw [List.drop_eq_getElem_cons h]; rfl
set_option maxRecDepth 100000 in
set_option maxHeartbeats 8000000 in
theorem l5Back_any (s : S) (P Q D : Option Addr) (p q d : Nat) (level : Int) (w : World) (hP : Lay.int.Rd w P s.put) (hQ : Lay.int.Rd w Q s.why) (hl : s.put.length = s.why.length) (hn : s.put.length ≤ 1000000) (hp : s.put.length ≤ p) (hq : s.why.length ≤ q) :
    Calls Try.prog 124 #[.agg #[.slice P s.put.length p, .slice Q s.why.length q, .slice D s.learned.length d, .int .i64 s.code], .int .i64 level] w (RetBk s (s.put.take (backN level s.why 0)) (s.why.take (backN level s.why 0)) D d w) := by
  have hal1 : Below w.heap.size w (w.alloc (.cells #[.slice P s.put.length p, .slice Q s.why.length q, .slice D s.learned.length d, .int .i64 s.code] 35)) := (Below.refl _ _).alloc (Nat.le_refl _) _
  have hs1 : (w.alloc (.cells #[.slice P s.put.length p, .slice Q s.why.length q, .slice D s.learned.length d, .int .i64 s.code] 35)).heap.size = w.heap.size + 1 := by simp
  have hb1 := heap_alloc_new w (.cells #[.slice P s.put.length p, .slice Q s.why.length q, .slice D s.learned.length d, .int .i64 s.code] 35)
  obtain ⟨w1, hw1⟩ : ∃ w1, w1 = w.alloc (.cells #[.slice P s.put.length p, .slice Q s.why.length q, .slice D s.learned.length d, .int .i64 s.code] 35) := ⟨_, rfl⟩
  rw [← hw1] at hal1 hs1 hb1
  have hal2 : Below w1.heap.size w1 (w1.alloc (.cells #[.slice none 0 0, .slice none 0 0, .slice none 0 0, .int .i64 0] 35)) := (Below.refl _ _).alloc (Nat.le_refl _) _
  have hs2 : (w1.alloc (.cells #[.slice none 0 0, .slice none 0 0, .slice none 0 0, .int .i64 0] 35)).heap.size = w.heap.size + 1 + 1 := by simp [hs1]
  have hb2 := heap_alloc_new w1 (.cells #[.slice none 0 0, .slice none 0 0, .slice none 0 0, .int .i64 0] 35)
  rw [hs1] at hb2
  obtain ⟨w2, hw2⟩ : ∃ w2, w2 = w1.alloc (.cells #[.slice none 0 0, .slice none 0 0, .slice none 0 0, .int .i64 0] 35) := ⟨_, rfl⟩
  rw [← hw2] at hal2 hs2 hb2
  have HB1 := Lib.hid ((hal2.block _ (lt_of_block hb1)).trans hb1)
  have HB2 := Lib.hid hb2
  have HP := Lib.hid (Lay.Sl.below (Lay.Sl.below hP hal1 (fun _ h => h)) (hal2.mono hal1.size) (fun _ h => h))
  have HQ := Lib.hid (Lay.Sl.below (Lay.Sl.below hQ hal1 (fun _ h => h)) (hal2.mono hal1.size) (fun _ h => h))
  have HAL := Lib.hid (bthen hal1 hal2)
  have HS2 := Lib.hid hs2
  have HLN := Lib.hid hl
  have HCP := Lib.hid (And.intro hp hq)
  have HW1 := Lib.hid hw1
  have HW2 := Lib.hid hw2
  have hqn : s.why.length ≤ 1000000 := by rw [← hl]; exact hn
  obtain ⟨N, hN⟩ : ∃ N, N = backN level s.why 0 := ⟨_, rfl⟩
  rw [← hN]
  have HNN := Lib.hid hN
  have HNL : Hid (N ≤ s.why.length) := Lib.hid (by rw [hN]; exact backN_le _ _ _)
  clear hP hQ hl hal1 hs1 hb1 hal2 hs2 hb2 hw1 hw2 hN hp hq
  go_enter Try.func124, Try.ntmps124
  go_wp2
  rw [← HW1.out, ← HW2.out]
  clear HW1 HW2
  have hb0 : ∃ b, b = w.heap.size := ⟨_, rfl⟩
  obtain ⟨b, hbe⟩ := hb0
  rw [← hbe] at HB1 HB2 HS2 ⊢
  have HBE := Lib.hid hbe
  clear hbe
  obtain ⟨u0, _⟩ := cell_of_block HB1.out 0
  obtain ⟨u1, _⟩ := cell_of_block HB1.out 1
  obtain ⟨u2, _⟩ := cell_of_block HB1.out 2
  obtain ⟨u3, _⟩ := cell_of_block HB1.out 3
  go_loop [5, 6] (fun i kk => ∃ (n : Nat) (k : Int), n ≤ s.why.length ∧ i = .int .i64 n ∧ kk = .int .i64 k ∧ 0 ≤ k ∧ k ≤ n ∧ Hid (N = n + backN level (s.why.drop n) k)) (fun i _ => s.why.length - (intOf i).toNat)
  case atStart => exact ⟨0, 0, Nat.zero_le _, rfl, rfl, by omega, by omega, Lib.hid (by rw [HNN.out]; simp)⟩
  case round =>
    obtain ⟨n, k, hk, rfl, rfl, k0, k1, HT⟩ := hrel
    by_cases hlt : n < s.why.length
    · have hn2 : n < s.put.length := by rw [HLN.out]; exact hlt
      have hn1 : (n : Int) < s.put.length := by omega
      have hn3 : (n : Int) < s.why.length := by omega
      obtain ⟨aq, hQe, _, hc⟩ := HQ.out.at_int hlt
      have hst := backN_step (level := level) (k := k) hlt
      generalize s.why[n] = y at *
      subst hQe
      have HST := Lib.hid hst
      clear hst
      by_cases hy : y < 0
      · have HK : Hid (k + (if y < 0 then 1 else 0) = k + 1) := Lib.hid (by rw [if_pos hy])
        by_cases hlv : level < k + 1
        · have HE : Hid (N = n) := Lib.hid (by rw [HT.out, HST.out, HK.out, if_pos hlv, Nat.add_zero])
          clear HT HST HK
          have hEn := HE.out
          subst hEn
          clear HE
          have HNP : Hid (N ≤ s.put.length) := Lib.hid (by rw [HLN.out]; omega)
          obtain ⟨ps, hps⟩ : ∃ ps, ps = s.put.take N := ⟨_, rfl⟩
          obtain ⟨qs, hqs⟩ : ∃ qs, qs = s.why.take N := ⟨_, rfl⟩
          have hsp := slice_hI HP.out N HNP.out HCP.out.1
          have hsq := slice_hI HQ.out N (by omega) HCP.out.2
          have HPR : Hid (Lay.int.Sl w2 (fun y => y < w.heap.size) P ps) := Lib.hid (by rw [hps]; exact HP.out.take N)
          have HQR : Hid (Lay.int.Sl w2 (fun y => y < w.heap.size) (some aq) qs) := Lib.hid (by rw [hqs]; exact HQ.out.take N)
          rw [← hps] at hsp
          rw [← hqs] at hsq
          have HPE := Lib.hid hps
          have HQE := Lib.hid hqs
          have hpl : ps.length ≤ 1000000 := by rw [hps, List.length_take]; omega
          have hql : qs.length ≤ 1000000 := by rw [hqs, List.length_take]; omega
          have hl0 : ([] : List Int).length + ps.length ≤ 1048576 := by simp; omega
          have hl1 : ([] : List Int).length + qs.length ≤ 1048576 := by simp; omega
          clear hps hqs
          have hal3 := (Below.refl w2.heap.size w2).alloc (Nat.le_refl _) (.cells #[] 3)
          have HO3 : Hid (OwnI (w2.alloc (.cells #[] 3)) w2.heap.size (.slice (some ⟨w2.heap.size, 0, none⟩) 0 0) []) := Lib.hid (own_lit0 rfl)
          have HAL3 := Lib.hid hal3
          have HPR3 : Hid (Lay.int.Rd (w2.alloc (.cells #[] 3)) P ps) := Lib.hid ((HPR.out.keep fun y hy => hal3.block y (by have h1 : y < w.heap.size := hy; have := HAL.out.size; omega)).mono fun y hy => by have h1 : y < w.heap.size := hy; have := HAL.out.size; have := hal3.size; omega)
          have x0 := (cell_of_block ((hal3.block _ (lt_of_block HB1.out)).trans HB1.out) 0).1
          clear hal3
          go_wp2_with (at_builtin; first
            | (refine wpList_append_intsC (zs := ps) (by rfl) (.tmp 25) (.tmp 29) (by rfl) (by rfl) (by rfl) HO3.out HPR3.out (none_len HPR3.out) hl0 HAL3.out.size rfl ?_; intro A5 c5 w5 hown5 hb5 hg5
               have HG5 := Lib.hid (back_first HB1.out HB2.out HQR.out HAL.out HBE.out HS2.out hown5 hb5)
               clear hown5 hb5 hg5
               obtain ⟨sc, sg⟩ := cell_of_block HG5.out.b1 0
               have y1 := HG5.out.x1
               have HO6 : Hid (OwnI ((w5.setCell ⟨b, 0, none⟩ (.slice A5 ps.length c5)).alloc (.cells #[] 3)) w5.heap.size (.slice (some ⟨w5.heap.size, 0, none⟩) 0 0) []) := Lib.hid (own_lit0 (by simp [World.setCell])))
            | (refine wpList_append_intsC (zs := qs) (by rfl) (.tmp 32) (.tmp 36) (by rfl) (by rfl) (by rfl) HO6.out HG5.out.qrd (none_len HG5.out.qrd) hl1 HG5.out.le rfl ?_; intro A6 c6 w6 hown6 hb6 hg6
               have HG6 := Lib.hid (back_second HG5.out hown6 hb6)
               clear hown6 hb6 hg6
               obtain ⟨tc, tg⟩ := cell_of_block HG6.out.b1 1
               obtain ⟨z0, z1, z2, z3⟩ := HG6.out.cells
               obtain ⟨⟨r0, r0'⟩, ⟨r1, r1'⟩, ⟨r2, r2'⟩, ⟨r3, r3'⟩⟩ := HG6.out.outs))
          have hfin := HG6.out.fin
          generalize (((((w6.setCell ⟨b, 1, none⟩ (.slice A6 qs.length c6)).setCell ⟨b + 1, 0, none⟩ (.slice A5 ps.length c5)).setCell ⟨b + 1, 1, none⟩ (.slice A6 qs.length c6)).setCell ⟨b + 1, 2, none⟩ (.slice D s.learned.length d)).setCell ⟨b + 1, 3, none⟩ (.int .i64 s.code)) = w9 at *
          obtain ⟨hbx, hres⟩ := hfin
          have e0 := (cell_of_block hbx 0).1
          have e1 := (cell_of_block hbx 1).1
          have e2 := (cell_of_block hbx 2).1
          have e3 := (cell_of_block hbx 3).1
          simp at e0 e1 e2 e3
          refine bodyPost_ret (v := .agg #[.slice A5 ps.length c5, .slice A6 qs.length c6, .slice D s.learned.length d, .int .i64 s.code]) (by simp [results, Try.results124, go_sem, e0, e1, e2, e3]) rfl ?_
          rw [← HPE.out, ← HQE.out]
          exact hres
        · have HE : Hid (N = (n + 1 : Nat) + backN level (s.why.drop (n + 1)) (k + 1)) := Lib.hid (by rw [HT.out, HST.out, HK.out, if_neg hlv]; omega)
          clear HT HST HK
          go_wp2
          go_round
          case rel => exact ⟨n + 1, k + 1, by omega, by go_num, rfl, by omega, by omega, HE⟩
          case measure => simp [intOf]; omega
      · have HK : Hid (k + (if y < 0 then 1 else 0) = k) := Lib.hid (by rw [if_neg hy, Int.add_zero])
        by_cases hlv : level < k
        · have HE : Hid (N = n) := Lib.hid (by rw [HT.out, HST.out, HK.out, if_pos hlv, Nat.add_zero])
          clear HT HST HK
          have hEn := HE.out
          subst hEn
          clear HE
          have HNP : Hid (N ≤ s.put.length) := Lib.hid (by rw [HLN.out]; omega)
          obtain ⟨ps, hps⟩ : ∃ ps, ps = s.put.take N := ⟨_, rfl⟩
          obtain ⟨qs, hqs⟩ : ∃ qs, qs = s.why.take N := ⟨_, rfl⟩
          have hsp := slice_hI HP.out N HNP.out HCP.out.1
          have hsq := slice_hI HQ.out N (by omega) HCP.out.2
          have HPR : Hid (Lay.int.Sl w2 (fun y => y < w.heap.size) P ps) := Lib.hid (by rw [hps]; exact HP.out.take N)
          have HQR : Hid (Lay.int.Sl w2 (fun y => y < w.heap.size) (some aq) qs) := Lib.hid (by rw [hqs]; exact HQ.out.take N)
          rw [← hps] at hsp
          rw [← hqs] at hsq
          have HPE := Lib.hid hps
          have HQE := Lib.hid hqs
          have hpl : ps.length ≤ 1000000 := by rw [hps, List.length_take]; omega
          have hql : qs.length ≤ 1000000 := by rw [hqs, List.length_take]; omega
          have hl0 : ([] : List Int).length + ps.length ≤ 1048576 := by simp; omega
          have hl1 : ([] : List Int).length + qs.length ≤ 1048576 := by simp; omega
          clear hps hqs
          have hal3 := (Below.refl w2.heap.size w2).alloc (Nat.le_refl _) (.cells #[] 3)
          have HO3 : Hid (OwnI (w2.alloc (.cells #[] 3)) w2.heap.size (.slice (some ⟨w2.heap.size, 0, none⟩) 0 0) []) := Lib.hid (own_lit0 rfl)
          have HAL3 := Lib.hid hal3
          have HPR3 : Hid (Lay.int.Rd (w2.alloc (.cells #[] 3)) P ps) := Lib.hid ((HPR.out.keep fun y hy => hal3.block y (by have h1 : y < w.heap.size := hy; have := HAL.out.size; omega)).mono fun y hy => by have h1 : y < w.heap.size := hy; have := HAL.out.size; have := hal3.size; omega)
          have x0 := (cell_of_block ((hal3.block _ (lt_of_block HB1.out)).trans HB1.out) 0).1
          clear hal3
          go_wp2_with (at_builtin; first
            | (refine wpList_append_intsC (zs := ps) (by rfl) (.tmp 25) (.tmp 29) (by rfl) (by rfl) (by rfl) HO3.out HPR3.out (none_len HPR3.out) hl0 HAL3.out.size rfl ?_; intro A5 c5 w5 hown5 hb5 hg5
               have HG5 := Lib.hid (back_first HB1.out HB2.out HQR.out HAL.out HBE.out HS2.out hown5 hb5)
               clear hown5 hb5 hg5
               obtain ⟨sc, sg⟩ := cell_of_block HG5.out.b1 0
               have y1 := HG5.out.x1
               have HO6 : Hid (OwnI ((w5.setCell ⟨b, 0, none⟩ (.slice A5 ps.length c5)).alloc (.cells #[] 3)) w5.heap.size (.slice (some ⟨w5.heap.size, 0, none⟩) 0 0) []) := Lib.hid (own_lit0 (by simp [World.setCell])))
            | (refine wpList_append_intsC (zs := qs) (by rfl) (.tmp 32) (.tmp 36) (by rfl) (by rfl) (by rfl) HO6.out HG5.out.qrd (none_len HG5.out.qrd) hl1 HG5.out.le rfl ?_; intro A6 c6 w6 hown6 hb6 hg6
               have HG6 := Lib.hid (back_second HG5.out hown6 hb6)
               clear hown6 hb6 hg6
               obtain ⟨tc, tg⟩ := cell_of_block HG6.out.b1 1
               obtain ⟨z0, z1, z2, z3⟩ := HG6.out.cells
               obtain ⟨⟨r0, r0'⟩, ⟨r1, r1'⟩, ⟨r2, r2'⟩, ⟨r3, r3'⟩⟩ := HG6.out.outs))
          have hfin := HG6.out.fin
          generalize (((((w6.setCell ⟨b, 1, none⟩ (.slice A6 qs.length c6)).setCell ⟨b + 1, 0, none⟩ (.slice A5 ps.length c5)).setCell ⟨b + 1, 1, none⟩ (.slice A6 qs.length c6)).setCell ⟨b + 1, 2, none⟩ (.slice D s.learned.length d)).setCell ⟨b + 1, 3, none⟩ (.int .i64 s.code)) = w9 at *
          obtain ⟨hbx, hres⟩ := hfin
          have e0 := (cell_of_block hbx 0).1
          have e1 := (cell_of_block hbx 1).1
          have e2 := (cell_of_block hbx 2).1
          have e3 := (cell_of_block hbx 3).1
          simp at e0 e1 e2 e3
          refine bodyPost_ret (v := .agg #[.slice A5 ps.length c5, .slice A6 qs.length c6, .slice D s.learned.length d, .int .i64 s.code]) (by simp [results, Try.results124, go_sem, e0, e1, e2, e3]) rfl ?_
          rw [← HPE.out, ← HQE.out]
          exact hres
        · have HE : Hid (N = (n + 1 : Nat) + backN level (s.why.drop (n + 1)) k) := Lib.hid (by rw [HT.out, HST.out, HK.out, if_neg hlv]; omega)
          clear HT HST HK
          go_wp2
          go_round
          case rel => exact ⟨n + 1, k, by omega, by go_num, rfl, by omega, by omega, HE⟩
          case measure => simp [intOf]; omega
    · have hke : n = s.why.length := by omega
      have HE : Hid (N = n) := Lib.hid (by rw [HT.out, hke, List.drop_length]; rfl)
      have hn1 : ¬ (n : Int) < s.put.length := by rw [HLN.out]; omega
      have hkn : n ≤ s.why.length := by omega
      clear HT hke
      have hEn := HE.out
      subst hEn
      clear HE
      have HNP : Hid (N ≤ s.put.length) := Lib.hid (by rw [HLN.out]; omega)
      obtain ⟨ps, hps⟩ : ∃ ps, ps = s.put.take N := ⟨_, rfl⟩
      obtain ⟨qs, hqs⟩ : ∃ qs, qs = s.why.take N := ⟨_, rfl⟩
      have hsp := slice_hI HP.out N HNP.out HCP.out.1
      have hsq := slice_hI HQ.out N (by omega) HCP.out.2
      have HPR : Hid (Lay.int.Sl w2 (fun y => y < w.heap.size) P ps) := Lib.hid (by rw [hps]; exact HP.out.take N)
      have HQR : Hid (Lay.int.Sl w2 (fun y => y < w.heap.size) Q qs) := Lib.hid (by rw [hqs]; exact HQ.out.take N)
      rw [← hps] at hsp
      rw [← hqs] at hsq
      have HPE := Lib.hid hps
      have HQE := Lib.hid hqs
      have hpl : ps.length ≤ 1000000 := by rw [hps, List.length_take]; omega
      have hql : qs.length ≤ 1000000 := by rw [hqs, List.length_take]; omega
      have hl0 : ([] : List Int).length + ps.length ≤ 1048576 := by simp; omega
      have hl1 : ([] : List Int).length + qs.length ≤ 1048576 := by simp; omega
      clear hps hqs
      have hal3 := (Below.refl w2.heap.size w2).alloc (Nat.le_refl _) (.cells #[] 3)
      have HO3 : Hid (OwnI (w2.alloc (.cells #[] 3)) w2.heap.size (.slice (some ⟨w2.heap.size, 0, none⟩) 0 0) []) := Lib.hid (own_lit0 rfl)
      have HAL3 := Lib.hid hal3
      have HPR3 : Hid (Lay.int.Rd (w2.alloc (.cells #[] 3)) P ps) := Lib.hid ((HPR.out.keep fun y hy => hal3.block y (by have h1 : y < w.heap.size := hy; have := HAL.out.size; omega)).mono fun y hy => by have h1 : y < w.heap.size := hy; have := HAL.out.size; have := hal3.size; omega)
      have x0 := (cell_of_block ((hal3.block _ (lt_of_block HB1.out)).trans HB1.out) 0).1
      clear hal3
      go_wp2_with (at_builtin; first
        | (refine wpList_append_intsC (zs := ps) (by rfl) (.tmp 25) (.tmp 29) (by rfl) (by rfl) (by rfl) HO3.out HPR3.out (none_len HPR3.out) hl0 HAL3.out.size rfl ?_; intro A5 c5 w5 hown5 hb5 hg5
           have HG5 := Lib.hid (back_first HB1.out HB2.out HQR.out HAL.out HBE.out HS2.out hown5 hb5)
           clear hown5 hb5 hg5
           obtain ⟨sc, sg⟩ := cell_of_block HG5.out.b1 0
           have y1 := HG5.out.x1
           have HO6 : Hid (OwnI ((w5.setCell ⟨b, 0, none⟩ (.slice A5 ps.length c5)).alloc (.cells #[] 3)) w5.heap.size (.slice (some ⟨w5.heap.size, 0, none⟩) 0 0) []) := Lib.hid (own_lit0 (by simp [World.setCell])))
        | (refine wpList_append_intsC (zs := qs) (by rfl) (.tmp 32) (.tmp 36) (by rfl) (by rfl) (by rfl) HO6.out HG5.out.qrd (none_len HG5.out.qrd) hl1 HG5.out.le rfl ?_; intro A6 c6 w6 hown6 hb6 hg6
           have HG6 := Lib.hid (back_second HG5.out hown6 hb6)
           clear hown6 hb6 hg6
           obtain ⟨tc, tg⟩ := cell_of_block HG6.out.b1 1
           obtain ⟨z0, z1, z2, z3⟩ := HG6.out.cells
           obtain ⟨⟨r0, r0'⟩, ⟨r1, r1'⟩, ⟨r2, r2'⟩, ⟨r3, r3'⟩⟩ := HG6.out.outs))
      have hfin := HG6.out.fin
      generalize (((((w6.setCell ⟨b, 1, none⟩ (.slice A6 qs.length c6)).setCell ⟨b + 1, 0, none⟩ (.slice A5 ps.length c5)).setCell ⟨b + 1, 1, none⟩ (.slice A6 qs.length c6)).setCell ⟨b + 1, 2, none⟩ (.slice D s.learned.length d)).setCell ⟨b + 1, 3, none⟩ (.int .i64 s.code)) = w9 at *
      obtain ⟨hbx, hres⟩ := hfin
      have e0 := (cell_of_block hbx 0).1
      have e1 := (cell_of_block hbx 1).1
      have e2 := (cell_of_block hbx 2).1
      have e3 := (cell_of_block hbx 3).1
      simp at e0 e1 e2 e3
      refine bodyPost_ret (v := .agg #[.slice A5 ps.length c5, .slice A6 qs.length c6, .slice D s.learned.length d, .int .i64 s.code]) (by simp [results, Try.results124, go_sem, e0, e1, e2, e3]) rfl ?_
      rw [← HPE.out, ← HQE.out]
      exact hres
end Go.Proofs.Ytbljfhmcebgdaaa

/-! append of a whole slice onto a row of the call's own whose elements lead to other blocks. No program is named here. -/
namespace Go.Proofs.Ytbljfhmcebgdaaa
open Go Go.RowKit

theorem flat_len {n : Nat} : ∀ {ls : List (List Value)}, (∀ l ∈ ls, l.length = n) → ls.flatten.length = ls.length * n
  | [], _ => by simp
  | l :: ls, h => by
    rw [List.flatten_cons, List.length_append, flat_len (ls := ls) fun x hx => h x (List.mem_cons_of_mem _ hx), h l (List.mem_cons_self ..), List.length_cons, Nat.add_mul, Nat.one_mul, Nat.add_comm]
theorem flat_get {n : Nat} : ∀ {ls : List (List Value)} (_ : ∀ l ∈ ls, l.length = n) (i j : Nat) (l : List Value), ls[i]? = some l → j < n → ls.flatten[i * n + j]? = l[j]?
  | [], _, i, j, l, h, _ => by simp at h
  | l0 :: ls, hl, 0, j, l, h, hj => by
    simp at h
    subst h
    rw [List.flatten_cons, Nat.zero_mul, Nat.zero_add, List.getElem?_append_left (by rw [hl _ (List.mem_cons_self ..)]; exact hj)]
  | l0 :: ls, hl, i + 1, j, l, h, hj => by
    have h0 := hl l0 (List.mem_cons_self ..)
    rw [List.flatten_cons, List.getElem?_append_right (by rw [h0, Nat.add_mul, Nat.one_mul]; omega)]
    have e : (i + 1) * n + j - l0.length = i * n + j := by rw [h0, Nat.add_mul, Nat.one_mul]; omega
    rw [e]
    exact flat_get (fun x hx => hl x (List.mem_cons_of_mem _ hx)) i j l (by simpa using h) hj
/-- A slice that is read: its cells. -/
theorem Lay.Sl.src {α : Type} {L : Lay α} {w : World} {F : Nat → Prop} {A : Option Addr} {xs : List α} (h : L.Sl w F A xs) (h1 : ∀ x vs, L.R w F x vs → ∀ u ∈ vs, u.oneCell' = true) :
    ∃ news, Src w L.size A xs.length news ∧ (∀ u ∈ news, u.oneCell' = true) ∧ ∀ i x, xs[i]? = some x → ∃ vs, L.R w F x vs ∧ ∀ j u, vs[j]? = some u → news[i * L.size + j]? = some u := by
  by_cases h0 : 0 < xs.length
  · obtain ⟨ad, rfl, hf, hc⟩ := h h0
    have hk' : ∀ k, ∃ vs, ∀ x, xs[k]? = some x → L.R w F x vs ∧ ∀ j u, vs[j]? = some u → w.cell? (ad.add (k * L.size + j)) = some u := fun k => by
      cases hx : xs[k]? with
      | none => exact ⟨[], fun x h => by cases h⟩
      | some x =>
        obtain ⟨vs, h1, h2⟩ := hc k x hx
        exact ⟨vs, fun x' h => by cases h; exact ⟨h1, h2⟩⟩
    obtain ⟨f, hf'⟩ := Classical.axiomOfChoice hk'
    have hlen : ∀ l ∈ (List.range xs.length).map f, l.length = L.size := fun l hl => by
      obtain ⟨i, hi, rfl⟩ := List.mem_map.1 hl
      exact L.len (hf' i _ (List.getElem?_eq_getElem (List.mem_range.1 hi))).1
    have hat : ∀ i, i < xs.length → ((List.range xs.length).map f)[i]? = some (f i) := fun i hi => by simp [hi]
    refine ⟨((List.range xs.length).map f).flatten, ⟨by rw [flat_len hlen]; simp, fun _ => ⟨ad, rfl, fun j u hu => ?_⟩⟩, fun u hu => ?_, fun i x hx => ?_⟩
    · have hj : j < xs.length * L.size := by
        have := (List.getElem?_eq_some_iff.1 hu).1
        rw [flat_len hlen] at this
        simpa using this
      have hs : 0 < L.size := by
        rcases Nat.eq_zero_or_pos L.size with e | e
        · rw [e] at hj; omega
        · exact e
      have hi : j / L.size < xs.length := (Nat.div_lt_iff_lt_mul hs).2 hj
      have hm : j % L.size < L.size := Nat.mod_lt _ hs
      have e : j / L.size * L.size + j % L.size = j := by rw [Nat.mul_comm]; exact Nat.div_add_mod j L.size
      have h9 := flat_get hlen (j / L.size) (j % L.size) _ (hat _ hi) hm
      rw [e, hu] at h9
      have := (hf' _ _ (List.getElem?_eq_getElem hi)).2 (j % L.size) u h9.symm
      rw [e] at this
      exact this
    · obtain ⟨l, hl, hul⟩ := List.mem_flatten.1 hu
      obtain ⟨i, hi, rfl⟩ := List.mem_map.1 hl
      exact h1 _ _ (hf' i _ (List.getElem?_eq_getElem (List.mem_range.1 hi))).1 u hul
    · have hi : i < xs.length := (List.getElem?_eq_some_iff.1 hx).1
      refine ⟨f i, (hf' i x hx).1, fun j u hj => ?_⟩
      have hjl : j < L.size := by
        have := (List.getElem?_eq_some_iff.1 hj).1
        rwa [L.len (hf' i x hx).1] at this
      rw [flat_get hlen i j _ (hat i hi) hjl]
      exact hj
  · have : xs = [] := List.eq_nil_of_length_eq_zero (by omega)
    subst this
    exact ⟨[], ⟨by simp, fun h => absurd h (by simp)⟩, by simp, fun i x h => by simp at h⟩
section
variable {P : Program} (w : World)
theorem run_append_src_at (base : Nat) (t ty e : TypeId) (i : TypeInfo) (z : Value) (size bytes : Nat) (ht : P.underlying t = some (.slice e)) (hi : P.info? e = some i) (hz : i.zero = some z)
    (hsize : i.size = size) (hby : i.bytes = bytes) (hzs : z.cells.size = size) (hsz : 0 < size)
    (v : Value) (n : Nat) (xs : List Value) (hown : w.ownsRow base e size v n xs)
    (A : Option Addr) (m c : Nat) (news : List Value) (hr : Src w size A m news) (h1 : ∀ u ∈ news, u.oneCell' = true)
    (nm : Nat) (hnm : n + m = nm) (h63 : nm ≤ maxLen) (hbytes : nm * bytes ≤ 140737488355328) (hbase : base ≤ w.heap.size) (hA : A = none → m = 0) :
    ∃ A' c' w', (Builtin.append_ #[t, t] ty #[v, .slice A m c]).run P w = .ok (.slice A' nm c') w' ∧ w'.ownsRow base e size (.slice A' nm c') nm (xs ++ news) ∧ w.grownBy w' v.ownBlock ∧
      ((Value.slice A' nm c').ownBlock = v.ownBlock ∨ ∃ g, (Value.slice A' nm c').ownBlock = some g ∧ w.heap.size ≤ g) := by
  subst hnm
  suffices H : ∃ v' w', (Builtin.append_ #[t, t] ty #[v, .slice A m c]).run P w = .ok v' w' ∧ w'.ownsRow base e size v' (n + m) (xs ++ news) ∧ w.grownBy w' v.ownBlock ∧ (v'.ownBlock = v.ownBlock ∨ ∃ g, v'.ownBlock = some g ∧ w.heap.size ≤ g) by
    obtain ⟨v', w', h1, h2, h3, h4⟩ := H
    rcases h2.2 with ⟨e1, e2⟩ | ⟨g, cap, cur, e1, _⟩
    · exact ⟨none, 0, w', by rw [h1, e1, e2], by rw [e1] at h2; rw [e2] at h2 ⊢; exact h2, h3, by rw [e1] at h4; rw [e2]; exact h4⟩
    · exact ⟨_, cap, w', by rw [h1, e1], by rw [e1] at h2; exact h2, h3, by rw [e1] at h4; exact h4⟩
  rcases A with _ | ad
  · have hm : m = 0 := hA rfl
    subst hm
    have hn : news = [] := List.eq_nil_of_length_eq_zero (by simpa using hr.1)
    subst hn
    exact ⟨v, w, run_append_of_nil w base t ty e i size ht hi v n xs hown c, by simpa using hown, World.grownBy.refl _ _, .inl rfl⟩
  · have hcells : ∀ j u, news[j]? = some u → w.cell? (ad.add j) = some u := by
      intro j u hu
      rcases Nat.eq_zero_or_pos m with h0 | h0
      · subst h0
        have hn : news = [] := List.eq_nil_of_length_eq_zero (by simpa using hr.1)
        subst hn
        simp at hu
      · obtain ⟨ad', h, hc⟩ := hr.2 h0
        injection h with h
        subst h
        exact hc j u hu
    obtain ⟨v', w', hrun, h2, h3, _, h5⟩ := run_append_own_at (P := P) w base t ty e i z size bytes ht hi hz hsize hby hzs hsz v n xs hown ad m c news hr.1 hcells h1 h63 hbytes hbase
    refine ⟨v', w', hrun, h2, h3, ?_⟩
    rcases h5 with e | e
    · exact .inl e
    · exact .inr ⟨_, e, Nat.le_refl _⟩
end
theorem OwnL.appended {α : Type} {L : Lay α} {Q : World → Nat → Prop} {e : TypeId} {w w' : World} {lo c c' : Nat} {A A' : Option Addr} {xs zs ys : List α} {G : Nat → Prop} {news ks : List Value}
    (hown : OwnL L Q e w lo (.slice A xs.length c) xs) (hQ : Stay Q) (hG : ∀ b, G b → b < w.heap.size ∧ (Value.slice A xs.length c).ownBlock ≠ some b ∧ Q w b) (hy : ys = xs ++ zs)
    (hks : w.ownsRow lo e L.size (.slice A xs.length c) xs.length ks) (hkx : ∀ i x, xs[i]? = some x → ∃ vs, L.R w (fun b => b < w.heap.size ∧ (Value.slice A xs.length c).ownBlock ≠ some b ∧ Q w b) x vs ∧ ∀ j u, vs[j]? = some u → ks[i * L.size + j]? = some u)
    (hz : ∀ i x, zs[i]? = some x → ∃ vs, L.R w G x vs ∧ ∀ j u, vs[j]? = some u → news[i * L.size + j]? = some u)
    (ho' : w'.ownsRow lo e L.size (.slice A' ys.length c') ys.length (ks ++ news)) (hg : w.grownBy w' (Value.slice A xs.length c).ownBlock)
    (hbk : (Value.slice A' ys.length c').ownBlock = (Value.slice A xs.length c).ownBlock ∨ ∃ g, (Value.slice A' ys.length c').ownBlock = some g ∧ w.heap.size ≤ g) : OwnL L Q e w' lo (.slice A' ys.length c') ys := by
  have hne : ∀ b, b < w.heap.size → (Value.slice A xs.length c).ownBlock ≠ some b → (Value.slice A' ys.length c').ownBlock ≠ some b := fun b h2 h3 h4 => by
    rcases hbk with e | ⟨g, e, hg⟩
    · exact h3 (e ▸ h4)
    · rw [e] at h4; injection h4 with h4; omega
  have hmove : ∀ {y : α} {vs : List Value}, L.R w (fun b => b < w.heap.size ∧ (Value.slice A xs.length c).ownBlock ≠ some b ∧ Q w b) y vs → L.R w' (fun b => b < w'.heap.size ∧ (Value.slice A' ys.length c').ownBlock ≠ some b ∧ Q w' b) y vs := fun hR =>
    L.mono (fun b h9 => ⟨Nat.lt_of_lt_of_le h9.1 hg.size, hne b h9.1 h9.2.1, hQ _ _ _ (hg.block b h9.1 (fun e9 => h9.2.1 e9.symm)) h9.2.2⟩) (L.keep (fun b h9 => hg.block b h9.1 (fun e9 => h9.2.1 e9.symm)) hR)
  refine ⟨ks ++ news, ho', fun k y hky => ?_⟩
  have hkl : ks.length = xs.length * L.size := hks.1
  rw [hy] at hky
  rcases Nat.lt_or_ge k xs.length with h2 | h2
  · rw [List.getElem?_append_left h2] at hky
    obtain ⟨vs, hR, hu⟩ := hkx k y hky
    refine ⟨vs, hmove hR, fun j u hj => ?_⟩
    have hjl := (List.getElem?_eq_some_iff.1 hj).1
    have hvl := L.len hR
    have hm : (k + 1) * L.size ≤ xs.length * L.size := Nat.mul_le_mul_right _ h2
    rw [Nat.add_mul, Nat.one_mul] at hm
    rw [List.getElem?_append_left (by omega)]
    exact hu j u hj
  · rw [List.getElem?_append_right h2] at hky
    obtain ⟨vs, hR, hu⟩ := hz _ y hky
    refine ⟨vs, hmove (L.mono hG hR), fun j u hj => ?_⟩
    have e1 : k * L.size = xs.length * L.size + (k - xs.length) * L.size := by rw [← Nat.add_mul]; congr 1; omega
    rw [List.getElem?_append_right (by omega), show k * L.size + j - ks.length = (k - xs.length) * L.size + j by omega]
    exact hu j u hj
/-- append of a slice whose cells are known. -/
theorem run_append_rowsS {P : Program} {w : World} {α : Type} {L : Lay α} {Q : World → Nat → Prop} {t e ty : TypeId} {i : TypeInfo} {z : Value} {bytes : Nat} {G : Nat → Prop} {news : List Value}
    {lo : Nat} {A B : Option Addr} {c d : Nat} {xs zs ys : List α} (ht : P.underlying t = some (.slice e)) (hi : P.info? e = some i) (hz : i.zero = some z) (hsize : i.size = L.size) (hby : i.bytes = bytes) (hzs : z.cells.size = L.size) (hsz : 0 < L.size)
    (hown : OwnL L Q e w lo (.slice A xs.length c) xs) (hQ : Stay Q) (hs : Src w L.size B zs.length news) (h1 : ∀ u ∈ news, u.oneCell' = true) (hnz : ∀ i x, zs[i]? = some x → ∃ vs, L.R w G x vs ∧ ∀ j u, vs[j]? = some u → news[i * L.size + j]? = some u)
    (hB : B = none → zs.length = 0) (hG : ∀ b, G b → b < w.heap.size ∧ (Value.slice A xs.length c).ownBlock ≠ some b ∧ Q w b)
    (hn : xs.length ≤ 2000000) (hm : zs.length ≤ 2000000) (hb : bytes ≤ 128) (hlo : lo ≤ w.heap.size) (hy : ys = xs ++ zs) :
    ∃ A' c' w', (Builtin.append_ #[t, t] ty #[.slice A xs.length c, .slice B zs.length d]).run P w = .ok (.slice A' ys.length c') w' ∧ OwnL L Q e w' lo (.slice A' ys.length c') ys ∧ w.grownBy w' (Value.slice A xs.length c).ownBlock ∧
      ((Value.slice A' ys.length c').ownBlock = (Value.slice A xs.length c).ownBlock ∨ ∃ g, (Value.slice A' ys.length c').ownBlock = some g ∧ w.heap.size ≤ g) := by
  have hl : xs.length + zs.length = ys.length := by rw [hy]; simp
  obtain ⟨ks, hk1, hk2⟩ := hown
  have hbb : ys.length * bytes ≤ 140737488355328 := by
    have : ys.length * bytes ≤ 4000000 * 128 := Nat.mul_le_mul (by omega) hb
    omega
  obtain ⟨A', c', w', hrun, ho', hg', hbk⟩ := run_append_src_at (P := P) w lo t ty e i z L.size bytes ht hi hz hsize hby hzs hsz _ xs.length ks hk1 B zs.length d news hs h1 ys.length hl (by unfold maxLen; omega) hbb hlo hB
  exact ⟨A', c', w', hrun, OwnL.appended ⟨ks, hk1, hk2⟩ hQ hG hy hk1 hk2 hnz ho' hg' hbk, hg', hbk⟩
theorem wpList_append_rowsS {P : Program} {Q' : Exit → Act → World → Prop} {ops : Array Oper} {rest : List Oper} {o : Oper} {a : Act} {w : World} {α : Type} {L : Lay α} {Q : World → Nat → Prop} {t e : TypeId} {i : TypeInfo} {z : Value} {bytes : Nat} {G : Nat → Prop} {news : List Value}
    {lo : Nat} {A B : Option Addr} {c d : Nat} {xs zs ys : List α} (hgd : o.guard = none) (s y : Operand)
    (ho : o.op = .call { callee := .builtin .append, args := #[s, y], argTypes := #[t, t] }) (ht : P.underlying t = some (.slice e)) (hi : P.info? e = some i) (hz : i.zero = some z) (hsize : i.size = L.size) (hby : i.bytes = bytes) (hzs : z.cells.size = L.size) (hsz : 0 < L.size)
    (hs : a.eval s = .slice A xs.length c) (hyv : a.eval y = .slice B zs.length d)
    (hown : OwnL L Q e w lo (.slice A xs.length c) xs) (hQ : Stay Q) (hsr : Src w L.size B zs.length news) (h1 : ∀ u ∈ news, u.oneCell' = true) (hnz : ∀ i x, zs[i]? = some x → ∃ vs, L.R w G x vs ∧ ∀ j u, vs[j]? = some u → news[i * L.size + j]? = some u)
    (hB : B = none → zs.length = 0) (hG : ∀ b, G b → b < w.heap.size ∧ (Value.slice A xs.length c).ownBlock ≠ some b ∧ Q w b)
    (hn : xs.length ≤ 2000000) (hm : zs.length ≤ 2000000) (hb : bytes ≤ 128) (hlo : lo ≤ w.heap.size) (hy : ys = xs ++ zs)
    (h : ∀ A' c' w', OwnL L Q e w' lo (.slice A' ys.length c') ys → w.grownBy w' (Value.slice A xs.length c).ownBlock →
      ((Value.slice A' ys.length c').ownBlock = (Value.slice A xs.length c).ownBlock ∨ ∃ g, (Value.slice A' ys.length c').ownBlock = some g ∧ w.heap.size ≤ g) → wpList P ops Q' rest (a.put o.dst (.slice A' ys.length c')) w') :
    wpList P ops Q' (o :: rest) a w := by
  obtain ⟨A', c', w', hrun, h2, h3, h4⟩ := run_append_rowsS (d := d) (ty := o.type) ht hi hz hsize hby hzs hsz hown hQ hsr h1 hnz hB hG hn hm hb hlo hy
  refine wpList_plain hgd fun _ hK => ?_
  unfold Oper.wp execOp
  simp only [ho, resolve, invoke, builtin, Sem.run_bind, Sem.run_pure, Result.andThen_ok, List.map_toArray, List.map_cons, List.map_nil, hs, hyv, hrun]
  exact hK _ _ (h A' c' w' h2 h3 h4)
/-- append of a slice that is read anywhere. -/
theorem run_append_rows {P : Program} {w : World} {α : Type} {L : Lay α} {Q : World → Nat → Prop} {t e ty : TypeId} {i : TypeInfo} {z : Value} {bytes : Nat} {G : Nat → Prop}
    {lo : Nat} {A B : Option Addr} {c d : Nat} {xs zs ys : List α} (ht : P.underlying t = some (.slice e)) (hi : P.info? e = some i) (hz : i.zero = some z) (hsize : i.size = L.size) (hby : i.bytes = bytes) (hzs : z.cells.size = L.size) (hsz : 0 < L.size)
    (hL : ∀ w F x vs, L.R w F x vs → ∀ u ∈ vs, u.oneCell' = true)
    (hown : OwnL L Q e w lo (.slice A xs.length c) xs) (hQ : Stay Q) (hr : L.Sl w G B zs) (hG : ∀ b, G b → b < w.heap.size ∧ (Value.slice A xs.length c).ownBlock ≠ some b ∧ Q w b)
    (hn : xs.length ≤ 2000000) (hm : zs.length ≤ 2000000) (hb : bytes ≤ 128) (hlo : lo ≤ w.heap.size) (hy : ys = xs ++ zs) :
    ∃ A' c' w', (Builtin.append_ #[t, t] ty #[.slice A xs.length c, .slice B zs.length d]).run P w = .ok (.slice A' ys.length c') w' ∧ OwnL L Q e w' lo (.slice A' ys.length c') ys ∧ w.grownBy w' (Value.slice A xs.length c).ownBlock ∧
      ((Value.slice A' ys.length c').ownBlock = (Value.slice A xs.length c).ownBlock ∨ ∃ g, (Value.slice A' ys.length c').ownBlock = some g ∧ w.heap.size ≤ g) := by
  have hl : xs.length + zs.length = ys.length := by rw [hy]; simp
  obtain ⟨ks, hk1, hk2⟩ := hown
  obtain ⟨news, hs, h1, hnz⟩ := hr.src (fun x vs h => hL _ _ x vs h)
  have hbb : ys.length * bytes ≤ 140737488355328 := by
    have : ys.length * bytes ≤ 4000000 * 128 := Nat.mul_le_mul (by omega) hb
    omega
  have hB : B = none → zs.length = 0 := fun e => by
    rcases Nat.eq_zero_or_pos zs.length with h9 | h9
    · exact h9
    · obtain ⟨ad, e9, _⟩ := hr h9
      rw [e] at e9; cases e9
  obtain ⟨A', c', w', hrun, ho', hg', hbk⟩ := run_append_src_at (P := P) w lo t ty e i z L.size bytes ht hi hz hsize hby hzs hsz _ xs.length ks hk1 B zs.length d news hs h1 ys.length hl (by unfold maxLen; omega) hbb hlo hB
  exact ⟨A', c', w', hrun, OwnL.appended ⟨ks, hk1, hk2⟩ hQ hG hy hk1 hk2 hnz ho' hg' hbk, hg', hbk⟩
theorem wpList_append_rows {P : Program} {Q' : Exit → Act → World → Prop} {ops : Array Oper} {rest : List Oper} {o : Oper} {a : Act} {w : World} {α : Type} {L : Lay α} {Q : World → Nat → Prop} {t e : TypeId} {i : TypeInfo} {z : Value} {bytes : Nat} {G : Nat → Prop}
    {lo : Nat} {A B : Option Addr} {c d : Nat} {xs zs ys : List α} (hgd : o.guard = none) (s y : Operand)
    (ho : o.op = .call { callee := .builtin .append, args := #[s, y], argTypes := #[t, t] }) (ht : P.underlying t = some (.slice e)) (hi : P.info? e = some i) (hz : i.zero = some z) (hsize : i.size = L.size) (hby : i.bytes = bytes) (hzs : z.cells.size = L.size) (hsz : 0 < L.size)
    (hL : ∀ w F x vs, L.R w F x vs → ∀ u ∈ vs, u.oneCell' = true) (hs : a.eval s = .slice A xs.length c) (hyv : a.eval y = .slice B zs.length d)
    (hown : OwnL L Q e w lo (.slice A xs.length c) xs) (hQ : Stay Q) (hr : L.Sl w G B zs) (hG : ∀ b, G b → b < w.heap.size ∧ (Value.slice A xs.length c).ownBlock ≠ some b ∧ Q w b)
    (hn : xs.length ≤ 2000000) (hm : zs.length ≤ 2000000) (hb : bytes ≤ 128) (hlo : lo ≤ w.heap.size) (hy : ys = xs ++ zs)
    (h : ∀ A' c' w', OwnL L Q e w' lo (.slice A' ys.length c') ys → w.grownBy w' (Value.slice A xs.length c).ownBlock →
      ((Value.slice A' ys.length c').ownBlock = (Value.slice A xs.length c).ownBlock ∨ ∃ g, (Value.slice A' ys.length c').ownBlock = some g ∧ w.heap.size ≤ g) → wpList P ops Q' rest (a.put o.dst (.slice A' ys.length c')) w') :
    wpList P ops Q' (o :: rest) a w := by
  obtain ⟨A', c', w', hrun, h1, h2, h3⟩ := run_append_rows (d := d) (ty := o.type) ht hi hz hsize hby hzs hsz hL hown hQ hr hG hn hm hb hlo hy
  refine wpList_plain hgd fun _ hK => ?_
  unfold Oper.wp execOp
  simp only [ho, resolve, invoke, builtin, Sem.run_bind, Sem.run_pure, Result.andThen_ok, List.map_toArray, List.map_cons, List.map_nil, hs, hyv, hrun]
  exact hK _ _ (h A' c' w' h1 h2 h3)
end Go.Proofs.Ytbljfhmcebgdaaa
