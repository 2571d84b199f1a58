/- Copies, comparisons, marks of searches. -/
import Derived.Test.YtndolbplkjhooaaUniS
import Derived.Test.YtndolbplkjhooaaSatS4
namespace Go.Proofs.Ytndolbplkjhooaa
open Go Go.RowKit

/-- A copy of a search. -/
def CopyS (s : S) (w : World) (e : Ending) (w' : World) : Prop :=
  ∃ A B D a b d, e = .returned (.agg #[.slice A s.put.length a, .slice B s.why.length b, .slice D s.learned.length d, .int .i64 s.code]) ∧ s.put.length ≤ a ∧ s.why.length ≤ b ∧ s.learned.length ≤ d ∧
    Lay.int.Sl w' (Own w.heap.size w') A s.put ∧ Lay.int.Sl w' (Own w.heap.size w') B s.why ∧ Lay.int.slice.Sl w' (Own w.heap.size w') D s.learned ∧ Below w.heap.size w w'
theorem block_set_far {w : World} {r : Nat} {o : Obj} (h : w.heap[r]? = some o) (p : Addr) (u : Value) (hp : r ≠ p.block) : (w.setCell p u).heap[r]? = some o := (Below.heap_setCell w p u r hp).trans h
theorem three_boxes (w : World) (o o' o'' : Obj) : Below w.heap.size w (((w.alloc o).alloc o').alloc o'') ∧ (((w.alloc o).alloc o').alloc o'').heap[w.heap.size]? = some o ∧ (((w.alloc o).alloc o').alloc o'').heap[w.heap.size + 1]? = some o' ∧
    (((w.alloc o).alloc o').alloc o'').heap[w.heap.size + 1 + 1]? = some o'' ∧ (((w.alloc o).alloc o').alloc o'').heap.size = w.heap.size + 1 + 1 + 1 := by
  obtain ⟨h1, h2, h3, h4⟩ := two_boxes w o o'
  have h5 := heap_alloc_new ((w.alloc o).alloc o') o''
  have hb : Below ((w.alloc o).alloc o').heap.size ((w.alloc o).alloc o') (((w.alloc o).alloc o').alloc o'') := (Below.refl _ _).alloc (Nat.le_refl _) _
  exact ⟨bthen h1 hb, (hb.block _ (by omega)).trans h2, (hb.block _ (by omega)).trans h3, by rw [← h4]; exact h5, by simp⟩
set_option maxRecDepth 100000 in
set_option maxHeartbeats 2000000 in
theorem toSat_u (s : S) (A B D : Option Addr) (a b d : Nat) (w : World) (hp : Lay.int.Rd w A s.put) (hq : Lay.int.Rd w B s.why) (hd : Lay.int.slice.Rd w D s.learned) (ss : smSat s) :
    Calls Try.prog 25 #[.agg #[.slice A s.put.length a, .slice B s.why.length b, .slice D s.learned.length d, .int .i64 s.code]] w (CopyS s w) := by
  obtain ⟨hw, hB0, hB1, hB2, hWS⟩ := three_boxes w (.cells #[.slice A s.put.length a, .slice B s.why.length b, .slice D s.learned.length d, .int .i64 s.code] 43) (.cells #[.slice none 0 0, .slice none 0 0, .slice none 0 0, .int .i64 0] 46) (.cells #[.slice none 0 0, .slice none 0 0, .slice none 0 0, .int .i64 0] 46)
  have HR : Hid (SatR w (fun b => b < w.heap.size) A B D s) := Lib.hid ⟨hp, hq, hd⟩
  have HW := Lib.hid hw
  have HB0 := Lib.hid hB0
  have HB1 := Lib.hid hB1
  have HB2 := Lib.hid hB2
  have HWS := Lib.hid hWS
  have SS := Lib.hid ss
  clear hp hq hd hw hB0 hB1 hB2 hWS ss
  go_enter Try.func25, Try.ntmps25
  go_wp2_with fail
  generalize ((w.alloc (.cells #[.slice A s.put.length a, .slice B s.why.length b, .slice D s.learned.length d, .int .i64 s.code] 43)).alloc (.cells #[.slice none 0 0, .slice none 0 0, .slice none 0 0, .int .i64 0] 46)).alloc (.cells #[.slice none 0 0, .slice none 0 0, .slice none 0 0, .int .i64 0] 46) = V0 at *
  have HZ0 : Hid (w.heap.size + 3 ≤ V0.heap.size) := Lib.hid (by have := HWS.out; omega)
  have HRV0 : Hid (SatR V0 (fun b => b < V0.heap.size) A B D s) := Lib.hid ((HR.out.below HW.out (fun _ h => h)).mono (G := fun b => b < V0.heap.size) fun b h9 => Nat.lt_of_lt_of_le h9 HW.out.size)
  refine (toInts_u s.put A a _ (HRV0.out.a.mono fun _ h => h) SS.out.1).mono ?_
  rintro e X0 ⟨EA, ea, rfl, hc0, s0, hb0⟩
  have HC0 := Lib.hid hc0
  have HB0 := Lib.hid ((hb0.block _ (by have := HZ0.out; omega)).trans HB0.out)
  have HB1 := Lib.hid ((hb0.block _ (by have := HZ0.out; omega)).trans HB1.out)
  have HB2 := Lib.hid ((hb0.block _ (by have := HZ0.out; omega)).trans HB2.out)
  have S0 : Hid (Lay.int.Sl X0 (Own (w.heap.size + 3) X0) EA s.put) := Lib.hid (s0.own_mono HZ0.out)
  have HW := Lib.hid (bthen HW.out hb0)
  have HZX0 : Hid (w.heap.size + 3 ≤ X0.heap.size) := Lib.hid (Nat.le_trans HZ0.out hb0.size)
  clear s0 hb0 hc0
  have c0 : X0.cell? ⟨w.heap.size, 0, none⟩ = some (.slice A s.put.length a) := (cell_of_block HB0.out 0).1
  have c1 : X0.cell? ⟨w.heap.size, 1, none⟩ = some (.slice B s.why.length b) := (cell_of_block HB0.out 1).1
  have c2 : X0.cell? ⟨w.heap.size, 2, none⟩ = some (.slice D s.learned.length d) := (cell_of_block HB0.out 2).1
  have c3 : X0.cell? ⟨w.heap.size, 3, none⟩ = some (.int .i64 s.code) := (cell_of_block HB0.out 3).1
  have t0 : X0.cell? ⟨w.heap.size + 1 + 1, 0, none⟩ = some (.slice none 0 0) := (cell_of_block HB2.out 0).1
  have t1 : X0.cell? ⟨w.heap.size + 1 + 1, 1, none⟩ = some (.slice none 0 0) := (cell_of_block HB2.out 1).1
  have t2 : X0.cell? ⟨w.heap.size + 1 + 1, 2, none⟩ = some (.slice none 0 0) := (cell_of_block HB2.out 2).1
  have t3 : X0.cell? ⟨w.heap.size + 1 + 1, 3, none⟩ = some (.int .i64 0) := (cell_of_block HB2.out 3).1
  have f0 : ∀ o, X0.frozen? ⟨w.heap.size + 1 + 1, o, none⟩ = false := fun o => (cell_of_block HB2.out o).2
  go_wp2_with fail
  clear c0 c1 c2 c3 t0 t1 t2 t3 f0
  have HB2N : Hid ((X0.setCell ⟨w.heap.size + 1 + 1, 0, none⟩ (.slice EA s.put.length ea)).heap[w.heap.size + 1 + 1]? = some (.cells #[.slice EA s.put.length ea, .slice none 0 0, .slice none 0 0, .int .i64 0] 46 (0, 0))) := Lib.hid ((heap_set_same X0 _ 0 _ _ _ HB2.out).trans rfl)
  have HB0 := Lib.hid (block_set_far HB0.out ⟨w.heap.size + 1 + 1, 0, none⟩ (.slice EA s.put.length ea) (by dsimp only; omega))
  have HB1 := Lib.hid (block_set_far HB1.out ⟨w.heap.size + 1 + 1, 0, none⟩ (.slice EA s.put.length ea) (by dsimp only; omega))
  have S0 := Lib.hid (S0.out.own_set ⟨w.heap.size + 1 + 1, 0, none⟩ (.slice EA s.put.length ea) (by dsimp only; omega))
  have HW := Lib.hid (below_set8 HW.out (p := ⟨w.heap.size + 1 + 1, 0, none⟩) (by dsimp only; omega) (.slice EA s.put.length ea))
  have HZ1 : Hid (w.heap.size + 3 ≤ (X0.setCell ⟨w.heap.size + 1 + 1, 0, none⟩ (.slice EA s.put.length ea)).heap.size) := Lib.hid (by rw [size_setCell]; exact HZX0.out)
  generalize X0.setCell ⟨w.heap.size + 1 + 1, 0, none⟩ (.slice EA s.put.length ea) = V1 at *
  have HB2 := HB2N
  clear HB2N
  have HRV1 : Hid (SatR V1 (fun b => b < V1.heap.size) A B D s) := Lib.hid ((HR.out.below HW.out (fun _ h => h)).mono (G := fun b => b < V1.heap.size) fun b h9 => Nat.lt_of_lt_of_le h9 HW.out.size)
  refine (toInts_u s.why B b _ (HRV1.out.b.mono fun _ h => h) SS.out.2.1).mono ?_
  rintro e X1 ⟨EB, eb, rfl, hc1, s1, hb1⟩
  have HC1 := Lib.hid hc1
  have HB0 := Lib.hid ((hb1.block _ (by have := HZ1.out; omega)).trans HB0.out)
  have HB1 := Lib.hid ((hb1.block _ (by have := HZ1.out; omega)).trans HB1.out)
  have HB2 := Lib.hid ((hb1.block _ (by have := HZ1.out; omega)).trans HB2.out)
  have S0 := Lib.hid (S0.out.own_up hb1)
  have S1 : Hid (Lay.int.Sl X1 (Own (w.heap.size + 3) X1) EB s.why) := Lib.hid (s1.own_mono HZ1.out)
  have HW := Lib.hid (bthen HW.out hb1)
  have HZX1 : Hid (w.heap.size + 3 ≤ X1.heap.size) := Lib.hid (Nat.le_trans HZ1.out hb1.size)
  clear s1 hb1 hc1
  have c0 : X1.cell? ⟨w.heap.size, 0, none⟩ = some (.slice A s.put.length a) := (cell_of_block HB0.out 0).1
  have c1 : X1.cell? ⟨w.heap.size, 1, none⟩ = some (.slice B s.why.length b) := (cell_of_block HB0.out 1).1
  have c2 : X1.cell? ⟨w.heap.size, 2, none⟩ = some (.slice D s.learned.length d) := (cell_of_block HB0.out 2).1
  have c3 : X1.cell? ⟨w.heap.size, 3, none⟩ = some (.int .i64 s.code) := (cell_of_block HB0.out 3).1
  have t0 : X1.cell? ⟨w.heap.size + 1 + 1, 0, none⟩ = some (.slice EA s.put.length ea) := (cell_of_block HB2.out 0).1
  have t1 : X1.cell? ⟨w.heap.size + 1 + 1, 1, none⟩ = some (.slice none 0 0) := (cell_of_block HB2.out 1).1
  have t2 : X1.cell? ⟨w.heap.size + 1 + 1, 2, none⟩ = some (.slice none 0 0) := (cell_of_block HB2.out 2).1
  have t3 : X1.cell? ⟨w.heap.size + 1 + 1, 3, none⟩ = some (.int .i64 0) := (cell_of_block HB2.out 3).1
  have f0 : ∀ o, X1.frozen? ⟨w.heap.size + 1 + 1, o, none⟩ = false := fun o => (cell_of_block HB2.out o).2
  go_wp2_with fail
  clear c0 c1 c2 c3 t0 t1 t2 t3 f0
  have HB2N : Hid ((X1.setCell ⟨w.heap.size + 1 + 1, 1, none⟩ (.slice EB s.why.length eb)).heap[w.heap.size + 1 + 1]? = some (.cells #[.slice EA s.put.length ea, .slice EB s.why.length eb, .slice none 0 0, .int .i64 0] 46 (0, 0))) := Lib.hid ((heap_set_same X1 _ 1 _ _ _ HB2.out).trans rfl)
  have HB0 := Lib.hid (block_set_far HB0.out ⟨w.heap.size + 1 + 1, 1, none⟩ (.slice EB s.why.length eb) (by dsimp only; omega))
  have HB1 := Lib.hid (block_set_far HB1.out ⟨w.heap.size + 1 + 1, 1, none⟩ (.slice EB s.why.length eb) (by dsimp only; omega))
  have S0 := Lib.hid (S0.out.own_set ⟨w.heap.size + 1 + 1, 1, none⟩ (.slice EB s.why.length eb) (by dsimp only; omega))
  have S1 := Lib.hid (S1.out.own_set ⟨w.heap.size + 1 + 1, 1, none⟩ (.slice EB s.why.length eb) (by dsimp only; omega))
  have HW := Lib.hid (below_set8 HW.out (p := ⟨w.heap.size + 1 + 1, 1, none⟩) (by dsimp only; omega) (.slice EB s.why.length eb))
  have HZ2 : Hid (w.heap.size + 3 ≤ (X1.setCell ⟨w.heap.size + 1 + 1, 1, none⟩ (.slice EB s.why.length eb)).heap.size) := Lib.hid (by rw [size_setCell]; exact HZX1.out)
  generalize X1.setCell ⟨w.heap.size + 1 + 1, 1, none⟩ (.slice EB s.why.length eb) = V2 at *
  have HB2 := HB2N
  clear HB2N
  have HRV2 : Hid (SatR V2 (fun b => b < V2.heap.size) A B D s) := Lib.hid ((HR.out.below HW.out (fun _ h => h)).mono (G := fun b => b < V2.heap.size) fun b h9 => Nat.lt_of_lt_of_le h9 HW.out.size)
  refine (toIntSS_any D d s.learned _ V2 (HRV2.out.d) (fun _ h => h) SS.out.2.2.1.1 (fun l hl => (SS.out.2.2.1.2.1 l hl).1)).mono ?_
  rintro e X2 ⟨ED, ed, rfl, hc2, s2, hb2⟩
  have HC2 := Lib.hid hc2
  have HB0 := Lib.hid ((hb2.block _ (by have := HZ2.out; omega)).trans HB0.out)
  have HB1 := Lib.hid ((hb2.block _ (by have := HZ2.out; omega)).trans HB1.out)
  have HB2 := Lib.hid ((hb2.block _ (by have := HZ2.out; omega)).trans HB2.out)
  have S0 := Lib.hid (S0.out.own_up hb2)
  have S1 := Lib.hid (S1.out.own_up hb2)
  have S2 : Hid (Lay.int.slice.Sl X2 (Own (w.heap.size + 3) X2) ED s.learned) := Lib.hid (s2.own_mono HZ2.out)
  have HW := Lib.hid (bthen HW.out hb2)
  have HZX2 : Hid (w.heap.size + 3 ≤ X2.heap.size) := Lib.hid (Nat.le_trans HZ2.out hb2.size)
  clear s2 hb2 hc2
  have c0 : X2.cell? ⟨w.heap.size, 0, none⟩ = some (.slice A s.put.length a) := (cell_of_block HB0.out 0).1
  have c1 : X2.cell? ⟨w.heap.size, 1, none⟩ = some (.slice B s.why.length b) := (cell_of_block HB0.out 1).1
  have c2 : X2.cell? ⟨w.heap.size, 2, none⟩ = some (.slice D s.learned.length d) := (cell_of_block HB0.out 2).1
  have c3 : X2.cell? ⟨w.heap.size, 3, none⟩ = some (.int .i64 s.code) := (cell_of_block HB0.out 3).1
  have t0 : X2.cell? ⟨w.heap.size + 1 + 1, 0, none⟩ = some (.slice EA s.put.length ea) := (cell_of_block HB2.out 0).1
  have t1 : X2.cell? ⟨w.heap.size + 1 + 1, 1, none⟩ = some (.slice EB s.why.length eb) := (cell_of_block HB2.out 1).1
  have t2 : X2.cell? ⟨w.heap.size + 1 + 1, 2, none⟩ = some (.slice none 0 0) := (cell_of_block HB2.out 2).1
  have t3 : X2.cell? ⟨w.heap.size + 1 + 1, 3, none⟩ = some (.int .i64 0) := (cell_of_block HB2.out 3).1
  have f0 : ∀ o, X2.frozen? ⟨w.heap.size + 1 + 1, o, none⟩ = false := fun o => (cell_of_block HB2.out o).2
  have r0 : X2.cell? ⟨w.heap.size + 1, 0, none⟩ = some (.slice none 0 0) := (cell_of_block HB1.out 0).1
  have r1 : X2.cell? ⟨w.heap.size + 1, 1, none⟩ = some (.slice none 0 0) := (cell_of_block HB1.out 1).1
  have r2 : X2.cell? ⟨w.heap.size + 1, 2, none⟩ = some (.slice none 0 0) := (cell_of_block HB1.out 2).1
  have r3 : X2.cell? ⟨w.heap.size + 1, 3, none⟩ = some (.int .i64 0) := (cell_of_block HB1.out 3).1
  have f1 : ∀ o, X2.frozen? ⟨w.heap.size + 1, o, none⟩ = false := fun o => (cell_of_block HB1.out o).2
  go_wp2
  refine bodyPost_ret (v := .agg #[.slice EA s.put.length ea, .slice EB s.why.length eb, .slice ED s.learned.length ed, .int .i64 s.code]) (by simp [results, Try.results25, go_sem, r0, r1, r2, r3, t0, t1, t2, t3, f0, f1]) rfl ⟨EA, EB, ED, ea, eb, ed, rfl, HC0.out, HC1.out, HC2.out, ?_, ?_, ?_, ?_⟩
  · exact Lay.Sl.own_mono (lo := w.heap.size + 3) ((((((S0.out.own_set _ _ (by simp <;> omega)).own_set _ _ (by simp <;> omega)).own_set _ _ (by simp <;> omega)).own_set _ _ (by simp <;> omega)).own_set _ _ (by simp <;> omega)).own_set _ _ (by simp <;> omega)) (by omega)
  · exact Lay.Sl.own_mono (lo := w.heap.size + 3) ((((((S1.out.own_set _ _ (by simp <;> omega)).own_set _ _ (by simp <;> omega)).own_set _ _ (by simp <;> omega)).own_set _ _ (by simp <;> omega)).own_set _ _ (by simp <;> omega)).own_set _ _ (by simp <;> omega)) (by omega)
  · exact Lay.Sl.own_mono (lo := w.heap.size + 3) ((((((S2.out.own_set _ _ (by simp <;> omega)).own_set _ _ (by simp <;> omega)).own_set _ _ (by simp <;> omega)).own_set _ _ (by simp <;> omega)).own_set _ _ (by simp <;> omega)).own_set _ _ (by simp <;> omega)) (by omega)
  · exact below_set8 (below_set8 (below_set8 (below_set8 (below_set8 (below_set8 HW.out (by simp <;> omega) _) (by simp <;> omega) _) (by simp <;> omega) _) (by simp <;> omega) _) (by simp <;> omega) _) (by simp <;> omega) _

set_option maxRecDepth 100000 in
set_option maxHeartbeats 1000000 in
theorem eqSat_u (s : S) (A A' B B' D D' : Option Addr) (a a' b b' d d' : Nat) (w : World) (hp : Lay.int.Rd w A s.put) (hq : Lay.int.Rd w B s.why) (hd : Lay.int.slice.Rd w D s.learned) (hp' : Lay.int.Rd w A' s.put) (hq' : Lay.int.Rd w B' s.why) (hd' : Lay.int.slice.Rd w D' s.learned) (ss : smSat s) :
    Calls Try.prog 27 #[.agg #[.slice A s.put.length a, .slice B s.why.length b, .slice D s.learned.length d, .int .i64 s.code], .agg #[.slice A' s.put.length a', .slice B' s.why.length b', .slice D' s.learned.length d', .int .i64 s.code]] w (RetB w true) := by
  obtain ⟨hw, hB0, hB1, hWS⟩ := two_boxes w (.cells #[.slice A s.put.length a, .slice B s.why.length b, .slice D s.learned.length d, .int .i64 s.code] 46) (.cells #[.slice A' s.put.length a', .slice B' s.why.length b', .slice D' s.learned.length d', .int .i64 s.code] 46)
  have HR : Hid (SatR w (fun b => b < w.heap.size) A B D s) := Lib.hid ⟨hp, hq, hd⟩
  have HR' : Hid (SatR w (fun b => b < w.heap.size) A' B' D' s) := Lib.hid ⟨hp', hq', hd'⟩
  have HW := Lib.hid hw
  have HB0 := Lib.hid hB0
  have HB1 := Lib.hid hB1
  have HWS := Lib.hid hWS
  have SS := Lib.hid ss
  have hcc : (s.code != s.code) = false := by simp
  clear hp hq hd hw hB0 hB1 hWS ss hp' hq' hd'
  go_enter Try.func27, Try.ntmps27
  go_wp2_with fail
  generalize (w.alloc (.cells #[.slice A s.put.length a, .slice B s.why.length b, .slice D s.learned.length d, .int .i64 s.code] 46)).alloc (.cells #[.slice A' s.put.length a', .slice B' s.why.length b', .slice D' s.learned.length d', .int .i64 s.code] 46) = V0 at *
  have HZ0 : Hid (w.heap.size + 2 ≤ V0.heap.size) := Lib.hid (by have := HWS.out; omega)
  have HRV : Hid (SatR V0 (fun b => b < V0.heap.size) A B D s) := Lib.hid ((HR.out.below HW.out (fun _ h => h)).mono (G := fun b => b < V0.heap.size) fun b h9 => Nat.lt_of_lt_of_le h9 HW.out.size)
  have HRV' : Hid (SatR V0 (fun b => b < V0.heap.size) A' B' D' s) := Lib.hid ((HR'.out.below HW.out (fun _ h => h)).mono (G := fun b => b < V0.heap.size) fun b h9 => Nat.lt_of_lt_of_le h9 HW.out.size)
  refine (eqInts_u s.put A A' a a' _ HRV.out.a HRV'.out.a SS.out.1.1).mono ?_
  rintro e V1 ⟨rfl, hb9⟩
  have HB0 := Lib.hid ((hb9.block _ (by have := HZ0.out; omega)).trans HB0.out)
  have HB1 := Lib.hid ((hb9.block _ (by have := HZ0.out; omega)).trans HB1.out)
  have HZ1 : Hid (w.heap.size + 2 ≤ V1.heap.size) := Lib.hid (Nat.le_trans HZ0.out hb9.size)
  have HW := Lib.hid (bthen HW.out hb9)
  clear hb9 HRV HRV'
  have c0 : V1.cell? ⟨w.heap.size, 0, none⟩ = some (.slice A s.put.length a) := (cell_of_block HB0.out 0).1
  have c1 : V1.cell? ⟨w.heap.size, 1, none⟩ = some (.slice B s.why.length b) := (cell_of_block HB0.out 1).1
  have c2 : V1.cell? ⟨w.heap.size, 2, none⟩ = some (.slice D s.learned.length d) := (cell_of_block HB0.out 2).1
  have c3 : V1.cell? ⟨w.heap.size, 3, none⟩ = some (.int .i64 s.code) := (cell_of_block HB0.out 3).1
  have d0 : V1.cell? ⟨w.heap.size + 1, 0, none⟩ = some (.slice A' s.put.length a') := (cell_of_block HB1.out 0).1
  have d1 : V1.cell? ⟨w.heap.size + 1, 1, none⟩ = some (.slice B' s.why.length b') := (cell_of_block HB1.out 1).1
  have d2 : V1.cell? ⟨w.heap.size + 1, 2, none⟩ = some (.slice D' s.learned.length d') := (cell_of_block HB1.out 2).1
  have d3 : V1.cell? ⟨w.heap.size + 1, 3, none⟩ = some (.int .i64 s.code) := (cell_of_block HB1.out 3).1
  go_wp2_with fail
  clear c0 c1 c2 c3 d0 d1 d2 d3
  have HRV : Hid (SatR V1 (fun b => b < V1.heap.size) A B D s) := Lib.hid ((HR.out.below HW.out (fun _ h => h)).mono (G := fun b => b < V1.heap.size) fun b h9 => Nat.lt_of_lt_of_le h9 HW.out.size)
  have HRV' : Hid (SatR V1 (fun b => b < V1.heap.size) A' B' D' s) := Lib.hid ((HR'.out.below HW.out (fun _ h => h)).mono (G := fun b => b < V1.heap.size) fun b h9 => Nat.lt_of_lt_of_le h9 HW.out.size)
  refine (eqInts_u s.why B B' b b' _ HRV.out.b HRV'.out.b SS.out.2.1.1).mono ?_
  rintro e V2 ⟨rfl, hb9⟩
  have HB0 := Lib.hid ((hb9.block _ (by have := HZ1.out; omega)).trans HB0.out)
  have HB1 := Lib.hid ((hb9.block _ (by have := HZ1.out; omega)).trans HB1.out)
  have HZ2 : Hid (w.heap.size + 2 ≤ V2.heap.size) := Lib.hid (Nat.le_trans HZ1.out hb9.size)
  have HW := Lib.hid (bthen HW.out hb9)
  clear hb9 HRV HRV'
  have c0 : V2.cell? ⟨w.heap.size, 0, none⟩ = some (.slice A s.put.length a) := (cell_of_block HB0.out 0).1
  have c1 : V2.cell? ⟨w.heap.size, 1, none⟩ = some (.slice B s.why.length b) := (cell_of_block HB0.out 1).1
  have c2 : V2.cell? ⟨w.heap.size, 2, none⟩ = some (.slice D s.learned.length d) := (cell_of_block HB0.out 2).1
  have c3 : V2.cell? ⟨w.heap.size, 3, none⟩ = some (.int .i64 s.code) := (cell_of_block HB0.out 3).1
  have d0 : V2.cell? ⟨w.heap.size + 1, 0, none⟩ = some (.slice A' s.put.length a') := (cell_of_block HB1.out 0).1
  have d1 : V2.cell? ⟨w.heap.size + 1, 1, none⟩ = some (.slice B' s.why.length b') := (cell_of_block HB1.out 1).1
  have d2 : V2.cell? ⟨w.heap.size + 1, 2, none⟩ = some (.slice D' s.learned.length d') := (cell_of_block HB1.out 2).1
  have d3 : V2.cell? ⟨w.heap.size + 1, 3, none⟩ = some (.int .i64 s.code) := (cell_of_block HB1.out 3).1
  go_wp2_with fail
  clear c0 c1 c2 c3 d0 d1 d2 d3
  have HRV : Hid (SatR V2 (fun b => b < V2.heap.size) A B D s) := Lib.hid ((HR.out.below HW.out (fun _ h => h)).mono (G := fun b => b < V2.heap.size) fun b h9 => Nat.lt_of_lt_of_le h9 HW.out.size)
  have HRV' : Hid (SatR V2 (fun b => b < V2.heap.size) A' B' D' s) := Lib.hid ((HR'.out.below HW.out (fun _ h => h)).mono (G := fun b => b < V2.heap.size) fun b h9 => Nat.lt_of_lt_of_le h9 HW.out.size)
  refine (eqRows_u s.learned D D' d d' _ HRV.out.d HRV'.out.d SS.out.2.2.1).mono ?_
  rintro e V3 ⟨rfl, hb9⟩
  have HB0 := Lib.hid ((hb9.block _ (by have := HZ2.out; omega)).trans HB0.out)
  have HB1 := Lib.hid ((hb9.block _ (by have := HZ2.out; omega)).trans HB1.out)
  have HZ3 : Hid (w.heap.size + 2 ≤ V3.heap.size) := Lib.hid (Nat.le_trans HZ2.out hb9.size)
  have HW := Lib.hid (bthen HW.out hb9)
  clear hb9 HRV HRV'
  have c0 : V3.cell? ⟨w.heap.size, 0, none⟩ = some (.slice A s.put.length a) := (cell_of_block HB0.out 0).1
  have c1 : V3.cell? ⟨w.heap.size, 1, none⟩ = some (.slice B s.why.length b) := (cell_of_block HB0.out 1).1
  have c2 : V3.cell? ⟨w.heap.size, 2, none⟩ = some (.slice D s.learned.length d) := (cell_of_block HB0.out 2).1
  have c3 : V3.cell? ⟨w.heap.size, 3, none⟩ = some (.int .i64 s.code) := (cell_of_block HB0.out 3).1
  have d0 : V3.cell? ⟨w.heap.size + 1, 0, none⟩ = some (.slice A' s.put.length a') := (cell_of_block HB1.out 0).1
  have d1 : V3.cell? ⟨w.heap.size + 1, 1, none⟩ = some (.slice B' s.why.length b') := (cell_of_block HB1.out 1).1
  have d2 : V3.cell? ⟨w.heap.size + 1, 2, none⟩ = some (.slice D' s.learned.length d') := (cell_of_block HB1.out 2).1
  have d3 : V3.cell? ⟨w.heap.size + 1, 3, none⟩ = some (.int .i64 s.code) := (cell_of_block HB1.out 3).1
  go_wp2
  go_ret
  exact ⟨rfl, HW.out⟩

set_option maxRecDepth 100000 in
set_option maxHeartbeats 1000000 in
theorem markSat_u (s : S) (A B D : Option Addr) (a b d lo hi : Nat) (k0 : Int) (w : World) (hp : Lay.int.Sl w (Cp lo hi w) A s.put) (hq : Lay.int.Sl w (Cp lo hi w) B s.why) (hd : Lay.int.slice.Sl w (Cp lo hi w) D s.learned) (ss : smSat s) (h0 : 0 ≤ k0) (h1 : k0 ≤ 400000000) :
    Calls Try.prog 34 #[.agg #[.slice A s.put.length a, .slice B s.why.length b, .slice D s.learned.length d, .int .i64 s.code], .int .i64 k0] w (MkD (Rng lo hi) (k0 + (mwS s : Nat)) w) := by
  have hw : Below w.heap.size w (w.alloc (.cells #[.slice A s.put.length a, .slice B s.why.length b, .slice D s.learned.length d, .int .i64 s.code] 46)) := (Below.refl _ _).alloc (Nat.le_refl _) _
  have HB := Lib.hid (heap_alloc_new w (.cells #[.slice A s.put.length a, .slice B s.why.length b, .slice D s.learned.length d, .int .i64 s.code] 46))
  have HP := Lib.hid (IntsAt.of (G := Cp lo hi w) hp fun b hb => ⟨hb, hb.2.2.2⟩)
  have HQ := Lib.hid (IntsAt.of (G := Cp lo hi w) hq fun b hb => ⟨hb, hb.2.2.2⟩)
  have HD := Lib.hid (RowsAt.of (G := Cp lo hi w) hd fun b hb => ⟨hb, hb.2.2.2⟩)
  have HC : Hid (∀ b, Cp lo hi w b → Rng lo hi b ∧ b < w.heap.size) := Lib.hid fun b hb => ⟨⟨hb.1, hb.2.1⟩, hb.lt⟩
  have SS := Lib.hid ss
  have HW := Lib.hid hw
  have n0 : s.put.length ≤ 1048576 := ss.1.1
  have n1 : s.why.length ≤ 1048576 := ss.2.1.1
  have n2 : s.learned.length ≤ 1048576 := ss.2.2.1.1
  have n3 : nsum (s.learned.map List.length) ≤ 1048576 := ss.2.2.1.2.2
  have HMW := Lib.hid (show mwS s = s.put.length + s.why.length + nsum (s.learned.map List.length) from rfl)
  clear hp hq hd hw ss
  go_enter Try.func34, Try.ntmps34
  go_wp2_with fail
  have HB1 : Hid (¬ Cp lo hi w w.heap.size) := Lib.hid fun h9 => absurd h9.lt (by omega)
  have HDB : Hid (Dab (Cp lo hi w) w (w.alloc (.cells #[.slice A s.put.length a, .slice B s.why.length b, .slice D s.learned.length d, .int .i64 s.code] 46))) := Lib.hid (Dab.of HW.out)
  generalize w.alloc (.cells #[.slice A s.put.length a, .slice B s.why.length b, .slice D s.learned.length d, .int .i64 s.code] 46) = V0 at *
  refine (markIntS_dab A a s.put.length k0 (Cp lo hi w) V0 (HP.out.dab HDB.out) n0 h0 (by omega)).mono ?_
  rintro e V1 ⟨rfl, hd1⟩
  have HB := Lib.hid (box_dab HB.out hd1 HB1.out)
  have HDB := Lib.hid (HDB.out.trans hd1)
  have c1 : V1.cell? ⟨w.heap.size, 1, none⟩ = some (.slice B s.why.length b) := (cell_of_block HB.out 1).1
  obtain ⟨k1, hk1⟩ : ∃ k1 : Int, k1 = k0 + (s.put.length : Nat) := ⟨_, rfl⟩
  have g1 : 0 ≤ k1 ∧ k1 ≤ 410000000 := by omega
  have HK1 := Lib.hid hk1
  rw [← hk1]
  obtain ⟨g10, g11⟩ := g1
  clear hd1 hk1
  go_wp2_with fail
  clear c1
  refine (markIntS_dab B b s.why.length k1 (Cp lo hi w) V1 (HQ.out.dab HDB.out) n1 g10 (by omega)).mono ?_
  rintro e V2 ⟨rfl, hd1⟩
  have HB := Lib.hid (box_dab HB.out hd1 HB1.out)
  have HDB := Lib.hid (HDB.out.trans hd1)
  have c2 : V2.cell? ⟨w.heap.size, 2, none⟩ = some (.slice D s.learned.length d) := (cell_of_block HB.out 2).1
  obtain ⟨k2, hk2⟩ : ∃ k2 : Int, k2 = k1 + (s.why.length : Nat) := ⟨_, rfl⟩
  have g2 : 0 ≤ k2 ∧ k2 ≤ 420000000 := by omega
  have HK2 := Lib.hid hk2
  rw [← hk2]
  obtain ⟨g20, g21⟩ := g2
  clear hd1 hk2
  have hm := markIntSS_dab D d (s.learned.map List.length) k2 (Cp lo hi w) V2 (HD.out.dab HDB.out) (by simpa using n2) n3 g20 (by omega)
  rw [List.length_map] at hm
  have HM := Lib.hid hm
  clear hm
  go_wp2_with fail
  clear c2
  refine HM.out.mono ?_
  rintro e V3 ⟨rfl, hd1⟩
  have HDB := Lib.hid (HDB.out.trans hd1)
  clear hd1
  go_wp2
  go_ret
  exact ⟨ret_int (by rw [HK2.out, HK1.out, HMW.out]; push_cast; omega), HDB.out.rng⟩

end Go.Proofs.Ytndolbplkjhooaa
