/- The program's NetAnd and NetXor. -/
import Derived.Test.YtcdlfnhjpjpbjaaNetI3
import Derived.Test.YtcdlfnhjpjpbjaaNetS6
namespace Go.Proofs.Ytcdlfnhjpjpbjaa
open Go Go.RowKit Go.Maps

theorem put_zero {n : N} {g : G} (h0 : 0 ≤ n.ins) (h : (put n g).2 = 0) : put n g = (⟨0, []⟩, 0) := by
  revert h
  unfold put
  split
  · intro h; dsimp only at h; omega
  · split
    · intro _; rfl
    · intro h; dsimp only at h; omega
theorem and1_zero {n : N} {a b : Int} (h0 : 0 ≤ n.ins) (ha : a ≠ 0) (hb : b ≠ 0) (h : (and1 n a b).2 = 0) : and1 n a b = (⟨0, []⟩, 0) := by
  revert h
  unfold and1
  split
  · intro h; dsimp only at h; omega
  · split
    · intro h; exact absurd h hb
    · split
      · intro h; exact absurd h ha
      · split <;> exact put_zero h0
theorem xor1_zero {n : N} {a b : Int} (h0 : 0 ≤ n.ins) (ha : a ≠ 0) (hb : b ≠ 0) (h : (xor1 n a b).2 = 0) : xor1 n a b = (⟨0, []⟩, 0) := by
  by_cases c1 : a = 1 ∨ a = -1
  · rw [xor1_1 c1] at h; exfalso
    dsimp only at h
    split at h <;> omega
  by_cases c2 : b = 1 ∨ b = -1
  · rw [xor1_2 c1 c2] at h; exfalso
    dsimp only at h
    split at h <;> omega
  by_cases c3 : a = b
  · rw [xor1_3 c1 c2 c3] at h; exact absurd h (by show ¬ (-1 : Int) = 0; decide)
  by_cases c4 : a = -b
  · rw [xor1_4 c1 c2 c3 c4] at h; exact absurd h (by show ¬ (1 : Int) = 0; decide)
  rw [xor1_5 c1 c2 c3 c4] at h ⊢
  have hz : (put n (sortG ⟨true, a.natAbs, b.natAbs⟩)).2 = 0 := by
    dsimp only at h
    split at h <;> omega
  rw [put_zero h0 hz]
  split <;> rfl
theorem circ_cells {lo : Nat} {w : World} {r : Nat} {n : N} {ks : List G} (h : Circ lo w r n ks) : ∃ A c, w.cell? ⟨r, 0, none⟩ = some (.int .i64 n.ins) ∧ w.cell? ⟨r, 1, none⟩ = some (.slice A n.gs.length c) ∧ OwnGs w lo (.slice A n.gs.length c) n.gs := by
  obtain ⟨A, c, b, hr, _, _, ho, _⟩ := h
  exact ⟨A, c, (cell_of_block hr 0).1, (cell_of_block hr 1).1, ho⟩

set_option maxHeartbeats 2000000 in
theorem joinedAnd_any (A : Option Addr) (c : Nat) (n : N) (a b : Int) (w : World) (h : Lay.gate.Rd w A n.gs) (hn : n.gs.length ≤ 1048576) (hA : A = none → n.gs.length = 0) (hi : okInts n)
    (ha : -9223372036854775808 ≤ a ∧ a ≤ 9223372036854775807) (hb : -9223372036854775808 ≤ b ∧ b ≤ 9223372036854775807) :
    Calls Try.prog 27 #[.agg #[.int .i64 n.ins, .slice A n.gs.length c], .int .i64 a, .int .i64 b, .func (.func 28) #[] #[]] w (RetNetOwn w (netOp and1 n a b)) := by
  have hW : Below w.heap.size w ((w.alloc (.cells #[.int .i64 n.ins, .slice A n.gs.length c] 25)).alloc (.cells #[.int .i64 0, .slice none 0 0] 25)) := ((Below.refl _ _).alloc (Nat.le_refl _) _).alloc (by simp) _
  have hlo : w.heap.size + 2 ≤ ((w.alloc (.cells #[.int .i64 n.ins, .slice A n.gs.length c] 25)).alloc (.cells #[.int .i64 0, .slice none 0 0] 25)).heap.size := by simp
  obtain ⟨ha0, ha1⟩ := ha
  obtain ⟨hb0, hb1⟩ := hb
  go_enter Try.func27, Try.ntmps27
  go_wp2_with fail
  refine (readNet_any A c n _ (h.up hW) hn hA hi).mono ?_
  rintro e w1 ⟨hb', hcase⟩
  obtain ⟨k5, k6, kf5, kf6⟩ := res_cells hb'
  rcases hcase with ⟨hok, r, rfl, hC⟩ | ⟨hok, rfl⟩
  rotate_left
  · have HOK := Lib.hid hok
    clear hok
    go_wp2
    have hr : netOp and1 n a b = (⟨0, []⟩, 0) := by simp [netOp, HOK.out]
    refine bodyPost_ret (v := .tuple #[.agg #[.int .i64 0, .slice none 0 0], .int .i64 0]) (by simp [results, Try.results27, go_sem, k5, k6, kf5, kf6]) rfl ?_
    rw [hr]
    refine ⟨none, 0, rfl, World.ownsRow_nil _ _ _ _, ?_⟩
    repeat (refine below_set ?_ (by show w.heap.size ≤ w.heap.size + 1; omega) _)
    exact bthen hW hb'
  have hni : 0 ≤ n.ins ∧ n.ins ≤ 8 ∧ n.gs.length ≤ 600 := by
    have := (netOk_iff n).1 hok; exact ⟨this.1, this.2.1, this.2.2.1⟩
  obtain ⟨hn0, hn1, hn2⟩ := hni
  have HOK := Lib.hid hok
  clear hok
  go_wp2_with fail
  refine (has_any _ r n n.gs a w1 hC hn2 hn0 hn1 ha0 ha1).mono ?_
  cases hma : netMark n a
  · have HMA := Lib.hid hma
    clear hma
    rintro e w2 ⟨rfl, hb2⟩
    have hb' := hb'.trans (hb2.mono hb'.size)
    clear k5 k6 kf5 kf6
    obtain ⟨k5, k6, kf5, kf6⟩ := res_cells hb'
    go_wp2
    have hr : netOp and1 n a b = (⟨0, []⟩, 0) := by simp [netOp, HMA.out]
    refine bodyPost_ret (v := .tuple #[.agg #[.int .i64 0, .slice none 0 0], .int .i64 0]) (by simp [results, Try.results27, go_sem, k5, k6, kf5, kf6]) rfl ?_
    rw [hr]
    refine ⟨none, 0, rfl, World.ownsRow_nil _ _ _ _, ?_⟩
    repeat (refine below_set ?_ (by show w.heap.size ≤ w.heap.size + 1; omega) _)
    exact bthen hW hb'
  rintro e w2 ⟨rfl, hb2⟩
  have hb' := hb'.trans (hb2.mono hb'.size)
  have hC := hC.up hb2
  have hma' : a ≠ 0 ∧ -2000000000 ≤ a ∧ a ≤ 2000000000 := by have := hma; simp [netMark, sigOf] at this; omega
  have HMA := Lib.hid hma
  clear hma k5 k6 kf5 kf6 hb2
  go_wp2_with fail
  refine (has_any _ r n n.gs b w2 hC hn2 hn0 hn1 hb0 hb1).mono ?_
  cases hmb : netMark n b
  · have HMB := Lib.hid hmb
    clear hmb
    rintro e w3 ⟨rfl, hb3⟩
    have hb' := hb'.trans (hb3.mono hb'.size)
    obtain ⟨k5, k6, kf5, kf6⟩ := res_cells hb'
    go_wp2
    have hr : netOp and1 n a b = (⟨0, []⟩, 0) := by simp [netOp, HMB.out]
    refine bodyPost_ret (v := .tuple #[.agg #[.int .i64 0, .slice none 0 0], .int .i64 0]) (by simp [results, Try.results27, go_sem, k5, k6, kf5, kf6]) rfl ?_
    rw [hr]
    refine ⟨none, 0, rfl, World.ownsRow_nil _ _ _ _, ?_⟩
    repeat (refine below_set ?_ (by show w.heap.size ≤ w.heap.size + 1; omega) _)
    exact bthen hW hb'
  rintro e w3 ⟨rfl, hb3⟩
  have hb' := hb'.trans (hb3.mono hb'.size)
  have hC := hC.up hb3
  have hmb' : b ≠ 0 ∧ -2000000000 ≤ b ∧ b ≤ 2000000000 := by have := hmb; simp [netMark, sigOf] at this; omega
  have HMB := Lib.hid hmb
  obtain ⟨ha0, ha2⟩ := hma'
  obtain ⟨hb0, hb2⟩ := hmb'
  have HR := Lib.hid (show netOp and1 n a b = and1 n a b by simp [netOp, HOK.out, HMA.out, HMB.out])
  have HZ := Lib.hid (and1_zero (n := n) hn0 ha0 hb0)
  clear hmb hb3
  go_wp2_with fail
  refine (implAnd_any _ r n a b w3 hC hn2 hn0 hn1 ha2 hb2 ha0).mono ?_
  rintro e w4 ⟨rfl, ⟨hb4, _⟩, hC4⟩
  have hb' := hb'.trans hb4
  obtain ⟨k5, k6, kf5, kf6⟩ := res_cells hb'
  generalize hm : and1 n a b = m at *
  have HM := Lib.hid hm
  clear hm hC hb4
  by_cases hz : m.2 = 0
  · have hz1 : (m.2 == 0) = true := by simp [hz]
    have HE := Lib.hid (HZ.out hz)
    clear hz hC4
    go_wp2
    have hr : netOp and1 n a b = (⟨0, []⟩, 0) := by rw [HR.out, HE.out]
    refine bodyPost_ret (v := .tuple #[.agg #[.int .i64 0, .slice none 0 0], .int .i64 0]) (by simp [results, Try.results27, go_sem, k5, k6, kf5, kf6]) rfl ?_
    rw [hr]
    refine ⟨none, 0, rfl, World.ownsRow_nil _ _ _ _, ?_⟩
    repeat (refine below_set ?_ (by show w.heap.size ≤ w.heap.size + 1; omega) _)
    exact bthen hW hb'
  · have hC4 := hC4 hz
    have hz1 : (m.2 == 0) = false := by simp [hz]
    obtain ⟨A4, c4, x0, x1, ho4⟩ := circ_cells hC4
    have HO := Lib.hid ho4
    clear hz ho4 hC4
    go_wp2
    refine bodyPost_ret (v := .tuple #[.agg #[.int .i64 m.1.ins, .slice A4 m.1.gs.length c4], .int .i64 m.2]) (by simp [results, Try.results27, go_sem, k5, k6, kf5, kf6]) rfl ?_
    rw [HR.out]
    refine ⟨A4, c4, rfl, own_mono (own_far (own_far HO.out _ _ (by show w.heap.size + 1 < _; omega)) _ _ (by show w.heap.size + 1 < _; omega)) (by omega), ?_⟩
    repeat (refine below_set ?_ (by show w.heap.size ≤ w.heap.size + 1; omega) _)
    exact bthen hW hb'

theorem implNetAnd_any (A : Option Addr) (c : Nat) (n : N) (a b : Int) (w : World) (h : Lay.gate.Rd w A n.gs) (hn : n.gs.length ≤ 1048576) (hA : A = none → n.gs.length = 0) (hi : okInts n)
    (ha : -9223372036854775808 ≤ a ∧ a ≤ 9223372036854775807) (hb : -9223372036854775808 ≤ b ∧ b ≤ 9223372036854775807) :
    Calls Try.prog 8 #[.agg #[.int .i64 n.ins, .slice A n.gs.length c], .int .i64 a, .int .i64 b] w (RetNetOwn w (netOp and1 n a b)) := by
  have hW : Below w.heap.size w ((w.alloc (.cells #[.int .i64 n.ins, .slice A n.gs.length c] 25)).alloc (.cells #[.int .i64 0, .slice none 0 0] 25)) := ((Below.refl _ _).alloc (Nat.le_refl _) _).alloc (by simp) _
  have hlo : w.heap.size + 2 ≤ ((w.alloc (.cells #[.int .i64 n.ins, .slice A n.gs.length c] 25)).alloc (.cells #[.int .i64 0, .slice none 0 0] 25)).heap.size := by simp
  go_enter Try.func8, Try.ntmps8
  go_wp2_with fail
  refine (joinedAnd_any A c n a b _ (h.up hW) hn hA hi ha hb).mono ?_
  generalize netOp and1 n a b = m at *
  rintro e w1 ⟨A1, c1, rfl, ho1, hb'⟩
  obtain ⟨k5, k6, kf5, kf6⟩ := res_cells hb'
  have HO := Lib.hid ho1
  clear ho1
  go_wp2
  refine bodyPost_ret (v := .tuple #[.agg #[.int .i64 m.1.ins, .slice A1 m.1.gs.length c1], .int .i64 m.2]) (by simp [results, Try.results8, go_sem, k5, k6, kf5, kf6]) rfl ?_
  refine ⟨A1, c1, rfl, own_mono (own_far (own_far HO.out _ _ (by show w.heap.size + 1 < _; omega)) _ _ (by show w.heap.size + 1 < _; omega)) (by omega), ?_⟩
  repeat (refine below_set ?_ (by show w.heap.size ≤ w.heap.size + 1; omega) _)
  exact bthen hW hb'

set_option maxHeartbeats 2000000 in
theorem joinedXor_any (A : Option Addr) (c : Nat) (n : N) (a b : Int) (w : World) (h : Lay.gate.Rd w A n.gs) (hn : n.gs.length ≤ 1048576) (hA : A = none → n.gs.length = 0) (hi : okInts n)
    (ha : -9223372036854775808 ≤ a ∧ a ≤ 9223372036854775807) (hb : -9223372036854775808 ≤ b ∧ b ≤ 9223372036854775807) :
    Calls Try.prog 27 #[.agg #[.int .i64 n.ins, .slice A n.gs.length c], .int .i64 a, .int .i64 b, .func (.func 36) #[] #[]] w (RetNetOwn w (netOp xor1 n a b)) := by
  have hW : Below w.heap.size w ((w.alloc (.cells #[.int .i64 n.ins, .slice A n.gs.length c] 25)).alloc (.cells #[.int .i64 0, .slice none 0 0] 25)) := ((Below.refl _ _).alloc (Nat.le_refl _) _).alloc (by simp) _
  have hlo : w.heap.size + 2 ≤ ((w.alloc (.cells #[.int .i64 n.ins, .slice A n.gs.length c] 25)).alloc (.cells #[.int .i64 0, .slice none 0 0] 25)).heap.size := by simp
  obtain ⟨ha0, ha1⟩ := ha
  obtain ⟨hb0, hb1⟩ := hb
  go_enter Try.func27, Try.ntmps27
  go_wp2_with fail
  refine (readNet_any A c n _ (h.up hW) hn hA hi).mono ?_
  rintro e w1 ⟨hb', hcase⟩
  obtain ⟨k5, k6, kf5, kf6⟩ := res_cells hb'
  rcases hcase with ⟨hok, r, rfl, hC⟩ | ⟨hok, rfl⟩
  rotate_left
  · have HOK := Lib.hid hok
    clear hok
    go_wp2
    have hr : netOp xor1 n a b = (⟨0, []⟩, 0) := by simp [netOp, HOK.out]
    refine bodyPost_ret (v := .tuple #[.agg #[.int .i64 0, .slice none 0 0], .int .i64 0]) (by simp [results, Try.results27, go_sem, k5, k6, kf5, kf6]) rfl ?_
    rw [hr]
    refine ⟨none, 0, rfl, World.ownsRow_nil _ _ _ _, ?_⟩
    repeat (refine below_set ?_ (by show w.heap.size ≤ w.heap.size + 1; omega) _)
    exact bthen hW hb'
  have hni : 0 ≤ n.ins ∧ n.ins ≤ 8 ∧ n.gs.length ≤ 600 := by
    have := (netOk_iff n).1 hok; exact ⟨this.1, this.2.1, this.2.2.1⟩
  obtain ⟨hn0, hn1, hn2⟩ := hni
  have HOK := Lib.hid hok
  clear hok
  go_wp2_with fail
  refine (has_any _ r n n.gs a w1 hC hn2 hn0 hn1 ha0 ha1).mono ?_
  cases hma : netMark n a
  · have HMA := Lib.hid hma
    clear hma
    rintro e w2 ⟨rfl, hb2⟩
    have hb' := hb'.trans (hb2.mono hb'.size)
    clear k5 k6 kf5 kf6
    obtain ⟨k5, k6, kf5, kf6⟩ := res_cells hb'
    go_wp2
    have hr : netOp xor1 n a b = (⟨0, []⟩, 0) := by simp [netOp, HMA.out]
    refine bodyPost_ret (v := .tuple #[.agg #[.int .i64 0, .slice none 0 0], .int .i64 0]) (by simp [results, Try.results27, go_sem, k5, k6, kf5, kf6]) rfl ?_
    rw [hr]
    refine ⟨none, 0, rfl, World.ownsRow_nil _ _ _ _, ?_⟩
    repeat (refine below_set ?_ (by show w.heap.size ≤ w.heap.size + 1; omega) _)
    exact bthen hW hb'
  rintro e w2 ⟨rfl, hb2⟩
  have hb' := hb'.trans (hb2.mono hb'.size)
  have hC := hC.up hb2
  have hma' : a ≠ 0 ∧ -2000000000 ≤ a ∧ a ≤ 2000000000 := by have := hma; simp [netMark, sigOf] at this; omega
  have HMA := Lib.hid hma
  clear hma k5 k6 kf5 kf6 hb2
  go_wp2_with fail
  refine (has_any _ r n n.gs b w2 hC hn2 hn0 hn1 hb0 hb1).mono ?_
  cases hmb : netMark n b
  · have HMB := Lib.hid hmb
    clear hmb
    rintro e w3 ⟨rfl, hb3⟩
    have hb' := hb'.trans (hb3.mono hb'.size)
    obtain ⟨k5, k6, kf5, kf6⟩ := res_cells hb'
    go_wp2
    have hr : netOp xor1 n a b = (⟨0, []⟩, 0) := by simp [netOp, HMB.out]
    refine bodyPost_ret (v := .tuple #[.agg #[.int .i64 0, .slice none 0 0], .int .i64 0]) (by simp [results, Try.results27, go_sem, k5, k6, kf5, kf6]) rfl ?_
    rw [hr]
    refine ⟨none, 0, rfl, World.ownsRow_nil _ _ _ _, ?_⟩
    repeat (refine below_set ?_ (by show w.heap.size ≤ w.heap.size + 1; omega) _)
    exact bthen hW hb'
  rintro e w3 ⟨rfl, hb3⟩
  have hb' := hb'.trans (hb3.mono hb'.size)
  have hC := hC.up hb3
  have hmb' : b ≠ 0 ∧ -2000000000 ≤ b ∧ b ≤ 2000000000 := by have := hmb; simp [netMark, sigOf] at this; omega
  have HMB := Lib.hid hmb
  obtain ⟨ha0, ha2⟩ := hma'
  obtain ⟨hb0, hb2⟩ := hmb'
  have HR := Lib.hid (show netOp xor1 n a b = xor1 n a b by simp [netOp, HOK.out, HMA.out, HMB.out])
  have HZ := Lib.hid (xor1_zero (n := n) hn0 ha0 hb0)
  clear hmb hb3
  go_wp2_with fail
  refine (implXor_any _ r n a b w3 hC hn2 hn0 hn1 ha2 hb2).mono ?_
  rintro e w4 ⟨rfl, ⟨hb4, _⟩, hC4⟩
  have hb' := hb'.trans hb4
  obtain ⟨k5, k6, kf5, kf6⟩ := res_cells hb'
  generalize hm : xor1 n a b = m at *
  have HM := Lib.hid hm
  clear hm hC hb4
  by_cases hz : m.2 = 0
  · have hz1 : (m.2 == 0) = true := by simp [hz]
    have HE := Lib.hid (HZ.out hz)
    clear hz hC4
    go_wp2
    have hr : netOp xor1 n a b = (⟨0, []⟩, 0) := by rw [HR.out, HE.out]
    refine bodyPost_ret (v := .tuple #[.agg #[.int .i64 0, .slice none 0 0], .int .i64 0]) (by simp [results, Try.results27, go_sem, k5, k6, kf5, kf6]) rfl ?_
    rw [hr]
    refine ⟨none, 0, rfl, World.ownsRow_nil _ _ _ _, ?_⟩
    repeat (refine below_set ?_ (by show w.heap.size ≤ w.heap.size + 1; omega) _)
    exact bthen hW hb'
  · have hC4 := hC4 hz
    have hz1 : (m.2 == 0) = false := by simp [hz]
    obtain ⟨A4, c4, x0, x1, ho4⟩ := circ_cells hC4
    have HO := Lib.hid ho4
    clear hz ho4 hC4
    go_wp2
    refine bodyPost_ret (v := .tuple #[.agg #[.int .i64 m.1.ins, .slice A4 m.1.gs.length c4], .int .i64 m.2]) (by simp [results, Try.results27, go_sem, k5, k6, kf5, kf6]) rfl ?_
    rw [HR.out]
    refine ⟨A4, c4, rfl, own_mono (own_far (own_far HO.out _ _ (by show w.heap.size + 1 < _; omega)) _ _ (by show w.heap.size + 1 < _; omega)) (by omega), ?_⟩
    repeat (refine below_set ?_ (by show w.heap.size ≤ w.heap.size + 1; omega) _)
    exact bthen hW hb'

theorem implNetXor_any (A : Option Addr) (c : Nat) (n : N) (a b : Int) (w : World) (h : Lay.gate.Rd w A n.gs) (hn : n.gs.length ≤ 1048576) (hA : A = none → n.gs.length = 0) (hi : okInts n)
    (ha : -9223372036854775808 ≤ a ∧ a ≤ 9223372036854775807) (hb : -9223372036854775808 ≤ b ∧ b ≤ 9223372036854775807) :
    Calls Try.prog 14 #[.agg #[.int .i64 n.ins, .slice A n.gs.length c], .int .i64 a, .int .i64 b] w (RetNetOwn w (netOp xor1 n a b)) := by
  have hW : Below w.heap.size w ((w.alloc (.cells #[.int .i64 n.ins, .slice A n.gs.length c] 25)).alloc (.cells #[.int .i64 0, .slice none 0 0] 25)) := ((Below.refl _ _).alloc (Nat.le_refl _) _).alloc (by simp) _
  have hlo : w.heap.size + 2 ≤ ((w.alloc (.cells #[.int .i64 n.ins, .slice A n.gs.length c] 25)).alloc (.cells #[.int .i64 0, .slice none 0 0] 25)).heap.size := by simp
  go_enter Try.func14, Try.ntmps14
  go_wp2_with fail
  refine (joinedXor_any A c n a b _ (h.up hW) hn hA hi ha hb).mono ?_
  generalize netOp xor1 n a b = m at *
  rintro e w1 ⟨A1, c1, rfl, ho1, hb'⟩
  obtain ⟨k5, k6, kf5, kf6⟩ := res_cells hb'
  have HO := Lib.hid ho1
  clear ho1
  go_wp2
  refine bodyPost_ret (v := .tuple #[.agg #[.int .i64 m.1.ins, .slice A1 m.1.gs.length c1], .int .i64 m.2]) (by simp [results, Try.results14, go_sem, k5, k6, kf5, kf6]) rfl ?_
  refine ⟨A1, c1, rfl, own_mono (own_far (own_far HO.out _ _ (by show w.heap.size + 1 < _; omega)) _ _ (by show w.heap.size + 1 < _; omega)) (by omega), ?_⟩
  repeat (refine below_set ?_ (by show w.heap.size ≤ w.heap.size + 1; omega) _)
  exact bthen hW hb'

end Go.Proofs.Ytcdlfnhjpjpbjaa
