/- The program's push. The program's flat. The program's ok of a stack. -/
import Derived.Test.YtiahmfpfimmbgaaGreatDoorJFnCtx6
/-! The program's push. -/
namespace Go.Proofs.YtiahmfpfimmbgaaGreatDoor
open Go Go.RowKit

theorem grown_below {a b c : World} {row : Option Nat} (h : a.grownBy b row) (k : Below b.heap.size b c) : a.grownBy c row :=
  ⟨k.os.trans h.os, k.tape.trans h.tape, k.output.trans h.output, Nat.le_trans h.size k.size, fun i hi hn => (k.block i (Nat.lt_of_lt_of_le hi h.size)).trans (h.block i hi hn)⟩
theorem below_grown {a b c : World} {row : Option Nat} (h : Below a.heap.size a b) (k : b.grownBy c row) : a.grownBy c row :=
  ⟨k.os.trans h.os, k.tape.trans h.tape, k.output.trans h.output, Nat.le_trans h.size k.size, fun i hi hn => (k.block i (Nat.lt_of_lt_of_le hi h.size) hn).trans (h.block i hi)⟩
/-- The row of marks has grown. -/
def Fact.marks (lo : Nat) (W : World) (v0 : Value) (ys : List (Int × Int)) : Fact :=
  .of (fun v x => ∃ A c, v = .slice A ys.length c ∧ OwnR Lay.mark 90 x lo (.slice A ys.length c) ys ∧ W.grownBy x v0.ownBlock)
    fun _ x x' ⟨A, c, h1, h2, h3⟩ hb => ⟨A, c, h1, h2.up hb, grown_below h3 hb⟩
def Fact.stk (lo : Nat) (W : World) (p : Nat) (ds : List D) (ts : List T) (ms : List (Int × Int)) : Fact :=
  .of (fun _ x => StkE lo x p ds ts ms ∧ Below lo W x ∧ lo ≤ x.heap.size) fun _ x x' ⟨h1, h2, h3⟩ hb => ⟨h1.up hb, h2.trans (hb.mono h3), Nat.le_trans h3 hb.size⟩
theorem mark_src {w : World} {b : Nat} {x y : Int} {fr : Nat × Nat} (h : w.heap[b]? = some (.cells #[.int .i64 x, .int .i64 y] 90 fr)) : Src w Lay.mark.size (some ⟨b, 0, none⟩) [(x, y)].length [.int .i64 x, .int .i64 y] := src_block h rfl
set_option maxRecDepth 100000 in
set_option maxHeartbeats 8000000 in
theorem push_any (lo p : Nat) (ds : List D) (ts : List T) (ms : List (Int × Int)) (A1 A2 A3 : Option Addr) (c1 c2 c3 : Nat) (w : World) (h : Stk lo w p ds ts ms A1 A2 A3 c1 c2 c3) (hm : ms.length ≤ 1048576) :
    Calls Tryz.prog 62 #[.pointer (some ⟨p, 0, none⟩)] w fun e w' => e = .returned (.tuple #[]) ∧ StkE lo w' p ds ts (ms ++ [((ds.length : Int), (ts.length : Int))]) ∧ Below lo w w' := by
  obtain ⟨ys, hys⟩ : ∃ ys, ys = ms ++ [((ds.length : Int), (ts.length : Int))] := ⟨_, rfl⟩
  rw [← hys]
  have HY := Lib.hid hys
  have HST := Lib.hid h
  have d0 := Later.cell (cell_of_block h.box 0).1
  have d1 := Later.cell (cell_of_block h.box 1).1
  have d2 := Later.cell (cell_of_block h.box 2).1
  have hloW := h.loW
  obtain ⟨i0, hi0, hz0, hz1, hz2⟩ := info_parts mark_info
  have HI := Lib.hid (And.intro hi0 (And.intro hz0 (And.intro hz1 hz2)))
  clear hys h hi0 hz0 hz1 hz2
  go_enter Tryz.func62, Tryz.ntmps62
  go_wp2
  refine wp_region_shares [[], [], [(1, 3)], [(2, 4)], [(3, 5)], [], [(5, 7)], [(6, 8)], [(7, 9)], [(8, 10)], [], [(10, 12)], [(11, 13)], [(12, 14)], [(13, 15)], [(9, 11), (14, 16)], [(15, 17)], [(4, 6), (16, 18)], [(0, 2)], [(18, 20)], [(19, 21), (17, 19)]]
    [.eq (.pointer (some ⟨p, 0, none⟩)), .eq (.pointer (some ⟨p, 0, none⟩)), .eq (.pointer (some ⟨p, 0, none⟩)), .eq (.pointer (some ⟨p, 2, none⟩)), .eq (.slice A3 ms.length c3), .eq (.pointer (some ⟨p, 0, none⟩)), .eq (.pointer (some ⟨p, 0, none⟩)), .eq (.pointer (some ⟨p, 0, none⟩)), .eq (.slice A1 ds.length c1), .eq (.int .i64 (ds.length : Int)), .eq (.pointer (some ⟨p, 0, none⟩)), .eq (.pointer (some ⟨p, 0, none⟩)), .eq (.pointer (some ⟨p, 1, none⟩)), .eq (.slice A2 ts.length c2), .eq (.int .i64 (ts.length : Int)), .eq (.agg #[.int .i64 (ds.length : Int), .int .i64 (ts.length : Int)]), .lit 90 1 #[.int .i64 (ds.length : Int), .int .i64 (ts.length : Int)], Fact.marks lo w (.slice A3 ms.length c3) ys, .eq (.pointer (some ⟨p, 0, none⟩)), .eq (.pointer (some ⟨p, 2, none⟩)), Fact.stk lo w p ds ts ys]
    [17, 20] [17, 20] [0, 18, 19, 20] [20] [(0, 2), (1, 3), (2, 4), (3, 5), (4, 6), (5, 7), (6, 8), (7, 9), (8, 10), (9, 11), (10, 12), (11, 13), (12, 14), (13, 15), (14, 16), (15, 17), (16, 18), (17, 19), (18, 20), (19, 21)] (by kernel_rfl) (by kernel_rfl) (by kernel_rfl) (by kernel_rfl)
    ⟨?_, ?_, ?_, ?_, ?_, ?_, ?_, ?_, ?_, ?_, ?_, ?_, ?_, ?_, ?_, ?_, ?_, ?_, ?_, ?_, ?_, trivial⟩ ?_
  · intro vals z hC hF
    simp only [putsD, Act.put, List.setIfInBounds_toArray, List.set_cons_zero, List.set_cons_succ]
    go_wp2
    exact ⟨rfl, rfl, .inr (Below.refl _ _), .inr (.inl (by simp))⟩
  · intro vals z hC hF
    simp only [putsD, Act.put, List.setIfInBounds_toArray, List.set_cons_zero, List.set_cons_succ]
    go_wp2
    exact ⟨rfl, rfl, .inr (Below.refl _ _), .inr (.inl (by simp))⟩
  · intro vals z hC hF
    simp only [factsD, List.getD_cons_zero, List.getD_cons_succ, Fact.eq, Fact.row, Fact.lit, Fact.lit0, Fact.of, and_true, Fact.marks, Fact.stk] at hF
    simp only [putsD, Act.put, List.setIfInBounds_toArray, List.set_cons_zero, List.set_cons_succ]
    simp only [hF]
    go_wp2
    exact ⟨rfl, rfl, .inr (Below.refl _ _), .inr (.inl (by simp))⟩
  · intro vals z hC hF
    simp only [factsD, List.getD_cons_zero, List.getD_cons_succ, Fact.eq, Fact.row, Fact.lit, Fact.lit0, Fact.of, and_true, Fact.marks, Fact.stk] at hF
    simp only [putsD, Act.put, List.setIfInBounds_toArray, List.set_cons_zero, List.set_cons_succ]
    simp only [hF]
    go_wp2
    exact ⟨rfl, rfl, .inr (Below.refl _ _), .inr (.inl (by simp))⟩
  · intro vals z hC hF
    have hC := hC.resolve_left (by simp)
    have hsz := hC.size
    have e1 : z.cell? _ = _ := d2 ⟨z, hC⟩
    simp only [factsD, List.getD_cons_zero, List.getD_cons_succ, Fact.eq, Fact.row, Fact.lit, Fact.lit0, Fact.of, and_true, Fact.marks, Fact.stk] at hF
    simp only [putsD, Act.put, List.setIfInBounds_toArray, List.set_cons_zero, List.set_cons_succ]
    simp only [hF]
    go_wp2
    exact ⟨rfl, rfl, .inr (Below.refl _ _), .inr (.inl (by simp))⟩
  · intro vals z hC hF
    simp only [putsD, Act.put, List.setIfInBounds_toArray, List.set_cons_zero, List.set_cons_succ]
    go_wp2
    exact ⟨rfl, rfl, .inr (Below.refl _ _), .inr (.inl (by simp))⟩
  · intro vals z hC hF
    simp only [factsD, List.getD_cons_zero, List.getD_cons_succ, Fact.eq, Fact.row, Fact.lit, Fact.lit0, Fact.of, and_true, Fact.marks, Fact.stk] at hF
    simp only [putsD, Act.put, List.setIfInBounds_toArray, List.set_cons_zero, List.set_cons_succ]
    simp only [hF]
    go_wp2
    exact ⟨rfl, rfl, .inr (Below.refl _ _), .inr (.inl (by simp))⟩
  · intro vals z hC hF
    simp only [factsD, List.getD_cons_zero, List.getD_cons_succ, Fact.eq, Fact.row, Fact.lit, Fact.lit0, Fact.of, and_true, Fact.marks, Fact.stk] at hF
    simp only [putsD, Act.put, List.setIfInBounds_toArray, List.set_cons_zero, List.set_cons_succ]
    simp only [hF]
    go_wp2
    exact ⟨rfl, rfl, .inr (Below.refl _ _), .inr (.inl (by simp))⟩
  · intro vals z hC hF
    have hC := hC.resolve_left (by simp)
    have hsz := hC.size
    have e1 : z.cell? _ = _ := d0 ⟨z, hC⟩
    simp only [factsD, List.getD_cons_zero, List.getD_cons_succ, Fact.eq, Fact.row, Fact.lit, Fact.lit0, Fact.of, and_true, Fact.marks, Fact.stk] at hF
    simp only [putsD, Act.put, List.setIfInBounds_toArray, List.set_cons_zero, List.set_cons_succ]
    simp only [hF]
    go_wp2
    exact ⟨rfl, rfl, .inr (Below.refl _ _), .inr (.inl (by simp))⟩
  · intro vals z hC hF
    simp only [factsD, List.getD_cons_zero, List.getD_cons_succ, Fact.eq, Fact.row, Fact.lit, Fact.lit0, Fact.of, and_true, Fact.marks, Fact.stk] at hF
    simp only [putsD, Act.put, List.setIfInBounds_toArray, List.set_cons_zero, List.set_cons_succ]
    simp only [hF]
    go_wp2
    exact ⟨rfl, rfl, .inr (Below.refl _ _), .inr (.inl (by simp))⟩
  · intro vals z hC hF
    simp only [putsD, Act.put, List.setIfInBounds_toArray, List.set_cons_zero, List.set_cons_succ]
    go_wp2
    exact ⟨rfl, rfl, .inr (Below.refl _ _), .inr (.inl (by simp))⟩
  · intro vals z hC hF
    simp only [factsD, List.getD_cons_zero, List.getD_cons_succ, Fact.eq, Fact.row, Fact.lit, Fact.lit0, Fact.of, and_true, Fact.marks, Fact.stk] at hF
    simp only [putsD, Act.put, List.setIfInBounds_toArray, List.set_cons_zero, List.set_cons_succ]
    simp only [hF]
    go_wp2
    exact ⟨rfl, rfl, .inr (Below.refl _ _), .inr (.inl (by simp))⟩
  · intro vals z hC hF
    simp only [factsD, List.getD_cons_zero, List.getD_cons_succ, Fact.eq, Fact.row, Fact.lit, Fact.lit0, Fact.of, and_true, Fact.marks, Fact.stk] at hF
    simp only [putsD, Act.put, List.setIfInBounds_toArray, List.set_cons_zero, List.set_cons_succ]
    simp only [hF]
    go_wp2
    exact ⟨rfl, rfl, .inr (Below.refl _ _), .inr (.inl (by simp))⟩
  · intro vals z hC hF
    have hC := hC.resolve_left (by simp)
    have hsz := hC.size
    have e1 : z.cell? _ = _ := d1 ⟨z, hC⟩
    simp only [factsD, List.getD_cons_zero, List.getD_cons_succ, Fact.eq, Fact.row, Fact.lit, Fact.lit0, Fact.of, and_true, Fact.marks, Fact.stk] at hF
    simp only [putsD, Act.put, List.setIfInBounds_toArray, List.set_cons_zero, List.set_cons_succ]
    simp only [hF]
    go_wp2
    exact ⟨rfl, rfl, .inr (Below.refl _ _), .inr (.inl (by simp))⟩
  · intro vals z hC hF
    simp only [factsD, List.getD_cons_zero, List.getD_cons_succ, Fact.eq, Fact.row, Fact.lit, Fact.lit0, Fact.of, and_true, Fact.marks, Fact.stk] at hF
    simp only [putsD, Act.put, List.setIfInBounds_toArray, List.set_cons_zero, List.set_cons_succ]
    simp only [hF]
    go_wp2
    exact ⟨rfl, rfl, .inr (Below.refl _ _), .inr (.inl (by simp))⟩
  · intro vals z hC hF
    simp only [factsD, List.getD_cons_zero, List.getD_cons_succ, Fact.eq, Fact.row, Fact.lit, Fact.lit0, Fact.of, and_true, Fact.marks, Fact.stk] at hF
    obtain ⟨e1, e2⟩ := hF
    simp only [putsD, Act.put, List.setIfInBounds_toArray, List.set_cons_zero, List.set_cons_succ]
    simp only [e1, e2]
    go_wp2
    exact ⟨rfl, rfl, .inr (Below.refl _ _), .inr (.inl (by simp))⟩
  · intro vals z hC hF
    have hC := hC.resolve_left (by simp)
    have hsz := hC.size
    simp only [factsD, List.getD_cons_zero, List.getD_cons_succ, Fact.eq, Fact.row, Fact.lit, Fact.lit0, Fact.of, and_true, Fact.marks, Fact.stk] at hF
    simp only [putsD, Act.put, List.setIfInBounds_toArray, List.set_cons_zero, List.set_cons_succ]
    simp only [hF]
    go_wp2
    exact ⟨rfl, ⟨_, rfl, by simp, _, heap_alloc_new _ _⟩, .inr ((Below.refl _ _).alloc (Nat.le_refl _) _), .inr (.inl (by simp))⟩
  · intro vals z hC hF
    have hC := hC.resolve_left (by simp)
    have hsz := hC.size
    simp only [factsD, List.getD_cons_zero, List.getD_cons_succ, Fact.eq, Fact.row, Fact.lit, Fact.lit0, Fact.of, and_true, Fact.marks, Fact.stk] at hF
    obtain ⟨e5, b5, e7, hlt5, fr5, hb5⟩ := hF
    have HS9 := HST.out.up hC
    simp only [putsD, Act.put, List.setIfInBounds_toArray, List.set_cons_zero, List.set_cons_succ]
    simp only [e5, e7]
    refine wpList_append_rowsS (L := Lay.mark) (Q := fun _ b => b < lo) (G := fun _ => False) (ys := ys) (zs := [((ds.length : Int), (ts.length : Int))]) (by rfl) (.tmp 6) (.tmp 18) (by rfl) Tryz.underlying80 HI.out.1 HI.out.2.1 HI.out.2.2.1 HI.out.2.2.2 rfl (by show 0 < 2; omega) (by rfl) (by rfl) HS9.ms (stay_lt lo) (mark_src hb5) (by intro u hu; simp at hu; rcases hu with rfl | rfl <;> rfl) ?_ (fun e => by cases e) (fun b hb => hb.elim) (by omega) (by show 1 ≤ 2000000; omega) (by omega) (Nat.le_trans hloW hsz) HY.out ?_
    · intro i x hx
      rcases i with _ | i
      · simp at hx; subst hx; exact ⟨_, rfl, fun j u hu => by rw [Nat.zero_mul, Nat.zero_add]; exact hu⟩
      · simp at hx
    intro A9 c9 w9 hown9 hg9 hbk9
    exact ⟨rfl, ⟨A9, c9, rfl, hown9, below_grown hC hg9⟩, .inl (by simp), .inl (by simp)⟩
  · intro vals z hC hF
    simp only [factsD, List.getD_cons_zero, List.getD_cons_succ, Fact.eq, Fact.row, Fact.lit, Fact.lit0, Fact.of, and_true, Fact.marks, Fact.stk] at hF
    simp only [putsD, Act.put, List.setIfInBounds_toArray, List.set_cons_zero, List.set_cons_succ]
    simp only [hF]
    go_wp2
    exact ⟨rfl, rfl, .inr (Below.refl _ _), .inr (.inl (by simp))⟩
  · intro vals z hC hF
    simp only [factsD, List.getD_cons_zero, List.getD_cons_succ, Fact.eq, Fact.row, Fact.lit, Fact.lit0, Fact.of, and_true, Fact.marks, Fact.stk] at hF
    simp only [putsD, Act.put, List.setIfInBounds_toArray, List.set_cons_zero, List.set_cons_succ]
    simp only [hF]
    go_wp2
    exact ⟨rfl, rfl, .inr (Below.refl _ _), .inr (.inl (by simp))⟩
  · intro vals z hC hF
    simp only [factsD, List.getD_cons_zero, List.getD_cons_succ, Fact.eq, Fact.row, Fact.lit, Fact.lit0, Fact.of, and_true, Fact.marks, Fact.stk] at hF
    obtain ⟨e11, A9, c9, e8, hown9, hg9⟩ := hF
    have hpx := (hg9.block p HST.out.lt (fun e => HST.out.ms.ne2 HST.out.box neSM e.symm)).trans HST.out.box
    have x1 := (cell_of_block hpx 2).1
    have x2 := (cell_of_block hpx 2).2
    have HSM := Lib.hid (HST.out.setM hg9 hown9)
    have HBL := Lib.hid (below_grow_set (p := p) (o := 2) (u := .slice A9 ys.length c9) (Below.refl lo w) hg9 hloW (fun b hb => (HST.out.ms.lt b hb).1) HST.out.lop)
    simp only [putsD, Act.put, List.setIfInBounds_toArray, List.set_cons_zero, List.set_cons_succ]
    simp only [e11, e8]
    go_wp2
    exact ⟨rfl, ⟨⟨_, _, _, _, _, _, HSM.out⟩, HBL.out, by rw [size_setCell]; exact Nat.le_trans hloW hg9.size⟩, .inl (by simp), .inl (by simp)⟩
  · intro vals z hF
    simp only [facts, List.getD_cons_zero, List.getD_cons_succ, Fact.eq, Fact.row, Fact.lit, Fact.lit0, Fact.of, and_true, Fact.marks, Fact.stk] at hF
    obtain ⟨hS9, hB9, _⟩ := hF
    simp only [putsD, Act.put, List.setIfInBounds_toArray, List.set_cons_zero, List.set_cons_succ]
    go_wp2
    go_returns
    exact ⟨rfl, hS9, hB9⟩
end Go.Proofs.YtiahmfpfimmbgaaGreatDoor

/-! The program's flat. -/
namespace Go.Proofs.YtiahmfpfimmbgaaGreatDoor
open Go Go.RowKit

/-- The marks of a context: where each layer ends. -/
def msAll (c : List Ly) : List (Int × Int) := (List.range c.length).map fun k => (((dsAll (c.take (k + 1))).length : Int), ((tsAll (c.take (k + 1))).length : Int))
def msTo (c : List Ly) (k : Nat) : List (Int × Int) := (List.range k).map fun k => (((dsAll (c.take (k + 1))).length : Int), ((tsAll (c.take (k + 1))).length : Int))
theorem msTo_step (c : List Ly) (k : Nat) : msTo c (k + 1) = msTo c k ++ [(((dsAll (c.take (k + 1))).length : Int), ((tsAll (c.take (k + 1))).length : Int))] := by
  unfold msTo; rw [List.range_succ, List.map_append]; rfl
theorem msTo_len (c : List Ly) (k : Nat) : (msTo c k).length = k := by simp [msTo]
def Fact.rows {α : Type} (L : Lay α) (e : TypeId) (lo : Nat) (W : World) (v0 : Value) (ys : List α) : Fact :=
  .of (fun v x => ∃ A c, v = .slice A ys.length c ∧ OwnR L e x lo (.slice A ys.length c) ys ∧ W.grownBy x v0.ownBlock)
    fun _ x x' ⟨A, c, h1, h2, h3⟩ hb => ⟨A, c, h1, h2.up hb, grown_below h3 hb⟩
def Fact.stkB (lo : Nat) (W : World) (p bx : Nat) (ds : List D) (ts : List T) (ms : List (Int × Int)) : Fact :=
  .of (fun _ x => StkE lo x p ds ts ms ∧ Below lo W x ∧ W.heap.size ≤ x.heap.size ∧ x.heap[bx]? = W.heap[bx]? ∧ bx < x.heap.size) fun _ x x' ⟨h1, h2, h3, h4, h5⟩ hb => ⟨h1.up hb, h2.trans (hb.mono (by
    obtain ⟨_, _, _, _, _, _, h⟩ := h1
    exact h.loW)), Nat.le_trans h3 hb.size, (hb.block bx h5).trans h4, Nat.lt_of_lt_of_le h5 hb.size⟩
theorem neLD : (58 : TypeId) ≠ 39 := by decide
theorem neLT : (58 : TypeId) ≠ 48 := by decide
theorem neLS : (58 : TypeId) ≠ 82 := by decide
theorem ownR_nil {α : Type} (L : Lay α) (e : TypeId) (w : World) (lo : Nat) : OwnR L e w lo (.slice none ([] : List α).length 0) [] := OwnL.nil L _ e w lo
set_option maxRecDepth 100000 in
set_option maxHeartbeats 8000000 in
theorem flat_any (A : Option Addr) (q : Nat) (c : List Ly) (w : World) (h : Lay.layer.Rd w A c) (hl : c.length ≤ 1048576) (hd : (dsAll c).length ≤ 1048576) (ht : (tsAll c).length ≤ 1048576) :
    Calls Tryz.prog 54 #[.slice A c.length q] w fun e w' => e = .returned (.pointer (some ⟨w.heap.size, 0, none⟩)) ∧ StkE w.heap.size w' w.heap.size (dsAll c) (tsAll c) (msAll c) ∧ Below w.heap.size w w' := by
  obtain ⟨i0, hi0, hz0, hz1, hz2⟩ := info_parts decl_info
  have HID := Lib.hid (And.intro hi0 (And.intro hz0 (And.intro hz1 hz2)))
  obtain ⟨i1, hi0, hz0, hz1, hz2⟩ := info_parts term_info
  have HIT := Lib.hid (And.intro hi0 (And.intro hz0 (And.intro hz1 hz2)))
  clear hi0 hz0 hz1 hz2
  have hal : Below w.heap.size w (w.alloc (.cells #[.slice none 0 0, .slice none 0 0, .slice none 0 0] 82)) := (Below.refl _ _).alloc (Nat.le_refl _) _
  have hst : StkE w.heap.size (w.alloc (.cells #[.slice none 0 0, .slice none 0 0, .slice none 0 0] 82)) w.heap.size [] [] [] :=
    ⟨none, none, none, 0, 0, 0, Nat.le_refl _, heap_alloc_new w _, ownR_nil _ _ _ _, ownR_nil _ _ _ _, ownR_nil _ _ _ _⟩
  obtain ⟨p, hp⟩ : ∃ p, p = w.heap.size := ⟨_, rfl⟩
  have HP := Lib.hid hp
  go_enter Tryz.func54, Tryz.ntmps54
  go_wp2
  generalize w.alloc (.cells #[.slice none 0 0, .slice none 0 0, .slice none 0 0] 82) = W at *
  rw [← hp] at hst ⊢
  clear hp
  go_loopw [10] (fun i wr => ∃ k : Nat, k ≤ c.length ∧ i = .int .i64 k ∧ StkE p wr p (dsAll (c.take k)) (tsAll (c.take k)) (msTo c k) ∧ Below w.heap.size w wr) (fun i _ => c.length - (intOf i).toNat)
  case atStart => exact ⟨0, Nat.zero_le _, rfl, hst, hal⟩
  case round =>
    obtain ⟨k, hk, rfl, hstk, hb⟩ := hrel
    by_cases hlt : k < c.length
    · have hk1 : (k : Int) < c.length := by omega
      obtain ⟨ad, A1, c1, A2, c2, rfl, hf, e1, e2, hc1, hc2, hds, hts⟩ := (Lay.Sl.below h hb (fun _ h => h)).at_layer hlt
      obtain ⟨B1, B2, B3, b1, b2, b3, hS⟩ := hstk
      have hbox := heap_alloc_new wr (.cells #[.slice A1 c[k].ds.length c1, .slice A2 c[k].ts.length c2] 58)
      have hal2 : Below wr.heap.size wr (wr.alloc (.cells #[.slice A1 c[k].ds.length c1, .slice A2 c[k].ts.length c2] 58)) := (Below.refl _ _).alloc (Nat.le_refl _) _
      have hxl : (dsAll (c.take k)).length ≤ 2000000 := by have := dsAll_le c k; omega
      have hzl : c[k].ds.length ≤ 2000000 := by have := dsAll_at c k hlt; omega
      have hxt : (tsAll (c.take k)).length ≤ 2000000 := by have := tsAll_le c k; omega
      have hzt : c[k].ts.length ≤ 2000000 := by have := tsAll_at c k hlt; omega
      have HDY := Lib.hid (dsAll_step c k hlt)
      have HTY := Lib.hid (tsAll_step c k hlt)
      have HMY := Lib.hid (msTo_step c k)
      have hml := msTo_len c k
      have HMYL : Hid (msTo c (k + 1) = msTo c k ++ [(((dsAll (c.take (k + 1))).length : Int), ((tsAll (c.take (k + 1))).length : Int))]) := Lib.hid (msTo_step c k)
      generalize hdy : dsAll (c.take (k + 1)) = dy at *
      have EDY := Lib.hid hdy
      clear hdy
      generalize hty : tsAll (c.take (k + 1)) = ty at *
      have ETY := Lib.hid hty
      clear hty
      generalize hmy : msTo c (k + 1) = my at *
      have EMY := Lib.hid hmy
      clear hmy
      generalize dsAll (c.take k) = dx at *
      generalize tsAll (c.take k) = tx at *
      generalize msTo c k = mx at *
      have hbb := bthen hb hal2
      have hS := hS.up hal2
      have hds := hds.below hal2 (fun b hb9 => Nat.lt_of_lt_of_le hb9 hb.size)
      have hts := hts.below hal2 (fun b hb9 => Nat.lt_of_lt_of_le hb9 hb.size)
      have HDS := Lib.hid hds
      have HTS := Lib.hid hts
      have HB := Lib.hid hbb
      have v0 := (cell_of_block hS.box 0).1
      have v2 := (cell_of_block hS.box 1).1
      have y0 := (cell_of_block hbox 0).1
      clear hds hts hal2 hb hbb
      go_wp2
      generalize hW1 : wr.alloc (.cells #[.slice A1 c[k].ds.length c1, .slice A2 c[k].ts.length c2] 58) = W1 at *
      have hpw : p ≤ W1.heap.size := hS.loW
      generalize wr.heap.size = bx at *
      have z0 := Later.cell v0
      have z1 := Later.cell y0
      have HS := Lib.hid hS
      have HBX := Lib.hid hbox
      clear hS hbox v0 v2 y0 hW1
      refine wp_region_shares [[], [], [(1, 15)], [(2, 16)], [(3, 17)], [], [(5, 19)], [(4, 18), (6, 20)], [(0, 14)], [(8, 22)], [(9, 23), (7, 21)]]
        [.eq (.pointer (some ⟨p, 0, none⟩)), .eq (.pointer (some ⟨p, 0, none⟩)), .eq (.pointer (some ⟨p, 0, none⟩)), .eq (.pointer (some ⟨p, 0, none⟩)), .eq (.slice B1 dx.length b1), .eq (.pointer (some ⟨bx, 0, none⟩)), .eq (.slice A1 c[k].ds.length c1), Fact.rows Lay.decl 39 p W1 (.slice B1 dx.length b1) dy, .eq (.pointer (some ⟨p, 0, none⟩)), .eq (.pointer (some ⟨p, 0, none⟩)), Fact.stkB p W1 p bx dy tx mx]
        [7, 10] [7, 10] [0, 8, 9, 10] [10] [(0, 14), (1, 15), (2, 16), (3, 17), (4, 18), (5, 19), (6, 20), (7, 21), (8, 22), (9, 23)] (by kernel_rfl) (by kernel_rfl) (by kernel_rfl) (by kernel_rfl)
        ⟨?_, ?_, ?_, ?_, ?_, ?_, ?_, ?_, ?_, ?_, ?_, trivial⟩ ?_
      · intro vals z hC hF
        simp only [putsD, Act.put, List.setIfInBounds_toArray, List.set_cons_zero, List.set_cons_succ]
        go_wp2
        exact ⟨rfl, rfl, .inr (Below.refl _ _), .inr (.inl (by simp))⟩
      · intro vals z hC hF
        simp only [putsD, Act.put, List.setIfInBounds_toArray, List.set_cons_zero, List.set_cons_succ]
        go_wp2
        exact ⟨rfl, rfl, .inr (Below.refl _ _), .inr (.inl (by simp))⟩
      · intro vals z hC hF
        simp only [factsD, List.getD_cons_zero, List.getD_cons_succ, Fact.eq, Fact.row, Fact.lit, Fact.lit0, Fact.of, and_true, Fact.rows, Fact.stkB] at hF
        simp only [putsD, Act.put, List.setIfInBounds_toArray, List.set_cons_zero, List.set_cons_succ]
        simp only [hF]
        go_wp2
        exact ⟨rfl, rfl, .inr (Below.refl _ _), .inr (.inl (by simp))⟩
      · intro vals z hC hF
        simp only [factsD, List.getD_cons_zero, List.getD_cons_succ, Fact.eq, Fact.row, Fact.lit, Fact.lit0, Fact.of, and_true, Fact.rows, Fact.stkB] at hF
        simp only [putsD, Act.put, List.setIfInBounds_toArray, List.set_cons_zero, List.set_cons_succ]
        simp only [hF]
        go_wp2
        exact ⟨rfl, rfl, .inr (Below.refl _ _), .inr (.inl (by simp))⟩
      · intro vals z hC hF
        have hC := hC.resolve_left (by simp)
        have hsz := hC.size
        have e1 : z.cell? _ = _ := z0 ⟨z, hC⟩
        simp only [factsD, List.getD_cons_zero, List.getD_cons_succ, Fact.eq, Fact.row, Fact.lit, Fact.lit0, Fact.of, and_true, Fact.rows, Fact.stkB] at hF
        simp only [putsD, Act.put, List.setIfInBounds_toArray, List.set_cons_zero, List.set_cons_succ]
        simp only [hF]
        go_wp2
        exact ⟨rfl, rfl, .inr (Below.refl _ _), .inr (.inl (by simp))⟩
      · intro vals z hC hF
        simp only [putsD, Act.put, List.setIfInBounds_toArray, List.set_cons_zero, List.set_cons_succ]
        go_wp2
        exact ⟨rfl, rfl, .inr (Below.refl _ _), .inr (.inl (by simp))⟩
      · intro vals z hC hF
        have hC := hC.resolve_left (by simp)
        have hsz := hC.size
        have e1 : z.cell? _ = _ := z1 ⟨z, hC⟩
        simp only [factsD, List.getD_cons_zero, List.getD_cons_succ, Fact.eq, Fact.row, Fact.lit, Fact.lit0, Fact.of, and_true, Fact.rows, Fact.stkB] at hF
        simp only [putsD, Act.put, List.setIfInBounds_toArray, List.set_cons_zero, List.set_cons_succ]
        simp only [hF]
        go_wp2
        exact ⟨rfl, rfl, .inr (Below.refl _ _), .inr (.inl (by simp))⟩
      · intro vals z hC hF
        have hC := hC.resolve_left (by simp)
        have hsz := hC.size
        simp only [factsD, List.getD_cons_zero, List.getD_cons_succ, Fact.eq, Fact.row, Fact.lit, Fact.lit0, Fact.of, and_true, Fact.rows, Fact.stkB] at hF
        obtain ⟨e5, e7⟩ := hF
        have hS9 := HS.out.up hC
        simp only [putsD, Act.put, List.setIfInBounds_toArray, List.set_cons_zero, List.set_cons_succ]
        simp only [e5, e7]
        have hpz : p ≤ z.heap.size := hS9.loW
        refine wpList_append_rows (L := Lay.decl) (Q := fun _ b => b < p) (ys := dy) (by rfl) (.tmp 18) (.tmp 20) (by rfl) Tryz.underlying55 HID.out.1 HID.out.2.1 HID.out.2.2.1 HID.out.2.2.2 rfl (by show 0 < 2; omega) decl_one (by rfl) (by rfl) hS9.ds (stay_lt p) (HDS.out.below hC (fun b hb9 => Nat.lt_of_lt_of_le hb9 (by rw [← HP.out]; exact hpw))) (fun b hb9 => ⟨by rw [← HP.out] at hb9; omega, fun e9 => by have := (hS9.ds.lt b e9).1; rw [← HP.out] at hb9; omega, by rw [← HP.out] at hb9; exact hb9⟩) hxl hzl (by omega) hpz HDY.out ?_
        intro A9 c9 w9 hown9 hg9 hbk9
        exact ⟨rfl, ⟨A9, c9, rfl, hown9, below_grown hC hg9⟩, .inl (by simp), .inl (by simp)⟩
      · intro vals z hC hF
        simp only [factsD, List.getD_cons_zero, List.getD_cons_succ, Fact.eq, Fact.row, Fact.lit, Fact.lit0, Fact.of, and_true, Fact.rows, Fact.stkB] at hF
        simp only [putsD, Act.put, List.setIfInBounds_toArray, List.set_cons_zero, List.set_cons_succ]
        simp only [hF]
        go_wp2
        exact ⟨rfl, rfl, .inr (Below.refl _ _), .inr (.inl (by simp))⟩
      · intro vals z hC hF
        simp only [factsD, List.getD_cons_zero, List.getD_cons_succ, Fact.eq, Fact.row, Fact.lit, Fact.lit0, Fact.of, and_true, Fact.rows, Fact.stkB] at hF
        simp only [putsD, Act.put, List.setIfInBounds_toArray, List.set_cons_zero, List.set_cons_succ]
        simp only [hF]
        go_wp2
        exact ⟨rfl, rfl, .inr (Below.refl _ _), .inr (.inl (by simp))⟩
      · intro vals z hC hF
        simp only [factsD, List.getD_cons_zero, List.getD_cons_succ, Fact.eq, Fact.row, Fact.lit, Fact.lit0, Fact.of, and_true, Fact.rows, Fact.stkB] at hF
        obtain ⟨e11, A9, c9, e8, hown9, hg9⟩ := hF
        have hpx := (hg9.block p HS.out.lt (fun e => HS.out.ds.ne2 HS.out.box neSD e.symm)).trans HS.out.box
        have x1 := (cell_of_block hpx 0).1
        have x2 := (cell_of_block hpx 0).2
        have HSM := Lib.hid (HS.out.setD hg9 hown9)
        have HBL := Lib.hid (below_grow_set (p := p) (o := 0) (u := .slice A9 dy.length c9) (Below.refl p W1) hg9 hpw (fun b hb => (HS.out.ds.lt b hb).1) (Nat.le_refl p))
        have HBY := Lib.hid ((Below.heap_setCell z ⟨p, 0, none⟩ (.slice A9 dy.length c9) bx (fun e9 => by have e9 : bx = p := e9; have h9 := HBX.out; rw [e9, HS.out.box] at h9; injection h9 with h9; injection h9 with _ h9 _; exact absurd h9.symm neLS)).trans (hg9.block bx (lt_of_block HBX.out) (fun e9 => HS.out.ds.ne2 HBX.out neLD e9.symm)))
        have HSZ := Lib.hid hg9.size
        simp only [putsD, Act.put, List.setIfInBounds_toArray, List.set_cons_zero, List.set_cons_succ]
        simp only [e11, e8]
        go_wp2
        exact ⟨rfl, ⟨⟨_, _, _, _, _, _, HSM.out⟩, HBL.out, by rw [size_setCell]; exact HSZ.out, HBY.out, by rw [size_setCell]; exact Nat.lt_of_lt_of_le (lt_of_block HBX.out) HSZ.out⟩, .inl (by simp), .inl (by simp)⟩
      · intro vals z hF
        simp only [facts, List.getD_cons_zero, List.getD_cons_succ, Fact.eq, Fact.row, Fact.lit, Fact.lit0, Fact.of, and_true, Fact.rows, Fact.stkB] at hF
        obtain ⟨hS9, hB9, hsz9, hbx9, hlx9⟩ := hF
        simp only [putsD, Act.put, List.setIfInBounds_toArray, List.set_cons_zero, List.set_cons_succ]
        have HBX := Lib.hid (hbx9.trans HBX.out)
        have HB := Lib.hid (HB.out.trans (hB9.mono (by rw [← HP.out]; exact Nat.le_refl p)))
        have HTS := Lib.hid (HTS.out.keep (fun b hb9 => hB9.block b (by rw [HP.out]; exact hb9)))
        clear hB9 hbx9 hsz9 hlx9 HS HDS z0 z1
        obtain ⟨B1, B2, B3, b1, b2, b3, hS⟩ := hS9
        have v0 := (cell_of_block hS.box 1).1
        have y0 := (cell_of_block HBX.out 1).1
        have z0 := Later.cell v0
        have z1 := Later.cell y0
        have HS := Lib.hid hS
        have hpw := hS.loW
        clear hS v0 y0
        generalize z = Z1 at *
        go_wp2
        refine wp_region_shares [[], [], [(1, 25)], [(2, 26)], [(3, 27)], [], [(5, 29)], [(4, 28), (6, 30)], [(0, 24)], [(8, 32)], [(9, 33), (7, 31)]]
          [.eq (.pointer (some ⟨p, 0, none⟩)), .eq (.pointer (some ⟨p, 0, none⟩)), .eq (.pointer (some ⟨p, 0, none⟩)), .eq (.pointer (some ⟨p, 1, none⟩)), .eq (.slice B2 tx.length b2), .eq (.pointer (some ⟨bx, 1, none⟩)), .eq (.slice A2 c[k].ts.length c2), Fact.rows Lay.term 48 p Z1 (.slice B2 tx.length b2) ty, .eq (.pointer (some ⟨p, 0, none⟩)), .eq (.pointer (some ⟨p, 1, none⟩)), Fact.stkB p Z1 p bx dy ty mx]
          [7, 10] [7, 10] [0, 8, 9, 10] [10] [(0, 24), (1, 25), (2, 26), (3, 27), (4, 28), (5, 29), (6, 30), (7, 31), (8, 32), (9, 33)] (by kernel_rfl) (by kernel_rfl) (by kernel_rfl) (by kernel_rfl)
          ⟨?_, ?_, ?_, ?_, ?_, ?_, ?_, ?_, ?_, ?_, ?_, trivial⟩ ?_
        · intro vals z hC hF
          simp only [putsD, Act.put, List.setIfInBounds_toArray, List.set_cons_zero, List.set_cons_succ]
          go_wp2
          exact ⟨rfl, rfl, .inr (Below.refl _ _), .inr (.inl (by simp))⟩
        · intro vals z hC hF
          simp only [putsD, Act.put, List.setIfInBounds_toArray, List.set_cons_zero, List.set_cons_succ]
          go_wp2
          exact ⟨rfl, rfl, .inr (Below.refl _ _), .inr (.inl (by simp))⟩
        · intro vals z hC hF
          simp only [factsD, List.getD_cons_zero, List.getD_cons_succ, Fact.eq, Fact.row, Fact.lit, Fact.lit0, Fact.of, and_true, Fact.rows, Fact.stkB] at hF
          simp only [putsD, Act.put, List.setIfInBounds_toArray, List.set_cons_zero, List.set_cons_succ]
          simp only [hF]
          go_wp2
          exact ⟨rfl, rfl, .inr (Below.refl _ _), .inr (.inl (by simp))⟩
        · intro vals z hC hF
          simp only [factsD, List.getD_cons_zero, List.getD_cons_succ, Fact.eq, Fact.row, Fact.lit, Fact.lit0, Fact.of, and_true, Fact.rows, Fact.stkB] at hF
          simp only [putsD, Act.put, List.setIfInBounds_toArray, List.set_cons_zero, List.set_cons_succ]
          simp only [hF]
          go_wp2
          exact ⟨rfl, rfl, .inr (Below.refl _ _), .inr (.inl (by simp))⟩
        · intro vals z hC hF
          have hC := hC.resolve_left (by simp)
          have hsz := hC.size
          have e1 : z.cell? _ = _ := z0 ⟨z, hC⟩
          simp only [factsD, List.getD_cons_zero, List.getD_cons_succ, Fact.eq, Fact.row, Fact.lit, Fact.lit0, Fact.of, and_true, Fact.rows, Fact.stkB] at hF
          simp only [putsD, Act.put, List.setIfInBounds_toArray, List.set_cons_zero, List.set_cons_succ]
          simp only [hF]
          go_wp2
          exact ⟨rfl, rfl, .inr (Below.refl _ _), .inr (.inl (by simp))⟩
        · intro vals z hC hF
          simp only [putsD, Act.put, List.setIfInBounds_toArray, List.set_cons_zero, List.set_cons_succ]
          go_wp2
          exact ⟨rfl, rfl, .inr (Below.refl _ _), .inr (.inl (by simp))⟩
        · intro vals z hC hF
          have hC := hC.resolve_left (by simp)
          have hsz := hC.size
          have e1 : z.cell? _ = _ := z1 ⟨z, hC⟩
          simp only [factsD, List.getD_cons_zero, List.getD_cons_succ, Fact.eq, Fact.row, Fact.lit, Fact.lit0, Fact.of, and_true, Fact.rows, Fact.stkB] at hF
          simp only [putsD, Act.put, List.setIfInBounds_toArray, List.set_cons_zero, List.set_cons_succ]
          simp only [hF]
          go_wp2
          exact ⟨rfl, rfl, .inr (Below.refl _ _), .inr (.inl (by simp))⟩
        · intro vals z hC hF
          have hC := hC.resolve_left (by simp)
          have hsz := hC.size
          simp only [factsD, List.getD_cons_zero, List.getD_cons_succ, Fact.eq, Fact.row, Fact.lit, Fact.lit0, Fact.of, and_true, Fact.rows, Fact.stkB] at hF
          obtain ⟨e5, e7⟩ := hF
          have hS9 := HS.out.up hC
          simp only [putsD, Act.put, List.setIfInBounds_toArray, List.set_cons_zero, List.set_cons_succ]
          simp only [e5, e7]
          have hpz : p ≤ z.heap.size := hS9.loW
          refine wpList_append_rows (L := Lay.term) (Q := fun _ b => b < p) (ys := ty) (by rfl) (.tmp 28) (.tmp 30) (by rfl) Tryz.underlying24 HIT.out.1 HIT.out.2.1 HIT.out.2.2.1 HIT.out.2.2.2 rfl (by show 0 < 5; omega) term_one (by rfl) (by rfl) hS9.ts (stay_lt p) (HTS.out.below hC (fun b hb9 => Nat.lt_of_lt_of_le hb9 (by rw [← HP.out]; exact hpw))) (fun b hb9 => ⟨by rw [← HP.out] at hb9; omega, fun e9 => by have := (hS9.ts.lt b e9).1; rw [← HP.out] at hb9; omega, by rw [← HP.out] at hb9; exact hb9⟩) hxt hzt (by omega) hpz HTY.out ?_
          intro A9 c9 w9 hown9 hg9 hbk9
          exact ⟨rfl, ⟨A9, c9, rfl, hown9, below_grown hC hg9⟩, .inl (by simp), .inl (by simp)⟩
        · intro vals z hC hF
          simp only [factsD, List.getD_cons_zero, List.getD_cons_succ, Fact.eq, Fact.row, Fact.lit, Fact.lit0, Fact.of, and_true, Fact.rows, Fact.stkB] at hF
          simp only [putsD, Act.put, List.setIfInBounds_toArray, List.set_cons_zero, List.set_cons_succ]
          simp only [hF]
          go_wp2
          exact ⟨rfl, rfl, .inr (Below.refl _ _), .inr (.inl (by simp))⟩
        · intro vals z hC hF
          simp only [factsD, List.getD_cons_zero, List.getD_cons_succ, Fact.eq, Fact.row, Fact.lit, Fact.lit0, Fact.of, and_true, Fact.rows, Fact.stkB] at hF
          simp only [putsD, Act.put, List.setIfInBounds_toArray, List.set_cons_zero, List.set_cons_succ]
          simp only [hF]
          go_wp2
          exact ⟨rfl, rfl, .inr (Below.refl _ _), .inr (.inl (by simp))⟩
        · intro vals z hC hF
          simp only [factsD, List.getD_cons_zero, List.getD_cons_succ, Fact.eq, Fact.row, Fact.lit, Fact.lit0, Fact.of, and_true, Fact.rows, Fact.stkB] at hF
          obtain ⟨e11, A9, c9, e8, hown9, hg9⟩ := hF
          have hpx := (hg9.block p HS.out.lt (fun e => HS.out.ts.ne2 HS.out.box neST e.symm)).trans HS.out.box
          have x1 := (cell_of_block hpx 1).1
          have x2 := (cell_of_block hpx 1).2
          have HSM := Lib.hid (HS.out.setT hg9 hown9)
          have HBL := Lib.hid (below_grow_set (p := p) (o := 1) (u := .slice A9 ty.length c9) (Below.refl p Z1) hg9 hpw (fun b hb => (HS.out.ts.lt b hb).1) (Nat.le_refl p))
          have HBY := Lib.hid ((Below.heap_setCell z ⟨p, 1, none⟩ (.slice A9 ty.length c9) bx (fun e9 => by have e9 : bx = p := e9; have h9 := HBX.out; rw [e9, HS.out.box] at h9; injection h9 with h9; injection h9 with _ h9 _; exact absurd h9.symm neLS)).trans (hg9.block bx (lt_of_block HBX.out) (fun e9 => HS.out.ts.ne2 HBX.out neLT e9.symm)))
          have HSZ := Lib.hid hg9.size
          simp only [putsD, Act.put, List.setIfInBounds_toArray, List.set_cons_zero, List.set_cons_succ]
          simp only [e11, e8]
          go_wp2
          exact ⟨rfl, ⟨⟨_, _, _, _, _, _, HSM.out⟩, HBL.out, by rw [size_setCell]; exact HSZ.out, HBY.out, by rw [size_setCell]; exact Nat.lt_of_lt_of_le (lt_of_block HBX.out) HSZ.out⟩, .inl (by simp), .inl (by simp)⟩
        · intro vals z hF
          simp only [facts, List.getD_cons_zero, List.getD_cons_succ, Fact.eq, Fact.row, Fact.lit, Fact.lit0, Fact.of, and_true, Fact.rows, Fact.stkB] at hF
          obtain ⟨hS9, hB9, hsz9, hbx9, hlx9⟩ := hF
          simp only [putsD, Act.put, List.setIfInBounds_toArray, List.set_cons_zero, List.set_cons_succ]
          have HB := Lib.hid (HB.out.trans (hB9.mono (by rw [← HP.out]; exact Nat.le_refl p)))
          clear hB9 hbx9 hsz9 hlx9 HS HTS z0 z1
          obtain ⟨B1, B2, B3, b1, b2, b3, hS⟩ := hS9
          have HPU := Lib.hid (push_any p p dy ty mx B1 B2 B3 b1 b2 b3 z hS (by omega))
          clear hS
          go_wp2_with fail
          refine HPU.out.mono ?_
          rintro e w9 ⟨rfl, hS9, hB9⟩
          rw [← HMYL.out] at hS9
          have hB8 := HB.out.trans (hB9.mono (by rw [← HP.out]; exact Nat.le_refl p))
          clear hB9
          go_wp2
          go_roundw
          case rel => exact ⟨k + 1, by omega, by go_num, by rw [EDY.out, ETY.out, EMY.out]; exact hS9, hB8⟩
          case measure => simp [intOf]; omega
    · have hke : k = c.length := by omega
      subst hke
      rw [List.take_length] at hstk
      go_wp2
      go_ret
      rw [← HP.out]
      exact ⟨rfl, hstk, by rw [HP.out]; exact hb⟩
end Go.Proofs.YtiahmfpfimmbgaaGreatDoor

/-! The program's ok of a stack. -/
namespace Go.Proofs.YtiahmfpfimmbgaaGreatDoor
open Go Go.RowKit

/-- A slice's middle. -/
theorem Lay.Sl.drop9 {α : Type} {L : Lay α} {w : World} {F : Nat → Prop} {ad : Addr} {xs : List α} (h : L.Sl w F (some ad) xs) (n : Nat) : L.Sl w F (some (ad.add (n * L.size))) (xs.drop n) := fun hn => by
  obtain ⟨ad', e, hf, hc⟩ := h (by simp at hn; omega)
  injection e with e
  subst e
  refine ⟨_, rfl, by rw [block_of_add]; exact hf, fun k x hx => ?_⟩
  rw [List.getElem?_drop] at hx
  obtain ⟨vs, hr, hcell⟩ := hc (n + k) x hx
  refine ⟨vs, hr, fun j u hu => ?_⟩
  have := hcell j u hu
  rw [add_of_add]
  rw [show n * L.size + (k * L.size + j) = (n + k) * L.size + j by rw [Nat.add_mul]; omega]
  exact this
theorem slice_lhR {α : Type} {L : Lay α} {w : World} {F : Nat → Prop} {t : TypeId} {A : Option Addr} {xs : List α} {c : Nat} (ht : Tryz.prog.underlying t = some (.slice (Tryz.prog.elem t))) (hs : ∀ W : World, (sizeOf (Tryz.prog.elem t)).run Tryz.prog W = .ok L.size W) (h : L.Sl w F A xs) (l m : Nat) (hl : l ≤ m) (hm : m ≤ xs.length) (hc : xs.length ≤ c) :
    ∃ B9 c9, (∀ W : World, (Instr.slice t (.slice A xs.length c) (some (.int .i64 (l : Int))) (some (.int .i64 (m : Int))) none).run Tryz.prog W = .ok (.slice B9 ((xs.drop l).take (m - l)).length c9) W) ∧ L.Sl w F B9 ((xs.drop l).take (m - l)) ∧ ((xs.drop l).take (m - l)).length ≤ c9 := by
  have hlen : ((xs.drop l).take (m - l)).length = m - l := by rw [List.length_take, List.length_drop]; omega
  have hrun : ∀ W : World, (Instr.slice t (.slice A xs.length c) (some (.int .i64 (l : Int))) (some (.int .i64 (m : Int))) none).run Tryz.prog W = .ok (sliced A l m c L.size) W := fun W => by
    rw [run_slice_lh (P := Tryz.prog) (w := W) t A xs.length c ht .i64 .i64 (l : Int) (m : Int) (by omega) (by omega) (by omega), hs W]
    rfl
  rcases A with _ | ad
  · have h0 : xs.length = 0 := by
      rcases Nat.eq_zero_or_pos xs.length with h9 | h9
      · exact h9
      · obtain ⟨_, e9, _⟩ := h h9
        cases e9
    have e9 : (xs.drop l).take (m - l) = [] := List.eq_nil_of_length_eq_zero (by rw [hlen]; omega)
    refine ⟨none, c - l, fun W => ?_, by rw [e9]; exact .nil _ _ _ _, by rw [hlen]; omega⟩
    rw [hrun W, hlen]
    unfold sliced
    split <;> first | rfl | (simp; done)
  · by_cases e : c = l
    · have e9 : (xs.drop l).take (m - l) = [] := List.eq_nil_of_length_eq_zero (by rw [hlen]; omega)
      refine ⟨some ad, c - l, fun W => ?_, by rw [e9]; exact .nil _ _ _ _, by rw [hlen]; omega⟩
      rw [hrun W, hlen]
      unfold sliced
      rw [if_pos e]
    · refine ⟨some (ad.add (l * L.size)), c - l, fun W => ?_, (h.drop9 l).take _, by rw [hlen]; omega⟩
      rw [hrun W, hlen]
      unfold sliced
      rw [if_neg e]
      rfl
theorem slice_hR {α : Type} {L : Lay α} {w : World} {F : Nat → Prop} {t : TypeId} {A : Option Addr} {xs : List α} {c : Nat} (ht : Tryz.prog.underlying t = some (.slice (Tryz.prog.elem t))) (hs : ∀ W : World, (sizeOf (Tryz.prog.elem t)).run Tryz.prog W = .ok L.size W) (h : L.Sl w F A xs) (m : Nat) (hm : m ≤ xs.length) (hc : xs.length ≤ c) :
    (∀ W : World, (Instr.slice t (.slice A xs.length c) none (some (.int .i64 (m : Int))) none).run Tryz.prog W = .ok (.slice A (xs.take m).length c) W) ∧ L.Sl w F A (xs.take m) := by
  have hlen : (xs.take m).length = m := by rw [List.length_take]; omega
  refine ⟨fun W => ?_, h.take m⟩
  rw [run_slice_h (P := Tryz.prog) (w := W) t A xs.length c ht .i64 (m : Int) (by omega) (by omega), hs W, hlen]
  show Result.ok (sliced A 0 m c L.size) W = _
  unfold sliced
  rw [Nat.sub_zero, Nat.sub_zero, Nat.zero_mul]
  rcases A with _ | ad
  · simp
  · have e : ad.add 0 = ad := rfl
    simp [e]
theorem msAll_len (c : List Ly) : (msAll c).length = c.length := by simp [msAll]
theorem msAll_at (c : List Ly) (k : Nat) (h : k < (msAll c).length) : (msAll c)[k] = (((dsAll (c.take (k + 1))).length : Int), ((tsAll (c.take (k + 1))).length : Int)) := by simp [msAll]
theorem dsAll_split (c : List Ly) (k : Nat) : dsAll c = dsAll (c.take k) ++ dsAll (c.drop k) := by
  conv => lhs; rw [← List.take_append_drop k c]
  unfold dsAll; rw [List.flatMap_append]
theorem tsAll_split (c : List Ly) (k : Nat) : tsAll c = tsAll (c.take k) ++ tsAll (c.drop k) := by
  conv => lhs; rw [← List.take_append_drop k c]
  unfold tsAll; rw [List.flatMap_append]
theorem dsAll_pre (c : List Ly) (k : Nat) : (dsAll c).take (dsAll (c.take k)).length = dsAll (c.take k) := by
  conv => lhs; rw [dsAll_split c k]
  simp
theorem tsAll_mid (c : List Ly) (k : Nat) (h : k < c.length) : ((tsAll c).drop (tsAll (c.take k)).length).take ((tsAll (c.take (k + 1))).length - (tsAll (c.take k)).length) = c[k].ts := by
  conv => lhs; rw [tsAll_split c (k + 1)]
  rw [tsAll_step c k h]
  simp
theorem Lay.Sl.at_mark {w : World} {F : Nat → Prop} {A : Option Addr} {xs : List (Int × Int)} (h : Lay.mark.Sl w F A xs) {k : Nat} (hk : k < xs.length) :
    ∃ ad, A = some ad ∧ F ad.block ∧ w.cell? (ad.add (k * 2)) = some (.int .i64 xs[k].1) ∧ w.cell? ⟨(ad.add (k * 2)).block, (ad.add (k * 2)).off + 1, none⟩ = some (.int .i64 xs[k].2) := by
  obtain ⟨ad, e, hf, hc⟩ := h (by omega)
  obtain ⟨vs, rfl, hcell⟩ := hc k xs[k] (List.getElem?_eq_getElem hk)
  refine ⟨ad, e, hf, hcell 0 _ rfl, ?_⟩
  show w.cell? ((ad.add (k * 2)).add 1) = _
  rw [add_of_add]; exact hcell 1 _ rfl
theorem size_term (W : World) : (sizeOf (Tryz.prog.elem 24)).run Tryz.prog W = .ok 5 W := by kernel_rfl
theorem size_decl (W : World) : (sizeOf (Tryz.prog.elem 55)).run Tryz.prog W = .ok 2 W := by kernel_rfl
theorem OwnL.capl {α : Type} {L : Lay α} {Q : World → Nat → Prop} {e : TypeId} {w : World} {lo c : Nat} {A : Option Addr} {xs : List α} (h : OwnL L Q e w lo (.slice A xs.length c) xs) : xs.length ≤ c := (OwnL.cap h).2
set_option maxRecDepth 100000 in
set_option maxHeartbeats 8000000 in
theorem stackOk_any (lo p : Nat) (c : List Ly) (w : World) (h : StkE lo w p (dsAll c) (tsAll c) (msAll c)) (hc : okC c) :
    Calls Tryz.prog 55 #[.pointer (some ⟨p, 0, none⟩)] w (RetB w (ctxOk c)) := by
  obtain ⟨hl, hds, hts, hnm, htm⟩ := hc
  obtain ⟨A1, A2, A3, c1, c2, c3, hS⟩ := h
  obtain ⟨r, hr⟩ : ∃ r, r = ctxOk c := ⟨_, rfl⟩
  rw [← hr]
  have HR := Lib.hid hr
  have HNM := Lib.hid hnm
  have HTM := Lib.hid htm
  have HML := Lib.hid (msAll_len c)
  have HMA := Lib.hid (msAll_at c)
  have v0 := (cell_of_block hS.box 0).1
  have v1 := (cell_of_block hS.box 1).1
  have v2 := (cell_of_block hS.box 2).1
  have HS := Lib.hid hS
  clear hr hnm htm hS
  obtain ⟨mx, hmx⟩ : ∃ mx, mx = msAll c := ⟨_, rfl⟩
  rw [← hmx] at HML HMA HS v2
  obtain ⟨xs, hxs⟩ : ∃ xs, xs = dsAll c := ⟨_, rfl⟩
  rw [← hxs] at HNM hds HS v0
  obtain ⟨ys, hys⟩ : ∃ ys, ys = tsAll c := ⟨_, rfl⟩
  rw [← hys] at HTM hts HS v1
  have HXS := Lib.hid hxs
  have HYS := Lib.hid hys
  clear hmx hxs hys
  have hml : mx.length ≤ 1048576 := by rw [HML.out]; exact hl
  by_cases h1 : 1 ≤ mx.length
  rotate_left
  · have HX : Hid (r = false) := Lib.hid (by rw [HR.out]; exact ctxOk_short (by rw [← HML.out]; exact h1))
    have g1 : (mx.length : Int) < 1 := by omega
    go_enter Tryz.func55, Tryz.ntmps55
    go_wp2
    go_ret
    exact ⟨ret_bool (by rw [HX.out]), Below.refl _ _⟩
  have g1 : ¬ (mx.length : Int) < 1 := by omega
  by_cases h6 : mx.length ≤ 6
  rotate_left
  · have HX : Hid (r = false) := Lib.hid (by rw [HR.out]; exact ctxOk_long (by rw [← HML.out]; exact h6))
    have g6 : (6 : Int) < (mx.length : Int) := by omega
    go_enter Tryz.func55, Tryz.ntmps55
    go_wp2
    go_ret
    exact ⟨ret_bool (by rw [HX.out]), Below.refl _ _⟩
  have g6 : ¬ (6 : Int) < (mx.length : Int) := by omega
  have HDO := Lib.hid (implDeclOk_any A1 c1 xs _ w (OwnL.rd HS.out.ds) (fun _ h => h) (by omega) HNM.out (OwnL.capl HS.out.ds))
  obtain ⟨pd, hpd⟩ : ∃ pd, pd = declOk xs := ⟨_, rfl⟩
  rw [← hpd] at HDO
  go_enter Tryz.func55, Tryz.ntmps55
  go_wp2_with fail
  refine HDO.out.mono ?_
  rintro e w1 ⟨rfl, hb1⟩
  have hS1 := HS.out.up hb1
  have v0 := (cell_of_block hS1.box 0).1
  have v1 := (cell_of_block hS1.box 1).1
  have v2 := (cell_of_block hS1.box 2).1
  have HS := Lib.hid hS1
  clear hS1
  cases pd
  · have HX : Hid (r = false) := Lib.hid (by rw [HR.out]; exact ctxOk_decl (by rw [← HXS.out]; exact hpd.symm))
    clear hpd
    go_wp2
    go_ret
    exact ⟨ret_bool (by rw [HX.out]), hb1⟩
  have HPD := Lib.hid hpd.symm
  clear hpd
  by_cases h8 : ys.length ≤ 8
  rotate_left
  · have HX : Hid (r = false) := Lib.hid (by rw [HR.out]; exact ctxOk_terms (by rw [← HYS.out]; exact h8))
    have g8 : (8 : Int) < (ys.length : Int) := by omega
    go_wp2
    go_ret
    exact ⟨ret_bool (by rw [HX.out]), hb1⟩
  have g8 : ¬ (8 : Int) < (ys.length : Int) := by omega
  have HX : Hid (r = ctxGo [] c) := Lib.hid (by rw [HR.out]; exact ctxOk_go (by rw [← HML.out]; exact h1) (by rw [← HML.out]; exact h6) (by rw [← HXS.out]; exact HPD.out) (by rw [← HYS.out]; exact h8))
  go_wp2
  clear g1 g6 g8
  go_loopw [3, 43] (fun f i wr => ∃ k : Nat, k ≤ mx.length ∧ f = .int .i64 ((tsAll (c.take k)).length : Nat) ∧ i = .int .i64 k ∧ Below w1.heap.size w1 wr ∧ Hid (ctxGo [] c = ctxGo (c.take k) (c.drop k))) (fun _ i _ => mx.length - (intOf i).toNat)
  case atStart => exact ⟨0, Nat.zero_le _, rfl, rfl, Below.refl _ _, Lib.hid (by simp)⟩
  case round =>
    obtain ⟨k, hk, rfl, rfl, hbr, HG⟩ := hrel
    by_cases hlt : k < mx.length
    · have hkc : k < c.length := by rw [← HML.out]; exact hlt
      have hk1 : (k : Int) < mx.length := by omega
      have hSr := HS.out.up hbr
      obtain ⟨ad, rfl, hf, m1, m2⟩ := Lay.Sl.at_mark (OwnL.rd hSr.ms) hlt
      rw [HMA.out k hlt] at m1 m2
      dsimp only at m1 m2
      have HST := Lib.hid (ctxGo_step c k hkc)
      have HLY := Lib.hid (lyOk_take c k hkc)
      have hn1 : (dsAll (c.take (k + 1))).length ≤ xs.length := by rw [HXS.out]; exact dsAll_le c (k + 1)
      have hn2 : (tsAll (c.take (k + 1))).length ≤ ys.length := by rw [HYS.out]; exact tsAll_le c (k + 1)
      have hn3 : (tsAll (c.take k)).length ≤ (tsAll (c.take (k + 1))).length := by rw [tsAll_step c k hkc, List.length_append]; omega
      have HNK : Hid (okNames (dsAll (c.take (k + 1)))) := Lib.hid (fun d hd => HNM.out d (by rw [HXS.out]; exact dsAll_mem hd))
      have hmid := tsAll_mid c k hkc
      have hpre := dsAll_pre c (k + 1)
      rw [← HYS.out] at hmid
      rw [← HXS.out] at hpre
      have HTK : Hid (∀ m (hm : m < c[k].ts.length), T.All okT3 c[k].ts[m]) := Lib.hid (fun m hm => HTM.out _ (by rw [HYS.out]; exact tsAll_mem hkc hm))
      obtain ⟨B9, c9, hsl, hmr, hmc⟩ := slice_lhR (t := 24) Tryz.underlying24 size_term (OwnL.rd hSr.ts) (tsAll (c.take k)).length (tsAll (c.take (k + 1))).length hn3 hn2 (OwnL.capl hSr.ts)
      rw [hmid] at hsl hmr hmc
      obtain ⟨hsd, hdr⟩ := slice_hR (t := 55) Tryz.underlying55 size_decl (OwnL.rd hSr.ds) (dsAll (c.take (k + 1))).length hn1 (OwnL.capl hSr.ds)
      rw [hpre] at hsd hdr
      have hdc : (dsAll (c.take (k + 1))).length ≤ c1 := Nat.le_trans hn1 (OwnL.capl hSr.ds)
      have htl : c[k].ts.length ≤ 1048576 := by
        have h9 := tsAll_at c k hkc
        rw [← HYS.out] at h9
        omega
      generalize dsAll (c.take (k + 1)) = ds at *
      generalize hn4 : (tsAll (c.take (k + 1))).length = nt at *
      have HN4 := Lib.hid hn4
      generalize (tsAll (c.take k)).length = nf at *
      have hal : Below wr.heap.size wr (wr.alloc (.cells #[.int .i64 (ds.length : Int), .int .i64 (nt : Int)] 90)) := (Below.refl _ _).alloc (Nat.le_refl _) _
      have hbox := heap_alloc_new wr (.cells #[.int .i64 (ds.length : Int), .int .i64 (nt : Int)] 90)
      have hS2 := hSr.up hal
      have HMR := Lib.hid (hmr.below hal (fun _ h => h))
      have HDR := Lib.hid (hdr.below hal (fun _ h => h))
      have HWR := Lib.hid hal.size
      have HB2 := Lib.hid (bthen hbr hal)
      have v0 := (cell_of_block hS2.box 0).1
      have v1 := (cell_of_block hS2.box 1).1
      have y0 := (cell_of_block hbox 0).1
      have y1 := (cell_of_block hbox 1).1
      have HS2 := Lib.hid hS2
      have HBX := Lib.hid hbox
      have HSD := Lib.hid hsd
      clear hmid hpre hmr hdr hn4 hal hS2 hbox hSr hsd
      go_wp2
      generalize wr.alloc (.cells #[.int .i64 (ds.length : Int), .int .i64 (nt : Int)] 90) = W2 at *
      have hwb := lt_of_block HBX.out
      generalize hwr : wr.heap.size = bx at *
      have HWE := Lib.hid hwr
      clear hwr
      go_quiet (fail)
      have hd2 : Below W2.heap.size W2 (W2.drewN nq) := below_drewN (Below.refl _ _) nq
      have HB2 := Lib.hid (below_drewN HB2.out nq)
      have HS2 := Lib.hid (HS2.out.up hd2)
      have HBX := Lib.hid ((hd2.block _ hwb).trans HBX.out)
      have HMR := Lib.hid (HMR.out.drewN nq)
      have HDR := Lib.hid (HDR.out.drewN nq)
      have HSZ := Lib.hid (show W2.heap.size = (W2.drewN nq).heap.size from rfl)
      have hlw : bx ≤ (W2.drewN nq).heap.size := by rw [← HSZ.out]; exact Nat.le_of_lt hwb
      clear hd2 v0 v1 y0 y1 hsl
      generalize W2.drewN nq = W3 at *
      clear HSZ HWR hwb
      have y1 := (cell_of_block HBX.out 1).1
      go_wp2
      go_loopw [56] (fun j wr => ∃ m : Nat, m ≤ c[k].ts.length ∧ j = .int .i64 m ∧ Below W3.heap.size W3 wr ∧ Hid (lyOk (c.take k) c[k] = (c[k].ts.drop m).all (sort0 ds))) (fun j _ => c[k].ts.length - (intOf j).toNat)
      case atStart => exact ⟨0, Nat.zero_le _, rfl, Below.refl _ _, Lib.hid (by rw [HLY.out]; simp)⟩
      case round =>
        obtain ⟨m, hm, rfl, hbj, HJ⟩ := hrel
        have hbw := Lib.hid (bthen HB2.out hbj)
        have HS3 := Lib.hid (HS2.out.up hbj)
        have HBX3 := Lib.hid ((hbj.block _ (lt_of_block HBX.out)).trans HBX.out)
        by_cases hmt : m < c[k].ts.length
        · have hm1 : (m : Int) < c[k].ts.length := by omega
          have hMR := HMR.out.below hbj (fun b hb9 => Nat.lt_of_lt_of_le hb9 hlw)
          obtain ⟨ad2, A6, c6, rfl, hf2, t1, t2, t3, t4, t5, hcc, hkk⟩ := hMR.at_term hmt
          have hal : Below wr.heap.size wr (wr.alloc (.cells #[.int .i64 c[k].ts[m].op, .int .i64 c[k].ts[m].a, .int .i64 c[k].ts[m].b, .string c[k].ts[m].name, .slice A6 c[k].ts[m].kids.length c6] 48)) := (Below.refl _ _).alloc (Nat.le_refl _) _
          have htb := heap_alloc_new wr (.cells #[.int .i64 c[k].ts[m].op, .int .i64 c[k].ts[m].a, .int .i64 c[k].ts[m].b, .string c[k].ts[m].name, .slice A6 c[k].ts[m].kids.length c6] 48)
          have hS3 := HS3.out.up hal
          have hX3 := (hal.block _ (lt_of_block HBX3.out)).trans HBX3.out
          have hKK := hkk.below hal (fun b hb9 => Nat.lt_of_lt_of_le hb9 (Nat.le_trans hlw hbj.size))
          have hDR := (HDR.out.below hbj (fun b hb9 => Nat.lt_of_lt_of_le hb9 hlw)).below hal (fun b hb9 => Nat.lt_of_lt_of_le hb9 (Nat.le_trans hlw hbj.size))
          have HTC := Lib.hid (fun (z : World) (hz : Below (wr.alloc (.cells #[.int .i64 c[k].ts[m].op, .int .i64 c[k].ts[m].a, .int .i64 c[k].ts[m].b, .string c[k].ts[m].name, .slice A6 c[k].ts[m].kids.length c6] 48)).heap.size (wr.alloc (.cells #[.int .i64 c[k].ts[m].op, .int .i64 c[k].ts[m].a, .int .i64 c[k].ts[m].b, .string c[k].ts[m].name, .slice A6 c[k].ts[m].kids.length c6] 48)) z) => implTermSort_any ds c[k].ts[m] (HTK.out m hmt) HNK.out (by omega) A6 A1 c6 c1 _ z (hKK.below hz (fun b hb9 => Nat.lt_of_lt_of_le hb9 (Nat.le_trans hlw (Nat.le_trans hbj.size hal.size)))) (hDR.below hz (fun b hb9 => Nat.lt_of_lt_of_le hb9 (Nat.le_trans hlw (Nat.le_trans hbj.size hal.size)))) (fun b hb9 => Nat.lt_of_lt_of_le hb9 (Nat.le_trans hlw (Nat.le_trans hbj.size (Nat.le_trans hal.size hz.size)))) hdc)
          have HSTEP := Lib.hid (all_step (sort0 ds) c[k].ts m hmt)
          obtain ⟨z, hz⟩ : ∃ z, z = tsort ds c[k].ts[m] := ⟨_, rfl⟩
          rw [← hz] at HTC
          have HZ := Lib.hid hz
          have HAL := Lib.hid (bthen hbj hal)
          have d0 := Later.cell (cell_of_block hS3.box 0).1
          have x0 := Later.cell (cell_of_block hX3 0).1
          have q0 := Later.cell (cell_of_block htb 0).1
          have q1 := Later.cell (cell_of_block htb 1).1
          have q2 := Later.cell (cell_of_block htb 2).1
          have q3 := Later.cell (cell_of_block htb 3).1
          have q4 := Later.cell (cell_of_block htb 4).1
          have hsd := HSD.out
          clear hz hkk hKK hDR hMR hal htb hS3 hX3 hbj
          go_wp2
          generalize wr.alloc (.cells #[.int .i64 c[k].ts[m].op, .int .i64 c[k].ts[m].a, .int .i64 c[k].ts[m].b, .string c[k].ts[m].name, .slice A6 c[k].ts[m].kids.length c6] 48) = W4 at *
          refine wp_region_later (by kernel_rfl) (by kernel_rfl) ?_
          repeat (go_big_quiet_step ((go_at_call 93; exact later_of_below (HTC.out _ (Later.le _)))))
          refine wpQuiet_nil ?_
          rintro _ ⟨y, rfl⟩
          obtain ⟨W5, hy⟩ := y
          dsimp only
          have hbj6 := Lib.hid (bthen HAL.out hy)
          clear hy d0 x0 q0 q1 q2 q3 q4 hsd HTC
          by_cases hz0 : z = 0
          · have HN : Hid (lyOk (c.take k) c[k] = (c[k].ts.drop (m + 1)).all (sort0 ds)) := Lib.hid (by rw [HJ.out, HSTEP.out, sort0_yes (by rw [← HZ.out]; exact hz0), Bool.true_and])
            subst hz0
            go_wp2
            go_roundw
            case rel => exact ⟨m + 1, by omega, by go_num, hbj6.out, HN⟩
            case measure => simp [intOf]; omega
          · have HN : Hid (r = false) := Lib.hid (by rw [HX.out, HG.out, HST.out, HJ.out, HSTEP.out, sort0_no (by rw [← HZ.out]; exact hz0), Bool.false_and, Bool.false_and])
            have gz : (z != 0) = true := by simpa using hz0
            go_wp2
            go_ret
            exact ⟨ret_bool (by rw [HN.out]), bthen hb1 (bthen HB2.out hbj6.out)⟩
        · have hme : m = c[k].ts.length := by omega
          subst hme
          have HN : Hid (ctxGo [] c = ctxGo (c.take (k + 1)) (c.drop (k + 1))) := Lib.hid (by rw [HG.out, HST.out, HJ.out, List.drop_length]; rfl)
          have y1 := (cell_of_block HBX3.out 1).1
          go_wp2
          go_roundw
          case rel => exact ⟨k + 1, by omega, by rw [HN4.out], by go_num, hbw.out, HN⟩
          case measure => simp [intOf]; omega
    · have hke : k = mx.length := by omega
      have HN : Hid (r = true) := Lib.hid (by rw [HX.out, HG.out, hke, HML.out, List.drop_length]; rfl)
      subst hke
      go_wp2
      go_ret
      exact ⟨ret_bool (by rw [HN.out]), bthen hb1 hbr⟩
end Go.Proofs.YtiahmfpfimmbgaaGreatDoor
