/- The reference's l7Cmp. The reference's BitsCmp. BitsCmp in the laws' one form. Draws of nets: l6Lit, l6Net. -/
import Derived.Test.YtjghcaghigebjaaDoorJFnBitsBent0
import Derived.Test.YtjghcaghigebjaaDoorJFnBitsBent1
import Derived.Test.YtjghcaghigebjaaDoorJFnBitsBent2
import Derived.Test.YtjghcaghigebjaaDoorJFnBitsBent3
import Derived.Test.YtjghcaghigebjaaDoorJFnBitsBent4
/-! The reference's l7Cmp. -/
namespace Go.Proofs.YtjghcaghigebjaaDoor
open Go Go.RowKit

theorem set_last : ∀ (xs : List Int) (k : Nat) (y : Int), k + 1 = xs.length → xs.set k y = xs.take k ++ [y]
  | [], _, _, h => by simp at h
  | [x], 0, y, _ => rfl
  | x :: z :: xs, 0, y, h => by simp at h
  | x :: xs, k + 1, y, h => by rw [List.set_cons_succ, List.take_succ_cons, List.cons_append, set_last xs k y (by simpa using h)]
/-- A new row of integers. -/
def Fact.rowI (W : World) (l : List Int) : Fact :=
  .of (fun v x => ∃ A c, v = .slice A l.length c ∧ OwnI x W.heap.size (.slice A l.length c) l ∧ Below W.heap.size W x) fun _ _ _ ⟨A, c, h1, h2, h3⟩ hb => ⟨A, c, h1, h2.up hb, bthen h3 hb⟩
theorem cmp_rb {op : Int} {xs ys : List Int} {k : N × Bool} (h : NB k.1) (hx : ∀ x ∈ xs, RB x) (hy : ∀ y ∈ ys, RB y) : NB (run opsR (cmpP op xs ys) k).1.1 ∧ RB (run opsR (cmpP op xs ys) k).2 := by
  have less : ∀ (xs ys : List Int) (r : Int) (k : N × Bool), NB k.1 → (∀ x ∈ xs, RB x) → (∀ y ∈ ys, RB y) → RB r → NB (run opsR (lessP xs ys r) k).1.1 ∧ RB (run opsR (lessP xs ys r) k).2 := by
    intro xs
    induction xs with
    | nil => intro ys r k h _ _ hr; cases ys <;> exact ⟨h, hr⟩
    | cons x xs ih =>
      intro ys r k h hx hy hr
      cases ys with
      | nil => exact ⟨h, hr⟩
      | cons y ys =>
        simp only [lessP, run, run_bind]
        have h1 := opsR_xor_nb h (hx _ (.head _)) (hy _ (.head _))
        have h2 := mux_rb h1.1 h1.2 (hy _ (.head _)) hr
        exact ih ys _ _ h2.1 (fun z hz => hx z (.tail _ hz)) (fun z hz => hy z (.tail _ hz)) h2.2
  have same : ∀ (xs ys : List Int) (r : Int) (k : N × Bool), NB k.1 → (∀ x ∈ xs, RB x) → (∀ y ∈ ys, RB y) → RB r → NB (run opsR (sameP xs ys r) k).1.1 ∧ RB (run opsR (sameP xs ys r) k).2 := by
    intro xs
    induction xs with
    | nil => intro ys r k h _ _ hr; cases ys <;> exact ⟨h, hr⟩
    | cons x xs ih =>
      intro ys r k h hx hy hr
      cases ys with
      | nil => exact ⟨h, hr⟩
      | cons y ys =>
        simp only [sameP, run]
        have h1 := opsR_xor_nb h (hx _ (.head _)) (hy _ (.head _))
        have h2 := opsR_and_nb h1.1 hr h1.2.neg
        exact ih ys _ _ h2.1 (fun z hz => hx z (.tail _ hz)) (fun z hz => hy z (.tail _ hz)) h2.2
  have top : ∀ xs ys : List Int, (∀ x ∈ xs, RB x) → (∀ y ∈ ys, RB y) → ∀ z ∈ topL xs ys, RB z := fun xs ys hx hy z hz => by
    unfold topL at hz
    rcases List.mem_or_eq_of_mem_set hz with hz | hz
    · exact hx z hz
    · rw [hz]
      by_cases hk : xs.length - 1 < ys.length
      · rw [getD_at hk]; exact hy _ (List.getElem_mem _)
      · rw [List.getD_eq_getElem?_getD, List.getElem?_eq_none (by omega)]; show RB 0; unfold RB; omega
  unfold cmpP
  split
  · exact same _ _ _ _ h hx hy (by unfold RB; omega)
  · split
    · exact less _ _ _ _ h hx hy (by unfold RB; omega)
    · exact less _ _ _ _ h (top xs ys hx hy) (top ys xs hy hx) (by unfold RB; omega)
set_option maxRecDepth 100000 in
set_option maxHeartbeats 8000000 in
theorem l7Cmp_any (F : Nat → Prop) (A : Option Addr) (c : Nat) (k : N × Bool) (op : Int) (X Y : Option Addr) (cx cy : Nat) (xs ys : List Int) (w : World) (h : Lay.gate.Sl w F A k.1.gs) (hF : ∀ b, F b → b < w.heap.size) (hA : A = none → k.1.gs.length = 0) (hnb : NB k.1) (hop : okInt op) (hX : Lay.int.Rd w X xs) (hY : Lay.int.Rd w Y ys) (hxm : ∀ x ∈ xs, RB x) (hym : ∀ y ∈ ys, RB y) (hl : xs.length = ys.length) (h0 : 0 < xs.length) (hn : xs.length ≤ 1000) (hcx : xs.length ≤ cx) (hcy : ys.length ≤ cy) :
    Calls Tryd.prog 64 #[.agg #[.int .i64 k.1.ins, .slice A k.1.gs.length c, .bool k.2], .int .i64 op, .slice X xs.length cx, .slice Y ys.length cy] w (RetK F w (run opsR (cmpP op xs ys) k)) := by
  have hk0 := KS.two (c := c) h hF hA
  have K0 := Lib.hid hk0
  have HF := Lib.hid hF
  have HX := Lib.hid (hX.up hk0.bel)
  have HY := Lib.hid (hY.up hk0.bel)
  have y0 := (cell_of_block hk0.var 0).1
  have y1 := (cell_of_block hk0.var 1).1
  have y2 := (cell_of_block hk0.var 2).1
  have HNB := Lib.hid hnb
  have HL := Lib.hid hl
  have HXM := Lib.hid hxm
  have HYM := Lib.hid hym
  have HC1 := Lib.hid (l7Same_any _ A c k X Y cx cy xs ys _ hk0.row (hk0.lt hF) hk0.nil hnb HX.out HY.out hxm hym hl hn)
  have HC2 := Lib.hid (l7Less_any _ A c k X Y cx cy xs ys _ hk0.row (hk0.lt hF) hk0.nil hnb HX.out HY.out hxm hym hl hn)
  unfold okInt at hop
  obtain ⟨op0, op1⟩ := hop
  have hly0 : 0 < ys.length := by omega
  have hny : ys.length ≤ 1000 := by omega
  clear h hF hA hnb hX hY hxm hym hk0 hl
  by_cases o1 : op = 15
  · have o1b : (op == 15) = true := by simpa using o1
    have HO : Hid (cmpP op xs ys = sameP xs ys 1) := Lib.hid (if_pos o1)
    rw [HO.out]
    clear o1 HC2
    go_enter Tryd.func64, Tryd.ntmps64
    generalize run opsR (sameP xs ys 1) k = m at *
    go_wp2_with fail
    refine HC1.out.mono ?_
    rintro e z9 ⟨A9, c9, rfl, hn9, hs9, hb9⟩
    have hr9 := (hb9.block _ (lt_of_block K0.out.res)).trans K0.out.res
    clear y0 y1 y2
    have r0 := (cell_of_block hr9 0).1
    have rf0 := (cell_of_block hr9 0).2
    have r1 := (cell_of_block hr9 1).1
    have rf1 := (cell_of_block hr9 1).2
    have r2 := (cell_of_block hr9 2).1
    have rf2 := (cell_of_block hr9 2).2
    have HS9 := Lib.hid hs9
    have HB9 := Lib.hid hb9
    have HR9 := Lib.hid hr9
    clear hs9 hb9 hr9 HC1
    go_wp2
    have hs := st3_same HR9.out (.int .i64 m.1.1.ins) (.slice A9 m.1.1.gs.length c9) (.bool m.1.2)
    have k5 := (cell_of_block hs 0).1
    have kf5 := (cell_of_block hs 0).2
    have k6 := (cell_of_block hs 1).1
    have kf6 := (cell_of_block hs 1).2
    have k7 := (cell_of_block hs 2).1
    have kf7 := (cell_of_block hs 2).2
    refine bodyPost_ret (v := .tuple #[.agg #[.int .i64 m.1.1.ins, .slice A9 m.1.1.gs.length c9, .bool m.1.2], .int .i64 m.2]) (by simp [results, Tryd.results64, go_sem, k5, k6, k7, kf5, kf6, kf7]) rfl ?_
    exact K0.out.out HF.out HS9.out HB9.out hn9
  have o1b : (op == 15) = false := by simpa using o1
  by_cases o2 : op = 16
  · have o2b : (op == 16) = true := by simpa using o2
    have HO : Hid (cmpP op xs ys = lessP xs ys (-1)) := Lib.hid (by unfold cmpP; rw [if_neg o1, if_pos o2])
    rw [HO.out]
    clear o1 o2 HC1
    go_enter Tryd.func64, Tryd.ntmps64
    generalize run opsR (lessP xs ys (-1)) k = m at *
    go_wp2_with fail
    refine HC2.out.mono ?_
    rintro e z9 ⟨A9, c9, rfl, hn9, hs9, hb9⟩
    have hr9 := (hb9.block _ (lt_of_block K0.out.res)).trans K0.out.res
    clear y0 y1 y2
    have r0 := (cell_of_block hr9 0).1
    have rf0 := (cell_of_block hr9 0).2
    have r1 := (cell_of_block hr9 1).1
    have rf1 := (cell_of_block hr9 1).2
    have r2 := (cell_of_block hr9 2).1
    have rf2 := (cell_of_block hr9 2).2
    have HS9 := Lib.hid hs9
    have HB9 := Lib.hid hb9
    have HR9 := Lib.hid hr9
    clear hs9 hb9 hr9 HC2
    go_wp2
    have hs := st3_same HR9.out (.int .i64 m.1.1.ins) (.slice A9 m.1.1.gs.length c9) (.bool m.1.2)
    have k5 := (cell_of_block hs 0).1
    have kf5 := (cell_of_block hs 0).2
    have k6 := (cell_of_block hs 1).1
    have kf6 := (cell_of_block hs 1).2
    have k7 := (cell_of_block hs 2).1
    have kf7 := (cell_of_block hs 2).2
    refine bodyPost_ret (v := .tuple #[.agg #[.int .i64 m.1.1.ins, .slice A9 m.1.1.gs.length c9, .bool m.1.2], .int .i64 m.2]) (by simp [results, Tryd.results64, go_sem, k5, k6, k7, kf5, kf6, kf7]) rfl ?_
    exact K0.out.out HF.out HS9.out HB9.out hn9
  have o2b : (op == 16) = false := by simpa using o2
  have HO : Hid (cmpP op xs ys = lessP (topL xs ys) (topL ys xs) (-1)) := Lib.hid (by unfold cmpP; rw [if_neg o1, if_neg o2])
  rw [HO.out]
  clear o1 o2 HC1 HC2
  obtain ⟨j, hj⟩ : ∃ j : Nat, j + 1 = xs.length := ⟨xs.length - 1, by omega⟩
  have hjI : (xs.length : Int) - 1 = (j : Int) := by omega
  have hjx : j < xs.length := by omega
  have hjy : j < ys.length := by have := HL.out; omega
  obtain ⟨x, hx⟩ : ∃ x, x = xs[j] := ⟨_, rfl⟩
  obtain ⟨y, hy⟩ : ∃ y, y = ys[j] := ⟨_, rfl⟩
  obtain ⟨lx, hlx⟩ : ∃ lx, lx = xs.take j ++ [y] := ⟨_, rfl⟩
  obtain ⟨ly, hly⟩ : ∃ ly, ly = ys.take j ++ [x] := ⟨_, rfl⟩
  have hx1 : (xs.take j).length = j := by rw [List.length_take]; omega
  have hy1 : (ys.take j).length = j := by rw [List.length_take]; omega
  have HX1 := Lib.hid hx1
  have HY1 := Lib.hid hy1
  have HLX := Lib.hid hlx
  have HLY := Lib.hid hly
  have HLXL : Hid (lx.length = j + 1) := Lib.hid (by rw [hlx, List.length_append, hx1]; rfl)
  have HLYL : Hid (ly.length = j + 1) := Lib.hid (by rw [hly, List.length_append, hy1]; rfl)
  have HTX : Hid (topL xs ys = lx) := Lib.hid (by unfold topL; rw [show xs.length - 1 = j by omega, getD_at hjy, ← hy, set_last xs j y hj, hlx])
  have HTY : Hid (topL ys xs = ly) := Lib.hid (by unfold topL; rw [show ys.length - 1 = j by have := HL.out; omega, getD_at hjx, ← hx, set_last ys j x (by have := HL.out; omega), hly])
  have HXE := Lib.hid hx
  have HYE := Lib.hid hy
  have HJ := Lib.hid hj
  clear hx hy hlx hly hx1 hy1 hj
  obtain ⟨adx, rfl, -, -⟩ := HX.out.at_int hjx
  obtain ⟨ady, rfl, -, -⟩ := HY.out.at_int hjy
  obtain ⟨i0, hi0, hz0, hz1, hz2⟩ := info_parts int_info
  have hjx2 : (j : Int) < xs.length := by omega
  have hjy2 : (j : Int) < ys.length := by omega
  have hjcx : (j : Int) ≤ cx := by omega
  have hjcy : (j : Int) ≤ cy := by omega
  have hj1000 : j ≤ 1000 := by omega
  rw [HTX.out, HTY.out]
  go_enter Tryd.func64, Tryd.ntmps64
  go_wp2
  clear hjI y0 y1 y2
  generalize hX0 : (w.alloc (.cells #[.int .i64 k.1.ins, .slice A k.1.gs.length c, .bool k.2] 68)).alloc (.cells #[.int .i64 0, .slice none 0 0, .bool false] 68) = X0 at *
  clear hX0
  have d33 : ∀ z : Later X0, z.W.cell? (ady.add j) = some (.int .i64 y) := fun z => by
    obtain ⟨ad9, e9, _, c9⟩ := (HY.out.up z.le).at_int hjy
    injection e9 with e9; subst e9
    rw [HYE.out]; exact c9
  refine wp_region_shares [[], [], [], [(1, 34), (2, 35)], [(0, 33), (3, 36)], [], [], [(5, 38), (6, 39)], [(7, 40)], [(8, 41)], [(4, 37), (9, 42)], [(10, 43)]]
    [.lit0 X0.heap.size 3 1, .eq (.slice (some adx) xs.length cx), .eq (.int .i64 (j : Int)), .eq (.slice (some adx) j cx), .row X0.heap.size 3 1 j ((xs.take j).map (Value.int .i64)), .eq (.slice (some ady) ys.length cy), .eq (.int .i64 (j : Int)), .eq (.pointer (some (ady.add j))), .eq (.int .i64 y), .lit 3 1 #[.int .i64 y], Fact.rowI X0 lx, Fact.rowI X0 lx]
    [10] [] [] [11] [(0, 33), (1, 34), (2, 35), (3, 36), (4, 37), (5, 38), (6, 39), (7, 40), (8, 41), (9, 42), (10, 43), (11, 11)] (by kernel_rfl) (by kernel_rfl) (by kernel_rfl) (by kernel_rfl)
    ⟨?_, ?_, ?_, ?_, ?_, ?_, ?_, ?_, ?_, ?_, ?_, ?_, trivial⟩ ?_
  · intro vals x7 hC hF
    have hC := hC.resolve_left (by simp)
    have hsz := hC.size
    simp only [putsD, Act.put, List.setIfInBounds_toArray, List.set_cons_zero, List.set_cons_succ]
    go_wp2
    exact ⟨rfl, ⟨_, rfl, own_mono (own_lit0 rfl) hsz⟩, .inr ((Below.refl _ _).alloc (Nat.le_refl _) _), .inr (.inl (by simp))⟩
  · intro vals x7 hC hF
    simp only [putsD, Act.put, List.setIfInBounds_toArray, List.set_cons_zero, List.set_cons_succ]
    go_wp2
    exact ⟨rfl, rfl, .inr (Below.refl _ _), .inr (.inl (by simp))⟩
  · intro vals x7 hC hF
    simp only [putsD, Act.put, List.setIfInBounds_toArray, List.set_cons_zero, List.set_cons_succ]
    go_wp2
    exact ⟨rfl, rfl, .inr (Below.refl _ _), .inr (.inl (by simp))⟩
  · intro vals x7 hC hF
    simp only [factsD, List.getD_cons_zero, List.getD_cons_succ, Fact.eq, Fact.row, Fact.lit, Fact.lit0, Fact.of, and_true, Fact.rowI] at hF
    simp only [putsD, Act.put, List.setIfInBounds_toArray, List.set_cons_zero, List.set_cons_succ]
    simp only [hF]
    go_wp2
    exact ⟨rfl, rfl, .inr (Below.refl _ _), .inr (.inl (by simp))⟩
  · intro vals x7 hC hF
    have hC := hC.resolve_left (by simp)
    have hsz := hC.size
    simp only [factsD, List.getD_cons_zero, List.getD_cons_succ, Fact.eq, Fact.row, Fact.lit, Fact.lit0, Fact.of, and_true, Fact.rowI] at hF
    obtain ⟨⟨p0, e0, own0⟩, e2⟩ := hF
    simp only [putsD, Act.put, List.setIfInBounds_toArray, List.set_cons_zero, List.set_cons_succ]
    simp only [e0, e2]
    have hsrc : Src x7 1 (some adx) j ((xs.take j).map (Value.int .i64)) := by have h9 := src_ints ((HX.out.up hC).take j); rw [HX1.out] at h9; exact h9
    refine wpList_append_lit _ (by rfl) (.tmp 33) (.tmp 36) _ (by rfl) X0.heap.size 3 i0 _ 1 8 Tryd.underlying25 hi0 hz0 hz1 hz2 (by rfl) (by omega) p0 (by rfl) own0 (some adx) j cx ((xs.take j).map (Value.int .i64)) (by rfl) hsrc (ints_one _) (by unfold maxLen; omega) (by omega) hsz (by simp) ?_
    intro A1 c1 w1 hown1 hb1
    exact ⟨rfl, ⟨_, _, rfl, hown1⟩, .inr hb1, .inr (.inl (by simp))⟩
  · intro vals x7 hC hF
    simp only [putsD, Act.put, List.setIfInBounds_toArray, List.set_cons_zero, List.set_cons_succ]
    go_wp2
    exact ⟨rfl, rfl, .inr (Below.refl _ _), .inr (.inl (by simp))⟩
  · intro vals x7 hC hF
    simp only [putsD, Act.put, List.setIfInBounds_toArray, List.set_cons_zero, List.set_cons_succ]
    go_wp2
    exact ⟨rfl, rfl, .inr (Below.refl _ _), .inr (.inl (by simp))⟩
  · intro vals x7 hC hF
    simp only [factsD, List.getD_cons_zero, List.getD_cons_succ, Fact.eq, Fact.row, Fact.lit, Fact.lit0, Fact.of, and_true, Fact.rowI] at hF
    simp only [putsD, Act.put, List.setIfInBounds_toArray, List.set_cons_zero, List.set_cons_succ]
    simp only [hF]
    go_wp2
    exact ⟨rfl, rfl, .inr (Below.refl _ _), .inr (.inl (by simp))⟩
  · intro vals x7 hC hF
    have hC := hC.resolve_left (by simp)
    have hsz := hC.size
    have e1 : x7.cell? _ = _ := d33 ⟨x7, hC⟩
    simp only [factsD, List.getD_cons_zero, List.getD_cons_succ, Fact.eq, Fact.row, Fact.lit, Fact.lit0, Fact.of, and_true, Fact.rowI] at hF
    simp only [putsD, Act.put, List.setIfInBounds_toArray, List.set_cons_zero, List.set_cons_succ]
    simp only [hF]
    go_wp2
    exact ⟨rfl, rfl, .inr (Below.refl _ _), .inr (.inl (by simp))⟩
  · intro vals x7 hC hF
    have hC := hC.resolve_left (by simp)
    have hsz := hC.size
    simp only [factsD, List.getD_cons_zero, List.getD_cons_succ, Fact.eq, Fact.row, Fact.lit, Fact.lit0, Fact.of, and_true, Fact.rowI] at hF
    simp only [putsD, Act.put, List.setIfInBounds_toArray, List.set_cons_zero, List.set_cons_succ]
    simp only [hF]
    go_wp2
    exact ⟨rfl, ⟨_, rfl, by simp, _, heap_alloc_new _ _⟩, .inr ((Below.refl _ _).alloc (Nat.le_refl _) _), .inr (.inl (by simp))⟩
  · intro vals x7 hC hF
    have hC := hC.resolve_left (by simp)
    have hsz := hC.size
    simp only [factsD, List.getD_cons_zero, List.getD_cons_succ, Fact.eq, Fact.row, Fact.lit, Fact.lit0, Fact.of, and_true, Fact.rowI] at hF
    obtain ⟨⟨A1, c1, e1, own1⟩, b, e5, hlt5, fr5, hb5⟩ := hF
    simp only [putsD, Act.put, List.setIfInBounds_toArray, List.set_cons_zero, List.set_cons_succ]
    simp only [e1, e5]
    refine wpList_append_src _ (by rfl) (.tmp 37) (.tmp 42) _ (by rfl) X0.heap.size 3 i0 _ 1 8 Tryd.underlying25 hi0 hz0 hz1 hz2 (by rfl) (by omega) (.slice A1 j c1) j ((xs.take j).map (Value.int .i64)) (by rfl) own1 (some ⟨b, 0, none⟩) 1 1 [.int .i64 y] (by rfl) (src_block hb5 rfl) (by intro u hu; simp at hu; subst hu; rfl) (j + 1) (by omega) (by unfold maxLen; omega) (by omega) hsz (by simp) ?_
    intro A2 c2 w2 hown2 hb2 hg2
    rw [← HLXL.out] at hown2 ⊢
    exact ⟨rfl, ⟨_, _, rfl, by unfold OwnI; rw [show lx.map (Value.int .i64) = (xs.take j).map (Value.int .i64) ++ [.int .i64 y] by rw [HLX.out]; simp]; exact hown2, hC.trans hb2⟩, .inl (by simp), .inr (.inr hb2)⟩
  · intro vals x7 hC hF
    have hC := hC.resolve_left (by simp)
    have hsz := hC.size
    simp only [factsD, List.getD_cons_zero, List.getD_cons_succ, Fact.eq, Fact.row, Fact.lit, Fact.lit0, Fact.of, and_true, Fact.rowI] at hF
    obtain ⟨A8, c8, e8, hown8, hb8⟩ := hF
    simp only [putsD, Act.put, List.setIfInBounds_toArray, List.set_cons_zero, List.set_cons_succ]
    simp only [e8]
    go_wp2
    exact ⟨rfl, ⟨A8, c8, rfl, hown8, hb8⟩, .inr (Below.refl _ _), .inr (.inl (by simp))⟩
  · intro vals x7 hF
    simp only [facts, List.getD_cons_zero, List.getD_cons_succ, Fact.eq, Fact.row, Fact.lit, Fact.lit0, Fact.of, and_true, Fact.rowI] at hF
    obtain ⟨A7, c7, e7, ho7, hb7⟩ := hF
    simp only [putsD, Act.put, List.setIfInBounds_toArray, List.set_cons_zero, List.set_cons_succ]
    simp only [e7]
    have HO7 := Lib.hid ho7
    have K7 := Lib.hid (K0.out.up HF.out hb7)
    have HX := Lib.hid (HX.out.up hb7)
    have HY := Lib.hid (HY.out.up hb7)
    clear hb7 ho7 e7 d33
    go_wp2
    have d44 : ∀ z : Later x7, z.W.cell? (adx.add j) = some (.int .i64 x) := fun z => by
      obtain ⟨ad9, e9, _, c9⟩ := (HX.out.up z.le).at_int hjx
      injection e9 with e9; subst e9
      rw [HXE.out]; exact c9
    refine wp_region_shares [[], [], [], [(1, 45), (2, 46)], [(0, 44), (3, 47)], [], [], [(5, 49), (6, 50)], [(7, 51)], [(8, 52)], [(4, 48), (9, 53)], [(10, 54)]]
      [.lit0 x7.heap.size 3 1, .eq (.slice (some ady) ys.length cy), .eq (.int .i64 (j : Int)), .eq (.slice (some ady) j cy), .row x7.heap.size 3 1 j ((ys.take j).map (Value.int .i64)), .eq (.slice (some adx) xs.length cx), .eq (.int .i64 (j : Int)), .eq (.pointer (some (adx.add j))), .eq (.int .i64 x), .lit 3 1 #[.int .i64 x], Fact.rowI x7 ly, Fact.rowI x7 ly]
      [10] [] [] [11] [(0, 44), (1, 45), (2, 46), (3, 47), (4, 48), (5, 49), (6, 50), (7, 51), (8, 52), (9, 53), (10, 54), (11, 12)] (by kernel_rfl) (by kernel_rfl) (by kernel_rfl) (by kernel_rfl)
      ⟨?_, ?_, ?_, ?_, ?_, ?_, ?_, ?_, ?_, ?_, ?_, ?_, trivial⟩ ?_
    · intro vals x8 hC hF
      have hC := hC.resolve_left (by simp)
      have hsz := hC.size
      simp only [putsD, Act.put, List.setIfInBounds_toArray, List.set_cons_zero, List.set_cons_succ]
      go_wp2
      exact ⟨rfl, ⟨_, rfl, own_mono (own_lit0 rfl) hsz⟩, .inr ((Below.refl _ _).alloc (Nat.le_refl _) _), .inr (.inl (by simp))⟩
    · intro vals x8 hC hF
      simp only [putsD, Act.put, List.setIfInBounds_toArray, List.set_cons_zero, List.set_cons_succ]
      go_wp2
      exact ⟨rfl, rfl, .inr (Below.refl _ _), .inr (.inl (by simp))⟩
    · intro vals x8 hC hF
      simp only [putsD, Act.put, List.setIfInBounds_toArray, List.set_cons_zero, List.set_cons_succ]
      go_wp2
      exact ⟨rfl, rfl, .inr (Below.refl _ _), .inr (.inl (by simp))⟩
    · intro vals x8 hC hF
      simp only [factsD, List.getD_cons_zero, List.getD_cons_succ, Fact.eq, Fact.row, Fact.lit, Fact.lit0, Fact.of, and_true, Fact.rowI] at hF
      simp only [putsD, Act.put, List.setIfInBounds_toArray, List.set_cons_zero, List.set_cons_succ]
      simp only [hF]
      go_wp2
      exact ⟨rfl, rfl, .inr (Below.refl _ _), .inr (.inl (by simp))⟩
    · intro vals x8 hC hF
      have hC := hC.resolve_left (by simp)
      have hsz := hC.size
      simp only [factsD, List.getD_cons_zero, List.getD_cons_succ, Fact.eq, Fact.row, Fact.lit, Fact.lit0, Fact.of, and_true, Fact.rowI] at hF
      obtain ⟨⟨p0, e0, own0⟩, e2⟩ := hF
      simp only [putsD, Act.put, List.setIfInBounds_toArray, List.set_cons_zero, List.set_cons_succ]
      simp only [e0, e2]
      have hsrc : Src x8 1 (some ady) j ((ys.take j).map (Value.int .i64)) := by have h9 := src_ints ((HY.out.up hC).take j); rw [HY1.out] at h9; exact h9
      refine wpList_append_lit _ (by rfl) (.tmp 44) (.tmp 47) _ (by rfl) x7.heap.size 3 i0 _ 1 8 Tryd.underlying25 hi0 hz0 hz1 hz2 (by rfl) (by omega) p0 (by rfl) own0 (some ady) j cy ((ys.take j).map (Value.int .i64)) (by rfl) hsrc (ints_one _) (by unfold maxLen; omega) (by omega) hsz (by simp) ?_
      intro A1 c1 w1 hown1 hb1
      exact ⟨rfl, ⟨_, _, rfl, hown1⟩, .inr hb1, .inr (.inl (by simp))⟩
    · intro vals x8 hC hF
      simp only [putsD, Act.put, List.setIfInBounds_toArray, List.set_cons_zero, List.set_cons_succ]
      go_wp2
      exact ⟨rfl, rfl, .inr (Below.refl _ _), .inr (.inl (by simp))⟩
    · intro vals x8 hC hF
      simp only [putsD, Act.put, List.setIfInBounds_toArray, List.set_cons_zero, List.set_cons_succ]
      go_wp2
      exact ⟨rfl, rfl, .inr (Below.refl _ _), .inr (.inl (by simp))⟩
    · intro vals x8 hC hF
      simp only [factsD, List.getD_cons_zero, List.getD_cons_succ, Fact.eq, Fact.row, Fact.lit, Fact.lit0, Fact.of, and_true, Fact.rowI] at hF
      simp only [putsD, Act.put, List.setIfInBounds_toArray, List.set_cons_zero, List.set_cons_succ]
      simp only [hF]
      go_wp2
      exact ⟨rfl, rfl, .inr (Below.refl _ _), .inr (.inl (by simp))⟩
    · intro vals x8 hC hF
      have hC := hC.resolve_left (by simp)
      have hsz := hC.size
      have e1 : x8.cell? _ = _ := d44 ⟨x8, hC⟩
      simp only [factsD, List.getD_cons_zero, List.getD_cons_succ, Fact.eq, Fact.row, Fact.lit, Fact.lit0, Fact.of, and_true, Fact.rowI] at hF
      simp only [putsD, Act.put, List.setIfInBounds_toArray, List.set_cons_zero, List.set_cons_succ]
      simp only [hF]
      go_wp2
      exact ⟨rfl, rfl, .inr (Below.refl _ _), .inr (.inl (by simp))⟩
    · intro vals x8 hC hF
      have hC := hC.resolve_left (by simp)
      have hsz := hC.size
      simp only [factsD, List.getD_cons_zero, List.getD_cons_succ, Fact.eq, Fact.row, Fact.lit, Fact.lit0, Fact.of, and_true, Fact.rowI] at hF
      simp only [putsD, Act.put, List.setIfInBounds_toArray, List.set_cons_zero, List.set_cons_succ]
      simp only [hF]
      go_wp2
      exact ⟨rfl, ⟨_, rfl, by simp, _, heap_alloc_new _ _⟩, .inr ((Below.refl _ _).alloc (Nat.le_refl _) _), .inr (.inl (by simp))⟩
    · intro vals x8 hC hF
      have hC := hC.resolve_left (by simp)
      have hsz := hC.size
      simp only [factsD, List.getD_cons_zero, List.getD_cons_succ, Fact.eq, Fact.row, Fact.lit, Fact.lit0, Fact.of, and_true, Fact.rowI] at hF
      obtain ⟨⟨A1, c1, e1, own1⟩, b, e5, hlt5, fr5, hb5⟩ := hF
      simp only [putsD, Act.put, List.setIfInBounds_toArray, List.set_cons_zero, List.set_cons_succ]
      simp only [e1, e5]
      refine wpList_append_src _ (by rfl) (.tmp 48) (.tmp 53) _ (by rfl) x7.heap.size 3 i0 _ 1 8 Tryd.underlying25 hi0 hz0 hz1 hz2 (by rfl) (by omega) (.slice A1 j c1) j ((ys.take j).map (Value.int .i64)) (by rfl) own1 (some ⟨b, 0, none⟩) 1 1 [.int .i64 x] (by rfl) (src_block hb5 rfl) (by intro u hu; simp at hu; subst hu; rfl) (j + 1) (by omega) (by unfold maxLen; omega) (by omega) hsz (by simp) ?_
      intro A2 c2 w2 hown2 hb2 hg2
      rw [← HLYL.out] at hown2 ⊢
      exact ⟨rfl, ⟨_, _, rfl, by unfold OwnI; rw [show ly.map (Value.int .i64) = (ys.take j).map (Value.int .i64) ++ [.int .i64 x] by rw [HLY.out]; simp]; exact hown2, hC.trans hb2⟩, .inl (by simp), .inr (.inr hb2)⟩
    · intro vals x8 hC hF
      have hC := hC.resolve_left (by simp)
      have hsz := hC.size
      simp only [factsD, List.getD_cons_zero, List.getD_cons_succ, Fact.eq, Fact.row, Fact.lit, Fact.lit0, Fact.of, and_true, Fact.rowI] at hF
      obtain ⟨A8, c8, e8, hown8, hb8⟩ := hF
      simp only [putsD, Act.put, List.setIfInBounds_toArray, List.set_cons_zero, List.set_cons_succ]
      simp only [e8]
      go_wp2
      exact ⟨rfl, ⟨A8, c8, rfl, hown8, hb8⟩, .inr (Below.refl _ _), .inr (.inl (by simp))⟩
    · intro vals x8 hF
      simp only [facts, List.getD_cons_zero, List.getD_cons_succ, Fact.eq, Fact.row, Fact.lit, Fact.lit0, Fact.of, and_true, Fact.rowI] at hF
      obtain ⟨A8, c8, e8, ho8, hb8⟩ := hF
      simp only [putsD, Act.put, List.setIfInBounds_toArray, List.set_cons_zero, List.set_cons_succ]
      simp only [e8]
      have ho7 := HO7.out.up hb8
      have hk8 := K7.out.up HF.out hb8
      have HC := Lib.hid (l7Less_any _ A c k A7 A8 c7 c8 lx ly x8 hk8.row (hk8.lt HF.out) hk8.nil HNB.out ho7.rd ho8.rd
        (fun z hz => topL_mem (P := RB) HXM.out HYM.out HL.out h0 z (by rw [HTX.out]; exact hz)) (fun z hz => topL_mem (P := RB) HYM.out HXM.out HL.out.symm hly0 z (by rw [HTY.out]; exact hz))
        (by rw [HLXL.out, HLYL.out]) (by rw [HLXL.out]; omega))
      have K8 := Lib.hid hk8
      have y0 := (cell_of_block hk8.var 0).1
      have y1 := (cell_of_block hk8.var 1).1
      have y2 := (cell_of_block hk8.var 2).1
      clear ho7 ho8 hb8 e8 d44 hk8
      generalize run opsR (lessP lx ly (-1)) k = m at *
      go_wp2_with fail
      refine HC.out.mono ?_
      rintro e z9 ⟨A9, c9, rfl, hn9, hs9, hb9⟩
      have hr9 := (hb9.block _ (lt_of_block K8.out.res)).trans K8.out.res
      clear y0 y1 y2
      have r0 := (cell_of_block hr9 0).1
      have rf0 := (cell_of_block hr9 0).2
      have r1 := (cell_of_block hr9 1).1
      have rf1 := (cell_of_block hr9 1).2
      have r2 := (cell_of_block hr9 2).1
      have rf2 := (cell_of_block hr9 2).2
      have HS9 := Lib.hid hs9
      have HB9 := Lib.hid hb9
      have HR9 := Lib.hid hr9
      clear hs9 hb9 hr9 HC
      go_wp2
      have hs := st3_same HR9.out (.int .i64 m.1.1.ins) (.slice A9 m.1.1.gs.length c9) (.bool m.1.2)
      have k5 := (cell_of_block hs 0).1
      have kf5 := (cell_of_block hs 0).2
      have k6 := (cell_of_block hs 1).1
      have kf6 := (cell_of_block hs 1).2
      have k7 := (cell_of_block hs 2).1
      have kf7 := (cell_of_block hs 2).2
      refine bodyPost_ret (v := .tuple #[.agg #[.int .i64 m.1.1.ins, .slice A9 m.1.1.gs.length c9, .bool m.1.2], .int .i64 m.2]) (by simp [results, Tryd.results64, go_sem, k5, k6, k7, kf5, kf6, kf7]) rfl ?_
      exact K8.out.out HF.out HS9.out HB9.out hn9
end Go.Proofs.YtjghcaghigebjaaDoor

/-! The reference's BitsCmp. -/
namespace Go.Proofs.YtjghcaghigebjaaDoor
open Go Go.RowKit

theorem cmp_told (n : N) (op : Int) (xs ys : List Int) : bitsOut (run opsP ((cmpP op xs ys).bind fun m => .ret [m]) ⟨n, none⟩) = toldR ((run opsR (cmpP op xs ys) (n, true)).1, [(run opsR (cmpP op xs ys) (n, true)).2]) := by
  rw [← told_out, run_bind]; rfl
set_option maxRecDepth 100000 in
set_option maxHeartbeats 8000000 in
theorem specBitsCmp_any (n : N) (op : Int) (xs ys : List Int) (A X Y : Option Addr) (c cx cy : Nat) (w : World) (h : Lay.gate.Rd w A n.gs) (hn : n.gs.length ≤ 1048576) (hA : A = none → n.gs.length = 0) (hi : okInts n)
    (hX : Lay.int.Rd w X xs) (hY : Lay.int.Rd w Y ys) (hxi : i64s xs) (hyi : i64s ys) (hop : okInt op) (hlx : xs.length ≤ 1048576) (hly : ys.length ≤ 1048576) (hcx : xs.length ≤ cx) (hcy : ys.length ≤ cy) :
    Calls Tryd.prog 30 #[.agg #[.int .i64 n.ins, .slice A n.gs.length c], .int .i64 op, .slice X xs.length cx, .slice Y ys.length cy] w (RetCm (cmpOut (pickN (netOk n) (bitsCmp1R n op xs ys))) w) := by
  obtain ⟨hW, hB0, hB1, hWS⟩ := two_boxes w (.cells #[.int .i64 n.ins, .slice A n.gs.length c] 29) (.cells #[.int .i64 0, .slice none 0 0] 29)
  have HW := Lib.hid hW
  have HV := Lib.hid hB0
  have HR := Lib.hid hB1
  have HG := Lib.hid (h.up hW)
  have HX := Lib.hid (hX.up hW)
  have HY := Lib.hid (hY.up hW)
  have HI := Lib.hid hi
  have HXI := Lib.hid hxi
  have HYI := Lib.hid hyi
  have HOP := Lib.hid hop
  unfold okInt at hop
  obtain ⟨q0, q1⟩ := hop
  have HWS := Lib.hid hWS
  have z0 := (cell_of_block hB0 0).1
  have z1 := (cell_of_block hB0 1).1
  obtain ⟨out, hout⟩ : ∃ out, out = cmpOut (pickN (netOk n) (bitsCmp1R n op xs ys)) := ⟨_, rfl⟩
  rw [← hout]
  have HOUT := Lib.hid hout
  clear hout h hi hX hY hxi hyi hB0 hB1 hW hWS
  have HCN := Lib.hid (specNetOk_any A c n _ HG.out hn HI.out)
  go_enter Tryd.func30, Tryd.ntmps30
  go_wp2_with fail
  refine HCN.out.mono ?_
  generalize hX0 : (w.alloc (.cells #[.int .i64 n.ins, .slice A n.gs.length c] 29)).alloc (.cells #[.int .i64 0, .slice none 0 0] 29) = X0 at *
  clear hX0
  rintro e u1 ⟨rfl, hb9⟩
  clear HCN
  clear z0 z1
  have HV := Lib.hid ((hb9.block _ (lt_of_block HV.out)).trans HV.out)
  have HR := Lib.hid ((hb9.block _ (lt_of_block HR.out)).trans HR.out)
  have HW := Lib.hid (bthen HW.out hb9)
  have HG := Lib.hid (HG.out.up hb9)
  have HX := Lib.hid (HX.out.up hb9)
  have HY := Lib.hid (HY.out.up hb9)
  clear hb9
  have z0 := (cell_of_block HV.out 0).1
  have z1 := (cell_of_block HV.out 1).1
  rcases hok : netOk n with _ | _
  · have r0 := (cell_of_block HR.out 0).1
    have r1 := (cell_of_block HR.out 1).1
    have rf0 := (cell_of_block HR.out 0).2
    have rf1 := (cell_of_block HR.out 1).2
    have hs1 := heap_set_same _ (w.heap.size + 1) 0 (.int .i64 0) _ _ HR.out
    have hs2 := heap_set_same _ (w.heap.size + 1) 1 (.slice none 0 0) _ _ hs1
    have HS2 := Lib.hid hs2
    clear hs1 hs2
    go_wp2
    have k5 := (cell_of_block HS2.out 0).1
    have k6 := (cell_of_block HS2.out 1).1
    have kf5 := (cell_of_block HS2.out 0).2
    have kf6 := (cell_of_block HS2.out 1).2
    refine bodyPost_ret (v := .tuple #[.agg #[.int .i64 0, .slice none 0 0], .int .i64 0]) (by simp [results, Tryd.results30, go_sem, k5, k6, kf5, kf6]) rfl ?_
    rw [show out = (⟨0, []⟩, 0) from by rw [HOUT.out, hok]; rfl]
    exact ⟨none, 0, rfl, Nat.zero_le _, .nil _ _ _ _, below_set (below_set HW.out (by show w.heap.size ≤ w.heap.size + 1; omega) _) (by show w.heap.size ≤ w.heap.size + 1; omega) _⟩
  have HOK := Lib.hid hok
  have HOUT : Hid (out = cmpOut (bitsCmp1R n op xs ys)) := Lib.hid (by rw [HOUT.out, hok]; rfl)
  have hnb : NB n := by have := (netOk_iff n).1 hok; exact ⟨this.1, this.2.1, this.2.2.1⟩
  obtain ⟨n0, n1, n2⟩ := hnb
  clear hok
  have HC := Lib.hid (l7Right_any A X c cx n xs u1 HX.out HXI.out hlx hn n0 (by omega))
  go_wp2_with fail
  refine HC.out.mono ?_
  rintro e u2 ⟨rfl, hb9⟩
  clear HC z0 z1
  have HV := Lib.hid ((hb9.block _ (lt_of_block HV.out)).trans HV.out)
  have HR := Lib.hid ((hb9.block _ (lt_of_block HR.out)).trans HR.out)
  have HW := Lib.hid (bthen HW.out hb9)
  have HG := Lib.hid (HG.out.up hb9)
  have HX := Lib.hid (HX.out.up hb9)
  have HY := Lib.hid (HY.out.up hb9)
  clear hb9
  have z0 := (cell_of_block HV.out 0).1
  have z1 := (cell_of_block HV.out 1).1
  rcases hg : goodL n xs with _ | _
  · have r0 := (cell_of_block HR.out 0).1
    have r1 := (cell_of_block HR.out 1).1
    have rf0 := (cell_of_block HR.out 0).2
    have rf1 := (cell_of_block HR.out 1).2
    have hs1 := heap_set_same _ (w.heap.size + 1) 0 (.int .i64 0) _ _ HR.out
    have hs2 := heap_set_same _ (w.heap.size + 1) 1 (.slice none 0 0) _ _ hs1
    have HS2 := Lib.hid hs2
    clear hs1 hs2
    go_wp2
    have k5 := (cell_of_block HS2.out 0).1
    have k6 := (cell_of_block HS2.out 1).1
    have kf5 := (cell_of_block HS2.out 0).2
    have kf6 := (cell_of_block HS2.out 1).2
    refine bodyPost_ret (v := .tuple #[.agg #[.int .i64 0, .slice none 0 0], .int .i64 0]) (by simp [results, Tryd.results30, go_sem, k5, k6, kf5, kf6]) rfl ?_
    rw [show out = (⟨0, []⟩, 0) from by rw [HOUT.out]; unfold bitsCmp1R; rw [hg]; rfl]
    exact ⟨none, 0, rfl, Nat.zero_le _, .nil _ _ _ _, below_set (below_set HW.out (by show w.heap.size ≤ w.heap.size + 1; omega) _) (by show w.heap.size ≤ w.heap.size + 1; omega) _⟩
  have HGX := Lib.hid hg
  clear hg
  have HC := Lib.hid (l7Right_any A Y c cy n ys u2 HY.out HYI.out hly hn n0 (by omega))
  go_wp2_with fail
  refine HC.out.mono ?_
  rintro e u3 ⟨rfl, hb9⟩
  clear HC z0 z1
  have HV := Lib.hid ((hb9.block _ (lt_of_block HV.out)).trans HV.out)
  have HR := Lib.hid ((hb9.block _ (lt_of_block HR.out)).trans HR.out)
  have HW := Lib.hid (bthen HW.out hb9)
  have HG := Lib.hid (HG.out.up hb9)
  have HX := Lib.hid (HX.out.up hb9)
  have HY := Lib.hid (HY.out.up hb9)
  clear hb9
  have z0 := (cell_of_block HV.out 0).1
  have z1 := (cell_of_block HV.out 1).1
  rcases hg : goodL n ys with _ | _
  · have r0 := (cell_of_block HR.out 0).1
    have r1 := (cell_of_block HR.out 1).1
    have rf0 := (cell_of_block HR.out 0).2
    have rf1 := (cell_of_block HR.out 1).2
    have hs1 := heap_set_same _ (w.heap.size + 1) 0 (.int .i64 0) _ _ HR.out
    have hs2 := heap_set_same _ (w.heap.size + 1) 1 (.slice none 0 0) _ _ hs1
    have HS2 := Lib.hid hs2
    clear hs1 hs2
    go_wp2
    have k5 := (cell_of_block HS2.out 0).1
    have k6 := (cell_of_block HS2.out 1).1
    have kf5 := (cell_of_block HS2.out 0).2
    have kf6 := (cell_of_block HS2.out 1).2
    refine bodyPost_ret (v := .tuple #[.agg #[.int .i64 0, .slice none 0 0], .int .i64 0]) (by simp [results, Tryd.results30, go_sem, k5, k6, kf5, kf6]) rfl ?_
    rw [show out = (⟨0, []⟩, 0) from by rw [HOUT.out]; unfold bitsCmp1R; rw [hg, HGX.out]; rfl]
    exact ⟨none, 0, rfl, Nat.zero_le _, .nil _ _ _ _, below_set (below_set HW.out (by show w.heap.size ≤ w.heap.size + 1; omega) _) (by show w.heap.size ≤ w.heap.size + 1; omega) _⟩
  have HGY := Lib.hid hg
  clear hg
  by_cases hle : xs.length = ys.length
  rotate_left
  · have hne : ((xs.length : Int) != (ys.length : Int)) = true := by simpa using (by omega : ¬ (xs.length : Int) = ys.length)
    have r0 := (cell_of_block HR.out 0).1
    have r1 := (cell_of_block HR.out 1).1
    have rf0 := (cell_of_block HR.out 0).2
    have rf1 := (cell_of_block HR.out 1).2
    have hs1 := heap_set_same _ (w.heap.size + 1) 0 (.int .i64 0) _ _ HR.out
    have hs2 := heap_set_same _ (w.heap.size + 1) 1 (.slice none 0 0) _ _ hs1
    have HS2 := Lib.hid hs2
    clear hs1 hs2
    go_wp2
    have k5 := (cell_of_block HS2.out 0).1
    have k6 := (cell_of_block HS2.out 1).1
    have kf5 := (cell_of_block HS2.out 0).2
    have kf6 := (cell_of_block HS2.out 1).2
    refine bodyPost_ret (v := .tuple #[.agg #[.int .i64 0, .slice none 0 0], .int .i64 0]) (by simp [results, Tryd.results30, go_sem, k5, k6, kf5, kf6]) rfl ?_
    rw [show out = (⟨0, []⟩, 0) from by rw [HOUT.out]; unfold bitsCmp1R bitsOk; rw [HGX.out, HGY.out, decide_eq_false hle]; rfl]
    exact ⟨none, 0, rfl, Nat.zero_le _, .nil _ _ _ _, below_set (below_set HW.out (by show w.heap.size ≤ w.heap.size + 1; omega) _) (by show w.heap.size ≤ w.heap.size + 1; omega) _⟩
  have hne : ((xs.length : Int) != (ys.length : Int)) = false := by rw [hle]; simp
  have HLE := Lib.hid hle
  clear hle
  by_cases hlo9 : op < 15
  · have r0 := (cell_of_block HR.out 0).1
    have r1 := (cell_of_block HR.out 1).1
    have rf0 := (cell_of_block HR.out 0).2
    have rf1 := (cell_of_block HR.out 1).2
    have hs1 := heap_set_same _ (w.heap.size + 1) 0 (.int .i64 0) _ _ HR.out
    have hs2 := heap_set_same _ (w.heap.size + 1) 1 (.slice none 0 0) _ _ hs1
    have HS2 := Lib.hid hs2
    clear hs1 hs2
    go_wp2
    have k5 := (cell_of_block HS2.out 0).1
    have k6 := (cell_of_block HS2.out 1).1
    have kf5 := (cell_of_block HS2.out 0).2
    have kf6 := (cell_of_block HS2.out 1).2
    refine bodyPost_ret (v := .tuple #[.agg #[.int .i64 0, .slice none 0 0], .int .i64 0]) (by simp [results, Tryd.results30, go_sem, k5, k6, kf5, kf6]) rfl ?_
    rw [show out = (⟨0, []⟩, 0) from by rw [HOUT.out]; unfold bitsCmp1R bitsOk opCmp; rw [HGX.out, HGY.out, decide_eq_true HLE.out, decide_eq_false (by omega : ¬ 15 ≤ op)]; rfl]
    exact ⟨none, 0, rfl, Nat.zero_le _, .nil _ _ _ _, below_set (below_set HW.out (by show w.heap.size ≤ w.heap.size + 1; omega) _) (by show w.heap.size ≤ w.heap.size + 1; omega) _⟩
  by_cases hhi9 : 17 < op
  · have r0 := (cell_of_block HR.out 0).1
    have r1 := (cell_of_block HR.out 1).1
    have rf0 := (cell_of_block HR.out 0).2
    have rf1 := (cell_of_block HR.out 1).2
    have hs1 := heap_set_same _ (w.heap.size + 1) 0 (.int .i64 0) _ _ HR.out
    have hs2 := heap_set_same _ (w.heap.size + 1) 1 (.slice none 0 0) _ _ hs1
    have HS2 := Lib.hid hs2
    clear hs1 hs2
    go_wp2
    have k5 := (cell_of_block HS2.out 0).1
    have k6 := (cell_of_block HS2.out 1).1
    have kf5 := (cell_of_block HS2.out 0).2
    have kf6 := (cell_of_block HS2.out 1).2
    refine bodyPost_ret (v := .tuple #[.agg #[.int .i64 0, .slice none 0 0], .int .i64 0]) (by simp [results, Tryd.results30, go_sem, k5, k6, kf5, kf6]) rfl ?_
    rw [show out = (⟨0, []⟩, 0) from by rw [HOUT.out]; unfold bitsCmp1R bitsOk opCmp; rw [HGX.out, HGY.out, decide_eq_true HLE.out, decide_eq_false (by omega : ¬ op ≤ 17)]; simp [cmpOut]]
    exact ⟨none, 0, rfl, Nat.zero_le _, .nil _ _ _ _, below_set (below_set HW.out (by show w.heap.size ≤ w.heap.size + 1; omega) _) (by show w.heap.size ≤ w.heap.size + 1; omega) _⟩
  obtain ⟨l1, l2, m1⟩ := goodL_iff.1 HGX.out
  obtain ⟨l3, l4, m2⟩ := goodL_iff.1 HGY.out
  have hxr : ∀ x ∈ xs, RB x := fun x hx => (mark_mb ⟨n0, n1, n2⟩ (m1 x hx)).rb
  have hyr : ∀ y ∈ ys, RB y := fun y hy => (mark_mb ⟨n0, n1, n2⟩ (m2 y hy)).rb
  have hc9 := l7Cmp_any (fun b => b < u3.heap.size) A c (n, true) op X Y cx cy xs ys u3 HG.out (fun _ h => h) hA ⟨n0, n1, n2⟩ HOP.out HX.out HY.out hxr hyr HLE.out (by omega) (by omega) hcx hcy
  dsimp only at hc9
  have HC := Lib.hid hc9
  have HNN : Hid (NB (run opsR (cmpP op xs ys) (n, true)).1.1) := Lib.hid (cmp_rb ⟨n0, n1, n2⟩ hxr hyr).1
  have HOUT : Hid (out = cmpOut (toldR ((run opsR (cmpP op xs ys) (n, true)).1, [(run opsR (cmpP op xs ys) (n, true)).2]))) := Lib.hid (by rw [HOUT.out]; unfold bitsCmp1R bitsOk opCmp; rw [HGX.out, HGY.out, decide_eq_true HLE.out, decide_eq_true (by omega : 15 ≤ op), decide_eq_true (by omega : op ≤ 17), ← cmp_told]; rfl)
  clear hc9 m1 m2 hxr hyr
  generalize run opsR (cmpP op xs ys) (n, true) = T at *
  go_wp2_with fail
  refine HC.out.mono ?_
  rintro e u4 ⟨A5, c5, rfl, h1, h2, hb9⟩
  have H2 := Lib.hid (h2.mono fun b hb => hb.elim (fun h9 => Nat.lt_of_lt_of_le h9 hb9.size) (fun h9 => h9.2) : Lay.gate.Rd u4 A5 T.1.1.gs)
  clear h2 HC z0 z1
  have HR := Lib.hid ((hb9.block _ (lt_of_block HR.out)).trans HR.out)
  have HW := Lib.hid (bthen HW.out hb9)
  clear hb9
  have hal : Below u4.heap.size u4 (u4.alloc (.cells #[.int .i64 T.1.1.ins, .slice A5 T.1.1.gs.length c5, .bool T.1.2] 68)) := (Below.refl _ _).alloc (Nat.le_refl _) _
  have hbk := heap_alloc_new u4 (.cells #[.int .i64 T.1.1.ins, .slice A5 T.1.1.gs.length c5, .bool T.1.2] 68)
  have HR := Lib.hid ((hal.block _ (lt_of_block HR.out)).trans HR.out)
  have HW := Lib.hid (bthen HW.out hal)
  have H2 := Lib.hid (H2.out.up hal)
  have HSZ := Lib.hid (show w.heap.size + 1 < u4.heap.size + 1 by have := lt_of_block HR.out; simpa using this)
  obtain ⟨⟨nn, ok⟩, mm⟩ := T
  dsimp only at h1 hbk
  dsimp only at H2 HOUT HNN HR HW hal ⊢
  cases ok
  · have r0 := (cell_of_block HR.out 0).1
    have r1 := (cell_of_block HR.out 1).1
    have rf0 := (cell_of_block HR.out 0).2
    have rf1 := (cell_of_block HR.out 1).2
    have hs1 := heap_set_same _ (w.heap.size + 1) 0 (.int .i64 0) _ _ HR.out
    have hs2 := heap_set_same _ (w.heap.size + 1) 1 (.slice none 0 0) _ _ hs1
    have HS2 := Lib.hid hs2
    clear hs1 hs2 hal hbk
    go_wp2
    have k5 := (cell_of_block HS2.out 0).1
    have k6 := (cell_of_block HS2.out 1).1
    have kf5 := (cell_of_block HS2.out 0).2
    have kf6 := (cell_of_block HS2.out 1).2
    refine bodyPost_ret (v := .tuple #[.agg #[.int .i64 0, .slice none 0 0], .int .i64 0]) (by simp [results, Tryd.results30, go_sem, k5, k6, kf5, kf6]) rfl ?_
    rw [show out = (⟨0, []⟩, 0) from by rw [HOUT.out]; unfold toldR; rw [if_neg (by simp)]; rfl]
    exact ⟨none, 0, rfl, Nat.zero_le _, .nil _ _ _ _, below_set (below_set HW.out (by show w.heap.size ≤ w.heap.size + 1; omega) _) (by show w.heap.size ≤ w.heap.size + 1; omega) _⟩
  · have HRB := Lib.hid (lt_of_block HR.out)
    have hnn := HNN.out.2.2
    have HC := Lib.hid (l6Fresh_any A5 c5 nn _ H2.out (by omega) h1)
    clear hnn hal hbk
    go_wp2_with fail
    refine HC.out.mono ?_
    generalize hX5 : u4.alloc (.cells #[.int .i64 nn.ins, .slice A5 nn.gs.length c5, .bool true] 68) = X5 at *
    clear hX5
    rintro e u6 ⟨A6, c6, rfl, ho6, hb9⟩
    have HO6 := Lib.hid ho6
    have HR := Lib.hid ((hb9.block _ (lt_of_block HR.out)).trans HR.out)
    have HS5 := Lib.hid hb9.size
    have HW5 := Lib.hid HW.out.size
    have HLT5 := Lib.hid (show w.heap.size + 1 < X5.heap.size from HRB.out)
    have HW := Lib.hid (bthen HW.out hb9)
    clear ho6 hb9 HC
    have r0 := (cell_of_block HR.out 0).1
    have r1 := (cell_of_block HR.out 1).1
    have rf0 := (cell_of_block HR.out 0).2
    have rf1 := (cell_of_block HR.out 1).2
    go_wp2
    have hs1 := heap_set_same u6 (w.heap.size + 1) 0 (.int .i64 nn.ins) _ _ HR.out
    have hs2 := heap_set_same _ (w.heap.size + 1) 1 (.slice A6 nn.gs.length c6) _ _ hs1
    have hgr : u6.grownBy ((u6.setCell ⟨w.heap.size + 1, 0, none⟩ (.int .i64 nn.ins)).setCell ⟨w.heap.size + 1, 1, none⟩ (.slice A6 nn.gs.length c6)) (some (w.heap.size + 1)) := only_setCell (only_setCell (World.grownBy.refl _ _) _ _) _ _
    have k5 := (cell_of_block hs2 0).1
    have k6 := (cell_of_block hs2 1).1
    have kf5 := (cell_of_block hs2 0).2
    have kf6 := (cell_of_block hs2 1).2
    refine bodyPost_ret (v := .tuple #[.agg #[.int .i64 nn.ins, .slice A6 nn.gs.length c6], .int .i64 mm]) (by simp [results, Tryd.results30, go_sem, k5, k6, kf5, kf6]) rfl ?_
    rw [show out = (nn, mm) from by rw [HOUT.out]; unfold toldR; rw [if_pos rfl]; rfl]
    exact ⟨A6, c6, rfl, HO6.out.sl.1, own_mono9 (own_grown9 HO6.out.own hgr HLT5.out) HW5.out, HW.out.grown hgr HW.out.size (fun k hk => by injection hk with hk; omega)⟩
end Go.Proofs.YtjghcaghigebjaaDoor

/-! BitsCmp in the laws' one form. -/
namespace Go.Proofs.YtjghcaghigebjaaDoor
open Go Go.RowKit Go.ChangeShapes Go.WideShapes Go.ChangeAt Go.Deep

theorem cmpOut_len {o : N × List Int} (h : o.1.gs.length ≤ 1048576) : (cmpOut o).1.gs.length ≤ 1048576 := by
  unfold cmpOut
  split
  · exact Nat.zero_le _
  · exact h
theorem bitsCmp_len {n : N} {op : Int} {xs ys : List Int} : (cmpOut (pickN (netOk n) (bitsCmp1R n op xs ys))).1.gs.length ≤ 1048576 := cmpOut_len (pickN_len fun hok => by
  unfold bitsCmp1R bitsOk
  split
  · rename_i hc
    simp only [Bool.and_eq_true, decide_eq_true_eq] at hc
    obtain ⟨⟨⟨gx, gy⟩, hl⟩, _⟩ := hc
    have hn := (netOk_iff n).1 hok
    have hnb : NB n := ⟨hn.1, hn.2.1, hn.2.2.1⟩
    obtain ⟨l1, l2, m1⟩ := goodL_iff.1 gx
    obtain ⟨l3, l4, m2⟩ := goodL_iff.1 gy
    rw [cmp_told]
    unfold toldR
    split
    · dsimp only
      have := (cmp_rb (op := op) (k := (n, true)) hnb (fun x hx => (mark_mb hnb (m1 x hx)).rb) (fun y hy => (mark_mb hnb (m2 y hy)).rb)).1.2.2
      exact ⟨by omega, by simp⟩
    · exact ⟨Nat.zero_le _, Nat.zero_le _⟩
  · exact ⟨Nat.zero_le _, Nat.zero_le _⟩).1
end Go.Proofs.YtjghcaghigebjaaDoor

/-! Draws of nets: l6Lit, l6Net. -/
namespace Go.Proofs.YtjghcaghigebjaaDoor
open Go Go.RowKit

/-- A small net. -/
def smallN (m : Nat) (n : N) : Prop := 0 ≤ n.ins ∧ n.ins ≤ 8 ∧ n.gs.length ≤ m ∧ okInts n
theorem smallN.mono {m k : Nat} {n : N} (h : smallN m n) (hk : m ≤ k) : smallN k n := ⟨h.1, h.2.1, Nat.le_trans h.2.2.1 hk, h.2.2.2⟩
theorem put_small {m : Nat} {n : N} {g : G} (h : smallN m n) (hg : okGi g) : smallN (m + 1) (put n g).1 := by
  obtain ⟨h0, h1, h2, h3⟩ := h
  unfold put
  split
  · exact ⟨h0, h1, by show n.gs.length ≤ _; omega, h3⟩
  · split
    · exact ⟨by decide, by decide, Nat.zero_le _, fun g hg => by cases hg⟩
    · refine ⟨h0, h1, by show (n.gs ++ [g]).length ≤ _; simp; omega, fun g' hg' => ?_⟩
      rcases List.mem_append.1 hg' with hg' | hg'
      · exact h3 g' hg'
      · rw [List.mem_singleton.1 hg']; exact hg
theorem and1_small {m : Nat} {n : N} {a b : Int} (h : smallN m n) (ha : okInt a) (hb : okInt b) : smallN (m + 1) (and1 n a b).1 := by
  unfold okInt at ha hb
  unfold and1
  repeat' split
  all_goals first | exact h.mono (by omega) | exact put_small h ⟨ha, hb⟩ | exact put_small h ⟨hb, ha⟩
set_option maxHeartbeats 1000000 in
theorem l6Lit_any (r : Nat) (p : Int) (n : N) (A : Option Addr) (c : Nat) (w : World) (h : Rdr w r p) (hn : n.gs.length ≤ 1048576) (h0 : -1000000 ≤ n.ins) (h1 : n.ins ≤ 1000000) (p0 : 0 ≤ p) (p1 : p ≤ 900000000) :
    Calls Tryd.prog 57 #[.pointer (some ⟨r, 0, none⟩), .agg #[.int .i64 n.ins, .slice A n.gs.length c]] w
      fun e w' => ∃ m, e = .returned (.int .i64 m) ∧ (m ≠ 0 ∧ -3000000 ≤ m ∧ m ≤ 3000000 ∧ (0 ≤ n.ins → netMark n m = true)) ∧ Drawn r p 2 w w' := by
  have hal : Below w.heap.size w (w.alloc (.cells #[.int .i64 n.ins, .slice A n.gs.length c] 29)) := (Below.refl _ _).alloc (Nat.le_refl _) _
  have hR := h.up hal
  have HAL := Lib.hid hal
  clear h hal
  go_enter Tryd.func57, Tryd.ntmps57
  go_wp2_with fail
  generalize w.alloc (.cells #[.int .i64 n.ins, .slice A n.gs.length c] 29) = w0 at *
  refine (l6Many_any A c n.gs.length n.ins w0 hn h0 h1).mono ?_
  rintro e w1 ⟨rfl, hb1⟩
  have hR1 := hR.up hb1
  have hbw := bthen HAL.out hb1
  clear hR hb1 HAL
  go_wp2_with fail
  refine (pick_any r p (1 + n.ins + n.gs.length) w1 hR1 p0 (by omega) (by omega) (by omega)).mono ?_
  rintro e w2 ⟨k, rfl, k0, k1, k2, hR2, hg2⟩
  have hg2 := (Gr.below (S := fun b => b = r) hbw).trans (Gr.one hg2 rfl)
  have hk : 1 + k ≤ 2100000 ∧ (0 ≤ n.ins → 1 + k ≤ 1 + n.ins + n.gs.length) := by
    by_cases h9 : 1 ≤ 1 + n.ins + (n.gs.length : Int)
    · have := k1 h9; omega
    · have := k2 (by omega); omega
  obtain ⟨hk1, hk2⟩ := hk
  clear k1 k2 hR1 hbw
  go_wp2_with fail
  refine (pick_any r (p + 1) 2 w2 hR2 (by omega) (by omega) (by omega) (by omega)).mono ?_
  rintro e w3 ⟨j, rfl, j0, j1, _, hR3, hg3⟩
  have hg3 := hg2.trans (Gr.one hg3 rfl)
  have HD : Hid (Drawn r p 2 w w3) := Lib.hid ⟨p + 1 + 1, by omega, by omega, hR3, hg3⟩
  have HK := Lib.hid hk2
  clear hg2 hg3 hR2 hR3 j1 hk2
  by_cases hz : j = 0
  · subst hz
    have e1 : IntKind.i64.wrap (-(1 + k)) = -(1 + k) := IntWalk.i64_in _ (by omega)
    go_wp2
    go_ret
    exact ⟨-(1 + k), rfl, ⟨by omega, by omega, by omega, fun h9 => netMark_iff.2 (by have := HK.out h9; omega)⟩, HD.out⟩
  · have hzb : (j == 0) = false := by simpa using hz
    clear hz
    go_wp2
    go_ret
    exact ⟨1 + k, rfl, ⟨by omega, by omega, by omega, fun h9 => netMark_iff.2 (by have := HK.out h9; omega)⟩, HD.out⟩

/-- A drawn net. -/
def RetDN (S0 : Nat → Prop) (r : Nat) (p M : Int) (ok : N → Prop) (w : World) (e : Ending) (w' : World) : Prop :=
  ∃ n A c, e = .returned (.agg #[.int .i64 (N.ins n), .slice A (N.gs n).length c]) ∧ Lay.gate.Sl w' (Ab S0 w') A n.gs ∧ ok n ∧ Drawn r p M w w'
/-- What a call that makes a net leaves: its row lies apart from the blocks S. -/
theorem sl_made {S : Nat → Prop} {w w' : World} {A : Option Addr} {gs : List G} (h : Lay.gate.Sl w' (fun b => Ab S w b ∨ (w.heap.size ≤ b ∧ b < w'.heap.size)) A gs) (hS : ∀ b, S b → b < w.heap.size) (hb : Below w.heap.size w w') : Lay.gate.Sl w' (Ab S w') A gs :=
  h.mono fun b hb' => by
    rcases hb' with h1 | h1
    · exact ⟨Nat.lt_of_lt_of_le h1.1 hb.size, h1.2⟩
    · exact ⟨h1.2, fun e => by have := hS b e; omega⟩

/-- A box that holds a net. -/
def NetIn (P : N → Prop) (S : Nat → Prop) (b : Nat) (x : World) : Prop := ∃ n A c, x.heap[b]? = some (.cells #[.int .i64 (N.ins n), .slice A (N.gs n).length c] 29 (0, 0)) ∧ P n ∧ Lay.gate.Sl x (Ab S x) A n.gs
theorem NetIn.gr {P : N → Prop} {S T : Nat → Prop} {b : Nat} {x x' : World} (h : NetIn P S b x) (hg : Gr T x x') (hb : ¬ T b) (hT : ∀ b, T b → S b) : NetIn P S b x' := by
  obtain ⟨n, A, c, h1, h2, h3⟩ := h
  exact ⟨n, A, c, hg.heap hb h1, h2, h3.gr (hg.mono hT)⟩
variable {P : N → Prop} {S T : Nat → Prop} {r b3 N9 n : Nat} {q M : Int} {w x x' : World} {o : Obj}
end Go.Proofs.YtjghcaghigebjaaDoor
