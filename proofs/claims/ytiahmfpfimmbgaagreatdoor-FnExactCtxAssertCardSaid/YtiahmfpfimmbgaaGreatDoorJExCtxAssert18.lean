/- FnExactCtxAssert: the program's CtxAssert answers, for any context and any term, what the reference's answers, in memory of its own. -/
import Derived.Test.YtiahmfpfimmbgaaGreatDoorRows
import Derived.Test.YtiahmfpfimmbgaaGreatDoorJExCtxAssert17
/-! FnExactCtxAssert: the program's CtxAssert answers, for any context and any term, what the reference's answers, in memory of its own. -/
namespace Go.Proofs.YtiahmfpfimmbgaaGreatDoor
open Go Go.RowKit Go.ChangeShapes Go.WideShapes Go.ChangeAt Go.Deep

set_option maxRecDepth 100000 in
set_option maxHeartbeats 8000000 in
theorem fnExactCtxAssert_walk (W : World) {Ap0a : Option Addr} {cp0a : Nat} {x0 : List Ly} {Ap1a : Option Addr} {cp1a : Nat} {x1 : T} (_ : x0.length ≤ cp0a) (ok0 : okLs x0) (hp0a : Lay.layer.Rd W Ap0a x0) (_ : x1.kids.length ≤ cp1a) (ok1 : okTerm x1) (hp1a : Lay.term.Rd W Ap1a x1.kids) :
    Calls Tryz.prog 7 #[.slice Ap0a x0.length cp0a, .agg #[.int .i64 x1.op, .int .i64 x1.a, .int .i64 x1.b, .string x1.name, .slice Ap1a x1.kids.length cp1a]] W (LawC W) := by
  have hW0 : Below W.heap.size W (W.alloc (.cells #[.int .i64 x1.op, .int .i64 x1.a, .int .i64 x1.b, .string x1.name, .slice Ap1a x1.kids.length cp1a] 44)) := (Below.refl _ _).alloc (Nat.le_refl _) _
  have hS1 := heap_alloc_new W (.cells #[.int .i64 x1.op, .int .i64 x1.a, .int .i64 x1.b, .string x1.name, .slice Ap1a x1.kids.length cp1a] 44)
  have Hp0a := hp0a.up hW0
  have Hp1a := hp1a.up hW0
  have HS1 := Lib.hid hS1
  have hSlt1 := lt_of_block hS1
  have HW0 := Lib.hid hW0
  have OK0 := Lib.hid ok0
  have OK1 := Lib.hid ok1
  clear hS1 hW0 hp0a hp1a ok0 ok1
  go_enter Tryz.func7, Tryz.ntmps7
  go_wp2_with fail
  generalize W.alloc (.cells #[.int .i64 x1.op, .int .i64 x1.a, .int .i64 x1.b, .string x1.name, .slice Ap1a x1.kids.length cp1a] 44) = W0 at *
  have hb : Below W0.heap.size W0 W0 := Below.refl _ _
  refine (szLayers_u x0 Ap0a cp0a 1048576 _ (Hp0a.up hb) OK0.out (by omega) (by omega)).mono ?_
  rintro e u1 ⟨rfl, hbu1⟩
  have hb := bthen hb hbu1
  clear hbu1
  by_cases hbig0 : (1048576 : Int) < (wtL x0 : Nat)
  · have HSZ := Lib.hid (szRes_lt hbig0)
    clear hbig0
    rw [HSZ.out]
    go_wp2
    go_ret
    exact ⟨rfl, bthen HW0.out hb⟩
  have SM0 : Hid (smLayers x0) := Lib.hid (smLayers_of OK0.out (by omega))
  have HSZ0 := Lib.hid (szRes_ge hbig0)
  rw [HSZ0.out]
  obtain ⟨left0, hl0⟩ : ∃ l : Int, l = (1048576 - (wtL x0 : Nat)) := ⟨_, rfl⟩
  rw [← hl0]
  have hln0 : 0 ≤ left0 := by omega
  have hlm0 : left0 ≤ 1048576 := by omega
  clear hbig0 hl0
  have s1_0 : u1.cell? ⟨W.heap.size, 0, none⟩ = some (.int .i64 x1.op) := (hb.cell (p := ⟨W.heap.size, 0, none⟩) hSlt1).trans (cell_of_block HS1.out 0).1
  have s1_1 : u1.cell? ⟨W.heap.size, 1, none⟩ = some (.int .i64 x1.a) := (hb.cell (p := ⟨W.heap.size, 1, none⟩) hSlt1).trans (cell_of_block HS1.out 1).1
  have s1_2 : u1.cell? ⟨W.heap.size, 2, none⟩ = some (.int .i64 x1.b) := (hb.cell (p := ⟨W.heap.size, 2, none⟩) hSlt1).trans (cell_of_block HS1.out 2).1
  have s1_3 : u1.cell? ⟨W.heap.size, 3, none⟩ = some (.string x1.name) := (hb.cell (p := ⟨W.heap.size, 3, none⟩) hSlt1).trans (cell_of_block HS1.out 3).1
  have s1_4 : u1.cell? ⟨W.heap.size, 4, none⟩ = some (.slice Ap1a x1.kids.length cp1a) := (hb.cell (p := ⟨W.heap.size, 4, none⟩) hSlt1).trans (cell_of_block HS1.out 4).1
  go_wp2_with fail
  clear s1_0 s1_1 s1_2 s1_3 s1_4
  refine (szTerm_any x1 OK1.out Ap1a cp1a left0 _ _ (Hp1a.up hb) (fun _ h => h) hln0 hlm0).mono ?_
  rintro e u2 ⟨rfl, hbu2⟩
  have hb := bthen hb hbu2
  clear hbu2
  by_cases hbig1 : (left0 : Int) < (x1.w : Nat)
  · have HSZ := Lib.hid (szRes_lt hbig1)
    clear hbig1
    rw [HSZ.out]
    go_wp2
    go_ret
    exact ⟨rfl, bthen HW0.out hb⟩
  have SM1 : Hid (smT x1) := Lib.hid (smT_of OK1.out (by omega))
  have HSZ1 := Lib.hid (szRes_ge hbig1)
  rw [HSZ1.out]
  have hln9 : (0 : Int) ≤ (left0 - (x1.w : Nat)) := by omega
  clear hbig1
  generalize hr9 : ctxAssert x0 x1 = r9 at *
  have HR9 := Lib.hid hr9
  clear hr9
  have HRS0 := Lib.hid (show smR r9.1 by rw [← HR9.out]; exact ctxAssert_sm SM0.out SM1.out)
  have hne1 : (r9.2 != r9.2) = false := by simp
  have s1_0 : u2.cell? ⟨W.heap.size, 0, none⟩ = some (.int .i64 x1.op) := (hb.cell (p := ⟨W.heap.size, 0, none⟩) hSlt1).trans (cell_of_block HS1.out 0).1
  have s1_1 : u2.cell? ⟨W.heap.size, 1, none⟩ = some (.int .i64 x1.a) := (hb.cell (p := ⟨W.heap.size, 1, none⟩) hSlt1).trans (cell_of_block HS1.out 1).1
  have s1_2 : u2.cell? ⟨W.heap.size, 2, none⟩ = some (.int .i64 x1.b) := (hb.cell (p := ⟨W.heap.size, 2, none⟩) hSlt1).trans (cell_of_block HS1.out 2).1
  have s1_3 : u2.cell? ⟨W.heap.size, 3, none⟩ = some (.string x1.name) := (hb.cell (p := ⟨W.heap.size, 3, none⟩) hSlt1).trans (cell_of_block HS1.out 3).1
  have s1_4 : u2.cell? ⟨W.heap.size, 4, none⟩ = some (.slice Ap1a x1.kids.length cp1a) := (hb.cell (p := ⟨W.heap.size, 4, none⟩) hSlt1).trans (cell_of_block HS1.out 4).1
  have dd0 := Later.cell s1_0
  have dd1 := Later.cell s1_1
  have dd2 := Later.cell s1_2
  have dd3 := Later.cell s1_3
  have dd4 := Later.cell s1_4
  go_wp2
  clear s1_0 s1_1 s1_2 s1_3 s1_4
  refine wp_region_shares [[], [(0, 28)], [], [(2, 30)], [(1, 29), (3, 31)], [(4, 32)], [(5, 27)], [(5, 27)], [(6, 33)], [(7, 34)]]
    [.eq (.slice Ap0a x0.length cp0a), Fact.copyLy x0, .eq (.agg #[.int .i64 x1.op, .int .i64 x1.a, .int .i64 x1.b, .string x1.name, .slice Ap1a x1.kids.length cp1a]), Fact.copyTv x1, Fact.pairR u2 r9, Fact.pairR u2 r9, Fact.oneR u2 r9, .eq (.bool r9.2), Fact.oneR u2 r9, .eq (.bool r9.2)]
    [] [] [] [8, 9] [(0, 28), (1, 29), (2, 30), (3, 31), (4, 32), (5, 27), (6, 33), (7, 34), (8, 6), (9, 7)] (by kernel_rfl) (by kernel_rfl) (by kernel_rfl) (by kernel_rfl)
    ⟨?_, ?_, ?_, ?_, ?_, ?_, ?_, ?_, ?_, ?_, trivial⟩ ?_
  · intro vals u3 hC hF
    simp only [putsD, Act.put, List.setIfInBounds_toArray, List.set_cons_zero, List.set_cons_succ]
    go_wp2
    exact ⟨rfl, rfl, .inr (Below.refl _ _), .inr (.inl (by simp))⟩
  · intro vals u3 hC hF
    have hC := hC.resolve_left (by simp)
    have hsz := hC.size
    simp only [factsD, List.getD_cons_zero, List.getD_cons_succ, Fact.eq, Fact.row, Fact.lit, Fact.lit0, Fact.of, and_true, Fact.copyLy, Fact.copyTv, Fact.pairR, Fact.oneR] at hF
    have e1 := hF
    simp only [putsD, Act.put, List.setIfInBounds_toArray, List.set_cons_zero, List.set_cons_succ]
    simp only [e1]
    go_wp2_with fail
    refine (toLayers_u x0 Ap0a cp0a _ (Hp0a.up (bthen hb hC)) SM0.out).mono ?_
    rintro e wx ⟨A8, c8, rfl, hc8, s8, hb8⟩
    have R8 := Lib.hid s8.own_rd
    clear s8
    go_wp2
    exact ⟨rfl, ⟨A8, c8, rfl, hc8, R8.out⟩, .inr hb8, .inr (.inl (by simp))⟩
  · intro vals u3 hC hF
    have hC := hC.resolve_left (by simp)
    have hsz := hC.size
    have e1 : u3.cell? _ = _ := dd0 ⟨u3, hC⟩
    have e2 : u3.cell? _ = _ := dd1 ⟨u3, hC⟩
    have e3 : u3.cell? _ = _ := dd2 ⟨u3, hC⟩
    have e4 : u3.cell? _ = _ := dd3 ⟨u3, hC⟩
    have e5 : u3.cell? _ = _ := dd4 ⟨u3, hC⟩
    simp only [putsD, Act.put, List.setIfInBounds_toArray, List.set_cons_zero, List.set_cons_succ]
    go_wp2
    exact ⟨rfl, rfl, .inr (Below.refl _ _), .inr (.inl (by simp))⟩
  · intro vals u3 hC hF
    have hC := hC.resolve_left (by simp)
    have hsz := hC.size
    simp only [factsD, List.getD_cons_zero, List.getD_cons_succ, Fact.eq, Fact.row, Fact.lit, Fact.lit0, Fact.of, and_true, Fact.copyLy, Fact.copyTv, Fact.pairR, Fact.oneR] at hF
    have e1 := hF
    simp only [putsD, Act.put, List.setIfInBounds_toArray, List.set_cons_zero, List.set_cons_succ]
    simp only [e1]
    go_wp2_with fail
    refine (toTermv_u x1 Ap1a cp1a _ (Hp1a.up (bthen hb hC)) SM1.out).mono ?_
    rintro e wx ⟨A8, c8, rfl, hc8, s8, hb8⟩
    have R8 := Lib.hid s8.own_rd
    clear s8
    go_wp2
    exact ⟨rfl, ⟨A8, c8, rfl, hc8, R8.out⟩, .inr hb8, .inr (.inl (by simp))⟩
  · intro vals u3 hC hF
    have hC := hC.resolve_left (by simp)
    have hsz := hC.size
    simp only [factsD, List.getD_cons_zero, List.getD_cons_succ, Fact.eq, Fact.row, Fact.lit, Fact.lit0, Fact.of, and_true, Fact.copyLy, Fact.copyTv, Fact.pairR, Fact.oneR] at hF
    obtain ⟨⟨A8, c8, e1, hc8, R8⟩, ⟨A7, c7, e2, hc7, R7⟩⟩ := hF
    simp only [putsD, Act.put, List.setIfInBounds_toArray, List.set_cons_zero, List.set_cons_succ]
    simp only [e1, e2]
    have R8 := Lib.hid R8
    have R7 := Lib.hid R7
    go_wp2_with fail
    refine (specCtxAssert_u x0 x1 A8 c8 A7 c7 _ R8.out hc8 SM0.out R7.out hc7 SM1.out).mono ?_
    rw [HR9.out]
    rintro e wx ⟨A9, c9, rfl, hc9, h9, hb9⟩
    have HH := Lib.hid (And.intro hc9 (And.intro (h9) (bthen hC hb9)))
    have HB9 := Lib.hid hb9
    clear hc9 h9 hb9
    go_wp2
    exact ⟨rfl, ⟨A9, c9, rfl, HH.out.1, HH.out.2.1, HH.out.2.2⟩, .inr HB9.out, .inr (.inl (by simp))⟩
  · intro vals u3 hC hF
    have hC := hC.resolve_left (by simp)
    have hsz := hC.size
    simp only [factsD, List.getD_cons_zero, List.getD_cons_succ, Fact.eq, Fact.row, Fact.lit, Fact.lit0, Fact.of, and_true, Fact.copyLy, Fact.copyTv, Fact.pairR, Fact.oneR] at hF
    obtain ⟨A9, c9, e1, hh⟩ := hF
    simp only [putsD, Act.put, List.setIfInBounds_toArray, List.set_cons_zero, List.set_cons_succ]
    simp only [e1]
    go_wp2
    exact ⟨rfl, ⟨A9, c9, rfl, hh⟩, .inr (Below.refl _ _), .inr (.inl (by simp))⟩
  · intro vals u3 hC hF
    have hC := hC.resolve_left (by simp)
    have hsz := hC.size
    simp only [factsD, List.getD_cons_zero, List.getD_cons_succ, Fact.eq, Fact.row, Fact.lit, Fact.lit0, Fact.of, and_true, Fact.copyLy, Fact.copyTv, Fact.pairR, Fact.oneR] at hF
    obtain ⟨A9, c9, e1, hh⟩ := hF
    simp only [putsD, Act.put, List.setIfInBounds_toArray, List.set_cons_zero, List.set_cons_succ]
    simp only [e1]
    go_wp2
    exact ⟨rfl, ⟨A9, c9, rfl, hh⟩, .inr (Below.refl _ _), .inr (.inl (by simp))⟩
  · intro vals u3 hC hF
    simp only [factsD, List.getD_cons_zero, List.getD_cons_succ, Fact.eq, Fact.row, Fact.lit, Fact.lit0, Fact.of, and_true, Fact.copyLy, Fact.copyTv, Fact.pairR, Fact.oneR] at hF
    obtain ⟨A9, c9, e1, hh⟩ := hF
    simp only [putsD, Act.put, List.setIfInBounds_toArray, List.set_cons_zero, List.set_cons_succ]
    simp only [e1]
    go_wp2
    exact ⟨rfl, rfl, .inr (Below.refl _ _), .inr (.inl (by simp))⟩
  · intro vals u3 hC hF
    have hC := hC.resolve_left (by simp)
    have hsz := hC.size
    simp only [factsD, List.getD_cons_zero, List.getD_cons_succ, Fact.eq, Fact.row, Fact.lit, Fact.lit0, Fact.of, and_true, Fact.copyLy, Fact.copyTv, Fact.pairR, Fact.oneR] at hF
    obtain ⟨A9, c9, e1, hh⟩ := hF
    simp only [putsD, Act.put, List.setIfInBounds_toArray, List.set_cons_zero, List.set_cons_succ]
    simp only [e1]
    go_wp2
    exact ⟨rfl, ⟨A9, c9, rfl, hh⟩, .inr (Below.refl _ _), .inr (.inl (by simp))⟩
  · intro vals u3 hC hF
    simp only [factsD, List.getD_cons_zero, List.getD_cons_succ, Fact.eq, Fact.row, Fact.lit, Fact.lit0, Fact.of, and_true, Fact.copyLy, Fact.copyTv, Fact.pairR, Fact.oneR] at hF
    have e1 := hF
    simp only [putsD, Act.put, List.setIfInBounds_toArray, List.set_cons_zero, List.set_cons_succ]
    simp only [e1]
    go_wp2
    exact ⟨rfl, rfl, .inr (Below.refl _ _), .inr (.inl (by simp))⟩
  · intro vals u3 hF
    simp only [facts, List.getD_cons_zero, List.getD_cons_succ, Fact.eq, Fact.row, Fact.lit, Fact.lit0, Fact.of, and_true, Fact.copyLy, Fact.copyTv, Fact.pairR, Fact.oneR] at hF
    obtain ⟨⟨Aw0a, cw0a, e6, hcw0a, sw0a, hb9⟩, e7⟩ := hF
    simp only [putsD, Act.put, List.setIfInBounds_toArray, List.set_cons_zero, List.set_cons_succ]
    simp only [e6, e7]
    clear e6 e7 dd0 dd1 dd2 dd3 dd4
    have hb := bthen hb hb9
    clear hb9
    have Rw0a := sw0a.cp_of
    clear sw0a
    go_wp2_with fail
    have z0 : W0.heap.size ≤ u3.heap.size := hb.size
    have hs : Below u3.heap.size u3 u3 := Below.refl _ _
    refine (toLayers_u x0 Ap0a cp0a _ (Hp0a.up hb) SM0.out).mono ?_
    rintro e u4 ⟨Ak0a, ck0a, rfl, hck0a, sk0a, hbk0⟩
    have hb := bthen hb hbk0
    have hs := bthen hs hbk0
    have Rw0a := Rw0a.cp_up hbk0
    clear hbk0
    have s1_0 : u4.cell? ⟨W.heap.size, 0, none⟩ = some (.int .i64 x1.op) := (hb.cell (p := ⟨W.heap.size, 0, none⟩) hSlt1).trans (cell_of_block HS1.out 0).1
    have s1_1 : u4.cell? ⟨W.heap.size, 1, none⟩ = some (.int .i64 x1.a) := (hb.cell (p := ⟨W.heap.size, 1, none⟩) hSlt1).trans (cell_of_block HS1.out 1).1
    have s1_2 : u4.cell? ⟨W.heap.size, 2, none⟩ = some (.int .i64 x1.b) := (hb.cell (p := ⟨W.heap.size, 2, none⟩) hSlt1).trans (cell_of_block HS1.out 2).1
    have s1_3 : u4.cell? ⟨W.heap.size, 3, none⟩ = some (.string x1.name) := (hb.cell (p := ⟨W.heap.size, 3, none⟩) hSlt1).trans (cell_of_block HS1.out 3).1
    have s1_4 : u4.cell? ⟨W.heap.size, 4, none⟩ = some (.slice Ap1a x1.kids.length cp1a) := (hb.cell (p := ⟨W.heap.size, 4, none⟩) hSlt1).trans (cell_of_block HS1.out 4).1
    go_wp2_with fail
    clear s1_0 s1_1 s1_2 s1_3 s1_4
    have Rk0a := sk0a.cp_of
    clear sk0a
    have z1 : u3.heap.size ≤ u4.heap.size := hs.size
    clear hs
    have hs : Below u4.heap.size u4 u4 := Below.refl _ _
    refine (toTermv_u x1 Ap1a cp1a _ (Hp1a.up hb) SM1.out).mono ?_
    rintro e u5 ⟨Ak1a, ck1a, rfl, hck1a, sk1a, hbk1⟩
    have hb := bthen hb hbk1
    have hs := bthen hs hbk1
    have Rw0a := Rw0a.cp_up hbk1
    have Rk0a := Rk0a.cp_up hbk1
    clear hbk1
    have ZB1 : u4.heap.size ≤ u5.heap.size := hs.size
    have hal : Below u5.heap.size u5 (u5.alloc (.cells #[.int .i64 x1.op, .int .i64 x1.a, .int .i64 x1.b, .string x1.name, .slice Ak1a x1.kids.length ck1a] 48)) := (Below.refl _ _).alloc (Nat.le_refl _) _
    have B9 : (u5.alloc (.cells #[.int .i64 x1.op, .int .i64 x1.a, .int .i64 x1.b, .string x1.name, .slice Ak1a x1.kids.length ck1a] 48)).heap[u5.heap.size]? = some (.cells #[.int .i64 x1.op, .int .i64 x1.a, .int .i64 x1.b, .string x1.name, .slice Ak1a x1.kids.length ck1a] 48 (0, 0)) := heap_alloc_new _ _
    have hb := bthen hb hal
    have hs := bthen hs hal
    have Rw0a := Rw0a.cp_up hal
    have Rk0a := Rk0a.cp_up hal
    have sk1a := sk1a.own_up hal
    clear hal
    have B1 := Lib.hid B9
    clear B9
    go_wp2_with fail
    generalize u5.alloc (.cells #[.int .i64 x1.op, .int .i64 x1.a, .int .i64 x1.b, .string x1.name, .slice Ak1a x1.kids.length ck1a] 48) = u6 at *
    generalize u5.heap.size = iB1 at *
    have Rk1a := sk1a.cp_of
    clear sk1a
    have z2 : u4.heap.size ≤ u6.heap.size := hs.size
    clear hs
    have hs : Below u6.heap.size u6 u6 := Below.refl _ _
    refine (implCtxAssert_u x0 x1 Ak0a ck0a Ak1a ck1a _ Rk0a.cp_rd hck0a SM0.out Rk1a.cp_rd hck1a SM1.out).mono ?_
    rw [HR9.out]
    rintro e u7 ⟨Ag0a, cg0a, rfl, hcg0a, sg0a, hb9⟩
    have hb := bthen hb hb9
    have hs := bthen hs hb9
    have Rw0a := Rw0a.cp_up hb9
    have Rk0a := Rk0a.cp_up hb9
    have B1 := Lib.hid ((hb9.block _ (lt_of_block B1.out)).trans B1.out)
    have Rk1a := Rk1a.cp_up hb9
    clear hb9
    have Rg0a := sg0a.cp_of
    clear sg0a
    have z3 : u6.heap.size ≤ u7.heap.size := hs.size
    clear hs
    have hs : Below u7.heap.size u7 u7 := Below.refl _ _
    go_wp2_with fail
    refine (eqLayersR_u r9.1 Ag0a Aw0a cg0a cw0a _ Rg0a.cp_rd Rw0a.cp_rd HRS0.out).mono ?_
    rintro e u8 ⟨rfl, hb9⟩
    have hb := bthen hb hb9
    have hs := bthen hs hb9
    have Rw0a := Rw0a.cp_up hb9
    have Rk0a := Rk0a.cp_up hb9
    have B1 := Lib.hid ((hb9.block _ (lt_of_block B1.out)).trans B1.out)
    have Rk1a := Rk1a.cp_up hb9
    have Rg0a := Rg0a.cp_up hb9
    clear hb9
    go_wp2_with fail
    refine (toLayers_u x0 Ap0a cp0a _ (Hp0a.up hb) SM0.out).mono ?_
    rintro e u9 ⟨Ay0a, cy0a, rfl, hcy0a, sy0a, hby0⟩
    have hb := bthen hb hby0
    have hs := bthen hs hby0
    have Rw0a := Rw0a.cp_up hby0
    have Rk0a := Rk0a.cp_up hby0
    have B1 := Lib.hid ((hby0.block _ (lt_of_block B1.out)).trans B1.out)
    have Rk1a := Rk1a.cp_up hby0
    have Rg0a := Rg0a.cp_up hby0
    clear hby0
    go_wp2_with fail
    refine (eqLayers_u x0 Ak0a Ay0a ck0a cy0a _ Rk0a.cp_rd sy0a.own_rd SM0.out).mono ?_
    rintro e u10 ⟨rfl, hb9⟩
    clear sy0a
    have hb := bthen hb hb9
    have hs := bthen hs hb9
    have Rw0a := Rw0a.cp_up hb9
    have Rk0a := Rk0a.cp_up hb9
    have B1 := Lib.hid ((hb9.block _ (lt_of_block B1.out)).trans B1.out)
    have Rk1a := Rk1a.cp_up hb9
    have Rg0a := Rg0a.cp_up hb9
    clear hb9
    have s1_0 : u10.cell? ⟨W.heap.size, 0, none⟩ = some (.int .i64 x1.op) := (hb.cell (p := ⟨W.heap.size, 0, none⟩) hSlt1).trans (cell_of_block HS1.out 0).1
    have s1_1 : u10.cell? ⟨W.heap.size, 1, none⟩ = some (.int .i64 x1.a) := (hb.cell (p := ⟨W.heap.size, 1, none⟩) hSlt1).trans (cell_of_block HS1.out 1).1
    have s1_2 : u10.cell? ⟨W.heap.size, 2, none⟩ = some (.int .i64 x1.b) := (hb.cell (p := ⟨W.heap.size, 2, none⟩) hSlt1).trans (cell_of_block HS1.out 2).1
    have s1_3 : u10.cell? ⟨W.heap.size, 3, none⟩ = some (.string x1.name) := (hb.cell (p := ⟨W.heap.size, 3, none⟩) hSlt1).trans (cell_of_block HS1.out 3).1
    have s1_4 : u10.cell? ⟨W.heap.size, 4, none⟩ = some (.slice Ap1a x1.kids.length cp1a) := (hb.cell (p := ⟨W.heap.size, 4, none⟩) hSlt1).trans (cell_of_block HS1.out 4).1
    have t1_0 : u10.cell? ⟨iB1, 0, none⟩ = some (.int .i64 x1.op) := (cell_of_block B1.out 0).1
    have t1_1 : u10.cell? ⟨iB1, 1, none⟩ = some (.int .i64 x1.a) := (cell_of_block B1.out 1).1
    have t1_2 : u10.cell? ⟨iB1, 2, none⟩ = some (.int .i64 x1.b) := (cell_of_block B1.out 2).1
    have t1_3 : u10.cell? ⟨iB1, 3, none⟩ = some (.string x1.name) := (cell_of_block B1.out 3).1
    have t1_4 : u10.cell? ⟨iB1, 4, none⟩ = some (.slice Ak1a x1.kids.length ck1a) := (cell_of_block B1.out 4).1
    have dd0 := Later.cell s1_0
    have gg0 := Later.cell t1_0
    have dd1 := Later.cell s1_1
    have gg1 := Later.cell t1_1
    have dd2 := Later.cell s1_2
    have gg2 := Later.cell t1_2
    have dd3 := Later.cell s1_3
    have gg3 := Later.cell t1_3
    have dd4 := Later.cell s1_4
    have gg4 := Later.cell t1_4
    go_wp2
    clear s1_0 s1_1 s1_2 s1_3 s1_4 t1_0 t1_1 t1_2 t1_3 t1_4
    refine wp_region_shares [[], [], [(1, 60)], [(0, 59), (2, 61)], [(3, 62)]]
      [.eq (.agg #[.int .i64 x1.op, .int .i64 x1.a, .int .i64 x1.b, .string x1.name, .slice Ak1a x1.kids.length ck1a]), .eq (.agg #[.int .i64 x1.op, .int .i64 x1.a, .int .i64 x1.b, .string x1.name, .slice Ap1a x1.kids.length cp1a]), Fact.copyTv x1, Fact.boolC u10 true, Fact.boolC u10 false]
      [] [] [] [4] [(0, 59), (1, 60), (2, 61), (3, 62), (4, 63)] (by kernel_rfl) (by kernel_rfl) (by kernel_rfl) (by kernel_rfl)
      ⟨?_, ?_, ?_, ?_, ?_, trivial⟩ ?_
    · intro vals u11 hC hF
      have hC := hC.resolve_left (by simp)
      have hsz := hC.size
      have e1 : u11.cell? _ = _ := gg0 ⟨u11, hC⟩
      have e2 : u11.cell? _ = _ := gg1 ⟨u11, hC⟩
      have e3 : u11.cell? _ = _ := gg2 ⟨u11, hC⟩
      have e4 : u11.cell? _ = _ := gg3 ⟨u11, hC⟩
      have e5 : u11.cell? _ = _ := gg4 ⟨u11, hC⟩
      simp only [putsD, Act.put, List.setIfInBounds_toArray, List.set_cons_zero, List.set_cons_succ]
      go_wp2
      exact ⟨rfl, rfl, .inr (Below.refl _ _), .inr (.inl (by simp))⟩
    · intro vals u11 hC hF
      have hC := hC.resolve_left (by simp)
      have hsz := hC.size
      have e1 : u11.cell? _ = _ := dd0 ⟨u11, hC⟩
      have e2 : u11.cell? _ = _ := dd1 ⟨u11, hC⟩
      have e3 : u11.cell? _ = _ := dd2 ⟨u11, hC⟩
      have e4 : u11.cell? _ = _ := dd3 ⟨u11, hC⟩
      have e5 : u11.cell? _ = _ := dd4 ⟨u11, hC⟩
      simp only [putsD, Act.put, List.setIfInBounds_toArray, List.set_cons_zero, List.set_cons_succ]
      go_wp2
      exact ⟨rfl, rfl, .inr (Below.refl _ _), .inr (.inl (by simp))⟩
    · intro vals u11 hC hF
      have hC := hC.resolve_left (by simp)
      have hsz := hC.size
      simp only [factsD, List.getD_cons_zero, List.getD_cons_succ, Fact.eq, Fact.row, Fact.lit, Fact.lit0, Fact.of, and_true, Fact.copyTv, Fact.boolC] at hF
      have e1 := hF
      simp only [putsD, Act.put, List.setIfInBounds_toArray, List.set_cons_zero, List.set_cons_succ]
      simp only [e1]
      go_wp2_with fail
      refine (toTermv_u x1 Ap1a cp1a _ (Hp1a.up (bthen hb hC)) SM1.out).mono ?_
      rintro e wx ⟨A8, c8, rfl, hc8, s8, hb8⟩
      have R8 := Lib.hid s8.own_rd
      clear s8
      go_wp2
      exact ⟨rfl, ⟨A8, c8, rfl, hc8, R8.out⟩, .inr hb8, .inr (.inl (by simp))⟩
    · intro vals u11 hC hF
      have hC := hC.resolve_left (by simp)
      have hsz := hC.size
      simp only [factsD, List.getD_cons_zero, List.getD_cons_succ, Fact.eq, Fact.row, Fact.lit, Fact.lit0, Fact.of, and_true, Fact.copyTv, Fact.boolC] at hF
      obtain ⟨e1, A8, c8, e2, hc8, R8⟩ := hF
      simp only [putsD, Act.put, List.setIfInBounds_toArray, List.set_cons_zero, List.set_cons_succ]
      simp only [e1, e2]
      have HC9 := Lib.hid (eqTermv_u x1 Ak1a A8 ck1a c8 _ (Rk1a.cp_rd.up hC) R8 SM1.out)
      clear R8
      go_wp2_with fail
      refine HC9.out.mono ?_
      rintro e wx ⟨rfl, hb9⟩
      go_wp2
      exact ⟨rfl, ⟨rfl, bthen hC hb9⟩, .inr hb9, .inr (.inl (by simp))⟩
    · intro vals u11 hC hF
      have hC := hC.resolve_left (by simp)
      have hsz := hC.size
      simp only [factsD, List.getD_cons_zero, List.getD_cons_succ, Fact.eq, Fact.row, Fact.lit, Fact.lit0, Fact.of, and_true, Fact.copyTv, Fact.boolC] at hF
      obtain ⟨e1, _⟩ := hF
      simp only [putsD, Act.put, List.setIfInBounds_toArray, List.set_cons_zero, List.set_cons_succ]
      simp only [e1]
      go_wp2
      exact ⟨rfl, ⟨rfl, hC⟩, .inr (Below.refl _ _), .inr (.inl (by simp))⟩
    · intro vals u11 hF
      simp only [facts, List.getD_cons_zero, List.getD_cons_succ, Fact.eq, Fact.row, Fact.lit, Fact.lit0, Fact.of, and_true, Fact.copyTv, Fact.boolC] at hF
      obtain ⟨e5, hb9⟩ := hF
      simp only [putsD, Act.put, List.setIfInBounds_toArray, List.set_cons_zero, List.set_cons_succ]
      simp only [e5]
      clear e5 dd0 gg0 dd1 gg1 dd2 gg2 dd3 gg3 dd4 gg4
      have hb := bthen hb hb9
      have hs := bthen hs hb9
      have Rw0a := Rw0a.cp_up hb9
      have Rk0a := Rk0a.cp_up hb9
      have B1 := Lib.hid ((hb9.block _ (lt_of_block B1.out)).trans B1.out)
      have Rk1a := Rk1a.cp_up hb9
      have Rg0a := Rg0a.cp_up hb9
      clear hb9
      go_wp2_with fail
      refine (markLayers_u x0 Ak0a ck0a _ _ 1 _ Rk0a SM0.out (by omega) (by omega)).mono ?_
      rintro e u12 ⟨rfl, hd, _⟩
      clear hs
      have Rw0a := Rw0a.cp_dab hd (by intro b h1 h2 h3; have := h3.1; have := h3.2; omega)
      clear Rk0a
      have B1 := Lib.hid (box_dab B1.out hd (by intro h3; have := h3.1; have := h3.2; have := ZB1; omega))
      have Rk1a := Rk1a.cp_dab hd (by intro b h1 h2 h3; have := h3.1; have := h3.2; omega)
      have Rg0a := Rg0a.cp_dab hd (by intro b h1 h2 h3; have := h3.1; have := h3.2; omega)
      have hb := below_rng hb hd hb.size (by omega)
      clear hd
      obtain ⟨k9_1, hk9, hk9a, hk9b⟩ : ∃ k9 : Int, k9 = 1 + (mwL x0 : Nat) ∧ 1 ≤ k9 ∧ k9 ≤ 10000000 := ⟨_, rfl, by omega, by have := SM0.out.2.2.1; omega⟩
      rw [← hk9]
      clear hk9
      have t1_0 : u12.cell? ⟨iB1, 0, none⟩ = some (.int .i64 x1.op) := (cell_of_block B1.out 0).1
      have t1_1 : u12.cell? ⟨iB1, 1, none⟩ = some (.int .i64 x1.a) := (cell_of_block B1.out 1).1
      have t1_2 : u12.cell? ⟨iB1, 2, none⟩ = some (.int .i64 x1.b) := (cell_of_block B1.out 2).1
      have t1_3 : u12.cell? ⟨iB1, 3, none⟩ = some (.string x1.name) := (cell_of_block B1.out 3).1
      have t1_4 : u12.cell? ⟨iB1, 4, none⟩ = some (.slice Ak1a x1.kids.length ck1a) := (cell_of_block B1.out 4).1
      go_wp2_with fail
      clear t1_0 t1_1 t1_2 t1_3 t1_4
      refine (markTermv_u x1 Ak1a ck1a _ _ k9_1 _ Rk1a SM1.out (by omega) (by omega)).mono ?_
      rintro e u13 ⟨rfl, hd⟩
      clear B1
      have Rw0a := Rw0a.cp_dab hd (by intro b h1 h2 h3; have := h3.1; have := h3.2; omega)
      clear Rk1a
      have Rg0a := Rg0a.cp_dab hd (by intro b h1 h2 h3; have := h3.1; have := h3.2; omega)
      have hb := below_rng hb hd hb.size (by omega)
      clear hd
      obtain ⟨k9_2, hk9, hk9c, hk9d⟩ : ∃ k9 : Int, k9 = k9_1 + (4 * T.sizeL x1.kids : Nat) ∧ 1 ≤ k9 ∧ k9 ≤ 20000000 := ⟨_, rfl, by omega, by have := SM1.out.2; omega⟩
      rw [← hk9]
      clear hk9
      go_wp2_with fail
      refine (eqLayersR_u r9.1 Ag0a Aw0a cg0a cw0a _ Rg0a.cp_rd Rw0a.cp_rd HRS0.out).mono ?_
      rintro e u14 ⟨rfl, hb9⟩
      have hb := bthen hb hb9
      have Rw0a := Rw0a.cp_up hb9
      have Rg0a := Rg0a.cp_up hb9
      clear hb9
      go_wp2_with fail
      refine (markLayersR_u r9.1 Ag0a cg0a _ _ 1 _ Rg0a HRS0.out (by omega) (by omega)).mono ?_
      rintro e u15 ⟨rfl, hd, RM0⟩
      have Rw0a := Rw0a.cp_dab hd (by intro b h1 h2 h3; have := h3.1; have := h3.2; omega)
      clear Rg0a
      have hb := below_rng hb hd hb.size (by omega)
      clear hd
      obtain ⟨m9, hm9, hm9a⟩ : ∃ m9 : Int, m9 = 1 + (mwL r9.1 : Nat) ∧ 0 ≤ m9 := ⟨_, rfl, by omega⟩
      rw [← hm9]
      have HM9 := Lib.hid hm9
      have hmm9 : (m9 != m9) = false := by simp
      clear hm9
      go_wp2_with fail
      refine (heldLayersR_u r9.1 Ag0a cg0a 1 _ RM0.cp_rd HRS0.out (by omega) (by omega)).mono ?_
      rw [← HM9.out]
      rintro e u16 ⟨rfl, hb9⟩
      have hb := bthen hb hb9
      have Rw0a := Rw0a.cp_up hb9
      have RM0 := RM0.cp_up hb9
      clear hb9
      have s1_0 : u16.cell? ⟨W.heap.size, 0, none⟩ = some (.int .i64 x1.op) := (hb.cell (p := ⟨W.heap.size, 0, none⟩) hSlt1).trans (cell_of_block HS1.out 0).1
      have s1_1 : u16.cell? ⟨W.heap.size, 1, none⟩ = some (.int .i64 x1.a) := (hb.cell (p := ⟨W.heap.size, 1, none⟩) hSlt1).trans (cell_of_block HS1.out 1).1
      have s1_2 : u16.cell? ⟨W.heap.size, 2, none⟩ = some (.int .i64 x1.b) := (hb.cell (p := ⟨W.heap.size, 2, none⟩) hSlt1).trans (cell_of_block HS1.out 2).1
      have s1_3 : u16.cell? ⟨W.heap.size, 3, none⟩ = some (.string x1.name) := (hb.cell (p := ⟨W.heap.size, 3, none⟩) hSlt1).trans (cell_of_block HS1.out 3).1
      have s1_4 : u16.cell? ⟨W.heap.size, 4, none⟩ = some (.slice Ap1a x1.kids.length cp1a) := (hb.cell (p := ⟨W.heap.size, 4, none⟩) hSlt1).trans (cell_of_block HS1.out 4).1
      have dd0 := Later.cell s1_0
      have dd1 := Later.cell s1_1
      have dd2 := Later.cell s1_2
      have dd3 := Later.cell s1_3
      have dd4 := Later.cell s1_4
      go_wp2
      clear s1_0 s1_1 s1_2 s1_3 s1_4
      refine wp_region_shares [[], [(0, 95)], [], [(2, 97)], [(1, 96), (3, 98)], [(4, 99)], [(5, 94)], [(5, 94)], [(6, 100)], [(7, 101)]]
        [.eq (.slice Ap0a x0.length cp0a), Fact.copyLy x0, .eq (.agg #[.int .i64 x1.op, .int .i64 x1.a, .int .i64 x1.b, .string x1.name, .slice Ap1a x1.kids.length cp1a]), Fact.copyTv x1, Fact.pairG u16 r9, Fact.pairG u16 r9, Fact.oneG u16 r9, .eq (.bool r9.2), Fact.oneG u16 r9, .eq (.bool r9.2)]
        [] [] [] [8, 9] [(0, 95), (1, 96), (2, 97), (3, 98), (4, 99), (5, 94), (6, 100), (7, 101), (8, 15), (9, 16)] (by kernel_rfl) (by kernel_rfl) (by kernel_rfl) (by kernel_rfl)
        ⟨?_, ?_, ?_, ?_, ?_, ?_, ?_, ?_, ?_, ?_, trivial⟩ ?_
      · intro vals u17 hC hF
        simp only [putsD, Act.put, List.setIfInBounds_toArray, List.set_cons_zero, List.set_cons_succ]
        go_wp2
        exact ⟨rfl, rfl, .inr (Below.refl _ _), .inr (.inl (by simp))⟩
      · intro vals u17 hC hF
        have hC := hC.resolve_left (by simp)
        have hsz := hC.size
        simp only [factsD, List.getD_cons_zero, List.getD_cons_succ, Fact.eq, Fact.row, Fact.lit, Fact.lit0, Fact.of, and_true, Fact.copyLy, Fact.copyTv, Fact.pairG, Fact.oneG] at hF
        have e1 := hF
        simp only [putsD, Act.put, List.setIfInBounds_toArray, List.set_cons_zero, List.set_cons_succ]
        simp only [e1]
        go_wp2_with fail
        refine (toLayers_u x0 Ap0a cp0a _ (Hp0a.up (bthen hb hC)) SM0.out).mono ?_
        rintro e wx ⟨A8, c8, rfl, hc8, s8, hb8⟩
        have R8 := Lib.hid s8.own_rd
        clear s8
        go_wp2
        exact ⟨rfl, ⟨A8, c8, rfl, hc8, R8.out⟩, .inr hb8, .inr (.inl (by simp))⟩
      · intro vals u17 hC hF
        have hC := hC.resolve_left (by simp)
        have hsz := hC.size
        have e1 : u17.cell? _ = _ := dd0 ⟨u17, hC⟩
        have e2 : u17.cell? _ = _ := dd1 ⟨u17, hC⟩
        have e3 : u17.cell? _ = _ := dd2 ⟨u17, hC⟩
        have e4 : u17.cell? _ = _ := dd3 ⟨u17, hC⟩
        have e5 : u17.cell? _ = _ := dd4 ⟨u17, hC⟩
        simp only [putsD, Act.put, List.setIfInBounds_toArray, List.set_cons_zero, List.set_cons_succ]
        go_wp2
        exact ⟨rfl, rfl, .inr (Below.refl _ _), .inr (.inl (by simp))⟩
      · intro vals u17 hC hF
        have hC := hC.resolve_left (by simp)
        have hsz := hC.size
        simp only [factsD, List.getD_cons_zero, List.getD_cons_succ, Fact.eq, Fact.row, Fact.lit, Fact.lit0, Fact.of, and_true, Fact.copyLy, Fact.copyTv, Fact.pairG, Fact.oneG] at hF
        have e1 := hF
        simp only [putsD, Act.put, List.setIfInBounds_toArray, List.set_cons_zero, List.set_cons_succ]
        simp only [e1]
        go_wp2_with fail
        refine (toTermv_u x1 Ap1a cp1a _ (Hp1a.up (bthen hb hC)) SM1.out).mono ?_
        rintro e wx ⟨A8, c8, rfl, hc8, s8, hb8⟩
        have R8 := Lib.hid s8.own_rd
        clear s8
        go_wp2
        exact ⟨rfl, ⟨A8, c8, rfl, hc8, R8.out⟩, .inr hb8, .inr (.inl (by simp))⟩
      · intro vals u17 hC hF
        have hC := hC.resolve_left (by simp)
        have hsz := hC.size
        simp only [factsD, List.getD_cons_zero, List.getD_cons_succ, Fact.eq, Fact.row, Fact.lit, Fact.lit0, Fact.of, and_true, Fact.copyLy, Fact.copyTv, Fact.pairG, Fact.oneG] at hF
        obtain ⟨⟨A8, c8, e1, hc8, R8⟩, ⟨A7, c7, e2, hc7, R7⟩⟩ := hF
        simp only [putsD, Act.put, List.setIfInBounds_toArray, List.set_cons_zero, List.set_cons_succ]
        simp only [e1, e2]
        have R8 := Lib.hid R8
        have R7 := Lib.hid R7
        go_wp2_with fail
        refine (implCtxAssert_u x0 x1 A8 c8 A7 c7 _ R8.out hc8 SM0.out R7.out hc7 SM1.out).mono ?_
        rw [HR9.out]
        rintro e wx ⟨A9, c9, rfl, hc9, h9, hb9⟩
        have HH := Lib.hid (And.intro hc9 (And.intro (h9.low hsz) (bthen hC hb9)))
        have HB9 := Lib.hid hb9
        clear hc9 h9 hb9
        go_wp2
        exact ⟨rfl, ⟨A9, c9, rfl, HH.out.1, HH.out.2.1, HH.out.2.2⟩, .inr HB9.out, .inr (.inl (by simp))⟩
      · intro vals u17 hC hF
        have hC := hC.resolve_left (by simp)
        have hsz := hC.size
        simp only [factsD, List.getD_cons_zero, List.getD_cons_succ, Fact.eq, Fact.row, Fact.lit, Fact.lit0, Fact.of, and_true, Fact.copyLy, Fact.copyTv, Fact.pairG, Fact.oneG] at hF
        obtain ⟨A9, c9, e1, hh⟩ := hF
        simp only [putsD, Act.put, List.setIfInBounds_toArray, List.set_cons_zero, List.set_cons_succ]
        simp only [e1]
        go_wp2
        exact ⟨rfl, ⟨A9, c9, rfl, hh⟩, .inr (Below.refl _ _), .inr (.inl (by simp))⟩
      · intro vals u17 hC hF
        have hC := hC.resolve_left (by simp)
        have hsz := hC.size
        simp only [factsD, List.getD_cons_zero, List.getD_cons_succ, Fact.eq, Fact.row, Fact.lit, Fact.lit0, Fact.of, and_true, Fact.copyLy, Fact.copyTv, Fact.pairG, Fact.oneG] at hF
        obtain ⟨A9, c9, e1, hh⟩ := hF
        simp only [putsD, Act.put, List.setIfInBounds_toArray, List.set_cons_zero, List.set_cons_succ]
        simp only [e1]
        go_wp2
        exact ⟨rfl, ⟨A9, c9, rfl, hh⟩, .inr (Below.refl _ _), .inr (.inl (by simp))⟩
      · intro vals u17 hC hF
        simp only [factsD, List.getD_cons_zero, List.getD_cons_succ, Fact.eq, Fact.row, Fact.lit, Fact.lit0, Fact.of, and_true, Fact.copyLy, Fact.copyTv, Fact.pairG, Fact.oneG] at hF
        obtain ⟨A9, c9, e1, hh⟩ := hF
        simp only [putsD, Act.put, List.setIfInBounds_toArray, List.set_cons_zero, List.set_cons_succ]
        simp only [e1]
        go_wp2
        exact ⟨rfl, rfl, .inr (Below.refl _ _), .inr (.inl (by simp))⟩
      · intro vals u17 hC hF
        have hC := hC.resolve_left (by simp)
        have hsz := hC.size
        simp only [factsD, List.getD_cons_zero, List.getD_cons_succ, Fact.eq, Fact.row, Fact.lit, Fact.lit0, Fact.of, and_true, Fact.copyLy, Fact.copyTv, Fact.pairG, Fact.oneG] at hF
        obtain ⟨A9, c9, e1, hh⟩ := hF
        simp only [putsD, Act.put, List.setIfInBounds_toArray, List.set_cons_zero, List.set_cons_succ]
        simp only [e1]
        go_wp2
        exact ⟨rfl, ⟨A9, c9, rfl, hh⟩, .inr (Below.refl _ _), .inr (.inl (by simp))⟩
      · intro vals u17 hC hF
        simp only [factsD, List.getD_cons_zero, List.getD_cons_succ, Fact.eq, Fact.row, Fact.lit, Fact.lit0, Fact.of, and_true, Fact.copyLy, Fact.copyTv, Fact.pairG, Fact.oneG] at hF
        have e1 := hF
        simp only [putsD, Act.put, List.setIfInBounds_toArray, List.set_cons_zero, List.set_cons_succ]
        simp only [e1]
        go_wp2
        exact ⟨rfl, rfl, .inr (Below.refl _ _), .inr (.inl (by simp))⟩
      · intro vals u17 hF
        simp only [facts, List.getD_cons_zero, List.getD_cons_succ, Fact.eq, Fact.row, Fact.lit, Fact.lit0, Fact.of, and_true, Fact.copyLy, Fact.copyTv, Fact.pairG, Fact.oneG] at hF
        obtain ⟨⟨Ah0a, ch0a, e6, hch0a, sh0a, hb9⟩, e7⟩ := hF
        simp only [putsD, Act.put, List.setIfInBounds_toArray, List.set_cons_zero, List.set_cons_succ]
        simp only [e6, e7]
        clear e6 e7 dd0 dd1 dd2 dd3 dd4
        have hb := bthen hb hb9
        have Rw0a := Rw0a.cp_up hb9
        have RM0 := RM0.cp_up hb9
        clear hb9
        have Rh0a := sh0a.cp_of
        clear sh0a
        go_wp2_with fail
        refine (eqLayersR_u r9.1 Ah0a Aw0a ch0a cw0a _ Rh0a.cp_rd Rw0a.cp_rd HRS0.out).mono ?_
        rintro e u18 ⟨rfl, hb9⟩
        have hb := bthen hb hb9
        have Rw0a := Rw0a.cp_up hb9
        have RM0 := RM0.cp_up hb9
        have Rh0a := Rh0a.cp_up hb9
        clear hb9
        go_wp2_with fail
        refine (heldLayersR_u r9.1 Ag0a cg0a 1 _ RM0.cp_rd HRS0.out (by omega) (by omega)).mono ?_
        rw [← HM9.out]
        rintro e u19 ⟨rfl, hb9⟩
        have hb := bthen hb hb9
        have Rw0a := Rw0a.cp_up hb9
        have RM0 := RM0.cp_up hb9
        have Rh0a := Rh0a.cp_up hb9
        clear hb9
        go_wp2
        go_ret
        exact ⟨rfl, bthen HW0.out hb⟩

set_option maxRecDepth 100000 in
theorem fnExactCtxAssert_lifted (os : Os) (started : os.Started) (H : Type) (enc : TypeId × Value → H) :
    ReturnsInHanded {} Tryz.checked os 7 .any (fun w args => (Rows.fnExactCtxAssertSpec.pre enc Tryz.prog Tryz.f7 [] false w args ∧ laidMetH Tryz.prog laidU w) ∧ sizedMet enc Tryz.prog Tryz.f7 (OpenSpec.ofChange Rows.fnExactCtxAssertSpec) false w args)
      (Rows.fnExactCtxAssertSpec.post enc Tryz.prog Tryz.f7 false true false false) := by
  refine returnsInHanded_of_change_and (C := Tryz.checked) (X := fun w _ => laidMetH Tryz.prog laidU w) (fun _ _ _ hh h => h.of_heap hh) dr_own started (by kernel_rfl) Tryz.func7
    (ChangeSpec.witness_shaped (enc := enc) (C := Tryz.checked) (os := os) (X := fun w _ => laidMetH Tryz.prog laidU w) false (World.laidAll Tryz.prog os laidU) #[.slice none 0 0, .agg #[.int .i64 0, .int .i64 0, .int .i64 0, .string ⟨#[]⟩, .slice none 0 0]] 16 (World.laidAll_os _ _ _) (World.shaped_of_ZipB (by kernel_rfl) (by kernel_rfl)) (by kernel_rfl) (by kernel_rfl) (by kernel_rfl)
      (by rw [MakeChecks.laidMetH_plain _ _ _ (by kernel_rfl)]; exact laidMet_laidAll _ (by kernel_rfl) (by kernel_rfl))) ?_
  intro W base args ds gs before hval0 hW _ _ hL _
  have hval : ∀ (j : Nat) t v, Tryz.f7.params[j]? = some t → args[j]? = some v → Value.okWide Tryz.prog W .any base t v := hval0
  have hW' := hW
  obtain ⟨p, q, hA0, hV, rfl, hfz, hnd⟩ := hW
  have hA : DataW.TrodAll enc Tryz.prog W 0 (fun _ => true) true Tryz.f7.params.toList args.toList ds p := hA0
  rw [Tryz.params7] at hA hval
  obtain ⟨v0, vs0, d0, ds0, p0, q0, hargs, rfl, rfl, h0, r0⟩ := trodAll_cons hA
  obtain ⟨v1, vs1, d1, ds1, p1, q1, rfl, rfl, rfl, h1, r1⟩ := trodAll_cons r0
  obtain ⟨rfl, rfl, rfl⟩ := trodAll_nil r1
  obtain rfl : args = #[v0, v1] := by cases args; simp_all
  obtain ⟨rfl, rfl⟩ := trodVars_none hV
  have k0 := h0
  have lt0 : ∀ x ∈ p0, x.block < W.heap.size := by obtain ⟨m, hm⟩ := k0; exact DataW.trod_lt m _ _ _ hm
  have k1 := h1
  have lt1 : ∀ x ∈ p1, x.block < W.heap.size := by obtain ⟨m, hm⟩ := k1; exact DataW.trod_lt m _ _ _ hm
  obtain ⟨A0, c0, x0, rfl, hc0, ok0, rd0⟩ := open_arg Tryz.underlying22 opens_layers (hval 0 22 v0 rfl rfl) h0
  obtain ⟨A1, c1, x1, rfl, hc1, ok1, rd1⟩ := open_termv (hval 1 44 v1 rfl rfl) h1
  clear hA0 hval0
  refine (fnExactCtxAssert_walk W hc0 ok0 rd0 hc1 ok1 rd1).mono fun e W' ⟨he, bel⟩ => ?_
  subst he
  exact ⟨_, rfl, _, _, _, [], _, [], hW', trodAll_mk1 (shut_bool Tryz.underlying4 _), (trodAll_cons_mk (Below.trod (by kernel_rfl) (by kernel_rfl) (of_decide_eq_true (by kernel_rfl)) k0 bel lt0) (trodAll_cons_mk (Below.trod (by kernel_rfl) (by kernel_rfl) (of_decide_eq_true (by kernel_rfl)) k1 bel lt1) trodAll_mk0)), rfl, bel.frame _, fun h => by cases h⟩

/-- The given row. -/
theorem fnExactCtxAssert_row : Rows.FnExactCtxAssertSaid :=
  OpenClaim.holds_of_wide 7 Tryz.f7 rfl rfl rfl rfl rfl rfl rfl ⟨rfl, rfl, rfl, rfl, rfl⟩ rfl rfl rfl rfl rfl (by kernel_rfl) Tryz.func7 (by kernel_rfl)
    (of_decide_eq_true (by kernel_rfl)) (by unfold Func.isWrapper; first | (rw [if_pos (by decide +kernel)]; kernel_rfl) | (rw [if_neg (by decide +kernel)]; exact ⟨rfl, rfl⟩))
    (fun os started H enc _ => fnExactCtxAssert_lifted os started H enc)
/-- The given statement: the row, what it lists tied to the program's text. -/
theorem fnExactCtxAssert_holds : Rows.FnExactCtxAssertCardSaid :=
  Claim7.holds_tied_plain_at .later [] [.data, .pinned] true Rows.fnExactCtxAssertCard.stood.harness Rows.fnExactCtxAssertCard.stood.looks
    fnExactCtxAssert_row (fun _ h => by cases h) (by kernel_rfl) (fun _ h => by cases h) fnExactCtxAssert_row_tie rfl ⟨rfl, rfl⟩ (by kernel_rfl) rfl
    (fun f fn hf hfn => by
      obtain rfl : f = 7 := Option.some.inj ((show Tryz.prog.funcNamed "loop.example/seedlip/laws.FnExactCtxAssert" = some 7 by kernel_rfl).symm.trans hf) |>.symm
      obtain rfl : fn = Tryz.f7 := (Option.some.inj (Tryz.func7.symm.trans hfn)).symm
      exact ⟨by kernel_rfl, fun j t ht => by
        rw [Tryz.params7] at ht
        have hm : t ∈ [22, 44] := by simpa using Array.mem_of_getElem? ht
        have hall : ([22, 44].all fun u => !Tryz.prog.wantsStandIn u) = true := by kernel_rfl
        exact (show Tryz.prog.wantsStandIn t = false by simpa using List.all_eq_true.1 hall t hm)⟩)
    (by kernel_rfl)
#print axioms fnExactCtxAssert_holds
end Go.Proofs.YtiahmfpfimmbgaaGreatDoor
