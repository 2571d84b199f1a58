/- FnExactBitsUn: the program's BitsUn answers, for any net and any marks, what the reference's answers, in memory of its own. -/
import Derived.Test.YtjghcaghigebjaaDoorTie
import Derived.Test.YtjghcaghigebjaaDoorCards
import Derived.Test.YtjghcaghigebjaaDoorRows
import Derived.SevenTiedAt
import Derived.Test.YtjghcaghigebjaaDoorJExBitsUn8
/-! FnExactBitsUn: the program's BitsUn answers, for any net and any marks, what the reference's answers, in memory of its own. -/
namespace Go.Proofs.YtjghcaghigebjaaDoor
open Go Go.RowKit Go.ChangeShapes Go.WideShapes Go.ChangeAt Go.Deep

set_option maxRecDepth 100000 in
set_option maxHeartbeats 8000000 in
theorem fnExactBitsUn_walk (W : World) (a0 a1 : Addr) {Ap0a : Option Addr} {cp0a : Nat} {x0 : N} {x1 : Int} {Ap2a : Option Addr} {cp2a : Nat} {x2 : List Int} (hglb : Glb a0 a1 W.heap.size W) (_ : x0.gs.length ≤ cp0a) (ok0 : okNetIn x0) (hp0a : Lay.gate.Rd W Ap0a x0.gs) (ok1 : okInt x1) (_ : x2.length ≤ cp2a) (ok2 : (x2.length ≤ maxLen ∧ ∀ i ∈ x2, okInt i)) (hp2a : Lay.int.Rd W Ap2a x2) :
    Calls Tryd.prog 6 #[.agg #[.int .i64 x0.ins, .slice Ap0a x0.gs.length cp0a], .int .i64 x1, .slice Ap2a x2.length cp2a] W (LawC W) := by
  have GLB := Lib.hid hglb
  clear hglb
  have hW0 : Below W.heap.size W (W.alloc (.cells #[.int .i64 x0.ins, .slice Ap0a x0.gs.length cp0a] 24)) := (Below.refl _ _).alloc (by simp <;> omega) _
  have hS0 : (W.alloc (.cells #[.int .i64 x0.ins, .slice Ap0a x0.gs.length cp0a] 24)).heap[W.heap.size]? = some (.cells #[.int .i64 x0.ins, .slice Ap0a x0.gs.length cp0a] 24 (0, 0)) := heap_alloc_new _ _
  have Hp0a := hp0a.up hW0
  have Hp2a := hp2a.up hW0
  clear hp0a hp2a
  have HS0 := Lib.hid hS0
  have hSlt0 := lt_of_block hS0
  clear hS0
  have HW0 := Lib.hid hW0
  clear hW0
  have OK0 := Lib.hid ok0
  clear ok0
  have OK1 := Lib.hid ok1
  clear ok1
  have OK2 := Lib.hid ok2
  clear ok2
  by_cases hbig2 : (1048576 : Int) < x2.length
  · go_enter Tryd.func6, Tryd.ntmps6
    go_wp2
    go_ret
    exact ⟨rfl, HW0.out⟩
  have SM2 : Hid (smInts x2) := Lib.hid (smInts_of OK2.out (by omega))
  go_enter Tryd.func6, Tryd.ntmps6
  go_wp2_with fail
  generalize W.alloc (.cells #[.int .i64 x0.ins, .slice Ap0a x0.gs.length cp0a] 24) = W0 at *
  have hb : Below W0.heap.size W0 W0 := Below.refl _ _
  refine (szNet_u x0 Ap0a cp0a 1048576 _ (Hp0a.up hb) OK0.out (by omega) (by omega)).mono ?_
  rintro e u1 ⟨rfl, hbu1⟩
  have hb := bthen hb hbu1
  clear hbu1
  by_cases hbig0 : (1048576 : Int) < (wtN x0 : Nat)
  · have HSZ := Lib.hid (szRes_lt hbig0)
    clear hbig0
    rw [HSZ.out]
    go_wp2
    go_ret
    exact ⟨rfl, bthen HW0.out hb⟩
  have SM0 : Hid (smNet x0) := Lib.hid (smNet_of OK0.out (by omega))
  have HSZ0 := Lib.hid (szRes_ge hbig0)
  rw [HSZ0.out]
  have hln9 : (0 : Int) ≤ (1048576 - (wtN x0 : Nat)) := by omega
  clear hbig0
  have ok19 := OK1.out
  unfold okInt at ok19
  obtain ⟨i1a, i1b⟩ := ok19
  generalize hr9 : pickN (netOk x0) (bitsUnR x0 x1 x2) = r9 at *
  have HR9 := Lib.hid hr9
  clear hr9
  have HRS0 := Lib.hid (show r9.1.gs.length ≤ 1048576 by rw [← HR9.out]; exact bitsUn_len.1)
  have HRS1 := Lib.hid (show r9.2.length ≤ 1048576 by rw [← HR9.out]; exact bitsUn_len.2)
  have s0_0 : u1.cell? ⟨W.heap.size, 0, none⟩ = some (.int .i64 x0.ins) := (hb.cell (p := ⟨W.heap.size, 0, none⟩) hSlt0).trans (cell_of_block HS0.out 0).1
  have s0_1 : u1.cell? ⟨W.heap.size, 1, none⟩ = some (.slice Ap0a x0.gs.length cp0a) := (hb.cell (p := ⟨W.heap.size, 1, none⟩) hSlt0).trans (cell_of_block HS0.out 1).1
  go_wp2_with fail
  clear s0_0 s0_1
  refine (toNet_u x0 Ap0a cp0a _ (Hp0a.up hb) SM0.out).mono ?_
  rintro e u2 ⟨Aq0a, cq0a, rfl, hcq0a, sq0a, hbq0⟩
  have hb := bthen hb hbq0
  clear hbq0
  go_wp2_with fail
  refine (toInts_u x2 Ap2a cp2a _ (Hp2a.up hb) SM2.out).mono ?_
  rintro e u3 ⟨Aq2a, cq2a, rfl, hcq2a, sq2a, hbq2⟩
  have hb := bthen hb hbq2
  have sq0a := sq0a.own_up hbq2
  clear hbq2
  go_wp2_with fail
  refine (specBitsUn_u x0 Aq0a cq0a x1  x2 Aq2a cq2a _ (sq0a.own_rd) hcq0a (sq2a.own_rd) hcq2a SM0.out OK1.out SM2.out).mono ?_
  rw [HR9.out]
  rintro e u4 ⟨Aw0a, Aw1a, cw0a, cw1a, rfl, hcw0a, hcw1a, sw0a, sw1a, hb9, apw⟩
  clear sq0a
  clear sq2a
  have hb := bthen hb hb9
  clear hb9
  have Rw0a := sw0a.cp_of
  clear sw0a
  have Rw1a := sw1a.cp_of
  clear sw1a
  have zW9 : W0.heap.size ≤ u4.heap.size := hb.size
  have hs : Below u4.heap.size u4 u4 := Below.refl _ _
  have s0_0 : u4.cell? ⟨W.heap.size, 0, none⟩ = some (.int .i64 x0.ins) := (hb.cell (p := ⟨W.heap.size, 0, none⟩) hSlt0).trans (cell_of_block HS0.out 0).1
  have s0_1 : u4.cell? ⟨W.heap.size, 1, none⟩ = some (.slice Ap0a x0.gs.length cp0a) := (hb.cell (p := ⟨W.heap.size, 1, none⟩) hSlt0).trans (cell_of_block HS0.out 1).1
  have lt0 : W.heap.size < u4.heap.size := Nat.lt_of_lt_of_le hSlt0 hb.size
  have hal : Below u4.heap.size u4 (u4.alloc (.cells #[.int .i64 r9.1.ins, .slice Aw0a r9.1.gs.length cw0a] 29)) := (Below.refl _ _).alloc (Nat.le_refl _) _
  have B9 : (u4.alloc (.cells #[.int .i64 r9.1.ins, .slice Aw0a r9.1.gs.length cw0a] 29)).heap[u4.heap.size]? = some (.cells #[.int .i64 r9.1.ins, .slice Aw0a r9.1.gs.length cw0a] 29 (0, 0)) := heap_alloc_new _ _
  have hb := bthen hb hal
  have hs := bthen hs hal
  have Rw0a := Rw0a.cp_up hal
  have Rw1a := Rw1a.cp_up hal
  clear hal
  have BW0 := Lib.hid B9
  clear B9
  go_wp2_with fail
  clear s0_0 s0_1 lt0
  generalize hv9 : u4.alloc (.cells #[.int .i64 r9.1.ins, .slice Aw0a r9.1.gs.length cw0a] 29) = u5 at *
  clear hv9
  generalize hi9 : u4.heap.size = iBW0 at BW0 ⊢
  have ZBW0 := Nat.le_of_eq hi9
  clear hi9
  have zuBW0 : iBW0 < u5.heap.size := lt_of_block BW0.out
  have z0 : u4.heap.size ≤ u5.heap.size := hs.size
  clear hs
  have hs : Below u5.heap.size u5 u5 := Below.refl _ _
  refine (toNet_u x0 Ap0a cp0a _ (Hp0a.up hb) SM0.out).mono ?_
  rintro e u6 ⟨Ak0a, ck0a, rfl, hck0a, sk0a, hbk0⟩
  have hb := bthen hb hbk0
  have hs := bthen hs hbk0
  have Rw0a := Rw0a.cp_up hbk0
  have Rw1a := Rw1a.cp_up hbk0
  have BW0 := Lib.hid ((hbk0.block _ (lt_of_block BW0.out)).trans BW0.out)
  clear hbk0
  have hal : Below u6.heap.size u6 (u6.alloc (.cells #[.int .i64 x0.ins, .slice Ak0a x0.gs.length ck0a] 29)) := (Below.refl _ _).alloc (Nat.le_refl _) _
  have B9 : (u6.alloc (.cells #[.int .i64 x0.ins, .slice Ak0a x0.gs.length ck0a] 29)).heap[u6.heap.size]? = some (.cells #[.int .i64 x0.ins, .slice Ak0a x0.gs.length ck0a] 29 (0, 0)) := heap_alloc_new _ _
  have YB0 : u5.heap.size ≤ u6.heap.size := hs.size
  have hb := bthen hb hal
  have hs := bthen hs hal
  have Rw0a := Rw0a.cp_up hal
  have Rw1a := Rw1a.cp_up hal
  have BW0 := Lib.hid ((hal.block _ (lt_of_block BW0.out)).trans BW0.out)
  have sk0a := sk0a.own_up hal
  clear hal
  have B0 := Lib.hid B9
  clear B9
  go_wp2_with fail
  generalize hv9 : u6.alloc (.cells #[.int .i64 x0.ins, .slice Ak0a x0.gs.length ck0a] 29) = u7 at *
  clear hv9
  generalize hi9 : u6.heap.size = iB0 at B0 ⊢
  have ZB0 := Nat.le_of_eq hi9
  clear hi9
  have Rk0a := sk0a.cp_of
  clear sk0a
  have zuB0 : iB0 < u7.heap.size := lt_of_block B0.out
  have z1 : u5.heap.size ≤ u7.heap.size := hs.size
  clear hs
  have hs : Below u7.heap.size u7 u7 := Below.refl _ _
  refine (toInts_u x2 Ap2a cp2a _ (Hp2a.up hb) SM2.out).mono ?_
  rintro e u8 ⟨Ak2a, ck2a, rfl, hck2a, sk2a, hbk2⟩
  have hb := bthen hb hbk2
  have hs := bthen hs hbk2
  have Rw0a := Rw0a.cp_up hbk2
  have Rw1a := Rw1a.cp_up hbk2
  have BW0 := Lib.hid ((hbk2.block _ (lt_of_block BW0.out)).trans BW0.out)
  have B0 := Lib.hid ((hbk2.block _ (lt_of_block B0.out)).trans B0.out)
  have Rk0a := Rk0a.cp_up hbk2
  clear hbk2
  have kB0_0 : u8.cell? ⟨iB0, 0, none⟩ = some (.int .i64 x0.ins) := (cell_of_block B0.out 0).1
  have kB0_1 : u8.cell? ⟨iB0, 1, none⟩ = some (.slice Ak0a x0.gs.length ck0a) := (cell_of_block B0.out 1).1
  go_wp2_with fail
  clear kB0_0 kB0_1
  have Rk2a := sk2a.cp_of
  clear sk2a
  have z2 : u7.heap.size ≤ u8.heap.size := hs.size
  clear hs
  have hs : Below u8.heap.size u8 u8 := Below.refl _ _
  refine (implBitsUn_u a0 a1 W.heap.size x0 Ak0a ck0a x1  x2 Ak2a ck2a _ (Rk0a.cp_rd) hck0a (Rk2a.cp_rd) hck2a SM0.out OK1.out SM2.out (GLB.out.below (bthen HW0.out hb)) (Nat.le_trans HW0.out.size hb.size)).mono ?_
  rw [HR9.out]
  rintro e u9 ⟨Ag0a, Ag1a, cg0a, cg1a, rfl, hcg0a, hcg1a, sg0a, sg1a, hb9, apg⟩
  have hb := bthen hb hb9
  have hs := bthen hs hb9
  have Rw0a := Rw0a.cp_up hb9
  have Rw1a := Rw1a.cp_up hb9
  have BW0 := Lib.hid ((hb9.block _ (lt_of_block BW0.out)).trans BW0.out)
  have B0 := Lib.hid ((hb9.block _ (lt_of_block B0.out)).trans B0.out)
  have Rk0a := Rk0a.cp_up hb9
  have Rk2a := Rk2a.cp_up hb9
  clear hb9
  have Rg0a := sg0a.cp_of
  clear sg0a
  have Rg1a := sg1a.cp_of
  clear sg1a
  have z3 : u8.heap.size ≤ u9.heap.size := hs.size
  clear hs
  have hs : Below u9.heap.size u9 u9 := Below.refl _ _
  have kBW0_0 : u9.cell? ⟨iBW0, 0, none⟩ = some (.int .i64 r9.1.ins) := (cell_of_block BW0.out 0).1
  have kBW0_1 : u9.cell? ⟨iBW0, 1, none⟩ = some (.slice Aw0a r9.1.gs.length cw0a) := (cell_of_block BW0.out 1).1
  have ltBW0 : iBW0 < u9.heap.size := lt_of_block BW0.out
  have hal : Below u9.heap.size u9 (u9.alloc (.cells #[.int .i64 r9.1.ins, .slice Ag0a r9.1.gs.length cg0a] 29)) := (Below.refl _ _).alloc (Nat.le_refl _) _
  have B9 : (u9.alloc (.cells #[.int .i64 r9.1.ins, .slice Ag0a r9.1.gs.length cg0a] 29)).heap[u9.heap.size]? = some (.cells #[.int .i64 r9.1.ins, .slice Ag0a r9.1.gs.length cg0a] 29 (0, 0)) := heap_alloc_new _ _
  have hb := bthen hb hal
  have hs := bthen hs hal
  have Rw0a := Rw0a.cp_up hal
  have Rw1a := Rw1a.cp_up hal
  have BW0 := Lib.hid ((hal.block _ (lt_of_block BW0.out)).trans BW0.out)
  have B0 := Lib.hid ((hal.block _ (lt_of_block B0.out)).trans B0.out)
  have Rk0a := Rk0a.cp_up hal
  have Rk2a := Rk2a.cp_up hal
  have Rg0a := Rg0a.cp_up hal
  have Rg1a := Rg1a.cp_up hal
  clear hal
  have BG0 := Lib.hid B9
  clear B9
  go_wp2_with fail
  clear kBW0_0 kBW0_1 ltBW0
  generalize hv9 : u9.alloc (.cells #[.int .i64 r9.1.ins, .slice Ag0a r9.1.gs.length cg0a] 29) = u10 at *
  clear hv9
  generalize hi9 : u9.heap.size = iBG0 at BG0 ⊢
  have ZBG0 := Nat.le_of_eq hi9
  clear hi9
  refine (eqNet_u r9.1 Ag0a Aw0a cg0a cw0a _ Rg0a.cp_rd Rw0a.cp_rd HRS0.out).mono ?_
  rintro e u11 ⟨rfl, hb9⟩
  have hb := bthen hb hb9
  have hs := bthen hs hb9
  have Rw0a := Rw0a.cp_up hb9
  have Rw1a := Rw1a.cp_up hb9
  have BW0 := Lib.hid ((hb9.block _ (lt_of_block BW0.out)).trans BW0.out)
  have B0 := Lib.hid ((hb9.block _ (lt_of_block B0.out)).trans B0.out)
  have Rk0a := Rk0a.cp_up hb9
  have Rk2a := Rk2a.cp_up hb9
  have Rg0a := Rg0a.cp_up hb9
  have Rg1a := Rg1a.cp_up hb9
  have BG0 := Lib.hid ((hb9.block _ (lt_of_block BG0.out)).trans BG0.out)
  clear hb9
  go_wp2_with fail
  refine (eqInts_u r9.2 Ag1a Aw1a cg1a cw1a _ Rg1a.cp_rd Rw1a.cp_rd HRS1.out).mono ?_
  rintro e u12 ⟨rfl, hb9⟩
  have hb := bthen hb hb9
  have hs := bthen hs hb9
  have Rw0a := Rw0a.cp_up hb9
  have Rw1a := Rw1a.cp_up hb9
  have BW0 := Lib.hid ((hb9.block _ (lt_of_block BW0.out)).trans BW0.out)
  have B0 := Lib.hid ((hb9.block _ (lt_of_block B0.out)).trans B0.out)
  have Rk0a := Rk0a.cp_up hb9
  have Rk2a := Rk2a.cp_up hb9
  have Rg0a := Rg0a.cp_up hb9
  have Rg1a := Rg1a.cp_up hb9
  have BG0 := Lib.hid ((hb9.block _ (lt_of_block BG0.out)).trans BG0.out)
  clear hb9
  have s0_0 : u12.cell? ⟨W.heap.size, 0, none⟩ = some (.int .i64 x0.ins) := (hb.cell (p := ⟨W.heap.size, 0, none⟩) hSlt0).trans (cell_of_block HS0.out 0).1
  have s0_1 : u12.cell? ⟨W.heap.size, 1, none⟩ = some (.slice Ap0a x0.gs.length cp0a) := (hb.cell (p := ⟨W.heap.size, 1, none⟩) hSlt0).trans (cell_of_block HS0.out 1).1
  have d0_0 := Later.cell s0_0
  have d0_1 := Later.cell s0_1
  have k0 : u12.cell? ⟨iB0, 0, none⟩ = some (.int .i64 x0.ins) := (cell_of_block B0.out 0).1
  have k1 : u12.cell? ⟨iB0, 1, none⟩ = some (.slice Ak0a x0.gs.length ck0a) := (cell_of_block B0.out 1).1
  have g0 := Later.cell k0
  have g1 := Later.cell k1
  go_wp2
  clear s0_0 s0_1
  clear k0 k1
  refine wp_region_shares [[], [], [(1, 58)], [(0, 57), (2, 59)], [(3, 60)]]
    [.eq (.agg #[.int .i64 x0.ins, .slice Ak0a x0.gs.length ck0a]), .eq (.agg #[.int .i64 x0.ins, .slice Ap0a x0.gs.length cp0a]), Fact.copyNt x0, Fact.boolC u12 true, Fact.boolC u12 false]
    [] [] [] [4] [(0, 57), (1, 58), (2, 59), (3, 60), (4, 61)] (by kernel_rfl) (by kernel_rfl) (by kernel_rfl) (by kernel_rfl)
    ⟨?_, ?_, ?_, ?_, ?_, trivial⟩ ?_
  · intro vals u13 hC hF
    have hC := hC.resolve_left (by simp)
    have hsz := hC.size
    have e1 : u13.cell? _ = _ := g0 ⟨u13, hC⟩
    have e2 : u13.cell? _ = _ := g1 ⟨u13, hC⟩
    simp only [putsD, Act.put, List.setIfInBounds_toArray, List.set_cons_zero, List.set_cons_succ]
    go_wp2
    exact ⟨rfl, rfl, .inr (Below.refl _ _), .inr (.inl (by simp))⟩
  · intro vals u13 hC hF
    have hC := hC.resolve_left (by simp)
    have hsz := hC.size
    have e1 : u13.cell? _ = _ := d0_0 ⟨u13, hC⟩
    have e2 : u13.cell? _ = _ := d0_1 ⟨u13, hC⟩
    simp only [putsD, Act.put, List.setIfInBounds_toArray, List.set_cons_zero, List.set_cons_succ]
    go_wp2
    exact ⟨rfl, rfl, .inr (Below.refl _ _), .inr (.inl (by simp))⟩
  · intro vals u13 hC hF
    have hC := hC.resolve_left (by simp)
    have hsz := hC.size
    simp only [factsD, List.getD_cons_zero, List.getD_cons_succ, Fact.eq, Fact.row, Fact.lit, Fact.lit0, Fact.of, and_true, Fact.copyI, Fact.copyNt, Fact.boolC] at hF
    simp only [putsD, Act.put, List.setIfInBounds_toArray, List.set_cons_zero, List.set_cons_succ]
    simp only [hF]
    go_wp2_with fail
    refine (toNet_u x0 Ap0a cp0a _ (Hp0a.up (bthen hb hC)) SM0.out).mono ?_
    rintro e wx ⟨Aq0a, cq0a, rfl, hcq0a, sq0a, hbq0⟩
    have Rq0a := sq0a.own_rd
    go_wp2
    exact ⟨rfl, ⟨Aq0a, cq0a, rfl, hcq0a, Rq0a⟩, .inr hbq0, .inr (.inl (by simp))⟩
  · intro vals u13 hC hF
    have hC := hC.resolve_left (by simp)
    have hsz := hC.size
    simp only [factsD, List.getD_cons_zero, List.getD_cons_succ, Fact.eq, Fact.row, Fact.lit, Fact.lit0, Fact.of, and_true, Fact.copyI, Fact.copyNt, Fact.boolC] at hF
    obtain ⟨e57, Aq0a, cq0a, e59, hcq0a, Rq0a⟩ := hF
    simp only [putsD, Act.put, List.setIfInBounds_toArray, List.set_cons_zero, List.set_cons_succ]
    simp only [e57, e59]
    go_wp2_with fail
    refine (eqNet_u x0 Ak0a Aq0a ck0a cq0a _ (Rk0a.cp_rd.up hC) Rq0a SM0.out.1).mono ?_
    rintro e wx ⟨rfl, hb9⟩
    go_wp2
    exact ⟨rfl, ⟨rfl, bthen hC hb9⟩, .inr hb9, .inr (.inl (by simp))⟩
  · intro vals u13 hC hF
    have hC := hC.resolve_left (by simp)
    have hsz := hC.size
    simp only [factsD, List.getD_cons_zero, List.getD_cons_succ, Fact.eq, Fact.row, Fact.lit, Fact.lit0, Fact.of, and_true, Fact.copyI, Fact.copyNt, Fact.boolC] at hF
    obtain ⟨e60, _⟩ := hF
    simp only [putsD, Act.put, List.setIfInBounds_toArray, List.set_cons_zero, List.set_cons_succ]
    simp only [e60]
    go_wp2
    exact ⟨rfl, ⟨rfl, hC⟩, .inr (Below.refl _ _), .inr (.inl (by simp))⟩
  · intro vals u13 hF
    simp only [facts, List.getD_cons_zero, List.getD_cons_succ, Fact.eq, Fact.row, Fact.lit, Fact.lit0, Fact.of, and_true, Fact.copyI, Fact.copyNt, Fact.boolC] at hF
    obtain ⟨e61, hb9⟩ := hF
    simp only [putsD, Act.put, List.setIfInBounds_toArray, List.set_cons_zero, List.set_cons_succ]
    simp only [e61]
    clear d0_0 d0_1 e61 g0 g1
    have hb := bthen hb hb9
    have hs := bthen hs hb9
    have Rw0a := Rw0a.cp_up hb9
    have Rw1a := Rw1a.cp_up hb9
    have BW0 := Lib.hid ((hb9.block _ (lt_of_block BW0.out)).trans BW0.out)
    have B0 := Lib.hid ((hb9.block _ (lt_of_block B0.out)).trans B0.out)
    have Rk0a := Rk0a.cp_up hb9
    have Rk2a := Rk2a.cp_up hb9
    have Rg0a := Rg0a.cp_up hb9
    have Rg1a := Rg1a.cp_up hb9
    have BG0 := Lib.hid ((hb9.block _ (lt_of_block BG0.out)).trans BG0.out)
    clear hb9
    go_wp2_with fail
    refine (toInts_u x2 Ap2a cp2a _ (Hp2a.up hb) SM2.out).mono ?_
    rintro e u14 ⟨Ay2a, cy2a, rfl, hcy2a, sy2a, hby2⟩
    have hb := bthen hb hby2
    have hs := bthen hs hby2
    have Rw0a := Rw0a.cp_up hby2
    have Rw1a := Rw1a.cp_up hby2
    have BW0 := Lib.hid ((hby2.block _ (lt_of_block BW0.out)).trans BW0.out)
    have B0 := Lib.hid ((hby2.block _ (lt_of_block B0.out)).trans B0.out)
    have Rk0a := Rk0a.cp_up hby2
    have Rk2a := Rk2a.cp_up hby2
    have Rg0a := Rg0a.cp_up hby2
    have Rg1a := Rg1a.cp_up hby2
    have BG0 := Lib.hid ((hby2.block _ (lt_of_block BG0.out)).trans BG0.out)
    clear hby2
    go_wp2_with fail
    refine (eqInts_u x2 Ak2a Ay2a ck2a cy2a _ Rk2a.cp_rd sy2a.own_rd SM2.out.1).mono ?_
    rintro e u15 ⟨rfl, hb9⟩
    clear sy2a
    have hb := bthen hb hb9
    have hs := bthen hs hb9
    have Rw0a := Rw0a.cp_up hb9
    have Rw1a := Rw1a.cp_up hb9
    have BW0 := Lib.hid ((hb9.block _ (lt_of_block BW0.out)).trans BW0.out)
    have B0 := Lib.hid ((hb9.block _ (lt_of_block B0.out)).trans B0.out)
    have Rk0a := Rk0a.cp_up hb9
    have Rk2a := Rk2a.cp_up hb9
    have Rg0a := Rg0a.cp_up hb9
    have Rg1a := Rg1a.cp_up hb9
    have BG0 := Lib.hid ((hb9.block _ (lt_of_block BG0.out)).trans BG0.out)
    clear hb9
    have kB0_0 : u15.cell? ⟨iB0, 0, none⟩ = some (.int .i64 x0.ins) := (cell_of_block B0.out 0).1
    have kB0_1 : u15.cell? ⟨iB0, 1, none⟩ = some (.slice Ak0a x0.gs.length ck0a) := (cell_of_block B0.out 1).1
    go_wp2_with fail
    clear kB0_0 kB0_1
    refine (markNet_u x0 Ak0a ck0a _ _ 1 _ Rk0a SM0.out.1 (by omega) (by omega)).mono ?_
    rintro e u16 ⟨rfl, hd, _⟩
    clear B0
    clear hs
    have Rw0a := Rw0a.cp_dab hd (by intro b h1 h2 h3; have := h3.1; have := h3.2; omega)
    have Rw1a := Rw1a.cp_dab hd (by intro b h1 h2 h3; have := h3.1; have := h3.2; omega)
    have BW0 := Lib.hid (box_dab BW0.out hd (by intro h3; have := h3.1; have := h3.2; omega))
    clear Rk0a
    have Rk2a := Rk2a.cp_dab hd (by intro b h1 h2 h3; have := h3.1; have := h3.2; omega)
    have Rg0a := Rg0a.cp_dab hd (by intro b h1 h2 h3; have := h3.1; have := h3.2; omega)
    have Rg1a := Rg1a.cp_dab hd (by intro b h1 h2 h3; have := h3.1; have := h3.2; omega)
    have BG0 := Lib.hid (box_dab BG0.out hd (by intro h3; have := h3.1; have := h3.2; omega))
    have hb := below_rng hb hd hb.size (by omega)
    clear hd
    obtain ⟨k9_1, hk9, hk9a, hk9b⟩ : ∃ k9 : Int, k9 = 1 + (3 * x0.gs.length : Nat) ∧ 0 ≤ k9 ∧ k9 ≤ 10000000 := ⟨_, rfl, by omega, by have := SM0.out.1; omega⟩
    rw [← hk9]
    clear hk9
    go_wp2_with fail
    refine (markInts_u x2 Ak2a ck2a _ _ k9_1 _ Rk2a SM2.out.1 (by omega) (by omega)).mono ?_
    rintro e u17 ⟨rfl, hd, _⟩
    have Rw0a := Rw0a.cp_dab hd (by intro b h1 h2 h3; have := h3.1; have := h3.2; omega)
    have Rw1a := Rw1a.cp_dab hd (by intro b h1 h2 h3; have := h3.1; have := h3.2; omega)
    have BW0 := Lib.hid (box_dab BW0.out hd (by intro h3; have := h3.1; have := h3.2; omega))
    clear Rk2a
    have Rg0a := Rg0a.cp_dab hd (by intro b h1 h2 h3; have := h3.1; have := h3.2; omega)
    have Rg1a := Rg1a.cp_dab hd (by intro b h1 h2 h3; have := h3.1; have := h3.2; omega)
    have BG0 := Lib.hid (box_dab BG0.out hd (by intro h3; have := h3.1; have := h3.2; omega))
    have hb := below_rng hb hd hb.size (by omega)
    clear hd
    obtain ⟨k9_2, hk9, hk9a, hk9b⟩ : ∃ k9 : Int, k9 = k9_1 + (x2.length : Nat) ∧ 0 ≤ k9 ∧ k9 ≤ 20000000 := ⟨_, rfl, by omega, by have := SM2.out.1; omega⟩
    rw [← hk9]
    clear hk9
    have kBG0_0 : u17.cell? ⟨iBG0, 0, none⟩ = some (.int .i64 r9.1.ins) := (cell_of_block BG0.out 0).1
    have kBG0_1 : u17.cell? ⟨iBG0, 1, none⟩ = some (.slice Ag0a r9.1.gs.length cg0a) := (cell_of_block BG0.out 1).1
    have kBW0_0 : u17.cell? ⟨iBW0, 0, none⟩ = some (.int .i64 r9.1.ins) := (cell_of_block BW0.out 0).1
    have kBW0_1 : u17.cell? ⟨iBW0, 1, none⟩ = some (.slice Aw0a r9.1.gs.length cw0a) := (cell_of_block BW0.out 1).1
    go_wp2_with fail
    clear kBG0_0 kBG0_1 kBW0_0 kBW0_1
    refine (eqNet_u r9.1 Ag0a Aw0a cg0a cw0a _ Rg0a.cp_rd Rw0a.cp_rd HRS0.out).mono ?_
    rintro e u18 ⟨rfl, hb9⟩
    have hb := bthen hb hb9
    have Rw0a := Rw0a.cp_up hb9
    have Rw1a := Rw1a.cp_up hb9
    have BW0 := Lib.hid ((hb9.block _ (lt_of_block BW0.out)).trans BW0.out)
    have Rg0a := Rg0a.cp_up hb9
    have Rg1a := Rg1a.cp_up hb9
    have BG0 := Lib.hid ((hb9.block _ (lt_of_block BG0.out)).trans BG0.out)
    clear hb9
    go_wp2_with fail
    refine (eqInts_u r9.2 Ag1a Aw1a cg1a cw1a _ Rg1a.cp_rd Rw1a.cp_rd HRS1.out).mono ?_
    rintro e u19 ⟨rfl, hb9⟩
    have hb := bthen hb hb9
    have Rw0a := Rw0a.cp_up hb9
    have Rw1a := Rw1a.cp_up hb9
    have BW0 := Lib.hid ((hb9.block _ (lt_of_block BW0.out)).trans BW0.out)
    have Rg0a := Rg0a.cp_up hb9
    have Rg1a := Rg1a.cp_up hb9
    have BG0 := Lib.hid ((hb9.block _ (lt_of_block BG0.out)).trans BG0.out)
    clear hb9
    have kBG0_0 : u19.cell? ⟨iBG0, 0, none⟩ = some (.int .i64 r9.1.ins) := (cell_of_block BG0.out 0).1
    have kBG0_1 : u19.cell? ⟨iBG0, 1, none⟩ = some (.slice Ag0a r9.1.gs.length cg0a) := (cell_of_block BG0.out 1).1
    go_wp2_with fail
    clear kBG0_0 kBG0_1
    refine (markNetA_u r9.1 Ag0a cg0a _ _ 1 _ Rg0a HRS0.out (by omega) (by omega)).mono ?_
    rintro e u20 ⟨rfl, hda, hd, RM0⟩
    have Rg1a := sl_beside flat_int Rg1a hda (fun h1 h2 a b ea eb => apg a b ea eb h1 h2)
    clear hda
    have Rw0a := Rw0a.cp_dab hd (by intro b h1 h2 h3; have := h3.1; have := h3.2; omega)
    have Rw1a := Rw1a.cp_dab hd (by intro b h1 h2 h3; have := h3.1; have := h3.2; omega)
    have BW0 := Lib.hid (box_dab BW0.out hd (by intro h3; have := h3.1; have := h3.2; omega))
    clear Rg0a
    have BG0 := Lib.hid (box_dab BG0.out hd (by intro h3; have := h3.1; have := h3.2; omega))
    have hb := below_rng hb hd hb.size (by omega)
    clear hd
    obtain ⟨m9_1, hm9, hm9a, hm9b⟩ : ∃ m9 : Int, m9 = 1 + (3 * r9.1.gs.length : Nat) ∧ 0 ≤ m9 ∧ m9 ≤ 10000000 := ⟨_, rfl, by omega, by have := HRS0.out; omega⟩
    rw [← hm9]
    have HM9_1 := Lib.hid hm9
    clear hm9
    go_wp2_with fail
    refine (markIntsA_u r9.2 Ag1a cg1a _ _ m9_1 _ Rg1a HRS1.out (by omega) (by omega)).mono ?_
    rintro e u21 ⟨rfl, hda, hd, RM1⟩
    have RM0 := sl_beside flat_gate RM0 hda (fun h1 h2 a b ea eb => (apg b a eb ea (by rw [marked_len] at h2; exact h2) h1).symm)
    clear hda
    have Rw0a := Rw0a.cp_dab hd (by intro b h1 h2 h3; have := h3.1; have := h3.2; omega)
    have Rw1a := Rw1a.cp_dab hd (by intro b h1 h2 h3; have := h3.1; have := h3.2; omega)
    have BW0 := Lib.hid (box_dab BW0.out hd (by intro h3; have := h3.1; have := h3.2; omega))
    clear Rg1a
    have BG0 := Lib.hid (box_dab BG0.out hd (by intro h3; have := h3.1; have := h3.2; omega))
    have hb := below_rng hb hd hb.size (by omega)
    clear hd
    obtain ⟨m9_2, hm9, hm9a, hm9b⟩ : ∃ m9 : Int, m9 = m9_1 + (r9.2.length : Nat) ∧ 0 ≤ m9 ∧ m9 ≤ 20000000 := ⟨_, rfl, by omega, by have := HRS1.out; omega⟩
    rw [← hm9]
    have HM9_2 := Lib.hid hm9
    clear hm9
    have hmm9 : (m9_2 != m9_2) = false := by simp
    have kBG0_0 : u21.cell? ⟨iBG0, 0, none⟩ = some (.int .i64 r9.1.ins) := (cell_of_block BG0.out 0).1
    have kBG0_1 : u21.cell? ⟨iBG0, 1, none⟩ = some (.slice Ag0a r9.1.gs.length cg0a) := (cell_of_block BG0.out 1).1
    go_wp2_with fail
    clear kBG0_0 kBG0_1
    refine (heldNet_u r9.1.gs.length Ag0a cg0a r9.1.ins 1 _ RM0.cp_rd HRS0.out (by omega) (by omega)).mono ?_
    rw [← HM9_1.out]
    rintro e u22 ⟨rfl, hb9⟩
    have hb := bthen hb hb9
    have Rw0a := Rw0a.cp_up hb9
    have Rw1a := Rw1a.cp_up hb9
    have BW0 := Lib.hid ((hb9.block _ (lt_of_block BW0.out)).trans BW0.out)
    have BG0 := Lib.hid ((hb9.block _ (lt_of_block BG0.out)).trans BG0.out)
    have RM0 := RM0.cp_up hb9
    have RM1 := RM1.cp_up hb9
    clear hb9
    go_wp2_with fail
    refine (heldInts_u r9.2.length Ag1a cg1a m9_1 _ RM1.cp_rd HRS1.out (by omega) (by omega)).mono ?_
    rw [← HM9_2.out]
    rintro e u23 ⟨rfl, hb9⟩
    have hb := bthen hb hb9
    have Rw0a := Rw0a.cp_up hb9
    have Rw1a := Rw1a.cp_up hb9
    have BW0 := Lib.hid ((hb9.block _ (lt_of_block BW0.out)).trans BW0.out)
    have BG0 := Lib.hid ((hb9.block _ (lt_of_block BG0.out)).trans BG0.out)
    have RM0 := RM0.cp_up hb9
    have RM1 := RM1.cp_up hb9
    clear hb9
    have s0_0 : u23.cell? ⟨W.heap.size, 0, none⟩ = some (.int .i64 x0.ins) := (hb.cell (p := ⟨W.heap.size, 0, none⟩) hSlt0).trans (cell_of_block HS0.out 0).1
    have s0_1 : u23.cell? ⟨W.heap.size, 1, none⟩ = some (.slice Ap0a x0.gs.length cp0a) := (hb.cell (p := ⟨W.heap.size, 1, none⟩) hSlt0).trans (cell_of_block HS0.out 1).1
    go_wp2_with fail
    clear s0_0 s0_1
    refine (toNet_u x0 Ap0a cp0a _ (Hp0a.up hb) SM0.out).mono ?_
    rintro e u24 ⟨Az0a, cz0a, rfl, hcz0a, sz0a, hbz0⟩
    have hb := bthen hb hbz0
    have Rw0a := Rw0a.cp_up hbz0
    have Rw1a := Rw1a.cp_up hbz0
    have BW0 := Lib.hid ((hbz0.block _ (lt_of_block BW0.out)).trans BW0.out)
    have BG0 := Lib.hid ((hbz0.block _ (lt_of_block BG0.out)).trans BG0.out)
    have RM0 := RM0.cp_up hbz0
    have RM1 := RM1.cp_up hbz0
    clear hbz0
    go_wp2_with fail
    refine (toInts_u x2 Ap2a cp2a _ (Hp2a.up hb) SM2.out).mono ?_
    rintro e u25 ⟨Az2a, cz2a, rfl, hcz2a, sz2a, hbz2⟩
    have hb := bthen hb hbz2
    have Rw0a := Rw0a.cp_up hbz2
    have Rw1a := Rw1a.cp_up hbz2
    have BW0 := Lib.hid ((hbz2.block _ (lt_of_block BW0.out)).trans BW0.out)
    have BG0 := Lib.hid ((hbz2.block _ (lt_of_block BG0.out)).trans BG0.out)
    have RM0 := RM0.cp_up hbz2
    have RM1 := RM1.cp_up hbz2
    have sz0a := sz0a.own_up hbz2
    clear hbz2
    go_wp2_with fail
    refine (implBitsUn_u a0 a1 W.heap.size x0 Az0a cz0a x1  x2 Az2a cz2a _ (sz0a.own_rd) hcz0a (sz2a.own_rd) hcz2a SM0.out OK1.out SM2.out (GLB.out.below (bthen HW0.out hb)) (Nat.le_trans HW0.out.size hb.size)).mono ?_
    rw [HR9.out]
    rintro e u26 ⟨Ah0a, Ah1a, ch0a, ch1a, rfl, hch0a, hch1a, sh0a, sh1a, hb9, aph⟩
    clear sz0a
    clear sz2a
    have hb := bthen hb hb9
    have Rw0a := Rw0a.cp_up hb9
    have Rw1a := Rw1a.cp_up hb9
    have BW0 := Lib.hid ((hb9.block _ (lt_of_block BW0.out)).trans BW0.out)
    have BG0 := Lib.hid ((hb9.block _ (lt_of_block BG0.out)).trans BG0.out)
    have RM0 := RM0.cp_up hb9
    have RM1 := RM1.cp_up hb9
    clear hb9
    have Rh0a := sh0a.cp_of
    clear sh0a
    have Rh1a := sh1a.cp_of
    clear sh1a
    have kBW0_0 : u26.cell? ⟨iBW0, 0, none⟩ = some (.int .i64 r9.1.ins) := (cell_of_block BW0.out 0).1
    have kBW0_1 : u26.cell? ⟨iBW0, 1, none⟩ = some (.slice Aw0a r9.1.gs.length cw0a) := (cell_of_block BW0.out 1).1
    have ltBW0 : iBW0 < u26.heap.size := lt_of_block BW0.out
    have hal : Below u26.heap.size u26 (u26.alloc (.cells #[.int .i64 r9.1.ins, .slice Ah0a r9.1.gs.length ch0a] 29)) := (Below.refl _ _).alloc (Nat.le_refl _) _
    have B9 : (u26.alloc (.cells #[.int .i64 r9.1.ins, .slice Ah0a r9.1.gs.length ch0a] 29)).heap[u26.heap.size]? = some (.cells #[.int .i64 r9.1.ins, .slice Ah0a r9.1.gs.length ch0a] 29 (0, 0)) := heap_alloc_new _ _
    have hb := bthen hb hal
    have Rw0a := Rw0a.cp_up hal
    have Rw1a := Rw1a.cp_up hal
    have BW0 := Lib.hid ((hal.block _ (lt_of_block BW0.out)).trans BW0.out)
    have BG0 := Lib.hid ((hal.block _ (lt_of_block BG0.out)).trans BG0.out)
    have RM0 := RM0.cp_up hal
    have RM1 := RM1.cp_up hal
    have Rh0a := Rh0a.cp_up hal
    have Rh1a := Rh1a.cp_up hal
    clear hal
    have BH0 := Lib.hid B9
    clear B9
    go_wp2_with fail
    clear kBW0_0 kBW0_1 ltBW0
    generalize hv9 : u26.alloc (.cells #[.int .i64 r9.1.ins, .slice Ah0a r9.1.gs.length ch0a] 29) = u27 at *
    clear hv9
    generalize hi9 : u26.heap.size = iBH0 at BH0 ⊢
    have ZBH0 := Nat.le_of_eq hi9
    clear hi9
    refine (eqNet_u r9.1 Ah0a Aw0a ch0a cw0a _ Rh0a.cp_rd Rw0a.cp_rd HRS0.out).mono ?_
    rintro e u28 ⟨rfl, hb9⟩
    have hb := bthen hb hb9
    have Rw0a := Rw0a.cp_up hb9
    have Rw1a := Rw1a.cp_up hb9
    have BW0 := Lib.hid ((hb9.block _ (lt_of_block BW0.out)).trans BW0.out)
    have BG0 := Lib.hid ((hb9.block _ (lt_of_block BG0.out)).trans BG0.out)
    have RM0 := RM0.cp_up hb9
    have RM1 := RM1.cp_up hb9
    have Rh0a := Rh0a.cp_up hb9
    have Rh1a := Rh1a.cp_up hb9
    have BH0 := Lib.hid ((hb9.block _ (lt_of_block BH0.out)).trans BH0.out)
    clear hb9
    go_wp2_with fail
    refine (eqInts_u r9.2 Ah1a Aw1a ch1a cw1a _ Rh1a.cp_rd Rw1a.cp_rd HRS1.out).mono ?_
    rintro e u29 ⟨rfl, hb9⟩
    have hb := bthen hb hb9
    have Rw0a := Rw0a.cp_up hb9
    have Rw1a := Rw1a.cp_up hb9
    have BW0 := Lib.hid ((hb9.block _ (lt_of_block BW0.out)).trans BW0.out)
    have BG0 := Lib.hid ((hb9.block _ (lt_of_block BG0.out)).trans BG0.out)
    have RM0 := RM0.cp_up hb9
    have RM1 := RM1.cp_up hb9
    have Rh0a := Rh0a.cp_up hb9
    have Rh1a := Rh1a.cp_up hb9
    have BH0 := Lib.hid ((hb9.block _ (lt_of_block BH0.out)).trans BH0.out)
    clear hb9
    have kBG0_0 : u29.cell? ⟨iBG0, 0, none⟩ = some (.int .i64 r9.1.ins) := (cell_of_block BG0.out 0).1
    have kBG0_1 : u29.cell? ⟨iBG0, 1, none⟩ = some (.slice Ag0a r9.1.gs.length cg0a) := (cell_of_block BG0.out 1).1
    go_wp2_with fail
    clear kBG0_0 kBG0_1
    refine (heldNet_u r9.1.gs.length Ag0a cg0a r9.1.ins 1 _ RM0.cp_rd HRS0.out (by omega) (by omega)).mono ?_
    rw [← HM9_1.out]
    rintro e u30 ⟨rfl, hb9⟩
    have hb := bthen hb hb9
    have Rw0a := Rw0a.cp_up hb9
    have Rw1a := Rw1a.cp_up hb9
    have BW0 := Lib.hid ((hb9.block _ (lt_of_block BW0.out)).trans BW0.out)
    have BG0 := Lib.hid ((hb9.block _ (lt_of_block BG0.out)).trans BG0.out)
    have RM0 := RM0.cp_up hb9
    have RM1 := RM1.cp_up hb9
    have Rh0a := Rh0a.cp_up hb9
    have Rh1a := Rh1a.cp_up hb9
    have BH0 := Lib.hid ((hb9.block _ (lt_of_block BH0.out)).trans BH0.out)
    clear hb9
    go_wp2_with fail
    refine (heldInts_u r9.2.length Ag1a cg1a m9_1 _ RM1.cp_rd HRS1.out (by omega) (by omega)).mono ?_
    rw [← HM9_2.out]
    rintro e u31 ⟨rfl, hb9⟩
    have hb := bthen hb hb9
    have Rw0a := Rw0a.cp_up hb9
    have Rw1a := Rw1a.cp_up hb9
    have BW0 := Lib.hid ((hb9.block _ (lt_of_block BW0.out)).trans BW0.out)
    have BG0 := Lib.hid ((hb9.block _ (lt_of_block BG0.out)).trans BG0.out)
    have RM0 := RM0.cp_up hb9
    have RM1 := RM1.cp_up hb9
    have Rh0a := Rh0a.cp_up hb9
    have Rh1a := Rh1a.cp_up hb9
    have BH0 := Lib.hid ((hb9.block _ (lt_of_block BH0.out)).trans BH0.out)
    clear hb9
    go_wp2
    go_ret
    exact ⟨rfl, bthen HW0.out hb⟩

set_option maxRecDepth 100000 in
theorem fnExactBitsUn_lifted (os : Os) (started : os.Started) (H : Type) (enc : TypeId × Value → H) :
    ReturnsInHanded {} Tryd.checked os 6 .any (fun w args => (Rows.fnExactBitsUnSpec.pre enc Tryd.prog Tryd.f6 [] false w args ∧ laidMetH Tryd.prog laid2 w) ∧ sizedMet enc Tryd.prog Tryd.f6 (OpenSpec.ofChange Rows.fnExactBitsUnSpec) false w args)
      (Rows.fnExactBitsUnSpec.post enc Tryd.prog Tryd.f6 false true false false) := by
  refine returnsInHanded_of_change_and (C := Tryd.checked) (X := fun w _ => laidMetH Tryd.prog laid2 w) (fun _ _ _ hh h => h.of_heap hh) dr_own started (by kernel_rfl) Tryd.func6
    (ChangeSpec.witness_shaped (enc := enc) (C := Tryd.checked) (os := os) (X := fun w _ => laidMetH Tryd.prog laid2 w) false (World.doorLaid Tryd.prog 400 os) #[.agg #[.int .i64 0, .slice none 0 0], .int .i64 0, .slice none 0 0] 16 rfl (World.shaped_of_RefB (by kernel_rfl) (by kernel_rfl)) (by kernel_rfl) (by kernel_rfl) (by kernel_rfl) (door_met os _)) ?_
  intro W base args ds gs before hval0 hW _ _ hL _
  have hval : ∀ (j : Nat) t v, Tryd.f6.params[j]? = some t → args[j]? = some v → Value.okWide Tryd.prog W .any base t v := hval0
  have hW' := hW
  obtain ⟨p, q, hA0, hV0, rfl, hfz, hnd⟩ := hW
  have hV : DataW.TrodVars enc Tryd.prog W (fun _ => true) ["loop.example/seedlip/impl.errBits", "loop.example/seedlip/impl.errRoom"] gs q := hV0
  obtain ⟨a0, a1, hglb, hv0, hv1⟩ := glb_of_laid hL
  have hA : DataW.TrodAll enc Tryd.prog W 0 (fun _ => true) true Tryd.f6.params.toList args.toList ds p := hA0
  rw [Tryd.params6] at hA hval
  obtain ⟨v0, vs0, d0, ds0, p0, q0, hargs, rfl, rfl, h0, r0⟩ := trodAll_cons hA
  obtain ⟨v1, vs1, d1, ds1, p1, q1, rfl, rfl, rfl, h1, r1⟩ := trodAll_cons r0
  obtain ⟨v2, vs2, d2, ds2, p2, q2, rfl, rfl, rfl, h2, r2⟩ := trodAll_cons r1
  obtain ⟨rfl, rfl, rfl⟩ := trodAll_nil r2
  obtain rfl : args = #[v0, v1, v2] := by cases args; simp_all
  obtain ⟨rfl, rfl⟩ := hV.unique (vars_read enc hv0 hv1 trivial trivial _)
  have k0 := h0
  have lt0 : ∀ x ∈ p0, x.block < W.heap.size := by obtain ⟨m, hm⟩ := k0; exact DataW.trod_lt m _ _ _ hm
  have k1 := h1
  have lt1 : ∀ x ∈ p1, x.block < W.heap.size := by obtain ⟨m, hm⟩ := k1; exact DataW.trod_lt m _ _ _ hm
  have k2 := h2
  have lt2 : ∀ x ∈ p2, x.block < W.heap.size := by obtain ⟨m, hm⟩ := k2; exact DataW.trod_lt m _ _ _ hm
  obtain ⟨A0, c0, x0, rfl, hc0, ok0, rd0⟩ := open_net (hval 0 24 v0 rfl rfl) h0
  obtain ⟨x1, rfl, rfl, rfl, wf1⟩ := open_int Tryd.underlying3 (hval 1 3 v1 rfl rfl) h1
  have ok1 : okInt x1 := by have := bounds_i64 wf1; unfold okInt; omega
  obtain ⟨A2, c2, x2, rfl, hc2, ok2, rd2⟩ := open_arg Tryd.underlying25 opens_ints (hval 2 25 v2 rfl rfl) h2
  clear hA0 hval0 hV0
  refine (fnExactBitsUn_walk W a0 a1 hglb hc0 ok0 rd0 ok1 hc2 ok2 rd2).mono fun e W' ⟨he, bel⟩ => ?_
  subst he
  exact ⟨_, rfl, _, _, _, [], _, [.cell 0 0, .cell 1 0], hW', trodAll_mk1 (shut_bool Tryd.underlying4 _), (trodAll_cons_mk (Below.trod (by kernel_rfl) (by kernel_rfl) (of_decide_eq_true (by kernel_rfl)) k0 bel lt0) (trodAll_cons_mk (Below.trod (by kernel_rfl) (by kernel_rfl) (of_decide_eq_true (by kernel_rfl)) k1 bel lt1) (trodAll_cons_mk (Below.trod (by kernel_rfl) (by kernel_rfl) (of_decide_eq_true (by kernel_rfl)) k2 bel lt2) trodAll_mk0))), vars_read enc (var_below dr_g0 hv0 bel) (var_below dr_g1 hv1 bel) trivial trivial _, bel.frame _, fun h => by cases h⟩

/-- The given row. -/
theorem fnExactBitsUn_row : Rows.FnExactBitsUnSaid :=
  OpenClaim.holds_of_wide 6 Tryd.f6 rfl rfl rfl rfl rfl rfl rfl ⟨rfl, rfl, rfl, rfl, rfl⟩ rfl rfl rfl rfl rfl (by kernel_rfl) Tryd.func6 (by kernel_rfl)
    (of_decide_eq_true (by kernel_rfl)) (by unfold Func.isWrapper; first | (rw [if_pos (by decide +kernel)]; kernel_rfl) | (rw [if_neg (by decide +kernel)]; exact ⟨rfl, rfl⟩))
    (fun os started H enc _ => fnExactBitsUn_lifted os started H enc)
/-- The given statement: the row, what it lists tied to the program's text. -/
theorem fnExactBitsUn_holds : Rows.FnExactBitsUnCardSaid :=
  Claim7.holds_tied_plain_at .later [] [.sentinel, .sentinel] true Rows.fnExactBitsUnCard.stood.harness Rows.fnExactBitsUnCard.stood.looks
    fnExactBitsUn_row (fun _ h => by cases h) (by kernel_rfl) (fun _ h => by cases h) fnExactBitsUn_row_tie rfl ⟨rfl, rfl⟩ (by kernel_rfl) rfl
    (fun f fn hf hfn => by
      obtain rfl : f = 6 := Option.some.inj ((show Tryd.prog.funcNamed "loop.example/seedlip/laws.FnExactBitsUn" = some 6 by kernel_rfl).symm.trans hf) |>.symm
      obtain rfl : fn = Tryd.f6 := (Option.some.inj (Tryd.func6.symm.trans hfn)).symm
      exact ⟨by kernel_rfl, fun j t ht => by
        rw [Tryd.params6] at ht
        have hm : t ∈ [24, 3, 25] := by simpa using Array.mem_of_getElem? ht
        have hall : ([24, 3, 25].all fun u => !Tryd.prog.wantsStandIn u) = true := by kernel_rfl
        exact (show Tryd.prog.wantsStandIn t = false by simpa using List.all_eq_true.1 hall t hm)⟩)
    (by kernel_rfl)
#print axioms fnExactBitsUn_holds
end Go.Proofs.YtjghcaghigebjaaDoor
