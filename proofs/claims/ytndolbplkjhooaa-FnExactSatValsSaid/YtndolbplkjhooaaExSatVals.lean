/- FnExactSatVals: the program's SatVals answers, for any formula and any search, what the reference's answers, in memory of its own. -/
import Derived.Test.YtndolbplkjhooaaTrail13
import Derived.Test.YtndolbplkjhooaaMarkB
import Derived.Test.YtndolbplkjhooaaRows
namespace Go.Proofs.Ytndolbplkjhooaa
open Go Go.RowKit Go.ChangeShapes Go.WideShapes Go.ChangeAt Go.Deep

set_option maxRecDepth 100000 in
set_option maxHeartbeats 4000000 in
theorem fnExactSatVals_walk (W : World) {Ap0a : Option Addr} {cp0a : Nat} {x0 : C} {Ap1a Ap1b Ap1c : Option Addr} {cp1a cp1b cp1c : Nat} {x1 : S} (_ : x0.list.length ≤ cp0a) (ok0 : okCIn x0) (hp0a : Lay.int.slice.Rd W Ap0a x0.list) (_ : x1.put.length ≤ cp1a) (_ : x1.why.length ≤ cp1b) (_ : x1.learned.length ≤ cp1c) (ok1 : okSIn x1) (hp1a : Lay.int.Rd W Ap1a x1.put) (hp1b : Lay.int.Rd W Ap1b x1.why) (hp1c : Lay.int.slice.Rd W Ap1c x1.learned) :
    Calls Try.prog 8 #[.agg #[.int .i64 x0.many, .slice Ap0a x0.list.length cp0a], .agg #[.slice Ap1a x1.put.length cp1a, .slice Ap1b x1.why.length cp1b, .slice Ap1c x1.learned.length cp1c, .int .i64 x1.code]] W (LawC W) := by
  have hW0 : Below W.heap.size W ((W.alloc (.cells #[.int .i64 x0.many, .slice Ap0a x0.list.length cp0a] 24)).alloc (.cells #[.slice Ap1a x1.put.length cp1a, .slice Ap1b x1.why.length cp1b, .slice Ap1c x1.learned.length cp1c, .int .i64 x1.code] 43)) := ((Below.refl _ _).alloc (by simp <;> omega) _).alloc (by simp <;> omega) _
  have hS0 : ((W.alloc (.cells #[.int .i64 x0.many, .slice Ap0a x0.list.length cp0a] 24)).alloc (.cells #[.slice Ap1a x1.put.length cp1a, .slice Ap1b x1.why.length cp1b, .slice Ap1c x1.learned.length cp1c, .int .i64 x1.code] 43)).heap[W.heap.size]? = some (.cells #[.int .i64 x0.many, .slice Ap0a x0.list.length cp0a] 24 (0, 0)) := by have h1 := heap_alloc_new W (.cells #[.int .i64 x0.many, .slice Ap0a x0.list.length cp0a] 24); exact (((Below.refl _ _).alloc (Nat.le_refl _) _).block _ (by simp)).trans (by simpa using h1)
  have hS1 : ((W.alloc (.cells #[.int .i64 x0.many, .slice Ap0a x0.list.length cp0a] 24)).alloc (.cells #[.slice Ap1a x1.put.length cp1a, .slice Ap1b x1.why.length cp1b, .slice Ap1c x1.learned.length cp1c, .int .i64 x1.code] 43)).heap[W.heap.size + 1]? = some (.cells #[.slice Ap1a x1.put.length cp1a, .slice Ap1b x1.why.length cp1b, .slice Ap1c x1.learned.length cp1c, .int .i64 x1.code] 43 (0, 0)) := by have := heap_alloc_new (W.alloc (.cells #[.int .i64 x0.many, .slice Ap0a x0.list.length cp0a] 24)) (.cells #[.slice Ap1a x1.put.length cp1a, .slice Ap1b x1.why.length cp1b, .slice Ap1c x1.learned.length cp1c, .int .i64 x1.code] 43); simpa using this
  have Hp0a := hp0a.up hW0
  have Hp1a := hp1a.up hW0
  have Hp1b := hp1b.up hW0
  have Hp1c := hp1c.up hW0
  clear hp0a hp1a hp1b hp1c
  have HS0 := Lib.hid hS0
  have hSlt0 := lt_of_block hS0
  clear hS0
  have HS1 := Lib.hid hS1
  have hSlt1 := lt_of_block hS1
  clear hS1
  have HW0 := Lib.hid hW0
  clear hW0
  have OK0 := Lib.hid ok0
  clear ok0
  have OK1 := Lib.hid ok1
  clear ok1
  go_enter Try.func8, Try.ntmps8
  go_wp2_with fail
  generalize (W.alloc (.cells #[.int .i64 x0.many, .slice Ap0a x0.list.length cp0a] 24)).alloc (.cells #[.slice Ap1a x1.put.length cp1a, .slice Ap1b x1.why.length cp1b, .slice Ap1c x1.learned.length cp1c, .int .i64 x1.code] 43) = W0 at *
  have hb : Below W0.heap.size W0 W0 := Below.refl _ _
  refine (szCnf_u x0 Ap0a cp0a 1048576 _ (Hp0a.up hb) OK0.out (by omega) (by omega)).mono ?_
  rintro e u1 ⟨rfl, hbu1⟩
  have hb := bthen hb hbu1
  clear hbu1
  by_cases hbig0 : (1048576 : Int) < (wtC x0 : Nat)
  · have HSZ := Lib.hid (szRes_lt hbig0)
    clear hbig0
    rw [HSZ.out]
    go_wp2
    go_ret
    exact ⟨rfl, bthen HW0.out hb⟩
  have SM0 : Hid (smCnf x0) := Lib.hid (smCnf_of OK0.out (by omega))
  have HSZ0 := Lib.hid (szRes_ge hbig0)
  rw [HSZ0.out]
  obtain ⟨left0, hl0⟩ : ∃ l : Int, l = (1048576 - (wtC x0 : Nat)) := ⟨_, rfl⟩
  rw [← hl0]
  have hln0 : 0 ≤ left0 := by omega
  have hlm0 : left0 ≤ 1048576 := by omega
  clear hbig0 hl0
  have s1_0 : u1.cell? ⟨W.heap.size + 1, 0, none⟩ = some (.slice Ap1a x1.put.length cp1a) := (hb.cell (p := ⟨W.heap.size + 1, 0, none⟩) hSlt1).trans (cell_of_block HS1.out 0).1
  have s1_1 : u1.cell? ⟨W.heap.size + 1, 1, none⟩ = some (.slice Ap1b x1.why.length cp1b) := (hb.cell (p := ⟨W.heap.size + 1, 1, none⟩) hSlt1).trans (cell_of_block HS1.out 1).1
  have s1_2 : u1.cell? ⟨W.heap.size + 1, 2, none⟩ = some (.slice Ap1c x1.learned.length cp1c) := (hb.cell (p := ⟨W.heap.size + 1, 2, none⟩) hSlt1).trans (cell_of_block HS1.out 2).1
  have s1_3 : u1.cell? ⟨W.heap.size + 1, 3, none⟩ = some (.int .i64 x1.code) := (hb.cell (p := ⟨W.heap.size + 1, 3, none⟩) hSlt1).trans (cell_of_block HS1.out 3).1
  go_wp2_with fail
  clear s1_0 s1_1 s1_2 s1_3
  refine (szSat_u x1 Ap1a Ap1b Ap1c cp1a cp1b cp1c left0 _ (Hp1a.up hb) (Hp1b.up hb) (Hp1c.up hb) OK1.out (by omega) (by omega)).mono ?_
  rintro e u2 ⟨rfl, hbu2⟩
  have hb := bthen hb hbu2
  clear hbu2
  by_cases hbig1 : (left0 : Int) < (wtS x1 : Nat)
  · have HSZ := Lib.hid (szRes_lt hbig1)
    clear hbig1
    rw [HSZ.out]
    go_wp2
    go_ret
    exact ⟨rfl, bthen HW0.out hb⟩
  have SM1 : Hid (smSat x1) := Lib.hid (smSat_of OK1.out (by omega))
  have HSZ1 := Lib.hid (szRes_ge hbig1)
  rw [HSZ1.out]
  have hln9 : (0 : Int) ≤ (left0 - (wtS x1 : Nat)) := by omega
  clear hbig1
  generalize hr9 : satVals x0 x1 = r9 at *
  have HR9 := Lib.hid hr9
  clear hr9
  have HRS0 := Lib.hid (show r9.length ≤ 1048576 by rw [← HR9.out]; exact satVals_len _ _ SM0.out.1)
  have s0_0 : u2.cell? ⟨W.heap.size, 0, none⟩ = some (.int .i64 x0.many) := (hb.cell (p := ⟨W.heap.size, 0, none⟩) hSlt0).trans (cell_of_block HS0.out 0).1
  have s0_1 : u2.cell? ⟨W.heap.size, 1, none⟩ = some (.slice Ap0a x0.list.length cp0a) := (hb.cell (p := ⟨W.heap.size, 1, none⟩) hSlt0).trans (cell_of_block HS0.out 1).1
  have d0_0 := Later.cell s0_0
  have d0_1 := Later.cell s0_1
  have s1_0 : u2.cell? ⟨W.heap.size + 1, 0, none⟩ = some (.slice Ap1a x1.put.length cp1a) := (hb.cell (p := ⟨W.heap.size + 1, 0, none⟩) hSlt1).trans (cell_of_block HS1.out 0).1
  have s1_1 : u2.cell? ⟨W.heap.size + 1, 1, none⟩ = some (.slice Ap1b x1.why.length cp1b) := (hb.cell (p := ⟨W.heap.size + 1, 1, none⟩) hSlt1).trans (cell_of_block HS1.out 1).1
  have s1_2 : u2.cell? ⟨W.heap.size + 1, 2, none⟩ = some (.slice Ap1c x1.learned.length cp1c) := (hb.cell (p := ⟨W.heap.size + 1, 2, none⟩) hSlt1).trans (cell_of_block HS1.out 2).1
  have s1_3 : u2.cell? ⟨W.heap.size + 1, 3, none⟩ = some (.int .i64 x1.code) := (hb.cell (p := ⟨W.heap.size + 1, 3, none⟩) hSlt1).trans (cell_of_block HS1.out 3).1
  have d1_0 := Later.cell s1_0
  have d1_1 := Later.cell s1_1
  have d1_2 := Later.cell s1_2
  have d1_3 := Later.cell s1_3
  go_wp2
  clear s0_0 s0_1
  clear s1_0 s1_1 s1_2 s1_3
  refine wp_region_shares [[], [(0, 24)], [], [(2, 26)], [(1, 25), (3, 27)], [(4, 28)]]
    [.eq (.agg #[.int .i64 x0.many, .slice Ap0a x0.list.length cp0a]), Fact.copyC x0, .eq (.agg #[.slice Ap1a x1.put.length cp1a, .slice Ap1b x1.why.length cp1b, .slice Ap1c x1.learned.length cp1c, .int .i64 x1.code]), Fact.copyS x1, Fact.resB u2 r9, Fact.resB u2 r9]
    [] [] [] [5] [(0, 24), (1, 25), (2, 26), (3, 27), (4, 28), (5, 6)] (by kernel_rfl) (by kernel_rfl) (by kernel_rfl) (by kernel_rfl)
    ⟨?_, ?_, ?_, ?_, ?_, ?_, trivial⟩ ?_
  · intro vals u3 hC hF
    have hC := hC.resolve_left (by simp)
    have hsz := hC.size
    have e1 : u3.cell? _ = _ := d0_0 ⟨u3, hC⟩
    have e2 : u3.cell? _ = _ := d0_1 ⟨u3, hC⟩
    simp only [putsD, Act.put, List.setIfInBounds_toArray, List.set_cons_zero, List.set_cons_succ]
    go_wp2
    exact ⟨rfl, rfl, .inr (Below.refl _ _), .inr (.inl (by simp))⟩
  · intro vals u3 hC hF
    have hC := hC.resolve_left (by simp)
    have hsz := hC.size
    simp only [factsD, List.getD_cons_zero, List.getD_cons_succ, Fact.eq, Fact.row, Fact.lit, Fact.lit0, Fact.of, and_true, Fact.copyI, Fact.copyC, Fact.copyS, Fact.boolC, Fact.resB] at hF
    simp only [putsD, Act.put, List.setIfInBounds_toArray, List.set_cons_zero, List.set_cons_succ]
    simp only [hF]
    go_wp2_with fail
    refine (toCnf_u x0 Ap0a cp0a _ (Hp0a.up (bthen hb hC)) SM0.out).mono ?_
    rintro e wx ⟨Aq0a, cq0a, rfl, hcq0a, sq0a, hbq0⟩
    have Rq0a := sq0a.own_rd
    go_wp2
    exact ⟨rfl, ⟨Aq0a, cq0a, rfl, hcq0a, Rq0a⟩, .inr hbq0, .inr (.inl (by simp))⟩
  · intro vals u3 hC hF
    have hC := hC.resolve_left (by simp)
    have hsz := hC.size
    have e1 : u3.cell? _ = _ := d1_0 ⟨u3, hC⟩
    have e2 : u3.cell? _ = _ := d1_1 ⟨u3, hC⟩
    have e3 : u3.cell? _ = _ := d1_2 ⟨u3, hC⟩
    have e4 : u3.cell? _ = _ := d1_3 ⟨u3, hC⟩
    simp only [putsD, Act.put, List.setIfInBounds_toArray, List.set_cons_zero, List.set_cons_succ]
    go_wp2
    exact ⟨rfl, rfl, .inr (Below.refl _ _), .inr (.inl (by simp))⟩
  · intro vals u3 hC hF
    have hC := hC.resolve_left (by simp)
    have hsz := hC.size
    simp only [factsD, List.getD_cons_zero, List.getD_cons_succ, Fact.eq, Fact.row, Fact.lit, Fact.lit0, Fact.of, and_true, Fact.copyI, Fact.copyC, Fact.copyS, Fact.boolC, Fact.resB] at hF
    simp only [putsD, Act.put, List.setIfInBounds_toArray, List.set_cons_zero, List.set_cons_succ]
    simp only [hF]
    go_wp2_with fail
    refine (toSat_u x1 Ap1a Ap1b Ap1c cp1a cp1b cp1c _ (Hp1a.up (bthen hb hC)) (Hp1b.up (bthen hb hC)) (Hp1c.up (bthen hb hC)) SM1.out).mono ?_
    rintro e wx ⟨Aq1a, Aq1b, Aq1c, cq1a, cq1b, cq1c, rfl, hcq1a, hcq1b, hcq1c, sq1a, sq1b, sq1c, hbq1⟩
    have Rq1a := sq1a.own_rd
    have Rq1b := sq1b.own_rd
    have Rq1c := sq1c.own_rd
    go_wp2
    exact ⟨rfl, ⟨Aq1a, Aq1b, Aq1c, cq1a, cq1b, cq1c, rfl, hcq1a, hcq1b, hcq1c, Rq1a, Rq1b, Rq1c⟩, .inr hbq1, .inr (.inl (by simp))⟩
  · intro vals u3 hC hF
    have hC := hC.resolve_left (by simp)
    have hsz := hC.size
    simp only [factsD, List.getD_cons_zero, List.getD_cons_succ, Fact.eq, Fact.row, Fact.lit, Fact.lit0, Fact.of, and_true, Fact.copyI, Fact.copyC, Fact.copyS, Fact.boolC, Fact.resB] at hF
    obtain ⟨⟨Aq0a, cq0a, e25, hcq0a, Rq0a⟩, ⟨Aq1a, Aq1b, Aq1c, cq1a, cq1b, cq1c, e27, hcq1a, hcq1b, hcq1c, Rq1a, Rq1b, Rq1c⟩⟩ := hF
    simp only [putsD, Act.put, List.setIfInBounds_toArray, List.set_cons_zero, List.set_cons_succ]
    simp only [e25, e27]
    go_wp2_with fail
    refine (specSatVals_u x0 Aq0a cq0a x1 Aq1a Aq1b Aq1c cq1a cq1b cq1c u3 Rq0a hcq0a Rq1a Rq1b Rq1c hcq1a hcq1b hcq1c SM0.out SM1.out).mono ?_
    rw [HR9.out]
    rintro e wx ⟨Aw0a, cw0a, rfl, hcw0a, sw0a, hb9⟩
    go_wp2
    exact ⟨rfl, ⟨Aw0a, cw0a, rfl, hcw0a, sw0a.own_mono hsz, bthen hC hb9⟩, .inr hb9, .inr (.inl (by simp))⟩
  · intro vals u3 hC hF
    have hC := hC.resolve_left (by simp)
    have hsz := hC.size
    simp only [factsD, List.getD_cons_zero, List.getD_cons_succ, Fact.eq, Fact.row, Fact.lit, Fact.lit0, Fact.of, and_true, Fact.copyI, Fact.copyC, Fact.copyS, Fact.boolC, Fact.resB] at hF
    obtain ⟨Aw0a, cw0a, e28, hcw0a, sw0a, hb9⟩ := hF
    simp only [putsD, Act.put, List.setIfInBounds_toArray, List.set_cons_zero, List.set_cons_succ]
    simp only [e28]
    go_wp2
    exact ⟨rfl, ⟨Aw0a, cw0a, rfl, hcw0a, sw0a, hb9⟩, .inr (Below.refl _ _), .inr (.inl (by simp))⟩
  · intro vals u3 hF
    simp only [facts, List.getD_cons_zero, List.getD_cons_succ, Fact.eq, Fact.row, Fact.lit, Fact.lit0, Fact.of, and_true, Fact.copyI, Fact.copyC, Fact.copyS, Fact.boolC, Fact.resB] at hF
    obtain ⟨Aw0a, cw0a, e6, hcw0a, sw0a, hb9⟩ := hF
    simp only [putsD, Act.put, List.setIfInBounds_toArray, List.set_cons_zero, List.set_cons_succ]
    simp only [e6]
    clear d0_0 d0_1 d1_0 d1_1 d1_2 d1_3 e6
    have hb := bthen hb hb9
    clear hb9
    have Rw0a := sw0a.cp_of
    clear sw0a
    have s0_0 : u3.cell? ⟨W.heap.size, 0, none⟩ = some (.int .i64 x0.many) := (hb.cell (p := ⟨W.heap.size, 0, none⟩) hSlt0).trans (cell_of_block HS0.out 0).1
    have s0_1 : u3.cell? ⟨W.heap.size, 1, none⟩ = some (.slice Ap0a x0.list.length cp0a) := (hb.cell (p := ⟨W.heap.size, 1, none⟩) hSlt0).trans (cell_of_block HS0.out 1).1
    go_wp2_with fail
    clear s0_0 s0_1
    have z0 : W0.heap.size ≤ u3.heap.size := hb.size
    have hs : Below u3.heap.size u3 u3 := Below.refl _ _
    refine (toCnf_u x0 Ap0a cp0a _ (Hp0a.up hb) SM0.out).mono ?_
    rintro e u4 ⟨Ak0a, ck0a, rfl, hck0a, sk0a, hbk0⟩
    have hb := bthen hb hbk0
    have hs := bthen hs hbk0
    have Rw0a := Rw0a.cp_up hbk0
    clear hbk0
    have s1_0 : u4.cell? ⟨W.heap.size + 1, 0, none⟩ = some (.slice Ap1a x1.put.length cp1a) := (hb.cell (p := ⟨W.heap.size + 1, 0, none⟩) hSlt1).trans (cell_of_block HS1.out 0).1
    have s1_1 : u4.cell? ⟨W.heap.size + 1, 1, none⟩ = some (.slice Ap1b x1.why.length cp1b) := (hb.cell (p := ⟨W.heap.size + 1, 1, none⟩) hSlt1).trans (cell_of_block HS1.out 1).1
    have s1_2 : u4.cell? ⟨W.heap.size + 1, 2, none⟩ = some (.slice Ap1c x1.learned.length cp1c) := (hb.cell (p := ⟨W.heap.size + 1, 2, none⟩) hSlt1).trans (cell_of_block HS1.out 2).1
    have s1_3 : u4.cell? ⟨W.heap.size + 1, 3, none⟩ = some (.int .i64 x1.code) := (hb.cell (p := ⟨W.heap.size + 1, 3, none⟩) hSlt1).trans (cell_of_block HS1.out 3).1
    have lt1 : W.heap.size + 1 < u4.heap.size := Nat.lt_of_lt_of_le hSlt1 hb.size
    have hal : Below u4.heap.size u4 (u4.alloc (.cells #[.int .i64 x0.many, .slice Ak0a x0.list.length ck0a] 28)) := (Below.refl _ _).alloc (Nat.le_refl _) _
    have B9 : (u4.alloc (.cells #[.int .i64 x0.many, .slice Ak0a x0.list.length ck0a] 28)).heap[u4.heap.size]? = some (.cells #[.int .i64 x0.many, .slice Ak0a x0.list.length ck0a] 28 (0, 0)) := heap_alloc_new _ _
    have ZB0 : u3.heap.size ≤ u4.heap.size := hs.size
    have hb := bthen hb hal
    have hs := bthen hs hal
    have Rw0a := Rw0a.cp_up hal
    have sk0a := sk0a.own_up hal
    clear hal
    have B0 := Lib.hid B9
    clear B9
    go_wp2_with fail
    clear s1_0 s1_1 s1_2 s1_3 lt1
    generalize u4.alloc (.cells #[.int .i64 x0.many, .slice Ak0a x0.list.length ck0a] 28) = u5 at *
    generalize u4.heap.size = iB0 at *
    have Rk0a := sk0a.cp_of
    clear sk0a
    have z1 : u3.heap.size ≤ u5.heap.size := hs.size
    clear hs
    have hs : Below u5.heap.size u5 u5 := Below.refl _ _
    refine (toSat_u x1 Ap1a Ap1b Ap1c cp1a cp1b cp1c _ (Hp1a.up hb) (Hp1b.up hb) (Hp1c.up hb) SM1.out).mono ?_
    rintro e u6 ⟨Ak1a, Ak1b, Ak1c, ck1a, ck1b, ck1c, rfl, hck1a, hck1b, hck1c, sk1a, sk1b, sk1c, hbk1⟩
    have hb := bthen hb hbk1
    have hs := bthen hs hbk1
    have Rw0a := Rw0a.cp_up hbk1
    have B0 := Lib.hid ((hbk1.block _ (lt_of_block B0.out)).trans B0.out)
    have Rk0a := Rk0a.cp_up hbk1
    clear hbk1
    have kB0_0 : u6.cell? ⟨iB0, 0, none⟩ = some (.int .i64 x0.many) := (cell_of_block B0.out 0).1
    have kB0_1 : u6.cell? ⟨iB0, 1, none⟩ = some (.slice Ak0a x0.list.length ck0a) := (cell_of_block B0.out 1).1
    have ltB0 : iB0 < u6.heap.size := lt_of_block B0.out
    have hal : Below u6.heap.size u6 (u6.alloc (.cells #[.slice Ak1a x1.put.length ck1a, .slice Ak1b x1.why.length ck1b, .slice Ak1c x1.learned.length ck1c, .int .i64 x1.code] 46)) := (Below.refl _ _).alloc (Nat.le_refl _) _
    have B9 : (u6.alloc (.cells #[.slice Ak1a x1.put.length ck1a, .slice Ak1b x1.why.length ck1b, .slice Ak1c x1.learned.length ck1c, .int .i64 x1.code] 46)).heap[u6.heap.size]? = some (.cells #[.slice Ak1a x1.put.length ck1a, .slice Ak1b x1.why.length ck1b, .slice Ak1c x1.learned.length ck1c, .int .i64 x1.code] 46 (0, 0)) := heap_alloc_new _ _
    have ZB1 : u5.heap.size ≤ u6.heap.size := hs.size
    have hb := bthen hb hal
    have hs := bthen hs hal
    have Rw0a := Rw0a.cp_up hal
    have B0 := Lib.hid ((hal.block _ (lt_of_block B0.out)).trans B0.out)
    have Rk0a := Rk0a.cp_up hal
    have sk1a := sk1a.own_up hal
    have sk1b := sk1b.own_up hal
    have sk1c := sk1c.own_up hal
    clear hal
    have B1 := Lib.hid B9
    clear B9
    go_wp2_with fail
    clear kB0_0 kB0_1 ltB0
    generalize u6.alloc (.cells #[.slice Ak1a x1.put.length ck1a, .slice Ak1b x1.why.length ck1b, .slice Ak1c x1.learned.length ck1c, .int .i64 x1.code] 46) = u7 at *
    generalize u6.heap.size = iB1 at *
    have Rk1a := sk1a.cp_of
    clear sk1a
    have Rk1b := sk1b.cp_of
    clear sk1b
    have Rk1c := sk1c.cp_of
    clear sk1c
    have z2 : u5.heap.size ≤ u7.heap.size := hs.size
    clear hs
    have hs : Below u7.heap.size u7 u7 := Below.refl _ _
    refine (implSatVals_u x0 Ak0a ck0a x1 Ak1a Ak1b Ak1c ck1a ck1b ck1c _ (Rk0a.cp_rd) hck0a (Rk1a.cp_rd) (Rk1b.cp_rd) (Rk1c.cp_rd) hck1a hck1b hck1c SM0.out SM1.out).mono ?_
    rw [HR9.out]
    rintro e u8 ⟨Ag0a, cg0a, rfl, hcg0a, sg0a, hb9⟩
    have hb := bthen hb hb9
    have hs := bthen hs hb9
    have Rw0a := Rw0a.cp_up hb9
    have B0 := Lib.hid ((hb9.block _ (lt_of_block B0.out)).trans B0.out)
    have Rk0a := Rk0a.cp_up hb9
    have B1 := Lib.hid ((hb9.block _ (lt_of_block B1.out)).trans B1.out)
    have Rk1a := Rk1a.cp_up hb9
    have Rk1b := Rk1b.cp_up hb9
    have Rk1c := Rk1c.cp_up hb9
    clear hb9
    have Rg0a := sg0a.cp_of
    clear sg0a
    have z3 : u7.heap.size ≤ u8.heap.size := hs.size
    clear hs
    have hs : Below u8.heap.size u8 u8 := Below.refl _ _
    go_wp2_with fail
    refine (eqBools_u r9 Ag0a Aw0a cg0a cw0a _ Rg0a.cp_rd Rw0a.cp_rd HRS0.out).mono ?_
    rintro e u9 ⟨rfl, hb9⟩
    have hb := bthen hb hb9
    have hs := bthen hs hb9
    have Rw0a := Rw0a.cp_up hb9
    have B0 := Lib.hid ((hb9.block _ (lt_of_block B0.out)).trans B0.out)
    have Rk0a := Rk0a.cp_up hb9
    have B1 := Lib.hid ((hb9.block _ (lt_of_block B1.out)).trans B1.out)
    have Rk1a := Rk1a.cp_up hb9
    have Rk1b := Rk1b.cp_up hb9
    have Rk1c := Rk1c.cp_up hb9
    have Rg0a := Rg0a.cp_up hb9
    clear hb9
    have s0_0 : u9.cell? ⟨W.heap.size, 0, none⟩ = some (.int .i64 x0.many) := (hb.cell (p := ⟨W.heap.size, 0, none⟩) hSlt0).trans (cell_of_block HS0.out 0).1
    have s0_1 : u9.cell? ⟨W.heap.size, 1, none⟩ = some (.slice Ap0a x0.list.length cp0a) := (hb.cell (p := ⟨W.heap.size, 1, none⟩) hSlt0).trans (cell_of_block HS0.out 1).1
    have d0_0 := Later.cell s0_0
    have d0_1 := Later.cell s0_1
    have k0 : u9.cell? ⟨iB0, 0, none⟩ = some (.int .i64 x0.many) := (cell_of_block B0.out 0).1
    have k1 : u9.cell? ⟨iB0, 1, none⟩ = some (.slice Ak0a x0.list.length ck0a) := (cell_of_block B0.out 1).1
    have g0 := Later.cell k0
    have g1 := Later.cell k1
    go_wp2
    clear s0_0 s0_1
    clear k0 k1
    refine wp_region_shares [[], [], [(1, 41)], [(0, 40), (2, 42)], [(3, 43)]]
      [.eq (.agg #[.int .i64 x0.many, .slice Ak0a x0.list.length ck0a]), .eq (.agg #[.int .i64 x0.many, .slice Ap0a x0.list.length cp0a]), Fact.copyC x0, Fact.boolC u9 true, Fact.boolC u9 false]
      [] [] [] [4] [(0, 40), (1, 41), (2, 42), (3, 43), (4, 44)] (by kernel_rfl) (by kernel_rfl) (by kernel_rfl) (by kernel_rfl)
      ⟨?_, ?_, ?_, ?_, ?_, trivial⟩ ?_
    · intro vals u10 hC hF
      have hC := hC.resolve_left (by simp)
      have hsz := hC.size
      have e1 : u10.cell? _ = _ := g0 ⟨u10, hC⟩
      have e2 : u10.cell? _ = _ := g1 ⟨u10, hC⟩
      simp only [putsD, Act.put, List.setIfInBounds_toArray, List.set_cons_zero, List.set_cons_succ]
      go_wp2
      exact ⟨rfl, rfl, .inr (Below.refl _ _), .inr (.inl (by simp))⟩
    · intro vals u10 hC hF
      have hC := hC.resolve_left (by simp)
      have hsz := hC.size
      have e1 : u10.cell? _ = _ := d0_0 ⟨u10, hC⟩
      have e2 : u10.cell? _ = _ := d0_1 ⟨u10, hC⟩
      simp only [putsD, Act.put, List.setIfInBounds_toArray, List.set_cons_zero, List.set_cons_succ]
      go_wp2
      exact ⟨rfl, rfl, .inr (Below.refl _ _), .inr (.inl (by simp))⟩
    · intro vals u10 hC hF
      have hC := hC.resolve_left (by simp)
      have hsz := hC.size
      simp only [factsD, List.getD_cons_zero, List.getD_cons_succ, Fact.eq, Fact.row, Fact.lit, Fact.lit0, Fact.of, and_true, Fact.copyI, Fact.copyC, Fact.copyS, Fact.boolC, Fact.resB] at hF
      simp only [putsD, Act.put, List.setIfInBounds_toArray, List.set_cons_zero, List.set_cons_succ]
      simp only [hF]
      go_wp2_with fail
      refine (toCnf_u x0 Ap0a cp0a _ (Hp0a.up (bthen hb hC)) SM0.out).mono ?_
      rintro e wx ⟨Aq0a, cq0a, rfl, hcq0a, sq0a, hbq0⟩
      have Rq0a := sq0a.own_rd
      go_wp2
      exact ⟨rfl, ⟨Aq0a, cq0a, rfl, hcq0a, Rq0a⟩, .inr hbq0, .inr (.inl (by simp))⟩
    · intro vals u10 hC hF
      have hC := hC.resolve_left (by simp)
      have hsz := hC.size
      simp only [factsD, List.getD_cons_zero, List.getD_cons_succ, Fact.eq, Fact.row, Fact.lit, Fact.lit0, Fact.of, and_true, Fact.copyI, Fact.copyC, Fact.copyS, Fact.boolC, Fact.resB] at hF
      obtain ⟨e40, Aq0a, cq0a, e42, hcq0a, Rq0a⟩ := hF
      simp only [putsD, Act.put, List.setIfInBounds_toArray, List.set_cons_zero, List.set_cons_succ]
      simp only [e40, e42]
      go_wp2_with fail
      refine (eqCnf_u x0 Ak0a Aq0a ck0a cq0a _ (Rk0a.cp_rd.up hC) Rq0a SM0.out).mono ?_
      rintro e wx ⟨rfl, hb9⟩
      go_wp2
      exact ⟨rfl, ⟨rfl, bthen hC hb9⟩, .inr hb9, .inr (.inl (by simp))⟩
    · intro vals u10 hC hF
      have hC := hC.resolve_left (by simp)
      have hsz := hC.size
      simp only [factsD, List.getD_cons_zero, List.getD_cons_succ, Fact.eq, Fact.row, Fact.lit, Fact.lit0, Fact.of, and_true, Fact.copyI, Fact.copyC, Fact.copyS, Fact.boolC, Fact.resB] at hF
      obtain ⟨e43, _⟩ := hF
      simp only [putsD, Act.put, List.setIfInBounds_toArray, List.set_cons_zero, List.set_cons_succ]
      simp only [e43]
      go_wp2
      exact ⟨rfl, ⟨rfl, hC⟩, .inr (Below.refl _ _), .inr (.inl (by simp))⟩
    · intro vals u10 hF
      simp only [facts, List.getD_cons_zero, List.getD_cons_succ, Fact.eq, Fact.row, Fact.lit, Fact.lit0, Fact.of, and_true, Fact.copyI, Fact.copyC, Fact.copyS, Fact.boolC, Fact.resB] at hF
      obtain ⟨e44, hb9⟩ := hF
      simp only [putsD, Act.put, List.setIfInBounds_toArray, List.set_cons_zero, List.set_cons_succ]
      simp only [e44]
      clear d0_0 d0_1 e44 g0 g1
      have hb := bthen hb hb9
      have hs := bthen hs hb9
      have Rw0a := Rw0a.cp_up hb9
      have B0 := Lib.hid ((hb9.block _ (lt_of_block B0.out)).trans B0.out)
      have Rk0a := Rk0a.cp_up hb9
      have B1 := Lib.hid ((hb9.block _ (lt_of_block B1.out)).trans B1.out)
      have Rk1a := Rk1a.cp_up hb9
      have Rk1b := Rk1b.cp_up hb9
      have Rk1c := Rk1c.cp_up hb9
      have Rg0a := Rg0a.cp_up hb9
      clear hb9
      have s1_0 : u10.cell? ⟨W.heap.size + 1, 0, none⟩ = some (.slice Ap1a x1.put.length cp1a) := (hb.cell (p := ⟨W.heap.size + 1, 0, none⟩) hSlt1).trans (cell_of_block HS1.out 0).1
      have s1_1 : u10.cell? ⟨W.heap.size + 1, 1, none⟩ = some (.slice Ap1b x1.why.length cp1b) := (hb.cell (p := ⟨W.heap.size + 1, 1, none⟩) hSlt1).trans (cell_of_block HS1.out 1).1
      have s1_2 : u10.cell? ⟨W.heap.size + 1, 2, none⟩ = some (.slice Ap1c x1.learned.length cp1c) := (hb.cell (p := ⟨W.heap.size + 1, 2, none⟩) hSlt1).trans (cell_of_block HS1.out 2).1
      have s1_3 : u10.cell? ⟨W.heap.size + 1, 3, none⟩ = some (.int .i64 x1.code) := (hb.cell (p := ⟨W.heap.size + 1, 3, none⟩) hSlt1).trans (cell_of_block HS1.out 3).1
      have d1_0 := Later.cell s1_0
      have d1_1 := Later.cell s1_1
      have d1_2 := Later.cell s1_2
      have d1_3 := Later.cell s1_3
      have k0 : u10.cell? ⟨iB1, 0, none⟩ = some (.slice Ak1a x1.put.length ck1a) := (cell_of_block B1.out 0).1
      have k1 : u10.cell? ⟨iB1, 1, none⟩ = some (.slice Ak1b x1.why.length ck1b) := (cell_of_block B1.out 1).1
      have k2 : u10.cell? ⟨iB1, 2, none⟩ = some (.slice Ak1c x1.learned.length ck1c) := (cell_of_block B1.out 2).1
      have k3 : u10.cell? ⟨iB1, 3, none⟩ = some (.int .i64 x1.code) := (cell_of_block B1.out 3).1
      have g0 := Later.cell k0
      have g1 := Later.cell k1
      have g2 := Later.cell k2
      have g3 := Later.cell k3
      go_wp2
      clear s1_0 s1_1 s1_2 s1_3
      clear k0 k1 k2 k3
      refine wp_region_shares [[], [], [(1, 46)], [(0, 45), (2, 47)], [(3, 48)]]
        [.eq (.agg #[.slice Ak1a x1.put.length ck1a, .slice Ak1b x1.why.length ck1b, .slice Ak1c x1.learned.length ck1c, .int .i64 x1.code]), .eq (.agg #[.slice Ap1a x1.put.length cp1a, .slice Ap1b x1.why.length cp1b, .slice Ap1c x1.learned.length cp1c, .int .i64 x1.code]), Fact.copyS x1, Fact.boolC u10 true, Fact.boolC u10 false]
        [] [] [] [4] [(0, 45), (1, 46), (2, 47), (3, 48), (4, 49)] (by kernel_rfl) (by kernel_rfl) (by kernel_rfl) (by kernel_rfl)
        ⟨?_, ?_, ?_, ?_, ?_, trivial⟩ ?_
      · intro vals u11 hC hF
        have hC := hC.resolve_left (by simp)
        have hsz := hC.size
        have e1 : u11.cell? _ = _ := g0 ⟨u11, hC⟩
        have e2 : u11.cell? _ = _ := g1 ⟨u11, hC⟩
        have e3 : u11.cell? _ = _ := g2 ⟨u11, hC⟩
        have e4 : u11.cell? _ = _ := g3 ⟨u11, hC⟩
        simp only [putsD, Act.put, List.setIfInBounds_toArray, List.set_cons_zero, List.set_cons_succ]
        go_wp2
        exact ⟨rfl, rfl, .inr (Below.refl _ _), .inr (.inl (by simp))⟩
      · intro vals u11 hC hF
        have hC := hC.resolve_left (by simp)
        have hsz := hC.size
        have e1 : u11.cell? _ = _ := d1_0 ⟨u11, hC⟩
        have e2 : u11.cell? _ = _ := d1_1 ⟨u11, hC⟩
        have e3 : u11.cell? _ = _ := d1_2 ⟨u11, hC⟩
        have e4 : u11.cell? _ = _ := d1_3 ⟨u11, hC⟩
        simp only [putsD, Act.put, List.setIfInBounds_toArray, List.set_cons_zero, List.set_cons_succ]
        go_wp2
        exact ⟨rfl, rfl, .inr (Below.refl _ _), .inr (.inl (by simp))⟩
      · intro vals u11 hC hF
        have hC := hC.resolve_left (by simp)
        have hsz := hC.size
        simp only [factsD, List.getD_cons_zero, List.getD_cons_succ, Fact.eq, Fact.row, Fact.lit, Fact.lit0, Fact.of, and_true, Fact.copyI, Fact.copyC, Fact.copyS, Fact.boolC, Fact.resB] at hF
        simp only [putsD, Act.put, List.setIfInBounds_toArray, List.set_cons_zero, List.set_cons_succ]
        simp only [hF]
        go_wp2_with fail
        refine (toSat_u x1 Ap1a Ap1b Ap1c cp1a cp1b cp1c _ (Hp1a.up (bthen hb hC)) (Hp1b.up (bthen hb hC)) (Hp1c.up (bthen hb hC)) SM1.out).mono ?_
        rintro e wx ⟨Aq1a, Aq1b, Aq1c, cq1a, cq1b, cq1c, rfl, hcq1a, hcq1b, hcq1c, sq1a, sq1b, sq1c, hbq1⟩
        have Rq1a := sq1a.own_rd
        have Rq1b := sq1b.own_rd
        have Rq1c := sq1c.own_rd
        go_wp2
        exact ⟨rfl, ⟨Aq1a, Aq1b, Aq1c, cq1a, cq1b, cq1c, rfl, hcq1a, hcq1b, hcq1c, Rq1a, Rq1b, Rq1c⟩, .inr hbq1, .inr (.inl (by simp))⟩
      · intro vals u11 hC hF
        have hC := hC.resolve_left (by simp)
        have hsz := hC.size
        simp only [factsD, List.getD_cons_zero, List.getD_cons_succ, Fact.eq, Fact.row, Fact.lit, Fact.lit0, Fact.of, and_true, Fact.copyI, Fact.copyC, Fact.copyS, Fact.boolC, Fact.resB] at hF
        obtain ⟨e45, Aq1a, Aq1b, Aq1c, cq1a, cq1b, cq1c, e47, hcq1a, hcq1b, hcq1c, Rq1a, Rq1b, Rq1c⟩ := hF
        simp only [putsD, Act.put, List.setIfInBounds_toArray, List.set_cons_zero, List.set_cons_succ]
        simp only [e45, e47]
        go_wp2_with fail
        refine (eqSat_u x1 Ak1a Aq1a Ak1b Aq1b Ak1c Aq1c ck1a cq1a ck1b cq1b ck1c cq1c _ (Rk1a.cp_rd.up hC) (Rk1b.cp_rd.up hC) (Rk1c.cp_rd.up hC) Rq1a Rq1b Rq1c SM1.out).mono ?_
        rintro e wx ⟨rfl, hb9⟩
        go_wp2
        exact ⟨rfl, ⟨rfl, bthen hC hb9⟩, .inr hb9, .inr (.inl (by simp))⟩
      · intro vals u11 hC hF
        have hC := hC.resolve_left (by simp)
        have hsz := hC.size
        simp only [factsD, List.getD_cons_zero, List.getD_cons_succ, Fact.eq, Fact.row, Fact.lit, Fact.lit0, Fact.of, and_true, Fact.copyI, Fact.copyC, Fact.copyS, Fact.boolC, Fact.resB] at hF
        obtain ⟨e48, _⟩ := hF
        simp only [putsD, Act.put, List.setIfInBounds_toArray, List.set_cons_zero, List.set_cons_succ]
        simp only [e48]
        go_wp2
        exact ⟨rfl, ⟨rfl, hC⟩, .inr (Below.refl _ _), .inr (.inl (by simp))⟩
      · intro vals u11 hF
        simp only [facts, List.getD_cons_zero, List.getD_cons_succ, Fact.eq, Fact.row, Fact.lit, Fact.lit0, Fact.of, and_true, Fact.copyI, Fact.copyC, Fact.copyS, Fact.boolC, Fact.resB] at hF
        obtain ⟨e49, hb9⟩ := hF
        simp only [putsD, Act.put, List.setIfInBounds_toArray, List.set_cons_zero, List.set_cons_succ]
        simp only [e49]
        clear d1_0 d1_1 d1_2 d1_3 e49 g0 g1 g2 g3
        have hb := bthen hb hb9
        have hs := bthen hs hb9
        have Rw0a := Rw0a.cp_up hb9
        have B0 := Lib.hid ((hb9.block _ (lt_of_block B0.out)).trans B0.out)
        have Rk0a := Rk0a.cp_up hb9
        have B1 := Lib.hid ((hb9.block _ (lt_of_block B1.out)).trans B1.out)
        have Rk1a := Rk1a.cp_up hb9
        have Rk1b := Rk1b.cp_up hb9
        have Rk1c := Rk1c.cp_up hb9
        have Rg0a := Rg0a.cp_up hb9
        clear hb9
        have kB0_0 : u11.cell? ⟨iB0, 0, none⟩ = some (.int .i64 x0.many) := (cell_of_block B0.out 0).1
        have kB0_1 : u11.cell? ⟨iB0, 1, none⟩ = some (.slice Ak0a x0.list.length ck0a) := (cell_of_block B0.out 1).1
        go_wp2_with fail
        clear kB0_0 kB0_1
        refine (markCnf_u x0 Ak0a ck0a _ _ 1 _ Rk0a SM0.out (by omega) (by omega)).mono ?_
        rintro e u12 ⟨rfl, hd⟩
        clear B0
        clear hs
        have Rw0a := Rw0a.cp_dab hd (by intro b h1 h2 h3; have := h3.1; have := h3.2; omega)
        clear Rk0a
        have B1 := Lib.hid (box_dab B1.out hd (by intro h3; have := h3.1; have := h3.2; have := ZB1; omega))
        have Rk1a := Rk1a.cp_dab hd (by intro b h1 h2 h3; have := h3.1; have := h3.2; omega)
        have Rk1b := Rk1b.cp_dab hd (by intro b h1 h2 h3; have := h3.1; have := h3.2; omega)
        have Rk1c := Rk1c.cp_dab hd (by intro b h1 h2 h3; have := h3.1; have := h3.2; omega)
        have Rg0a := Rg0a.cp_dab hd (by intro b h1 h2 h3; have := h3.1; have := h3.2; omega)
        have hb := below_rng hb hd hb.size (by omega)
        clear hd
        obtain ⟨k9_1, hk9, hk9a, hk9b⟩ : ∃ k9 : Int, k9 = 1 + (nsum (x0.list.map List.length) : Nat) ∧ 0 ≤ k9 ∧ k9 ≤ 10000000 := ⟨_, rfl, by omega, by have := SM0.out.2.2.2; omega⟩
        rw [← hk9]
        clear hk9
        have kB1_0 : u12.cell? ⟨iB1, 0, none⟩ = some (.slice Ak1a x1.put.length ck1a) := (cell_of_block B1.out 0).1
        have kB1_1 : u12.cell? ⟨iB1, 1, none⟩ = some (.slice Ak1b x1.why.length ck1b) := (cell_of_block B1.out 1).1
        have kB1_2 : u12.cell? ⟨iB1, 2, none⟩ = some (.slice Ak1c x1.learned.length ck1c) := (cell_of_block B1.out 2).1
        have kB1_3 : u12.cell? ⟨iB1, 3, none⟩ = some (.int .i64 x1.code) := (cell_of_block B1.out 3).1
        go_wp2_with fail
        clear kB1_0 kB1_1 kB1_2 kB1_3
        refine (markSat_u x1 Ak1a Ak1b Ak1c ck1a ck1b ck1c _ _ k9_1 _ Rk1a Rk1b Rk1c SM1.out (by omega) (by omega)).mono ?_
        rintro e u13 ⟨rfl, hd⟩
        clear B1
        have Rw0a := Rw0a.cp_dab hd (by intro b h1 h2 h3; have := h3.1; have := h3.2; omega)
        clear Rk1a
        clear Rk1b
        clear Rk1c
        have Rg0a := Rg0a.cp_dab hd (by intro b h1 h2 h3; have := h3.1; have := h3.2; omega)
        have hb := below_rng hb hd hb.size (by omega)
        clear hd
        obtain ⟨k9_2, hk9, hk9a, hk9b⟩ : ∃ k9 : Int, k9 = k9_1 + (mwS x1 : Nat) ∧ 0 ≤ k9 ∧ k9 ≤ 20000000 := ⟨_, rfl, by omega, by have := SM1.out.mw; omega⟩
        rw [← hk9]
        clear hk9
        go_wp2_with fail
        refine (eqBools_u r9 Ag0a Aw0a cg0a cw0a _ Rg0a.cp_rd Rw0a.cp_rd HRS0.out).mono ?_
        rintro e u14 ⟨rfl, hb9⟩
        have hb := bthen hb hb9
        have Rw0a := Rw0a.cp_up hb9
        have Rg0a := Rg0a.cp_up hb9
        clear hb9
        go_wp2_with fail
        refine (markBools_u r9 Ag0a cg0a _ _ 1 _ Rg0a HRS0.out (by omega) (by omega)).mono ?_
        rintro e u15 ⟨rfl, hd, RM0⟩
        have Rw0a := Rw0a.cp_dab hd (by intro b h1 h2 h3; have := h3.1; have := h3.2; omega)
        clear Rg0a
        have hb := below_rng hb hd hb.size (by omega)
        clear hd
        obtain ⟨m9, hm9, hm9a⟩ : ∃ m9 : Int, m9 = 1 + (r9.length : Nat) ∧ 0 ≤ m9 := ⟨_, rfl, by omega⟩
        rw [← hm9]
        have HM9 := Lib.hid hm9
        have hmm9 : (m9 != m9) = false := by simp
        clear hm9
        go_wp2_with fail
        refine (heldBools_u r9.length Ag0a cg0a 1 _ RM0.cp_rd HRS0.out (by omega) (by omega)).mono ?_
        rw [← HM9.out]
        rintro e u16 ⟨rfl, hb9⟩
        have hb := bthen hb hb9
        have Rw0a := Rw0a.cp_up hb9
        have RM0 := RM0.cp_up hb9
        clear hb9
        have s0_0 : u16.cell? ⟨W.heap.size, 0, none⟩ = some (.int .i64 x0.many) := (hb.cell (p := ⟨W.heap.size, 0, none⟩) hSlt0).trans (cell_of_block HS0.out 0).1
        have s0_1 : u16.cell? ⟨W.heap.size, 1, none⟩ = some (.slice Ap0a x0.list.length cp0a) := (hb.cell (p := ⟨W.heap.size, 1, none⟩) hSlt0).trans (cell_of_block HS0.out 1).1
        have d0_0 := Later.cell s0_0
        have d0_1 := Later.cell s0_1
        have s1_0 : u16.cell? ⟨W.heap.size + 1, 0, none⟩ = some (.slice Ap1a x1.put.length cp1a) := (hb.cell (p := ⟨W.heap.size + 1, 0, none⟩) hSlt1).trans (cell_of_block HS1.out 0).1
        have s1_1 : u16.cell? ⟨W.heap.size + 1, 1, none⟩ = some (.slice Ap1b x1.why.length cp1b) := (hb.cell (p := ⟨W.heap.size + 1, 1, none⟩) hSlt1).trans (cell_of_block HS1.out 1).1
        have s1_2 : u16.cell? ⟨W.heap.size + 1, 2, none⟩ = some (.slice Ap1c x1.learned.length cp1c) := (hb.cell (p := ⟨W.heap.size + 1, 2, none⟩) hSlt1).trans (cell_of_block HS1.out 2).1
        have s1_3 : u16.cell? ⟨W.heap.size + 1, 3, none⟩ = some (.int .i64 x1.code) := (hb.cell (p := ⟨W.heap.size + 1, 3, none⟩) hSlt1).trans (cell_of_block HS1.out 3).1
        have d1_0 := Later.cell s1_0
        have d1_1 := Later.cell s1_1
        have d1_2 := Later.cell s1_2
        have d1_3 := Later.cell s1_3
        go_wp2
        clear s0_0 s0_1
        clear s1_0 s1_1 s1_2 s1_3
        refine wp_region_shares [[], [(0, 75)], [], [(2, 77)], [(1, 76), (3, 78)], [(4, 79)]]
          [.eq (.agg #[.int .i64 x0.many, .slice Ap0a x0.list.length cp0a]), Fact.copyC x0, .eq (.agg #[.slice Ap1a x1.put.length cp1a, .slice Ap1b x1.why.length cp1b, .slice Ap1c x1.learned.length cp1c, .int .i64 x1.code]), Fact.copyS x1, Fact.resB u16 r9, Fact.resB u16 r9]
          [] [] [] [5] [(0, 75), (1, 76), (2, 77), (3, 78), (4, 79), (5, 13)] (by kernel_rfl) (by kernel_rfl) (by kernel_rfl) (by kernel_rfl)
          ⟨?_, ?_, ?_, ?_, ?_, ?_, trivial⟩ ?_
        · intro vals u17 hC hF
          have hC := hC.resolve_left (by simp)
          have hsz := hC.size
          have e1 : u17.cell? _ = _ := d0_0 ⟨u17, hC⟩
          have e2 : u17.cell? _ = _ := d0_1 ⟨u17, hC⟩
          simp only [putsD, Act.put, List.setIfInBounds_toArray, List.set_cons_zero, List.set_cons_succ]
          go_wp2
          exact ⟨rfl, rfl, .inr (Below.refl _ _), .inr (.inl (by simp))⟩
        · intro vals u17 hC hF
          have hC := hC.resolve_left (by simp)
          have hsz := hC.size
          simp only [factsD, List.getD_cons_zero, List.getD_cons_succ, Fact.eq, Fact.row, Fact.lit, Fact.lit0, Fact.of, and_true, Fact.copyI, Fact.copyC, Fact.copyS, Fact.boolC, Fact.resB] at hF
          simp only [putsD, Act.put, List.setIfInBounds_toArray, List.set_cons_zero, List.set_cons_succ]
          simp only [hF]
          go_wp2_with fail
          refine (toCnf_u x0 Ap0a cp0a _ (Hp0a.up (bthen hb hC)) SM0.out).mono ?_
          rintro e wx ⟨Aq0a, cq0a, rfl, hcq0a, sq0a, hbq0⟩
          have Rq0a := sq0a.own_rd
          go_wp2
          exact ⟨rfl, ⟨Aq0a, cq0a, rfl, hcq0a, Rq0a⟩, .inr hbq0, .inr (.inl (by simp))⟩
        · intro vals u17 hC hF
          have hC := hC.resolve_left (by simp)
          have hsz := hC.size
          have e1 : u17.cell? _ = _ := d1_0 ⟨u17, hC⟩
          have e2 : u17.cell? _ = _ := d1_1 ⟨u17, hC⟩
          have e3 : u17.cell? _ = _ := d1_2 ⟨u17, hC⟩
          have e4 : u17.cell? _ = _ := d1_3 ⟨u17, hC⟩
          simp only [putsD, Act.put, List.setIfInBounds_toArray, List.set_cons_zero, List.set_cons_succ]
          go_wp2
          exact ⟨rfl, rfl, .inr (Below.refl _ _), .inr (.inl (by simp))⟩
        · intro vals u17 hC hF
          have hC := hC.resolve_left (by simp)
          have hsz := hC.size
          simp only [factsD, List.getD_cons_zero, List.getD_cons_succ, Fact.eq, Fact.row, Fact.lit, Fact.lit0, Fact.of, and_true, Fact.copyI, Fact.copyC, Fact.copyS, Fact.boolC, Fact.resB] at hF
          simp only [putsD, Act.put, List.setIfInBounds_toArray, List.set_cons_zero, List.set_cons_succ]
          simp only [hF]
          go_wp2_with fail
          refine (toSat_u x1 Ap1a Ap1b Ap1c cp1a cp1b cp1c _ (Hp1a.up (bthen hb hC)) (Hp1b.up (bthen hb hC)) (Hp1c.up (bthen hb hC)) SM1.out).mono ?_
          rintro e wx ⟨Aq1a, Aq1b, Aq1c, cq1a, cq1b, cq1c, rfl, hcq1a, hcq1b, hcq1c, sq1a, sq1b, sq1c, hbq1⟩
          have Rq1a := sq1a.own_rd
          have Rq1b := sq1b.own_rd
          have Rq1c := sq1c.own_rd
          go_wp2
          exact ⟨rfl, ⟨Aq1a, Aq1b, Aq1c, cq1a, cq1b, cq1c, rfl, hcq1a, hcq1b, hcq1c, Rq1a, Rq1b, Rq1c⟩, .inr hbq1, .inr (.inl (by simp))⟩
        · intro vals u17 hC hF
          have hC := hC.resolve_left (by simp)
          have hsz := hC.size
          simp only [factsD, List.getD_cons_zero, List.getD_cons_succ, Fact.eq, Fact.row, Fact.lit, Fact.lit0, Fact.of, and_true, Fact.copyI, Fact.copyC, Fact.copyS, Fact.boolC, Fact.resB] at hF
          obtain ⟨⟨Aq0a, cq0a, e76, hcq0a, Rq0a⟩, ⟨Aq1a, Aq1b, Aq1c, cq1a, cq1b, cq1c, e78, hcq1a, hcq1b, hcq1c, Rq1a, Rq1b, Rq1c⟩⟩ := hF
          simp only [putsD, Act.put, List.setIfInBounds_toArray, List.set_cons_zero, List.set_cons_succ]
          simp only [e76, e78]
          go_wp2_with fail
          refine (implSatVals_u x0 Aq0a cq0a x1 Aq1a Aq1b Aq1c cq1a cq1b cq1c u17 Rq0a hcq0a Rq1a Rq1b Rq1c hcq1a hcq1b hcq1c SM0.out SM1.out).mono ?_
          rw [HR9.out]
          rintro e wx ⟨Ah0a, ch0a, rfl, hch0a, sh0a, hb9⟩
          go_wp2
          exact ⟨rfl, ⟨Ah0a, ch0a, rfl, hch0a, sh0a.own_mono hsz, bthen hC hb9⟩, .inr hb9, .inr (.inl (by simp))⟩
        · intro vals u17 hC hF
          have hC := hC.resolve_left (by simp)
          have hsz := hC.size
          simp only [factsD, List.getD_cons_zero, List.getD_cons_succ, Fact.eq, Fact.row, Fact.lit, Fact.lit0, Fact.of, and_true, Fact.copyI, Fact.copyC, Fact.copyS, Fact.boolC, Fact.resB] at hF
          obtain ⟨Ah0a, ch0a, e79, hch0a, sh0a, hb9⟩ := hF
          simp only [putsD, Act.put, List.setIfInBounds_toArray, List.set_cons_zero, List.set_cons_succ]
          simp only [e79]
          go_wp2
          exact ⟨rfl, ⟨Ah0a, ch0a, rfl, hch0a, sh0a, hb9⟩, .inr (Below.refl _ _), .inr (.inl (by simp))⟩
        · intro vals u17 hF
          simp only [facts, List.getD_cons_zero, List.getD_cons_succ, Fact.eq, Fact.row, Fact.lit, Fact.lit0, Fact.of, and_true, Fact.copyI, Fact.copyC, Fact.copyS, Fact.boolC, Fact.resB] at hF
          obtain ⟨Ah0a, ch0a, e13, hch0a, sh0a, hb9⟩ := hF
          simp only [putsD, Act.put, List.setIfInBounds_toArray, List.set_cons_zero, List.set_cons_succ]
          simp only [e13]
          clear d0_0 d0_1 d1_0 d1_1 d1_2 d1_3 e13
          have hb := bthen hb hb9
          have Rw0a := Rw0a.cp_up hb9
          have RM0 := RM0.cp_up hb9
          clear hb9
          have Rh0a := sh0a.cp_of
          clear sh0a
          go_wp2_with fail
          refine (eqBools_u r9 Ah0a Aw0a ch0a cw0a _ Rh0a.cp_rd Rw0a.cp_rd HRS0.out).mono ?_
          rintro e u18 ⟨rfl, hb9⟩
          have hb := bthen hb hb9
          have Rw0a := Rw0a.cp_up hb9
          have RM0 := RM0.cp_up hb9
          have Rh0a := Rh0a.cp_up hb9
          clear hb9
          go_wp2_with fail
          refine (heldBools_u r9.length Ag0a cg0a 1 _ RM0.cp_rd HRS0.out (by omega) (by omega)).mono ?_
          rw [← HM9.out]
          rintro e u19 ⟨rfl, hb9⟩
          have hb := bthen hb hb9
          have Rw0a := Rw0a.cp_up hb9
          have RM0 := RM0.cp_up hb9
          have Rh0a := Rh0a.cp_up hb9
          clear hb9
          go_wp2
          go_ret
          exact ⟨rfl, bthen HW0.out hb⟩

set_option maxRecDepth 100000 in
theorem fnExactSatVals_lifted (os : Os) (started : os.Started) (H : Type) (enc : TypeId × Value → H) :
    ReturnsInHanded {} Try.checked os 8 .any (Rows.fnExactSatValsSpec.pre6 enc Try.prog Try.f8 Rows.fnExactSatValsRow.domain false) (Rows.fnExactSatValsSpec.post enc Try.prog Try.f8 false true false false) := by
  refine returnsInHanded_of_change (C := Try.checked) (by kernel_rfl) started (by kernel_rfl) Try.func8
    (ChangeSpec.witness6 (enc := enc) (C := Try.checked) false ⟨#[], #[.agg #[.int .i64 0, .slice none 0 0], .agg #[.slice none 0 0, .slice none 0 0, .slice none 0 0, .int .i64 0]], []⟩ 16 (by kernel_rfl) (by kernel_rfl) (by kernel_rfl) (by kernel_rfl)) ?_
  intro W base args ds gs before hval0 hW hcnd _
  have hval : ∀ (j : Nat) t v, Try.f8.params[j]? = some t → args[j]? = some v → Value.okWide Try.prog W .any base t v := hval0
  have hW' := hW
  obtain ⟨p, q, hA0, hV, rfl, hfz, hnd⟩ := hW
  have hA : DataW.TrodAll enc Try.prog W 0 (fun _ => true) true Try.f8.params.toList args.toList ds p := hA0
  rw [Try.params8] at hA hval
  obtain ⟨v0, vs0, d0, ds0, p0, q0, hargs, rfl, rfl, h0, r0⟩ := trodAll_cons hA
  obtain ⟨v1, vs1, d1, ds1, p1, q1, rfl, rfl, rfl, h1, r1⟩ := trodAll_cons r0
  obtain ⟨rfl, rfl, rfl⟩ := trodAll_nil r1
  obtain rfl : args = #[v0, v1] := by cases args; simp_all
  obtain ⟨rfl, rfl⟩ := trodVars_none hV
  have k0 := h0
  have lt0 : ∀ x ∈ p0, x.block < W.heap.size := by obtain ⟨m, hm⟩ := k0; exact DataW.trod_lt m _ _ _ hm
  have k1 := h1
  have lt1 : ∀ x ∈ p1, x.block < W.heap.size := by obtain ⟨m, hm⟩ := k1; exact DataW.trod_lt m _ _ _ hm
  obtain ⟨A0, c0, x0, rfl, hc0, ok0, rd0⟩ := open_cnf (hval 0 24 v0 rfl rfl) h0
  obtain ⟨A1, B1, D1, c1, d1, f1, x1, rfl, hc1, hd1, hf1, ok1, rd1, re1, rf1⟩ := open_sat (hval 1 43 v1 rfl rfl) h1
  clear hA0 hval0
  refine (fnExactSatVals_walk W hc0 ok0 rd0 hc1 hd1 hf1 ok1 rd1 re1 rf1).mono fun e W' ⟨he, bel⟩ => ?_
  subst he
  exact ⟨_, rfl, _, _, _, [], _, [], hW', trodAll_mk1 (shut_bool Try.underlying4 _), (trodAll_cons_mk (Below.trod (by kernel_rfl) (by kernel_rfl) (of_decide_eq_true (by kernel_rfl)) k0 bel lt0) (trodAll_cons_mk (Below.trod (by kernel_rfl) (by kernel_rfl) (of_decide_eq_true (by kernel_rfl)) k1 bel lt1) trodAll_mk0)), rfl, bel.frame _, fun h => by cases h⟩

/-- The given statement. -/
theorem fnExactSatVals_holds : Rows.FnExactSatValsSaid :=
  OpenClaim.holds_of_wide 8 Try.f8 rfl rfl rfl rfl rfl rfl rfl ⟨rfl, rfl, rfl, rfl, rfl⟩ rfl rfl rfl rfl rfl (by kernel_rfl) Try.func8 (by kernel_rfl)
    (of_decide_eq_true (by kernel_rfl)) (by unfold Func.isWrapper; first | (rw [if_pos (by decide +kernel)]; kernel_rfl) | (rw [if_neg (by decide +kernel)]; exact ⟨rfl, rfl⟩))
    (fun os started H enc _ => fnExactSatVals_lifted os started H enc)
#print axioms fnExactSatVals_holds
end Go.Proofs.Ytndolbplkjhooaa
