/- FnExactSatOk: the program's SatOk says of any formula and any search what the reference's says. -/
import Derived.Test.YtndolbplkjhooaaTrail13
import Derived.Test.YtndolbplkjhooaaMarkB
import Derived.Test.YtndolbplkjhooaaRows
namespace Go.Proofs.Ytndolbplkjhooaa
open Go Go.RowKit Go.ChangeShapes Go.WideShapes Go.ChangeAt Go.Deep

set_option maxRecDepth 100000 in
set_option maxHeartbeats 4000000 in
theorem fnExactSatOk_walk (W : World) {Ap0a : Option Addr} {cp0a : Nat} {x0 : C} {Ap1a Ap1b Ap1c : Option Addr} {cp1a cp1b cp1c : Nat} {x1 : S} (_ : x0.list.length ≤ cp0a) (ok0 : okCIn x0) (hp0a : Lay.int.slice.Rd W Ap0a x0.list) (_ : x1.put.length ≤ cp1a) (_ : x1.why.length ≤ cp1b) (_ : x1.learned.length ≤ cp1c) (ok1 : okSIn x1) (hp1a : Lay.int.Rd W Ap1a x1.put) (hp1b : Lay.int.Rd W Ap1b x1.why) (hp1c : Lay.int.slice.Rd W Ap1c x1.learned) :
    Calls Try.prog 6 #[.agg #[.int .i64 x0.many, .slice Ap0a x0.list.length cp0a], .agg #[.slice Ap1a x1.put.length cp1a, .slice Ap1b x1.why.length cp1b, .slice Ap1c x1.learned.length cp1c, .int .i64 x1.code]] W (LawC W) := by
  have hW0 : Below W.heap.size W ((W.alloc (.cells #[.int .i64 x0.many, .slice Ap0a x0.list.length cp0a] 24)).alloc (.cells #[.slice Ap1a x1.put.length cp1a, .slice Ap1b x1.why.length cp1b, .slice Ap1c x1.learned.length cp1c, .int .i64 x1.code] 43)) := ((Below.refl _ _).alloc (by simp <;> omega) _).alloc (by simp <;> omega) _
  have hS0 : ((W.alloc (.cells #[.int .i64 x0.many, .slice Ap0a x0.list.length cp0a] 24)).alloc (.cells #[.slice Ap1a x1.put.length cp1a, .slice Ap1b x1.why.length cp1b, .slice Ap1c x1.learned.length cp1c, .int .i64 x1.code] 43)).heap[W.heap.size]? = some (.cells #[.int .i64 x0.many, .slice Ap0a x0.list.length cp0a] 24 (0, 0)) := by have h1 := heap_alloc_new W (.cells #[.int .i64 x0.many, .slice Ap0a x0.list.length cp0a] 24); exact (((Below.refl _ _).alloc (Nat.le_refl _) _).block _ (by simp)).trans (by simpa using h1)
  have hS1 : ((W.alloc (.cells #[.int .i64 x0.many, .slice Ap0a x0.list.length cp0a] 24)).alloc (.cells #[.slice Ap1a x1.put.length cp1a, .slice Ap1b x1.why.length cp1b, .slice Ap1c x1.learned.length cp1c, .int .i64 x1.code] 43)).heap[W.heap.size + 1]? = some (.cells #[.slice Ap1a x1.put.length cp1a, .slice Ap1b x1.why.length cp1b, .slice Ap1c x1.learned.length cp1c, .int .i64 x1.code] 43 (0, 0)) := by have := heap_alloc_new (W.alloc (.cells #[.int .i64 x0.many, .slice Ap0a x0.list.length cp0a] 24)) (.cells #[.slice Ap1a x1.put.length cp1a, .slice Ap1b x1.why.length cp1b, .slice Ap1c x1.learned.length cp1c, .int .i64 x1.code] 43); simpa using this
  have Hp0a := hp0a.up hW0
  have Hp1a := hp1a.up hW0
  have Hp1b := hp1b.up hW0
  have Hp1c := hp1c.up hW0
  clear hp0a hp1a hp1b hp1c
  have HS0 := Lib.hid hS0
  have hSlt0 := lt_of_block hS0
  clear hS0
  have HS1 := Lib.hid hS1
  have hSlt1 := lt_of_block hS1
  clear hS1
  have HW0 := Lib.hid hW0
  clear hW0
  have OK0 := Lib.hid ok0
  clear ok0
  have OK1 := Lib.hid ok1
  clear ok1
  go_enter Try.func6, Try.ntmps6
  go_wp2_with fail
  generalize (W.alloc (.cells #[.int .i64 x0.many, .slice Ap0a x0.list.length cp0a] 24)).alloc (.cells #[.slice Ap1a x1.put.length cp1a, .slice Ap1b x1.why.length cp1b, .slice Ap1c x1.learned.length cp1c, .int .i64 x1.code] 43) = W0 at *
  have hb : Below W0.heap.size W0 W0 := Below.refl _ _
  refine (szCnf_u x0 Ap0a cp0a 1048576 _ (Hp0a.up hb) OK0.out (by omega) (by omega)).mono ?_
  rintro e u1 ⟨rfl, hbu1⟩
  have hb := bthen hb hbu1
  clear hbu1
  by_cases hbig0 : (1048576 : Int) < (wtC x0 : Nat)
  · have HSZ := Lib.hid (szRes_lt hbig0)
    clear hbig0
    rw [HSZ.out]
    go_wp2
    go_ret
    exact ⟨rfl, bthen HW0.out hb⟩
  have SM0 : Hid (smCnf x0) := Lib.hid (smCnf_of OK0.out (by omega))
  have HSZ0 := Lib.hid (szRes_ge hbig0)
  rw [HSZ0.out]
  obtain ⟨left0, hl0⟩ : ∃ l : Int, l = (1048576 - (wtC x0 : Nat)) := ⟨_, rfl⟩
  rw [← hl0]
  have hln0 : 0 ≤ left0 := by omega
  have hlm0 : left0 ≤ 1048576 := by omega
  clear hbig0 hl0
  have s1_0 : u1.cell? ⟨W.heap.size + 1, 0, none⟩ = some (.slice Ap1a x1.put.length cp1a) := (hb.cell (p := ⟨W.heap.size + 1, 0, none⟩) hSlt1).trans (cell_of_block HS1.out 0).1
  have s1_1 : u1.cell? ⟨W.heap.size + 1, 1, none⟩ = some (.slice Ap1b x1.why.length cp1b) := (hb.cell (p := ⟨W.heap.size + 1, 1, none⟩) hSlt1).trans (cell_of_block HS1.out 1).1
  have s1_2 : u1.cell? ⟨W.heap.size + 1, 2, none⟩ = some (.slice Ap1c x1.learned.length cp1c) := (hb.cell (p := ⟨W.heap.size + 1, 2, none⟩) hSlt1).trans (cell_of_block HS1.out 2).1
  have s1_3 : u1.cell? ⟨W.heap.size + 1, 3, none⟩ = some (.int .i64 x1.code) := (hb.cell (p := ⟨W.heap.size + 1, 3, none⟩) hSlt1).trans (cell_of_block HS1.out 3).1
  go_wp2_with fail
  clear s1_0 s1_1 s1_2 s1_3
  refine (szSat_u x1 Ap1a Ap1b Ap1c cp1a cp1b cp1c left0 _ (Hp1a.up hb) (Hp1b.up hb) (Hp1c.up hb) OK1.out (by omega) (by omega)).mono ?_
  rintro e u2 ⟨rfl, hbu2⟩
  have hb := bthen hb hbu2
  clear hbu2
  by_cases hbig1 : (left0 : Int) < (wtS x1 : Nat)
  · have HSZ := Lib.hid (szRes_lt hbig1)
    clear hbig1
    rw [HSZ.out]
    go_wp2
    go_ret
    exact ⟨rfl, bthen HW0.out hb⟩
  have SM1 : Hid (smSat x1) := Lib.hid (smSat_of OK1.out (by omega))
  have HSZ1 := Lib.hid (szRes_ge hbig1)
  rw [HSZ1.out]
  have hln9 : (0 : Int) ≤ (left0 - (wtS x1 : Nat)) := by omega
  clear hbig1
  generalize hr9 : satOk x0 x1 = r9 at *
  have HR9 := Lib.hid hr9
  clear hr9
  have hne0 : (r9 != r9) = false := by simp
  have s0_0 : u2.cell? ⟨W.heap.size, 0, none⟩ = some (.int .i64 x0.many) := (hb.cell (p := ⟨W.heap.size, 0, none⟩) hSlt0).trans (cell_of_block HS0.out 0).1
  have s0_1 : u2.cell? ⟨W.heap.size, 1, none⟩ = some (.slice Ap0a x0.list.length cp0a) := (hb.cell (p := ⟨W.heap.size, 1, none⟩) hSlt0).trans (cell_of_block HS0.out 1).1
  have d0_0 := Later.cell s0_0
  have d0_1 := Later.cell s0_1
  have s1_0 : u2.cell? ⟨W.heap.size + 1, 0, none⟩ = some (.slice Ap1a x1.put.length cp1a) := (hb.cell (p := ⟨W.heap.size + 1, 0, none⟩) hSlt1).trans (cell_of_block HS1.out 0).1
  have s1_1 : u2.cell? ⟨W.heap.size + 1, 1, none⟩ = some (.slice Ap1b x1.why.length cp1b) := (hb.cell (p := ⟨W.heap.size + 1, 1, none⟩) hSlt1).trans (cell_of_block HS1.out 1).1
  have s1_2 : u2.cell? ⟨W.heap.size + 1, 2, none⟩ = some (.slice Ap1c x1.learned.length cp1c) := (hb.cell (p := ⟨W.heap.size + 1, 2, none⟩) hSlt1).trans (cell_of_block HS1.out 2).1
  have s1_3 : u2.cell? ⟨W.heap.size + 1, 3, none⟩ = some (.int .i64 x1.code) := (hb.cell (p := ⟨W.heap.size + 1, 3, none⟩) hSlt1).trans (cell_of_block HS1.out 3).1
  have d1_0 := Later.cell s1_0
  have d1_1 := Later.cell s1_1
  have d1_2 := Later.cell s1_2
  have d1_3 := Later.cell s1_3
  go_wp2
  clear s0_0 s0_1
  clear s1_0 s1_1 s1_2 s1_3
  refine wp_region_shares [[], [(0, 20)], [], [(2, 22)], [(1, 21), (3, 23)], [(4, 24)]]
    [.eq (.agg #[.int .i64 x0.many, .slice Ap0a x0.list.length cp0a]), Fact.copyC x0, .eq (.agg #[.slice Ap1a x1.put.length cp1a, .slice Ap1b x1.why.length cp1b, .slice Ap1c x1.learned.length cp1c, .int .i64 x1.code]), Fact.copyS x1, Fact.boolC u2 r9, Fact.boolC u2 r9]
    [] [] [] [5] [(0, 20), (1, 21), (2, 22), (3, 23), (4, 24), (5, 6)] (by kernel_rfl) (by kernel_rfl) (by kernel_rfl) (by kernel_rfl)
    ⟨?_, ?_, ?_, ?_, ?_, ?_, trivial⟩ ?_
  · intro vals u3 hC hF
    have hC := hC.resolve_left (by simp)
    have hsz := hC.size
    have e1 : u3.cell? _ = _ := d0_0 ⟨u3, hC⟩
    have e2 : u3.cell? _ = _ := d0_1 ⟨u3, hC⟩
    simp only [putsD, Act.put, List.setIfInBounds_toArray, List.set_cons_zero, List.set_cons_succ]
    go_wp2
    exact ⟨rfl, rfl, .inr (Below.refl _ _), .inr (.inl (by simp))⟩
  · intro vals u3 hC hF
    have hC := hC.resolve_left (by simp)
    have hsz := hC.size
    simp only [factsD, List.getD_cons_zero, List.getD_cons_succ, Fact.eq, Fact.row, Fact.lit, Fact.lit0, Fact.of, and_true, Fact.copyI, Fact.copyC, Fact.copyS, Fact.boolC, Fact.resB] at hF
    simp only [putsD, Act.put, List.setIfInBounds_toArray, List.set_cons_zero, List.set_cons_succ]
    simp only [hF]
    go_wp2_with fail
    refine (toCnf_u x0 Ap0a cp0a _ (Hp0a.up (bthen hb hC)) SM0.out).mono ?_
    rintro e wx ⟨Aq0a, cq0a, rfl, hcq0a, sq0a, hbq0⟩
    have Rq0a := sq0a.own_rd
    go_wp2
    exact ⟨rfl, ⟨Aq0a, cq0a, rfl, hcq0a, Rq0a⟩, .inr hbq0, .inr (.inl (by simp))⟩
  · intro vals u3 hC hF
    have hC := hC.resolve_left (by simp)
    have hsz := hC.size
    have e1 : u3.cell? _ = _ := d1_0 ⟨u3, hC⟩
    have e2 : u3.cell? _ = _ := d1_1 ⟨u3, hC⟩
    have e3 : u3.cell? _ = _ := d1_2 ⟨u3, hC⟩
    have e4 : u3.cell? _ = _ := d1_3 ⟨u3, hC⟩
    simp only [putsD, Act.put, List.setIfInBounds_toArray, List.set_cons_zero, List.set_cons_succ]
    go_wp2
    exact ⟨rfl, rfl, .inr (Below.refl _ _), .inr (.inl (by simp))⟩
  · intro vals u3 hC hF
    have hC := hC.resolve_left (by simp)
    have hsz := hC.size
    simp only [factsD, List.getD_cons_zero, List.getD_cons_succ, Fact.eq, Fact.row, Fact.lit, Fact.lit0, Fact.of, and_true, Fact.copyI, Fact.copyC, Fact.copyS, Fact.boolC, Fact.resB] at hF
    simp only [putsD, Act.put, List.setIfInBounds_toArray, List.set_cons_zero, List.set_cons_succ]
    simp only [hF]
    go_wp2_with fail
    refine (toSat_u x1 Ap1a Ap1b Ap1c cp1a cp1b cp1c _ (Hp1a.up (bthen hb hC)) (Hp1b.up (bthen hb hC)) (Hp1c.up (bthen hb hC)) SM1.out).mono ?_
    rintro e wx ⟨Aq1a, Aq1b, Aq1c, cq1a, cq1b, cq1c, rfl, hcq1a, hcq1b, hcq1c, sq1a, sq1b, sq1c, hbq1⟩
    have Rq1a := sq1a.own_rd
    have Rq1b := sq1b.own_rd
    have Rq1c := sq1c.own_rd
    go_wp2
    exact ⟨rfl, ⟨Aq1a, Aq1b, Aq1c, cq1a, cq1b, cq1c, rfl, hcq1a, hcq1b, hcq1c, Rq1a, Rq1b, Rq1c⟩, .inr hbq1, .inr (.inl (by simp))⟩
  · intro vals u3 hC hF
    have hC := hC.resolve_left (by simp)
    have hsz := hC.size
    simp only [factsD, List.getD_cons_zero, List.getD_cons_succ, Fact.eq, Fact.row, Fact.lit, Fact.lit0, Fact.of, and_true, Fact.copyI, Fact.copyC, Fact.copyS, Fact.boolC, Fact.resB] at hF
    obtain ⟨⟨Aq0a, cq0a, e21, hcq0a, Rq0a⟩, ⟨Aq1a, Aq1b, Aq1c, cq1a, cq1b, cq1c, e23, hcq1a, hcq1b, hcq1c, Rq1a, Rq1b, Rq1c⟩⟩ := hF
    simp only [putsD, Act.put, List.setIfInBounds_toArray, List.set_cons_zero, List.set_cons_succ]
    simp only [e21, e23]
    go_wp2_with fail
    refine (specSatOk_u x0 Aq0a cq0a x1 Aq1a Aq1b Aq1c cq1a cq1b cq1c u3 Rq0a hcq0a Rq1a Rq1b Rq1c hcq1a hcq1b hcq1c SM0.out SM1.out).mono ?_
    rw [HR9.out]
    rintro e wx ⟨rfl, hb9⟩
    go_wp2
    exact ⟨rfl, ⟨rfl, bthen hC hb9⟩, .inr hb9, .inr (.inl (by simp))⟩
  · intro vals u3 hC hF
    have hC := hC.resolve_left (by simp)
    have hsz := hC.size
    simp only [factsD, List.getD_cons_zero, List.getD_cons_succ, Fact.eq, Fact.row, Fact.lit, Fact.lit0, Fact.of, and_true, Fact.copyI, Fact.copyC, Fact.copyS, Fact.boolC, Fact.resB] at hF
    obtain ⟨e24, hb9⟩ := hF
    simp only [putsD, Act.put, List.setIfInBounds_toArray, List.set_cons_zero, List.set_cons_succ]
    simp only [e24]
    go_wp2
    exact ⟨rfl, ⟨rfl, hb9⟩, .inr (Below.refl _ _), .inr (.inl (by simp))⟩
  · intro vals u3 hF
    simp only [facts, List.getD_cons_zero, List.getD_cons_succ, Fact.eq, Fact.row, Fact.lit, Fact.lit0, Fact.of, and_true, Fact.copyI, Fact.copyC, Fact.copyS, Fact.boolC, Fact.resB] at hF
    obtain ⟨e6, hb9⟩ := hF
    simp only [putsD, Act.put, List.setIfInBounds_toArray, List.set_cons_zero, List.set_cons_succ]
    simp only [e6]
    clear d0_0 d0_1 d1_0 d1_1 d1_2 d1_3 e6
    have hb := bthen hb hb9
    clear hb9
    have s0_0 : u3.cell? ⟨W.heap.size, 0, none⟩ = some (.int .i64 x0.many) := (hb.cell (p := ⟨W.heap.size, 0, none⟩) hSlt0).trans (cell_of_block HS0.out 0).1
    have s0_1 : u3.cell? ⟨W.heap.size, 1, none⟩ = some (.slice Ap0a x0.list.length cp0a) := (hb.cell (p := ⟨W.heap.size, 1, none⟩) hSlt0).trans (cell_of_block HS0.out 1).1
    go_wp2_with fail
    clear s0_0 s0_1
    have z0 : W0.heap.size ≤ u3.heap.size := hb.size
    have hs : Below u3.heap.size u3 u3 := Below.refl _ _
    refine (toCnf_u x0 Ap0a cp0a _ (Hp0a.up hb) SM0.out).mono ?_
    rintro e u4 ⟨Ak0a, ck0a, rfl, hck0a, sk0a, hbk0⟩
    have hb := bthen hb hbk0
    have hs := bthen hs hbk0
    clear hbk0
    have s1_0 : u4.cell? ⟨W.heap.size + 1, 0, none⟩ = some (.slice Ap1a x1.put.length cp1a) := (hb.cell (p := ⟨W.heap.size + 1, 0, none⟩) hSlt1).trans (cell_of_block HS1.out 0).1
    have s1_1 : u4.cell? ⟨W.heap.size + 1, 1, none⟩ = some (.slice Ap1b x1.why.length cp1b) := (hb.cell (p := ⟨W.heap.size + 1, 1, none⟩) hSlt1).trans (cell_of_block HS1.out 1).1
    have s1_2 : u4.cell? ⟨W.heap.size + 1, 2, none⟩ = some (.slice Ap1c x1.learned.length cp1c) := (hb.cell (p := ⟨W.heap.size + 1, 2, none⟩) hSlt1).trans (cell_of_block HS1.out 2).1
    have s1_3 : u4.cell? ⟨W.heap.size + 1, 3, none⟩ = some (.int .i64 x1.code) := (hb.cell (p := ⟨W.heap.size + 1, 3, none⟩) hSlt1).trans (cell_of_block HS1.out 3).1
    have lt1 : W.heap.size + 1 < u4.heap.size := Nat.lt_of_lt_of_le hSlt1 hb.size
    have hal : Below u4.heap.size u4 (u4.alloc (.cells #[.int .i64 x0.many, .slice Ak0a x0.list.length ck0a] 28)) := (Below.refl _ _).alloc (Nat.le_refl _) _
    have B9 : (u4.alloc (.cells #[.int .i64 x0.many, .slice Ak0a x0.list.length ck0a] 28)).heap[u4.heap.size]? = some (.cells #[.int .i64 x0.many, .slice Ak0a x0.list.length ck0a] 28 (0, 0)) := heap_alloc_new _ _
    have ZB0 : u3.heap.size ≤ u4.heap.size := hs.size
    have hb := bthen hb hal
    have hs := bthen hs hal
    have sk0a := sk0a.own_up hal
    clear hal
    have B0 := Lib.hid B9
    clear B9
    go_wp2_with fail
    clear s1_0 s1_1 s1_2 s1_3 lt1
    generalize u4.alloc (.cells #[.int .i64 x0.many, .slice Ak0a x0.list.length ck0a] 28) = u5 at *
    generalize u4.heap.size = iB0 at *
    have Rk0a := sk0a.cp_of
    clear sk0a
    have z1 : u3.heap.size ≤ u5.heap.size := hs.size
    clear hs
    have hs : Below u5.heap.size u5 u5 := Below.refl _ _
    refine (toSat_u x1 Ap1a Ap1b Ap1c cp1a cp1b cp1c _ (Hp1a.up hb) (Hp1b.up hb) (Hp1c.up hb) SM1.out).mono ?_
    rintro e u6 ⟨Ak1a, Ak1b, Ak1c, ck1a, ck1b, ck1c, rfl, hck1a, hck1b, hck1c, sk1a, sk1b, sk1c, hbk1⟩
    have hb := bthen hb hbk1
    have hs := bthen hs hbk1
    have B0 := Lib.hid ((hbk1.block _ (lt_of_block B0.out)).trans B0.out)
    have Rk0a := Rk0a.cp_up hbk1
    clear hbk1
    have kB0_0 : u6.cell? ⟨iB0, 0, none⟩ = some (.int .i64 x0.many) := (cell_of_block B0.out 0).1
    have kB0_1 : u6.cell? ⟨iB0, 1, none⟩ = some (.slice Ak0a x0.list.length ck0a) := (cell_of_block B0.out 1).1
    have ltB0 : iB0 < u6.heap.size := lt_of_block B0.out
    have hal : Below u6.heap.size u6 (u6.alloc (.cells #[.slice Ak1a x1.put.length ck1a, .slice Ak1b x1.why.length ck1b, .slice Ak1c x1.learned.length ck1c, .int .i64 x1.code] 46)) := (Below.refl _ _).alloc (Nat.le_refl _) _
    have B9 : (u6.alloc (.cells #[.slice Ak1a x1.put.length ck1a, .slice Ak1b x1.why.length ck1b, .slice Ak1c x1.learned.length ck1c, .int .i64 x1.code] 46)).heap[u6.heap.size]? = some (.cells #[.slice Ak1a x1.put.length ck1a, .slice Ak1b x1.why.length ck1b, .slice Ak1c x1.learned.length ck1c, .int .i64 x1.code] 46 (0, 0)) := heap_alloc_new _ _
    have ZB1 : u5.heap.size ≤ u6.heap.size := hs.size
    have hb := bthen hb hal
    have hs := bthen hs hal
    have B0 := Lib.hid ((hal.block _ (lt_of_block B0.out)).trans B0.out)
    have Rk0a := Rk0a.cp_up hal
    have sk1a := sk1a.own_up hal
    have sk1b := sk1b.own_up hal
    have sk1c := sk1c.own_up hal
    clear hal
    have B1 := Lib.hid B9
    clear B9
    go_wp2_with fail
    clear kB0_0 kB0_1 ltB0
    generalize u6.alloc (.cells #[.slice Ak1a x1.put.length ck1a, .slice Ak1b x1.why.length ck1b, .slice Ak1c x1.learned.length ck1c, .int .i64 x1.code] 46) = u7 at *
    generalize u6.heap.size = iB1 at *
    have Rk1a := sk1a.cp_of
    clear sk1a
    have Rk1b := sk1b.cp_of
    clear sk1b
    have Rk1c := sk1c.cp_of
    clear sk1c
    have z2 : u5.heap.size ≤ u7.heap.size := hs.size
    clear hs
    have hs : Below u7.heap.size u7 u7 := Below.refl _ _
    refine (implSatOk_u x0 Ak0a ck0a x1 Ak1a Ak1b Ak1c ck1a ck1b ck1c _ (Rk0a.cp_rd) hck0a (Rk1a.cp_rd) (Rk1b.cp_rd) (Rk1c.cp_rd) hck1a hck1b hck1c SM0.out SM1.out).mono ?_
    rw [HR9.out]
    rintro e u8 ⟨rfl, hb9⟩
    have hb := bthen hb hb9
    have hs := bthen hs hb9
    have B0 := Lib.hid ((hb9.block _ (lt_of_block B0.out)).trans B0.out)
    have Rk0a := Rk0a.cp_up hb9
    have B1 := Lib.hid ((hb9.block _ (lt_of_block B1.out)).trans B1.out)
    have Rk1a := Rk1a.cp_up hb9
    have Rk1b := Rk1b.cp_up hb9
    have Rk1c := Rk1c.cp_up hb9
    clear hb9
    have z3 : u7.heap.size ≤ u8.heap.size := hs.size
    clear hs
    have hs : Below u8.heap.size u8 u8 := Below.refl _ _
    have s0_0 : u8.cell? ⟨W.heap.size, 0, none⟩ = some (.int .i64 x0.many) := (hb.cell (p := ⟨W.heap.size, 0, none⟩) hSlt0).trans (cell_of_block HS0.out 0).1
    have s0_1 : u8.cell? ⟨W.heap.size, 1, none⟩ = some (.slice Ap0a x0.list.length cp0a) := (hb.cell (p := ⟨W.heap.size, 1, none⟩) hSlt0).trans (cell_of_block HS0.out 1).1
    have d0_0 := Later.cell s0_0
    have d0_1 := Later.cell s0_1
    have k0 : u8.cell? ⟨iB0, 0, none⟩ = some (.int .i64 x0.many) := (cell_of_block B0.out 0).1
    have k1 : u8.cell? ⟨iB0, 1, none⟩ = some (.slice Ak0a x0.list.length ck0a) := (cell_of_block B0.out 1).1
    have g0 := Later.cell k0
    have g1 := Later.cell k1
    go_wp2
    clear s0_0 s0_1
    clear k0 k1
    refine wp_region_shares [[], [], [(1, 36)], [(0, 35), (2, 37)], [(3, 38)]]
      [.eq (.agg #[.int .i64 x0.many, .slice Ak0a x0.list.length ck0a]), .eq (.agg #[.int .i64 x0.many, .slice Ap0a x0.list.length cp0a]), Fact.copyC x0, Fact.boolC u8 true, Fact.boolC u8 false]
      [] [] [] [4] [(0, 35), (1, 36), (2, 37), (3, 38), (4, 39)] (by kernel_rfl) (by kernel_rfl) (by kernel_rfl) (by kernel_rfl)
      ⟨?_, ?_, ?_, ?_, ?_, trivial⟩ ?_
    · intro vals u9 hC hF
      have hC := hC.resolve_left (by simp)
      have hsz := hC.size
      have e1 : u9.cell? _ = _ := g0 ⟨u9, hC⟩
      have e2 : u9.cell? _ = _ := g1 ⟨u9, hC⟩
      simp only [putsD, Act.put, List.setIfInBounds_toArray, List.set_cons_zero, List.set_cons_succ]
      go_wp2
      exact ⟨rfl, rfl, .inr (Below.refl _ _), .inr (.inl (by simp))⟩
    · intro vals u9 hC hF
      have hC := hC.resolve_left (by simp)
      have hsz := hC.size
      have e1 : u9.cell? _ = _ := d0_0 ⟨u9, hC⟩
      have e2 : u9.cell? _ = _ := d0_1 ⟨u9, hC⟩
      simp only [putsD, Act.put, List.setIfInBounds_toArray, List.set_cons_zero, List.set_cons_succ]
      go_wp2
      exact ⟨rfl, rfl, .inr (Below.refl _ _), .inr (.inl (by simp))⟩
    · intro vals u9 hC hF
      have hC := hC.resolve_left (by simp)
      have hsz := hC.size
      simp only [factsD, List.getD_cons_zero, List.getD_cons_succ, Fact.eq, Fact.row, Fact.lit, Fact.lit0, Fact.of, and_true, Fact.copyI, Fact.copyC, Fact.copyS, Fact.boolC, Fact.resB] at hF
      simp only [putsD, Act.put, List.setIfInBounds_toArray, List.set_cons_zero, List.set_cons_succ]
      simp only [hF]
      go_wp2_with fail
      refine (toCnf_u x0 Ap0a cp0a _ (Hp0a.up (bthen hb hC)) SM0.out).mono ?_
      rintro e wx ⟨Aq0a, cq0a, rfl, hcq0a, sq0a, hbq0⟩
      have Rq0a := sq0a.own_rd
      go_wp2
      exact ⟨rfl, ⟨Aq0a, cq0a, rfl, hcq0a, Rq0a⟩, .inr hbq0, .inr (.inl (by simp))⟩
    · intro vals u9 hC hF
      have hC := hC.resolve_left (by simp)
      have hsz := hC.size
      simp only [factsD, List.getD_cons_zero, List.getD_cons_succ, Fact.eq, Fact.row, Fact.lit, Fact.lit0, Fact.of, and_true, Fact.copyI, Fact.copyC, Fact.copyS, Fact.boolC, Fact.resB] at hF
      obtain ⟨e35, Aq0a, cq0a, e37, hcq0a, Rq0a⟩ := hF
      simp only [putsD, Act.put, List.setIfInBounds_toArray, List.set_cons_zero, List.set_cons_succ]
      simp only [e35, e37]
      go_wp2_with fail
      refine (eqCnf_u x0 Ak0a Aq0a ck0a cq0a _ (Rk0a.cp_rd.up hC) Rq0a SM0.out).mono ?_
      rintro e wx ⟨rfl, hb9⟩
      go_wp2
      exact ⟨rfl, ⟨rfl, bthen hC hb9⟩, .inr hb9, .inr (.inl (by simp))⟩
    · intro vals u9 hC hF
      have hC := hC.resolve_left (by simp)
      have hsz := hC.size
      simp only [factsD, List.getD_cons_zero, List.getD_cons_succ, Fact.eq, Fact.row, Fact.lit, Fact.lit0, Fact.of, and_true, Fact.copyI, Fact.copyC, Fact.copyS, Fact.boolC, Fact.resB] at hF
      obtain ⟨e38, _⟩ := hF
      simp only [putsD, Act.put, List.setIfInBounds_toArray, List.set_cons_zero, List.set_cons_succ]
      simp only [e38]
      go_wp2
      exact ⟨rfl, ⟨rfl, hC⟩, .inr (Below.refl _ _), .inr (.inl (by simp))⟩
    · intro vals u9 hF
      simp only [facts, List.getD_cons_zero, List.getD_cons_succ, Fact.eq, Fact.row, Fact.lit, Fact.lit0, Fact.of, and_true, Fact.copyI, Fact.copyC, Fact.copyS, Fact.boolC, Fact.resB] at hF
      obtain ⟨e39, hb9⟩ := hF
      simp only [putsD, Act.put, List.setIfInBounds_toArray, List.set_cons_zero, List.set_cons_succ]
      simp only [e39]
      clear d0_0 d0_1 e39 g0 g1
      have hb := bthen hb hb9
      have hs := bthen hs hb9
      have B0 := Lib.hid ((hb9.block _ (lt_of_block B0.out)).trans B0.out)
      have Rk0a := Rk0a.cp_up hb9
      have B1 := Lib.hid ((hb9.block _ (lt_of_block B1.out)).trans B1.out)
      have Rk1a := Rk1a.cp_up hb9
      have Rk1b := Rk1b.cp_up hb9
      have Rk1c := Rk1c.cp_up hb9
      clear hb9
      have s1_0 : u9.cell? ⟨W.heap.size + 1, 0, none⟩ = some (.slice Ap1a x1.put.length cp1a) := (hb.cell (p := ⟨W.heap.size + 1, 0, none⟩) hSlt1).trans (cell_of_block HS1.out 0).1
      have s1_1 : u9.cell? ⟨W.heap.size + 1, 1, none⟩ = some (.slice Ap1b x1.why.length cp1b) := (hb.cell (p := ⟨W.heap.size + 1, 1, none⟩) hSlt1).trans (cell_of_block HS1.out 1).1
      have s1_2 : u9.cell? ⟨W.heap.size + 1, 2, none⟩ = some (.slice Ap1c x1.learned.length cp1c) := (hb.cell (p := ⟨W.heap.size + 1, 2, none⟩) hSlt1).trans (cell_of_block HS1.out 2).1
      have s1_3 : u9.cell? ⟨W.heap.size + 1, 3, none⟩ = some (.int .i64 x1.code) := (hb.cell (p := ⟨W.heap.size + 1, 3, none⟩) hSlt1).trans (cell_of_block HS1.out 3).1
      have d1_0 := Later.cell s1_0
      have d1_1 := Later.cell s1_1
      have d1_2 := Later.cell s1_2
      have d1_3 := Later.cell s1_3
      have k0 : u9.cell? ⟨iB1, 0, none⟩ = some (.slice Ak1a x1.put.length ck1a) := (cell_of_block B1.out 0).1
      have k1 : u9.cell? ⟨iB1, 1, none⟩ = some (.slice Ak1b x1.why.length ck1b) := (cell_of_block B1.out 1).1
      have k2 : u9.cell? ⟨iB1, 2, none⟩ = some (.slice Ak1c x1.learned.length ck1c) := (cell_of_block B1.out 2).1
      have k3 : u9.cell? ⟨iB1, 3, none⟩ = some (.int .i64 x1.code) := (cell_of_block B1.out 3).1
      have g0 := Later.cell k0
      have g1 := Later.cell k1
      have g2 := Later.cell k2
      have g3 := Later.cell k3
      go_wp2
      clear s1_0 s1_1 s1_2 s1_3
      clear k0 k1 k2 k3
      refine wp_region_shares [[], [], [(1, 41)], [(0, 40), (2, 42)], [(3, 43)]]
        [.eq (.agg #[.slice Ak1a x1.put.length ck1a, .slice Ak1b x1.why.length ck1b, .slice Ak1c x1.learned.length ck1c, .int .i64 x1.code]), .eq (.agg #[.slice Ap1a x1.put.length cp1a, .slice Ap1b x1.why.length cp1b, .slice Ap1c x1.learned.length cp1c, .int .i64 x1.code]), Fact.copyS x1, Fact.boolC u9 true, Fact.boolC u9 false]
        [] [] [] [4] [(0, 40), (1, 41), (2, 42), (3, 43), (4, 44)] (by kernel_rfl) (by kernel_rfl) (by kernel_rfl) (by kernel_rfl)
        ⟨?_, ?_, ?_, ?_, ?_, trivial⟩ ?_
      · intro vals u10 hC hF
        have hC := hC.resolve_left (by simp)
        have hsz := hC.size
        have e1 : u10.cell? _ = _ := g0 ⟨u10, hC⟩
        have e2 : u10.cell? _ = _ := g1 ⟨u10, hC⟩
        have e3 : u10.cell? _ = _ := g2 ⟨u10, hC⟩
        have e4 : u10.cell? _ = _ := g3 ⟨u10, hC⟩
        simp only [putsD, Act.put, List.setIfInBounds_toArray, List.set_cons_zero, List.set_cons_succ]
        go_wp2
        exact ⟨rfl, rfl, .inr (Below.refl _ _), .inr (.inl (by simp))⟩
      · intro vals u10 hC hF
        have hC := hC.resolve_left (by simp)
        have hsz := hC.size
        have e1 : u10.cell? _ = _ := d1_0 ⟨u10, hC⟩
        have e2 : u10.cell? _ = _ := d1_1 ⟨u10, hC⟩
        have e3 : u10.cell? _ = _ := d1_2 ⟨u10, hC⟩
        have e4 : u10.cell? _ = _ := d1_3 ⟨u10, hC⟩
        simp only [putsD, Act.put, List.setIfInBounds_toArray, List.set_cons_zero, List.set_cons_succ]
        go_wp2
        exact ⟨rfl, rfl, .inr (Below.refl _ _), .inr (.inl (by simp))⟩
      · intro vals u10 hC hF
        have hC := hC.resolve_left (by simp)
        have hsz := hC.size
        simp only [factsD, List.getD_cons_zero, List.getD_cons_succ, Fact.eq, Fact.row, Fact.lit, Fact.lit0, Fact.of, and_true, Fact.copyI, Fact.copyC, Fact.copyS, Fact.boolC, Fact.resB] at hF
        simp only [putsD, Act.put, List.setIfInBounds_toArray, List.set_cons_zero, List.set_cons_succ]
        simp only [hF]
        go_wp2_with fail
        refine (toSat_u x1 Ap1a Ap1b Ap1c cp1a cp1b cp1c _ (Hp1a.up (bthen hb hC)) (Hp1b.up (bthen hb hC)) (Hp1c.up (bthen hb hC)) SM1.out).mono ?_
        rintro e wx ⟨Aq1a, Aq1b, Aq1c, cq1a, cq1b, cq1c, rfl, hcq1a, hcq1b, hcq1c, sq1a, sq1b, sq1c, hbq1⟩
        have Rq1a := sq1a.own_rd
        have Rq1b := sq1b.own_rd
        have Rq1c := sq1c.own_rd
        go_wp2
        exact ⟨rfl, ⟨Aq1a, Aq1b, Aq1c, cq1a, cq1b, cq1c, rfl, hcq1a, hcq1b, hcq1c, Rq1a, Rq1b, Rq1c⟩, .inr hbq1, .inr (.inl (by simp))⟩
      · intro vals u10 hC hF
        have hC := hC.resolve_left (by simp)
        have hsz := hC.size
        simp only [factsD, List.getD_cons_zero, List.getD_cons_succ, Fact.eq, Fact.row, Fact.lit, Fact.lit0, Fact.of, and_true, Fact.copyI, Fact.copyC, Fact.copyS, Fact.boolC, Fact.resB] at hF
        obtain ⟨e40, Aq1a, Aq1b, Aq1c, cq1a, cq1b, cq1c, e42, hcq1a, hcq1b, hcq1c, Rq1a, Rq1b, Rq1c⟩ := hF
        simp only [putsD, Act.put, List.setIfInBounds_toArray, List.set_cons_zero, List.set_cons_succ]
        simp only [e40, e42]
        go_wp2_with fail
        refine (eqSat_u x1 Ak1a Aq1a Ak1b Aq1b Ak1c Aq1c ck1a cq1a ck1b cq1b ck1c cq1c _ (Rk1a.cp_rd.up hC) (Rk1b.cp_rd.up hC) (Rk1c.cp_rd.up hC) Rq1a Rq1b Rq1c SM1.out).mono ?_
        rintro e wx ⟨rfl, hb9⟩
        go_wp2
        exact ⟨rfl, ⟨rfl, bthen hC hb9⟩, .inr hb9, .inr (.inl (by simp))⟩
      · intro vals u10 hC hF
        have hC := hC.resolve_left (by simp)
        have hsz := hC.size
        simp only [factsD, List.getD_cons_zero, List.getD_cons_succ, Fact.eq, Fact.row, Fact.lit, Fact.lit0, Fact.of, and_true, Fact.copyI, Fact.copyC, Fact.copyS, Fact.boolC, Fact.resB] at hF
        obtain ⟨e43, _⟩ := hF
        simp only [putsD, Act.put, List.setIfInBounds_toArray, List.set_cons_zero, List.set_cons_succ]
        simp only [e43]
        go_wp2
        exact ⟨rfl, ⟨rfl, hC⟩, .inr (Below.refl _ _), .inr (.inl (by simp))⟩
      · intro vals u10 hF
        simp only [facts, List.getD_cons_zero, List.getD_cons_succ, Fact.eq, Fact.row, Fact.lit, Fact.lit0, Fact.of, and_true, Fact.copyI, Fact.copyC, Fact.copyS, Fact.boolC, Fact.resB] at hF
        obtain ⟨e44, hb9⟩ := hF
        simp only [putsD, Act.put, List.setIfInBounds_toArray, List.set_cons_zero, List.set_cons_succ]
        simp only [e44]
        clear d1_0 d1_1 d1_2 d1_3 e44 g0 g1 g2 g3
        have hb := bthen hb hb9
        have hs := bthen hs hb9
        have B0 := Lib.hid ((hb9.block _ (lt_of_block B0.out)).trans B0.out)
        have Rk0a := Rk0a.cp_up hb9
        have B1 := Lib.hid ((hb9.block _ (lt_of_block B1.out)).trans B1.out)
        have Rk1a := Rk1a.cp_up hb9
        have Rk1b := Rk1b.cp_up hb9
        have Rk1c := Rk1c.cp_up hb9
        clear hb9
        go_wp2
        go_ret
        exact ⟨rfl, bthen HW0.out hb⟩

set_option maxRecDepth 100000 in
theorem fnExactSatOk_lifted (os : Os) (started : os.Started) (H : Type) (enc : TypeId × Value → H) :
    ReturnsInHanded {} Try.checked os 6 .any (Rows.fnExactSatOkSpec.pre6 enc Try.prog Try.f6 Rows.fnExactSatOkRow.domain false) (Rows.fnExactSatOkSpec.post enc Try.prog Try.f6 false true false false) := by
  refine returnsInHanded_of_change (C := Try.checked) (by kernel_rfl) started (by kernel_rfl) Try.func6
    (ChangeSpec.witness6 (enc := enc) (C := Try.checked) false ⟨#[], #[.agg #[.int .i64 0, .slice none 0 0], .agg #[.slice none 0 0, .slice none 0 0, .slice none 0 0, .int .i64 0]], []⟩ 16 (by kernel_rfl) (by kernel_rfl) (by kernel_rfl) (by kernel_rfl)) ?_
  intro W base args ds gs before hval0 hW hcnd _
  have hval : ∀ (j : Nat) t v, Try.f6.params[j]? = some t → args[j]? = some v → Value.okWide Try.prog W .any base t v := hval0
  have hW' := hW
  obtain ⟨p, q, hA0, hV, rfl, hfz, hnd⟩ := hW
  have hA : DataW.TrodAll enc Try.prog W 0 (fun _ => true) true Try.f6.params.toList args.toList ds p := hA0
  rw [Try.params6] at hA hval
  obtain ⟨v0, vs0, d0, ds0, p0, q0, hargs, rfl, rfl, h0, r0⟩ := trodAll_cons hA
  obtain ⟨v1, vs1, d1, ds1, p1, q1, rfl, rfl, rfl, h1, r1⟩ := trodAll_cons r0
  obtain ⟨rfl, rfl, rfl⟩ := trodAll_nil r1
  obtain rfl : args = #[v0, v1] := by cases args; simp_all
  obtain ⟨rfl, rfl⟩ := trodVars_none hV
  have k0 := h0
  have lt0 : ∀ x ∈ p0, x.block < W.heap.size := by obtain ⟨m, hm⟩ := k0; exact DataW.trod_lt m _ _ _ hm
  have k1 := h1
  have lt1 : ∀ x ∈ p1, x.block < W.heap.size := by obtain ⟨m, hm⟩ := k1; exact DataW.trod_lt m _ _ _ hm
  obtain ⟨A0, c0, x0, rfl, hc0, ok0, rd0⟩ := open_cnf (hval 0 24 v0 rfl rfl) h0
  obtain ⟨A1, B1, D1, c1, d1, f1, x1, rfl, hc1, hd1, hf1, ok1, rd1, re1, rf1⟩ := open_sat (hval 1 43 v1 rfl rfl) h1
  clear hA0 hval0
  refine (fnExactSatOk_walk W hc0 ok0 rd0 hc1 hd1 hf1 ok1 rd1 re1 rf1).mono fun e W' ⟨he, bel⟩ => ?_
  subst he
  exact ⟨_, rfl, _, _, _, [], _, [], hW', trodAll_mk1 (shut_bool Try.underlying4 _), (trodAll_cons_mk (Below.trod (by kernel_rfl) (by kernel_rfl) (of_decide_eq_true (by kernel_rfl)) k0 bel lt0) (trodAll_cons_mk (Below.trod (by kernel_rfl) (by kernel_rfl) (of_decide_eq_true (by kernel_rfl)) k1 bel lt1) trodAll_mk0)), rfl, bel.frame _, fun h => by cases h⟩

/-- The given statement. -/
theorem fnExactSatOk_holds : Rows.FnExactSatOkSaid :=
  OpenClaim.holds_of_wide 6 Try.f6 rfl rfl rfl rfl rfl rfl rfl ⟨rfl, rfl, rfl, rfl, rfl⟩ rfl rfl rfl rfl rfl (by kernel_rfl) Try.func6 (by kernel_rfl)
    (of_decide_eq_true (by kernel_rfl)) (by unfold Func.isWrapper; first | (rw [if_pos (by decide +kernel)]; kernel_rfl) | (rw [if_neg (by decide +kernel)]; exact ⟨rfl, rfl⟩))
    (fun os started H enc _ => fnExactSatOk_lifted os started H enc)
#print axioms fnExactSatOk_holds
end Go.Proofs.Ytndolbplkjhooaa
