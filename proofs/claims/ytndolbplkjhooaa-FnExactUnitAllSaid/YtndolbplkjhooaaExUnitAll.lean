/- FnExactUnitAll: the program's UnitAll answers, for any formula and any marks, what the reference's answers, in memory of its own. -/
import Derived.Test.YtndolbplkjhooaaSatU
import Derived.Test.YtndolbplkjhooaaRows
namespace Go.Proofs.Ytndolbplkjhooaa
open Go Go.RowKit Go.ChangeShapes Go.WideShapes Go.ChangeAt Go.Deep

set_option maxRecDepth 100000 in
set_option maxHeartbeats 4000000 in
theorem fnExactUnitAll_walk (W : World) {Ap0a : Option Addr} {cp0a : Nat} {x0 : C} {Ap1a : Option Addr} {cp1a : Nat} {x1 : List Int} (_ : x0.list.length ≤ cp0a) (ok0 : okCIn x0) (hp0a : Lay.int.slice.Rd W Ap0a x0.list) (_ : x1.length ≤ cp1a) (ok1 : (x1.length ≤ maxLen ∧ ∀ i ∈ x1, okInt i)) (hp1a : Lay.int.Rd W Ap1a x1) :
    Calls Try.prog 5 #[.agg #[.int .i64 x0.many, .slice Ap0a x0.list.length cp0a], .slice Ap1a x1.length cp1a] W (LawC W) := by
  have hW0 : Below W.heap.size W (W.alloc (.cells #[.int .i64 x0.many, .slice Ap0a x0.list.length cp0a] 24)) := (Below.refl _ _).alloc (by simp <;> omega) _
  have hS0 : (W.alloc (.cells #[.int .i64 x0.many, .slice Ap0a x0.list.length cp0a] 24)).heap[W.heap.size]? = some (.cells #[.int .i64 x0.many, .slice Ap0a x0.list.length cp0a] 24 (0, 0)) := heap_alloc_new _ _
  have Hp0a := hp0a.up hW0
  have Hp1a := hp1a.up hW0
  clear hp0a hp1a
  have HS0 := Lib.hid hS0
  have hSlt0 := lt_of_block hS0
  clear hS0
  have HW0 := Lib.hid hW0
  clear hW0
  have OK0 := Lib.hid ok0
  clear ok0
  have OK1 := Lib.hid ok1
  clear ok1
  by_cases hbig1 : (1048576 : Int) < x1.length
  · go_enter Try.func5, Try.ntmps5
    go_wp2
    go_ret
    exact ⟨rfl, HW0.out⟩
  have SM1 : Hid (smInts x1) := Lib.hid (smInts_of OK1.out (by omega))
  go_enter Try.func5, Try.ntmps5
  go_wp2_with fail
  generalize W.alloc (.cells #[.int .i64 x0.many, .slice Ap0a x0.list.length cp0a] 24) = W0 at *
  have hb : Below W0.heap.size W0 W0 := Below.refl _ _
  refine (szCnf_u x0 Ap0a cp0a 1048576 _ (Hp0a.up hb) OK0.out (by omega) (by omega)).mono ?_
  rintro e u1 ⟨rfl, hbu1⟩
  have hb := bthen hb hbu1
  clear hbu1
  by_cases hbig0 : (1048576 : Int) < (wtC x0 : Nat)
  · have HSZ := Lib.hid (szRes_lt hbig0)
    clear hbig0
    rw [HSZ.out]
    go_wp2
    go_ret
    exact ⟨rfl, bthen HW0.out hb⟩
  have SM0 : Hid (smCnf x0) := Lib.hid (smCnf_of OK0.out (by omega))
  have HSZ0 := Lib.hid (szRes_ge hbig0)
  rw [HSZ0.out]
  have hln9 : (0 : Int) ≤ (1048576 - (wtC x0 : Nat)) := by omega
  clear hbig0
  generalize hr9 : unitAllP x0 x1 = r9 at *
  have HR9 := Lib.hid hr9
  clear hr9
  have HRS0 := Lib.hid (show r9.1.length ≤ 1048576 by rw [← HR9.out]; exact unitAllP_len SM1.out)
  have hne1 : (r9.2 != r9.2) = false := by simp
  have s0_0 : u1.cell? ⟨W.heap.size, 0, none⟩ = some (.int .i64 x0.many) := (hb.cell (p := ⟨W.heap.size, 0, none⟩) hSlt0).trans (cell_of_block HS0.out 0).1
  have s0_1 : u1.cell? ⟨W.heap.size, 1, none⟩ = some (.slice Ap0a x0.list.length cp0a) := (hb.cell (p := ⟨W.heap.size, 1, none⟩) hSlt0).trans (cell_of_block HS0.out 1).1
  go_wp2_with fail
  clear s0_0 s0_1
  refine (toCnf_u x0 Ap0a cp0a _ (Hp0a.up hb) SM0.out).mono ?_
  rintro e u2 ⟨Aq0a, cq0a, rfl, hcq0a, sq0a, hbq0⟩
  have hb := bthen hb hbq0
  clear hbq0
  go_wp2_with fail
  refine (toInts_u x1 Ap1a cp1a _ (Hp1a.up hb) SM1.out).mono ?_
  rintro e u3 ⟨Aq1a, cq1a, rfl, hcq1a, sq1a, hbq1⟩
  have hb := bthen hb hbq1
  have sq0a := sq0a.own_up hbq1
  clear hbq1
  go_wp2_with fail
  refine (specUnitAll_u x0 Aq0a cq0a x1 Aq1a cq1a _ (sq0a.own_rd) hcq0a (sq1a.own_rd) hcq1a SM0.out SM1.out).mono ?_
  rw [HR9.out]
  rintro e u4 ⟨Aw0a, cw0a, rfl, hcw0a, sw0a, hb9⟩
  clear sq0a
  clear sq1a
  have hb := bthen hb hb9
  clear hb9
  have Rw0a := sw0a.cp_of
  clear sw0a
  have s0_0 : u4.cell? ⟨W.heap.size, 0, none⟩ = some (.int .i64 x0.many) := (hb.cell (p := ⟨W.heap.size, 0, none⟩) hSlt0).trans (cell_of_block HS0.out 0).1
  have s0_1 : u4.cell? ⟨W.heap.size, 1, none⟩ = some (.slice Ap0a x0.list.length cp0a) := (hb.cell (p := ⟨W.heap.size, 1, none⟩) hSlt0).trans (cell_of_block HS0.out 1).1
  go_wp2_with fail
  clear s0_0 s0_1
  have z0 : W0.heap.size ≤ u4.heap.size := hb.size
  have hs : Below u4.heap.size u4 u4 := Below.refl _ _
  refine (toCnf_u x0 Ap0a cp0a _ (Hp0a.up hb) SM0.out).mono ?_
  rintro e u5 ⟨Ak0a, ck0a, rfl, hck0a, sk0a, hbk0⟩
  have hb := bthen hb hbk0
  have hs := bthen hs hbk0
  have Rw0a := Rw0a.cp_up hbk0
  clear hbk0
  have hal : Below u5.heap.size u5 (u5.alloc (.cells #[.int .i64 x0.many, .slice Ak0a x0.list.length ck0a] 28)) := (Below.refl _ _).alloc (Nat.le_refl _) _
  have B9 : (u5.alloc (.cells #[.int .i64 x0.many, .slice Ak0a x0.list.length ck0a] 28)).heap[u5.heap.size]? = some (.cells #[.int .i64 x0.many, .slice Ak0a x0.list.length ck0a] 28 (0, 0)) := heap_alloc_new _ _
  have hb := bthen hb hal
  have hs := bthen hs hal
  have Rw0a := Rw0a.cp_up hal
  have sk0a := sk0a.own_up hal
  clear hal
  have B0 := Lib.hid B9
  clear B9
  go_wp2_with fail
  generalize u5.alloc (.cells #[.int .i64 x0.many, .slice Ak0a x0.list.length ck0a] 28) = u6 at *
  generalize u5.heap.size = iB0 at *
  have Rk0a := sk0a.cp_of
  clear sk0a
  have z1 : u4.heap.size ≤ u6.heap.size := hs.size
  clear hs
  have hs : Below u6.heap.size u6 u6 := Below.refl _ _
  refine (toInts_u x1 Ap1a cp1a _ (Hp1a.up hb) SM1.out).mono ?_
  rintro e u7 ⟨Ak1a, ck1a, rfl, hck1a, sk1a, hbk1⟩
  have hb := bthen hb hbk1
  have hs := bthen hs hbk1
  have Rw0a := Rw0a.cp_up hbk1
  have B0 := Lib.hid ((hbk1.block _ (lt_of_block B0.out)).trans B0.out)
  have Rk0a := Rk0a.cp_up hbk1
  clear hbk1
  have kB0_0 : u7.cell? ⟨iB0, 0, none⟩ = some (.int .i64 x0.many) := (cell_of_block B0.out 0).1
  have kB0_1 : u7.cell? ⟨iB0, 1, none⟩ = some (.slice Ak0a x0.list.length ck0a) := (cell_of_block B0.out 1).1
  go_wp2_with fail
  clear kB0_0 kB0_1
  have Rk1a := sk1a.cp_of
  clear sk1a
  have z2 : u6.heap.size ≤ u7.heap.size := hs.size
  clear hs
  have hs : Below u7.heap.size u7 u7 := Below.refl _ _
  refine (implUnitAll_u x0 Ak0a ck0a x1 Ak1a ck1a _ (Rk0a.cp_rd) hck0a (Rk1a.cp_rd) hck1a SM0.out SM1.out).mono ?_
  rw [HR9.out]
  rintro e u8 ⟨Ag0a, cg0a, rfl, hcg0a, sg0a, hb9⟩
  have hb := bthen hb hb9
  have hs := bthen hs hb9
  have Rw0a := Rw0a.cp_up hb9
  have B0 := Lib.hid ((hb9.block _ (lt_of_block B0.out)).trans B0.out)
  have Rk0a := Rk0a.cp_up hb9
  have Rk1a := Rk1a.cp_up hb9
  clear hb9
  have Rg0a := sg0a.cp_of
  clear sg0a
  have z3 : u7.heap.size ≤ u8.heap.size := hs.size
  clear hs
  have hs : Below u8.heap.size u8 u8 := Below.refl _ _
  go_wp2_with fail
  refine (eqInts_u r9.1 Ag0a Aw0a cg0a cw0a _ Rg0a.cp_rd Rw0a.cp_rd HRS0.out).mono ?_
  rintro e u9 ⟨rfl, hb9⟩
  have hb := bthen hb hb9
  have hs := bthen hs hb9
  have Rw0a := Rw0a.cp_up hb9
  have B0 := Lib.hid ((hb9.block _ (lt_of_block B0.out)).trans B0.out)
  have Rk0a := Rk0a.cp_up hb9
  have Rk1a := Rk1a.cp_up hb9
  have Rg0a := Rg0a.cp_up hb9
  clear hb9
  have s0_0 : u9.cell? ⟨W.heap.size, 0, none⟩ = some (.int .i64 x0.many) := (hb.cell (p := ⟨W.heap.size, 0, none⟩) hSlt0).trans (cell_of_block HS0.out 0).1
  have s0_1 : u9.cell? ⟨W.heap.size, 1, none⟩ = some (.slice Ap0a x0.list.length cp0a) := (hb.cell (p := ⟨W.heap.size, 1, none⟩) hSlt0).trans (cell_of_block HS0.out 1).1
  have d0_0 := Later.cell s0_0
  have d0_1 := Later.cell s0_1
  have k0 : u9.cell? ⟨iB0, 0, none⟩ = some (.int .i64 x0.many) := (cell_of_block B0.out 0).1
  have k1 : u9.cell? ⟨iB0, 1, none⟩ = some (.slice Ak0a x0.list.length ck0a) := (cell_of_block B0.out 1).1
  have g0 := Later.cell k0
  have g1 := Later.cell k1
  go_wp2
  clear s0_0 s0_1
  clear k0 k1
  refine wp_region_shares [[], [], [(1, 53)], [(0, 52), (2, 54)], [(3, 55)]]
    [.eq (.agg #[.int .i64 x0.many, .slice Ak0a x0.list.length ck0a]), .eq (.agg #[.int .i64 x0.many, .slice Ap0a x0.list.length cp0a]), Fact.copyC x0, Fact.boolC u9 true, Fact.boolC u9 false]
    [] [] [] [4] [(0, 52), (1, 53), (2, 54), (3, 55), (4, 56)] (by kernel_rfl) (by kernel_rfl) (by kernel_rfl) (by kernel_rfl)
    ⟨?_, ?_, ?_, ?_, ?_, trivial⟩ ?_
  · intro vals u10 hC hF
    have hC := hC.resolve_left (by simp)
    have hsz := hC.size
    have e1 : u10.cell? _ = _ := g0 ⟨u10, hC⟩
    have e2 : u10.cell? _ = _ := g1 ⟨u10, hC⟩
    simp only [putsD, Act.put, List.setIfInBounds_toArray, List.set_cons_zero, List.set_cons_succ]
    go_wp2
    exact ⟨rfl, rfl, .inr (Below.refl _ _), .inr (.inl (by simp))⟩
  · intro vals u10 hC hF
    have hC := hC.resolve_left (by simp)
    have hsz := hC.size
    have e1 : u10.cell? _ = _ := d0_0 ⟨u10, hC⟩
    have e2 : u10.cell? _ = _ := d0_1 ⟨u10, hC⟩
    simp only [putsD, Act.put, List.setIfInBounds_toArray, List.set_cons_zero, List.set_cons_succ]
    go_wp2
    exact ⟨rfl, rfl, .inr (Below.refl _ _), .inr (.inl (by simp))⟩
  · intro vals u10 hC hF
    have hC := hC.resolve_left (by simp)
    have hsz := hC.size
    simp only [factsD, List.getD_cons_zero, List.getD_cons_succ, Fact.eq, Fact.row, Fact.lit, Fact.lit0, Fact.of, and_true, Fact.copyI, Fact.copyC, Fact.boolC] at hF
    simp only [putsD, Act.put, List.setIfInBounds_toArray, List.set_cons_zero, List.set_cons_succ]
    simp only [hF]
    go_wp2_with fail
    refine (toCnf_u x0 Ap0a cp0a _ (Hp0a.up (bthen hb hC)) SM0.out).mono ?_
    rintro e wx ⟨Aq0a, cq0a, rfl, hcq0a, sq0a, hbq0⟩
    have Rq0a := sq0a.own_rd
    go_wp2
    exact ⟨rfl, ⟨Aq0a, cq0a, rfl, hcq0a, Rq0a⟩, .inr hbq0, .inr (.inl (by simp))⟩
  · intro vals u10 hC hF
    have hC := hC.resolve_left (by simp)
    have hsz := hC.size
    simp only [factsD, List.getD_cons_zero, List.getD_cons_succ, Fact.eq, Fact.row, Fact.lit, Fact.lit0, Fact.of, and_true, Fact.copyI, Fact.copyC, Fact.boolC] at hF
    obtain ⟨e52, Aq0a, cq0a, e54, hcq0a, Rq0a⟩ := hF
    simp only [putsD, Act.put, List.setIfInBounds_toArray, List.set_cons_zero, List.set_cons_succ]
    simp only [e52, e54]
    go_wp2_with fail
    refine (eqCnf_u x0 Ak0a Aq0a ck0a cq0a _ (Rk0a.cp_rd.up hC) Rq0a SM0.out).mono ?_
    rintro e wx ⟨rfl, hb9⟩
    go_wp2
    exact ⟨rfl, ⟨rfl, bthen hC hb9⟩, .inr hb9, .inr (.inl (by simp))⟩
  · intro vals u10 hC hF
    have hC := hC.resolve_left (by simp)
    have hsz := hC.size
    simp only [factsD, List.getD_cons_zero, List.getD_cons_succ, Fact.eq, Fact.row, Fact.lit, Fact.lit0, Fact.of, and_true, Fact.copyI, Fact.copyC, Fact.boolC] at hF
    obtain ⟨e55, _⟩ := hF
    simp only [putsD, Act.put, List.setIfInBounds_toArray, List.set_cons_zero, List.set_cons_succ]
    simp only [e55]
    go_wp2
    exact ⟨rfl, ⟨rfl, hC⟩, .inr (Below.refl _ _), .inr (.inl (by simp))⟩
  · intro vals u10 hF
    simp only [facts, List.getD_cons_zero, List.getD_cons_succ, Fact.eq, Fact.row, Fact.lit, Fact.lit0, Fact.of, and_true, Fact.copyI, Fact.copyC, Fact.boolC] at hF
    obtain ⟨e56, hb9⟩ := hF
    simp only [putsD, Act.put, List.setIfInBounds_toArray, List.set_cons_zero, List.set_cons_succ]
    simp only [e56]
    clear d0_0 d0_1 e56 g0 g1
    have hb := bthen hb hb9
    have hs := bthen hs hb9
    have Rw0a := Rw0a.cp_up hb9
    have B0 := Lib.hid ((hb9.block _ (lt_of_block B0.out)).trans B0.out)
    have Rk0a := Rk0a.cp_up hb9
    have Rk1a := Rk1a.cp_up hb9
    have Rg0a := Rg0a.cp_up hb9
    clear hb9
    go_wp2_with fail
    refine (toInts_u x1 Ap1a cp1a _ (Hp1a.up hb) SM1.out).mono ?_
    rintro e u11 ⟨Ay1a, cy1a, rfl, hcy1a, sy1a, hby1⟩
    have hb := bthen hb hby1
    have hs := bthen hs hby1
    have Rw0a := Rw0a.cp_up hby1
    have B0 := Lib.hid ((hby1.block _ (lt_of_block B0.out)).trans B0.out)
    have Rk0a := Rk0a.cp_up hby1
    have Rk1a := Rk1a.cp_up hby1
    have Rg0a := Rg0a.cp_up hby1
    clear hby1
    go_wp2_with fail
    refine (eqInts_u x1 Ak1a Ay1a ck1a cy1a _ Rk1a.cp_rd sy1a.own_rd SM1.out.1).mono ?_
    rintro e u12 ⟨rfl, hb9⟩
    clear sy1a
    have hb := bthen hb hb9
    have hs := bthen hs hb9
    have Rw0a := Rw0a.cp_up hb9
    have B0 := Lib.hid ((hb9.block _ (lt_of_block B0.out)).trans B0.out)
    have Rk0a := Rk0a.cp_up hb9
    have Rk1a := Rk1a.cp_up hb9
    have Rg0a := Rg0a.cp_up hb9
    clear hb9
    have kB0_0 : u12.cell? ⟨iB0, 0, none⟩ = some (.int .i64 x0.many) := (cell_of_block B0.out 0).1
    have kB0_1 : u12.cell? ⟨iB0, 1, none⟩ = some (.slice Ak0a x0.list.length ck0a) := (cell_of_block B0.out 1).1
    go_wp2_with fail
    clear kB0_0 kB0_1
    refine (markCnf_u x0 Ak0a ck0a _ _ 1 _ Rk0a SM0.out (by omega) (by omega)).mono ?_
    rintro e u13 ⟨rfl, hd⟩
    clear B0
    clear hs
    have Rw0a := Rw0a.cp_dab hd (by intro b h1 h2 h3; have := h3.1; have := h3.2; omega)
    clear Rk0a
    have Rk1a := Rk1a.cp_dab hd (by intro b h1 h2 h3; have := h3.1; have := h3.2; omega)
    have Rg0a := Rg0a.cp_dab hd (by intro b h1 h2 h3; have := h3.1; have := h3.2; omega)
    have hb := below_rng hb hd hb.size (by omega)
    clear hd
    obtain ⟨k9_1, hk9, hk9a, hk9b⟩ : ∃ k9 : Int, k9 = 1 + (nsum (x0.list.map List.length) : Nat) ∧ 0 ≤ k9 ∧ k9 ≤ 10000000 := ⟨_, rfl, by omega, by have := SM0.out.2.2.2; omega⟩
    rw [← hk9]
    clear hk9
    go_wp2_with fail
    refine (markInts_u x1 Ak1a ck1a _ _ k9_1 _ Rk1a SM1.out.1 (by omega) (by omega)).mono ?_
    rintro e u14 ⟨rfl, hd, _⟩
    have Rw0a := Rw0a.cp_dab hd (by intro b h1 h2 h3; have := h3.1; have := h3.2; omega)
    clear Rk1a
    have Rg0a := Rg0a.cp_dab hd (by intro b h1 h2 h3; have := h3.1; have := h3.2; omega)
    have hb := below_rng hb hd hb.size (by omega)
    clear hd
    obtain ⟨k9_2, hk9, hk9a, hk9b⟩ : ∃ k9 : Int, k9 = k9_1 + (x1.length : Nat) ∧ 0 ≤ k9 ∧ k9 ≤ 20000000 := ⟨_, rfl, by omega, by have := SM1.out.1; omega⟩
    rw [← hk9]
    clear hk9
    go_wp2_with fail
    refine (eqInts_u r9.1 Ag0a Aw0a cg0a cw0a _ Rg0a.cp_rd Rw0a.cp_rd HRS0.out).mono ?_
    rintro e u15 ⟨rfl, hb9⟩
    have hb := bthen hb hb9
    have Rw0a := Rw0a.cp_up hb9
    have Rg0a := Rg0a.cp_up hb9
    clear hb9
    go_wp2_with fail
    refine (markInts_u r9.1 Ag0a cg0a _ _ 1 _ Rg0a HRS0.out (by omega) (by omega)).mono ?_
    rintro e u16 ⟨rfl, hd, RM0⟩
    have Rw0a := Rw0a.cp_dab hd (by intro b h1 h2 h3; have := h3.1; have := h3.2; omega)
    clear Rg0a
    have hb := below_rng hb hd hb.size (by omega)
    clear hd
    obtain ⟨m9, hm9, hm9a⟩ : ∃ m9 : Int, m9 = 1 + (r9.1.length : Nat) ∧ 0 ≤ m9 := ⟨_, rfl, by omega⟩
    rw [← hm9]
    have HM9 := Lib.hid hm9
    have hmm9 : (m9 != m9) = false := by simp
    clear hm9
    go_wp2_with fail
    refine (heldInts_u r9.1.length Ag0a cg0a 1 _ RM0.cp_rd HRS0.out (by omega) (by omega)).mono ?_
    rw [← HM9.out]
    rintro e u17 ⟨rfl, hb9⟩
    have hb := bthen hb hb9
    have Rw0a := Rw0a.cp_up hb9
    have RM0 := RM0.cp_up hb9
    clear hb9
    have s0_0 : u17.cell? ⟨W.heap.size, 0, none⟩ = some (.int .i64 x0.many) := (hb.cell (p := ⟨W.heap.size, 0, none⟩) hSlt0).trans (cell_of_block HS0.out 0).1
    have s0_1 : u17.cell? ⟨W.heap.size, 1, none⟩ = some (.slice Ap0a x0.list.length cp0a) := (hb.cell (p := ⟨W.heap.size, 1, none⟩) hSlt0).trans (cell_of_block HS0.out 1).1
    go_wp2_with fail
    clear s0_0 s0_1
    refine (toCnf_u x0 Ap0a cp0a _ (Hp0a.up hb) SM0.out).mono ?_
    rintro e u18 ⟨Az0a, cz0a, rfl, hcz0a, sz0a, hbz0⟩
    have hb := bthen hb hbz0
    have Rw0a := Rw0a.cp_up hbz0
    have RM0 := RM0.cp_up hbz0
    clear hbz0
    go_wp2_with fail
    refine (toInts_u x1 Ap1a cp1a _ (Hp1a.up hb) SM1.out).mono ?_
    rintro e u19 ⟨Az1a, cz1a, rfl, hcz1a, sz1a, hbz1⟩
    have hb := bthen hb hbz1
    have Rw0a := Rw0a.cp_up hbz1
    have RM0 := RM0.cp_up hbz1
    have sz0a := sz0a.own_up hbz1
    clear hbz1
    go_wp2_with fail
    refine (implUnitAll_u x0 Az0a cz0a x1 Az1a cz1a _ (sz0a.own_rd) hcz0a (sz1a.own_rd) hcz1a SM0.out SM1.out).mono ?_
    rw [HR9.out]
    rintro e u20 ⟨Ah0a, ch0a, rfl, hch0a, sh0a, hb9⟩
    clear sz0a
    clear sz1a
    have hb := bthen hb hb9
    have Rw0a := Rw0a.cp_up hb9
    have RM0 := RM0.cp_up hb9
    clear hb9
    have Rh0a := sh0a.cp_of
    clear sh0a
    go_wp2_with fail
    refine (eqInts_u r9.1 Ah0a Aw0a ch0a cw0a _ Rh0a.cp_rd Rw0a.cp_rd HRS0.out).mono ?_
    rintro e u21 ⟨rfl, hb9⟩
    have hb := bthen hb hb9
    have Rw0a := Rw0a.cp_up hb9
    have RM0 := RM0.cp_up hb9
    have Rh0a := Rh0a.cp_up hb9
    clear hb9
    go_wp2_with fail
    refine (heldInts_u r9.1.length Ag0a cg0a 1 _ RM0.cp_rd HRS0.out (by omega) (by omega)).mono ?_
    rw [← HM9.out]
    rintro e u22 ⟨rfl, hb9⟩
    have hb := bthen hb hb9
    have Rw0a := Rw0a.cp_up hb9
    have RM0 := RM0.cp_up hb9
    have Rh0a := Rh0a.cp_up hb9
    clear hb9
    go_wp2
    go_ret
    exact ⟨rfl, bthen HW0.out hb⟩

set_option maxRecDepth 100000 in
theorem fnExactUnitAll_lifted (os : Os) (started : os.Started) (H : Type) (enc : TypeId × Value → H) :
    ReturnsInHanded {} Try.checked os 5 .any (Rows.fnExactUnitAllSpec.pre6 enc Try.prog Try.f5 Rows.fnExactUnitAllRow.domain false) (Rows.fnExactUnitAllSpec.post enc Try.prog Try.f5 false true false false) := by
  refine returnsInHanded_of_change (C := Try.checked) (by kernel_rfl) started (by kernel_rfl) Try.func5
    (ChangeSpec.witness6 (enc := enc) (C := Try.checked) false ⟨#[], #[.agg #[.int .i64 0, .slice none 0 0], .slice none 0 0], []⟩ 16 (by kernel_rfl) (by kernel_rfl) (by kernel_rfl) (by kernel_rfl)) ?_
  intro W base args ds gs before hval0 hW hcnd _
  have hval : ∀ (j : Nat) t v, Try.f5.params[j]? = some t → args[j]? = some v → Value.okWide Try.prog W .any base t v := hval0
  have hW' := hW
  obtain ⟨p, q, hA0, hV, rfl, hfz, hnd⟩ := hW
  have hA : DataW.TrodAll enc Try.prog W 0 (fun _ => true) true Try.f5.params.toList args.toList ds p := hA0
  rw [Try.params5] at hA hval
  obtain ⟨v0, vs0, d0, ds0, p0, q0, hargs, rfl, rfl, h0, r0⟩ := trodAll_cons hA
  obtain ⟨v1, vs1, d1, ds1, p1, q1, rfl, rfl, rfl, h1, r1⟩ := trodAll_cons r0
  obtain ⟨rfl, rfl, rfl⟩ := trodAll_nil r1
  obtain rfl : args = #[v0, v1] := by cases args; simp_all
  obtain ⟨rfl, rfl⟩ := trodVars_none hV
  have k0 := h0
  have lt0 : ∀ x ∈ p0, x.block < W.heap.size := by obtain ⟨m, hm⟩ := k0; exact DataW.trod_lt m _ _ _ hm
  have k1 := h1
  have lt1 : ∀ x ∈ p1, x.block < W.heap.size := by obtain ⟨m, hm⟩ := k1; exact DataW.trod_lt m _ _ _ hm
  obtain ⟨A0, c0, x0, rfl, hc0, ok0, rd0⟩ := open_cnf (hval 0 24 v0 rfl rfl) h0
  obtain ⟨A1, c1, x1, rfl, hc1, ok1, rd1⟩ := open_arg Try.underlying25 opens_ints (hval 1 25 v1 rfl rfl) h1
  clear hA0 hval0
  refine (fnExactUnitAll_walk W hc0 ok0 rd0 hc1 ok1 rd1).mono fun e W' ⟨he, bel⟩ => ?_
  subst he
  exact ⟨_, rfl, _, _, _, [], _, [], hW', trodAll_mk1 (shut_bool Try.underlying4 _), (trodAll_cons_mk (Below.trod (by kernel_rfl) (by kernel_rfl) (of_decide_eq_true (by kernel_rfl)) k0 bel lt0) (trodAll_cons_mk (Below.trod (by kernel_rfl) (by kernel_rfl) (of_decide_eq_true (by kernel_rfl)) k1 bel lt1) trodAll_mk0)), rfl, bel.frame _, fun h => by cases h⟩

/-- The given statement. -/
theorem fnExactUnitAll_holds : Rows.FnExactUnitAllSaid :=
  OpenClaim.holds_of_wide 5 Try.f5 rfl rfl rfl rfl rfl rfl rfl ⟨rfl, rfl, rfl, rfl, rfl⟩ rfl rfl rfl rfl rfl (by kernel_rfl) Try.func5 (by kernel_rfl)
    (of_decide_eq_true (by kernel_rfl)) (by unfold Func.isWrapper; first | (rw [if_pos (by decide +kernel)]; kernel_rfl) | (rw [if_neg (by decide +kernel)]; exact ⟨rfl, rfl⟩))
    (fun os started H enc _ => fnExactUnitAll_lifted os started H enc)
#print axioms fnExactUnitAll_holds
end Go.Proofs.Ytndolbplkjhooaa
