/- FnExactNetXor: the program's NetXor returns of any net and marks what the reference's returns. -/
import Derived.Test.YtohchplomjenfaaNetL
import Derived.Test.YtohchplomjenfaaRows
namespace Go.Proofs.Ytohchplomjenfaa
open Go Go.RowKit Go.ChangeShapes Go.WideShapes Go.ChangeAt

set_option maxRecDepth 100000 in
set_option maxHeartbeats 8000000 in
theorem netXor_walk (W : World) {A : Option Addr} {c : Nat} {n : N} {a b : Int} (hc : n.gs.length ≤ c) (okn : okNetIn n) (h : Lay.gate.Rd W A n.gs) (oka : okInt a) (okb : okInt b) :
    Calls Try.prog 8 #[.agg #[.int .i64 n.ins, .slice A n.gs.length c], .int .i64 a, .int .i64 b] W (LawN W) := by
  obtain ⟨_, okl, okg⟩ := okn
  unfold maxLen at okl
  have hi : okInts n := okg
  have hW0 : Below W.heap.size W (W.alloc (.cells #[.int .i64 n.ins, .slice A n.gs.length c] 45)) := (Below.refl _ _).alloc (Nat.le_refl _) _
  have hS0 : (W.alloc (.cells #[.int .i64 n.ins, .slice A n.gs.length c] 45)).heap[W.heap.size]? = some (.cells #[.int .i64 n.ins, .slice A n.gs.length c] 45 (0, 0)) := heap_alloc_new _ _
  by_cases hbig : (1048576 : Int) < n.gs.length
  · have HSZ := Lib.hid (show (if (1048576 : Int) < n.gs.length then (-1 : Int) else 1048576 - n.gs.length) = -1 from if_pos hbig)
    clear hbig
    go_enter Try.func8, Try.ntmps8
    go_wp2_with fail
    refine (szNet_any A c n.gs.length n.ins 1048576 _ (by omega) (by omega) (by omega)).mono ?_
    rw [HSZ.out]
    rintro e w1 ⟨rfl, hb1⟩
    go_wp2
    go_ret
    exact ⟨rfl, bthen hW0 hb1⟩
  have hn : n.gs.length ≤ 1048576 := by omega
  have HSZ := Lib.hid (show (if (1048576 : Int) < n.gs.length then (-1 : Int) else 1048576 - n.gs.length) = 1048576 - n.gs.length from if_neg hbig)
  clear hbig
  have hn9 : 0 ≤ (1048576 : Int) - n.gs.length := by omega
  go_enter Try.func8, Try.ntmps8
  go_wp2_with fail
  refine (szNet_any A c n.gs.length n.ins 1048576 _ (by omega) (by omega) (by omega)).mono ?_
  rw [HSZ.out]
  have H0 := h.up hW0
  generalize W.alloc (.cells #[.int .i64 n.ins, .slice A n.gs.length c] 45) = W0 at *
  have HS0 := Lib.hid hS0
  have hSlt := lt_of_block hS0
  clear hS0 h
  rintro e w1 ⟨rfl, hb⟩
  have oka' : -9223372036854775808 ≤ a ∧ a ≤ 9223372036854775807 := oka
  have okb' : -9223372036854775808 ≤ b ∧ b ≤ 9223372036854775807 := okb
  have hmlen := put_len9 n xor1 a b xor1_len
  generalize hm : netOp xor1 n a b = m at *
  have HM := Lib.hid hm
  clear hm
  have hne : (m.2 != m.2) = false := by simp
  have hml : m.1.gs.length ≤ 1048576 := by omega
  have hk0 : (0 : Int) ≤ 1 + 3 * (n.gs.length : Int) := by omega
  have s0 : w1.cell? ⟨W.heap.size, 0, none⟩ = some (.int .i64 n.ins) := (hb.cell (p := ⟨W.heap.size, 0, none⟩) hSlt).trans (cell_of_block HS0.out 0).1
  have s1 : w1.cell? ⟨W.heap.size, 1, none⟩ = some (.slice A n.gs.length c) := (hb.cell (p := ⟨W.heap.size, 1, none⟩) hSlt).trans (cell_of_block HS0.out 1).1
  go_wp2_with fail
  refine (toNet_any A c n _ w1 (H0.up hb) (fun _ h => h) hn).mono ?_
  rintro e w2 ⟨A2, c2, rfl, ho2, hb2⟩
  have hb := bthen hb hb2
  clear s0 s1
  go_wp2_with fail
  refine (specNetXor_any A2 c2 n a b w2 (own_rd ho2) hn (own_nonnil ho2) hi oka' okb').mono ?_
  rw [HM.out]
  rintro e w3 ⟨A3, c3, rfl, ho3, hb3⟩
  have hb := bthen hb hb3
  have hal3 : Below w3.heap.size w3 (w3.alloc (.cells #[.int .i64 m.1.ins, .slice A3 m.1.gs.length c3] 49)) := (Below.refl _ _).alloc (Nat.le_refl _) _
  have B8 : (w3.alloc (.cells #[.int .i64 m.1.ins, .slice A3 m.1.gs.length c3] 49)).heap[w3.heap.size]? = some (.cells #[.int .i64 m.1.ins, .slice A3 m.1.gs.length c3] 49 (0, 0)) := heap_alloc_new _ _
  have s0 : w3.cell? ⟨W.heap.size, 0, none⟩ = some (.int .i64 n.ins) := (hb.cell (p := ⟨W.heap.size, 0, none⟩) hSlt).trans (cell_of_block HS0.out 0).1
  have s1 : w3.cell? ⟨W.heap.size, 1, none⟩ = some (.slice A n.gs.length c) := (hb.cell (p := ⟨W.heap.size, 1, none⟩) hSlt).trans (cell_of_block HS0.out 1).1
  have hSlt3 : W.heap.size < w3.heap.size := Nat.lt_of_lt_of_le hSlt hb.size
  have R8 := ho3.up hal3
  have hb := bthen hb hal3
  clear hb2 hb3 ho2
  have B8H := Lib.hid B8
  clear B8
  go_wp2_with fail
  clear s0 s1 hSlt3 hal3 ho3
  generalize w3.alloc (.cells #[.int .i64 m.1.ins, .slice A3 m.1.gs.length c3] 49) = w4 at *
  have hi8 : w3.heap.size < w4.heap.size := lt_of_block B8H.out
  generalize w3.heap.size = i8 at *
  refine (toNet_any A c n _ w4 (H0.up hb) (fun _ h => h) hn).mono ?_
  rintro e w5 ⟨A5, c5, rfl, ho5, hb5⟩
  have hb0 := hb
  have hb := bthen hb hb5
  have B8H := Lib.hid ((hb5.block _ hi8).trans B8H.out)
  have hi8 := lt_of_block B8H.out
  have hlo10 : W0.heap.size ≤ w4.heap.size := hb0.size
  have D85 := row_apart R8 ho5 (Nat.le_refl _)
  have R8 := R8.up hb5
  have hal5 : Below w5.heap.size w5 (w5.alloc (.cells #[.int .i64 n.ins, .slice A5 n.gs.length c5] 49)) := (Below.refl _ _).alloc (Nat.le_refl _) _
  have B10 : (w5.alloc (.cells #[.int .i64 n.ins, .slice A5 n.gs.length c5] 49)).heap[w5.heap.size]? = some (.cells #[.int .i64 n.ins, .slice A5 n.gs.length c5] 49 (0, 0)) := heap_alloc_new _ _
  have R10 := ho5.up hal5
  have R8 := R8.up hal5
  have B8H := Lib.hid ((hal5.block _ hi8).trans B8H.out)
  have hb := bthen hb hal5
  have B10H := Lib.hid B10
  clear B10 hb5 ho5 hal5
  go_wp2_with fail
  generalize w5.alloc (.cells #[.int .i64 n.ins, .slice A5 n.gs.length c5] 49) = w6 at *
  have hi10 : w5.heap.size < w6.heap.size := lt_of_block B10H.out
  generalize w5.heap.size = i10 at *
  refine (implNetXor_any A5 c5 n a b w6 (own_rd R10) hn (own_nonnil R10) hi oka' okb').mono ?_
  rw [HM.out]
  rintro e w7 ⟨A7, c7, rfl, ho7, hb7⟩
  have hlo7 : W0.heap.size ≤ w6.heap.size := hb.size
  have hb := bthen hb hb7
  have D10_7 := row_apart R10 ho7 (Nat.le_refl _)
  have D87 := row_apart R8 ho7 (Nat.le_refl _)
  have B8H := Lib.hid ((hb7.block _ (lt_of_block B8H.out)).trans B8H.out)
  have B10H := Lib.hid ((hb7.block _ (lt_of_block B10H.out)).trans B10H.out)
  have R8 := R8.up hb7
  have R10 := R10.up hb7
  have hal7 : Below w7.heap.size w7 (w7.alloc (.cells #[.int .i64 m.1.ins, .slice A7 m.1.gs.length c7] 49)) := (Below.refl _ _).alloc (Nat.le_refl _) _
  have B11 : (w7.alloc (.cells #[.int .i64 m.1.ins, .slice A7 m.1.gs.length c7] 49)).heap[w7.heap.size]? = some (.cells #[.int .i64 m.1.ins, .slice A7 m.1.gs.length c7] 49 (0, 0)) := heap_alloc_new _ _
  have k80 : w7.cell? ⟨i8, 0, none⟩ = some (.int .i64 m.1.ins) := (cell_of_block B8H.out 0).1
  have k81 : w7.cell? ⟨i8, 1, none⟩ = some (.slice A3 m.1.gs.length c3) := (cell_of_block B8H.out 1).1
  have hi8 : i8 < w7.heap.size := lt_of_block B8H.out
  have R11 := ho7.up hal7
  have R10 := R10.up hal7
  have R8 := R8.up hal7
  have B8H := Lib.hid ((hal7.block _ (lt_of_block B8H.out)).trans B8H.out)
  have B10H := Lib.hid ((hal7.block _ (lt_of_block B10H.out)).trans B10H.out)
  have B11H := Lib.hid B11
  have hb := bthen hb hal7
  clear B11 hb7 ho7 hal7 hi10
  go_wp2_with fail
  clear k80 k81 hi8
  generalize w7.alloc (.cells #[.int .i64 m.1.ins, .slice A7 m.1.gs.length c7] 49) = w8 at *
  generalize w7.heap.size = i11 at *
  refine (eqNet_any A7 A3 c7 c3 m.1 m.1 _ _ w8 (own_rd R11) (own_rd R8) (fun _ h => h) (fun _ h => h) hml hml).mono ?_
  rw [show decide (m.1 = m.1) = true from by simp]
  rintro e w9 ⟨rfl, hb9⟩
  have hb := bthen hb hb9
  have B8H := Lib.hid ((hb9.block _ (lt_of_block B8H.out)).trans B8H.out)
  have B10H := Lib.hid ((hb9.block _ (lt_of_block B10H.out)).trans B10H.out)
  have B11H := Lib.hid ((hb9.block _ (lt_of_block B11H.out)).trans B11H.out)
  have R8 := R8.up hb9
  have R10 := R10.up hb9
  have R11 := R11.up hb9
  clear hb9
  have s0 : w9.cell? ⟨W.heap.size, 0, none⟩ = some (.int .i64 n.ins) := (hb.cell (p := ⟨W.heap.size, 0, none⟩) hSlt).trans (cell_of_block HS0.out 0).1
  have s1 : w9.cell? ⟨W.heap.size, 1, none⟩ = some (.slice A n.gs.length c) := (hb.cell (p := ⟨W.heap.size, 1, none⟩) hSlt).trans (cell_of_block HS0.out 1).1
  have k0 : w9.cell? ⟨i10, 0, none⟩ = some (.int .i64 n.ins) := (cell_of_block B10H.out 0).1
  have k1 : w9.cell? ⟨i10, 1, none⟩ = some (.slice A5 n.gs.length c5) := (cell_of_block B10H.out 1).1
  have d0 := Later.cell s0
  have d1 := Later.cell s1
  have d2 := Later.cell k0
  have d3 := Later.cell k1
  go_wp2
  clear s0 s1 k0 k1
  refine wp_region_shares [[], [], [(1, 50)], [(0, 49), (2, 51)], [(3, 52)]]
    [.eq (.agg #[.int .i64 n.ins, .slice A5 n.gs.length c5]), .eq (.agg #[.int .i64 n.ins, .slice A n.gs.length c]), Fact.copyN w9.heap.size n, Fact.trueN w9, Fact.falseN w9]
    [] [] [] [4] [(0, 49), (1, 50), (2, 51), (3, 52), (4, 53)] (by kernel_rfl) (by kernel_rfl) (by kernel_rfl) (by kernel_rfl)
    ⟨?_, ?_, ?_, ?_, ?_, trivial⟩ ?_
  · intro vals x hC hF
    have hC := hC.resolve_left (by simp)
    have hsz := hC.size
    have e1 : x.cell? _ = _ := d2 ⟨x, hC⟩
    have e2 : x.cell? _ = _ := d3 ⟨x, hC⟩
    simp only [putsD, Act.put, List.setIfInBounds_toArray, List.set_cons_zero, List.set_cons_succ]
    go_wp2
    exact ⟨rfl, rfl, .inr (Below.refl _ _), .inr (.inl (by simp))⟩
  · intro vals x hC hF
    have hC := hC.resolve_left (by simp)
    have hsz := hC.size
    have e1 : x.cell? _ = _ := d0 ⟨x, hC⟩
    have e2 : x.cell? _ = _ := d1 ⟨x, hC⟩
    simp only [putsD, Act.put, List.setIfInBounds_toArray, List.set_cons_zero, List.set_cons_succ]
    go_wp2
    exact ⟨rfl, rfl, .inr (Below.refl _ _), .inr (.inl (by simp))⟩
  · intro vals x hC hF
    have hC := hC.resolve_left (by simp)
    have hsz := hC.size
    simp only [factsD, List.getD_cons_zero, List.getD_cons_succ, Fact.eq, Fact.row, Fact.lit, Fact.lit0, Fact.of, and_true, Fact.copyN, Fact.trueN, Fact.falseN] at hF
    simp only [putsD, Act.put, List.setIfInBounds_toArray, List.set_cons_zero, List.set_cons_succ]
    simp only [hF]
    go_wp2_with fail
    refine (toNet_any A c n _ x (H0.up (bthen hb hC)) (fun _ h => h) hn).mono ?_
    rintro e wx ⟨A9, c9, rfl, ho9, hb9⟩
    go_wp2
    exact ⟨rfl, ⟨A9, c9, rfl, own_mono ho9 hsz⟩, .inr hb9, .inr (.inl (by simp))⟩
  · intro vals x hC hF
    have hC := hC.resolve_left (by simp)
    have hsz := hC.size
    simp only [factsD, List.getD_cons_zero, List.getD_cons_succ, Fact.eq, Fact.row, Fact.lit, Fact.lit0, Fact.of, and_true, Fact.copyN, Fact.trueN, Fact.falseN] at hF
    obtain ⟨e49, A9, c9, e51, ho9⟩ := hF
    simp only [putsD, Act.put, List.setIfInBounds_toArray, List.set_cons_zero, List.set_cons_succ]
    simp only [e49, e51]
    go_wp2_with fail
    refine (eqNet_any A5 A9 c5 c9 n n _ _ x (own_rd (R10.up hC)) (own_rd ho9) (fun _ h => h) (fun _ h => h) hn hn).mono ?_
    rw [show decide (n = n) = true from by simp]
    rintro e wx ⟨rfl, hb9⟩
    go_wp2
    exact ⟨rfl, ⟨rfl, bthen hC hb9⟩, .inr hb9, .inr (.inl (by simp))⟩
  · intro vals x hC hF
    have hC := hC.resolve_left (by simp)
    have hsz := hC.size
    simp only [factsD, List.getD_cons_zero, List.getD_cons_succ, Fact.eq, Fact.row, Fact.lit, Fact.lit0, Fact.of, and_true, Fact.copyN, Fact.trueN, Fact.falseN] at hF
    obtain ⟨e52, _⟩ := hF
    simp only [putsD, Act.put, List.setIfInBounds_toArray, List.set_cons_zero, List.set_cons_succ]
    simp only [e52]
    go_wp2
    exact ⟨rfl, ⟨rfl, hC⟩, .inr (Below.refl _ _), .inr (.inl (by simp))⟩
  · intro vals x hF
    simp only [facts, List.getD_cons_zero, List.getD_cons_succ, Fact.eq, Fact.row, Fact.lit, Fact.lit0, Fact.of, and_true, Fact.copyN, Fact.trueN, Fact.falseN] at hF
    obtain ⟨e53, hbx⟩ := hF
    simp only [putsD, Act.put, List.setIfInBounds_toArray, List.set_cons_zero, List.set_cons_succ]
    simp only [e53]
    clear d0 d1 d2 d3 e53
    have hb := bthen hb hbx
    have B8H := Lib.hid ((hbx.block _ (lt_of_block B8H.out)).trans B8H.out)
    have B10H := Lib.hid ((hbx.block _ (lt_of_block B10H.out)).trans B10H.out)
    have B11H := Lib.hid ((hbx.block _ (lt_of_block B11H.out)).trans B11H.out)
    have R8 := R8.up hbx
    have R10 := R10.up hbx
    have R11 := R11.up hbx
    clear hbx
    have k0 : x.cell? ⟨i10, 0, none⟩ = some (.int .i64 n.ins) := (cell_of_block B10H.out 0).1
    have k1 : x.cell? ⟨i10, 1, none⟩ = some (.slice A5 n.gs.length c5) := (cell_of_block B10H.out 1).1
    go_wp2_with fail
    clear k0 k1
    refine (markNet_any _ c5 A5 n 1 x R10 hn (by omega) (by omega)).mono ?_
    have R10x := R10
    rintro e wa ⟨rfl, R10, hga⟩
    have B8H := Lib.hid (box_kept R10x hga B8H.out (by decide))
    have B11H := Lib.hid (box_kept R10x hga B11H.out (by decide))
    have R8 := row_kept R8 hga D85
    have R11 := row_kept R11 hga (fun g e e' => D10_7 g e' e)
    have hb := hb.grown hga hb.size (fun k9 hk9 => Nat.le_trans hlo10 (R10x.lt k9 hk9).1)
    clear hga R10 R10x B10H
    have k0 : wa.cell? ⟨i11, 0, none⟩ = some (.int .i64 m.1.ins) := (cell_of_block B11H.out 0).1
    have k1 : wa.cell? ⟨i11, 1, none⟩ = some (.slice A7 m.1.gs.length c7) := (cell_of_block B11H.out 1).1
    have j0 : wa.cell? ⟨i8, 0, none⟩ = some (.int .i64 m.1.ins) := (cell_of_block B8H.out 0).1
    have j1 : wa.cell? ⟨i8, 1, none⟩ = some (.slice A3 m.1.gs.length c3) := (cell_of_block B8H.out 1).1
    go_wp2_with fail
    clear k0 k1 j0 j1
    refine (eqNet_any A7 A3 c7 c3 m.1 m.1 _ _ wa (own_rd R11) (own_rd R8) (fun _ h => h) (fun _ h => h) hml hml).mono ?_
    rw [show decide (m.1 = m.1) = true from by simp]
    rintro e wb ⟨rfl, hbb⟩
    have hb := bthen hb hbb
    have B8H := Lib.hid ((hbb.block _ (lt_of_block B8H.out)).trans B8H.out)
    have B11H := Lib.hid ((hbb.block _ (lt_of_block B11H.out)).trans B11H.out)
    have R8 := R8.up hbb
    have R11 := R11.up hbb
    clear hbb
    have k0 : wb.cell? ⟨i11, 0, none⟩ = some (.int .i64 m.1.ins) := (cell_of_block B11H.out 0).1
    have k1 : wb.cell? ⟨i11, 1, none⟩ = some (.slice A7 m.1.gs.length c7) := (cell_of_block B11H.out 1).1
    go_wp2_with fail
    clear k0 k1 hk0
    refine (markNet_any _ c7 A7 m.1 1 wb R11 hml (by omega) (by omega)).mono ?_
    generalize hq : (1 : Int) + 3 * (m.1.gs.length : Int) = q9 at *
    have hq0 : 0 ≤ q9 := by omega
    have hqq : (q9 != q9) = false := by simp
    have HQ := Lib.hid hq
    clear hq
    rintro e wc ⟨rfl, R11m, hgc⟩
    have B8H := Lib.hid (box_kept R11 hgc B8H.out (by decide))
    have B11H := Lib.hid (box_kept R11 hgc B11H.out (by decide))
    have R8 := row_kept R8 hgc D87
    have hb := hb.grown hgc hb.size (fun k9 hk9 => Nat.le_trans hlo7 (R11.lt k9 hk9).1)
    clear hgc R11
    have R11 : OwnGs wc w6.heap.size (.slice A7 (marked m.1.gs.length 1).length c7) (marked m.1.gs.length 1) := by rw [marked_len]; exact R11m
    clear R11m
    have k0 : wc.cell? ⟨i11, 0, none⟩ = some (.int .i64 m.1.ins) := (cell_of_block B11H.out 0).1
    have k1 : wc.cell? ⟨i11, 1, none⟩ = some (.slice A7 m.1.gs.length c7) := (cell_of_block B11H.out 1).1
    go_wp2_with fail
    clear k0 k1
    refine (heldNet_any A7 c7 m.1.gs.length m.1.ins 1 wc (own_rd R11) hml (by omega) (by omega)).mono ?_
    rw [HQ.out]
    rintro e wd ⟨rfl, hbd⟩
    have hb := bthen hb hbd
    have B8H := Lib.hid ((hbd.block _ (lt_of_block B8H.out)).trans B8H.out)
    have B11H := Lib.hid ((hbd.block _ (lt_of_block B11H.out)).trans B11H.out)
    have R8 := R8.up hbd
    have R11 := R11.up hbd
    clear hbd
    have s0 : wd.cell? ⟨W.heap.size, 0, none⟩ = some (.int .i64 n.ins) := (hb.cell (p := ⟨W.heap.size, 0, none⟩) hSlt).trans (cell_of_block HS0.out 0).1
    have s1 : wd.cell? ⟨W.heap.size, 1, none⟩ = some (.slice A n.gs.length c) := (hb.cell (p := ⟨W.heap.size, 1, none⟩) hSlt).trans (cell_of_block HS0.out 1).1
    go_wp2_with fail
    clear s0 s1
    refine (toNet_any A c n _ wd (H0.up hb) (fun _ h => h) hn).mono ?_
    rintro e we ⟨Ae, ce, rfl, hoe, hbe⟩
    have hb := bthen hb hbe
    have B8H := Lib.hid ((hbe.block _ (lt_of_block B8H.out)).trans B8H.out)
    have B11H := Lib.hid ((hbe.block _ (lt_of_block B11H.out)).trans B11H.out)
    have R8 := R8.up hbe
    have R11 := R11.up hbe
    clear hbe
    go_wp2_with fail
    refine (implNetXor_any Ae ce n a b we (own_rd hoe) hn (own_nonnil hoe) hi oka' okb').mono ?_
    rw [HM.out]
    rintro e wf ⟨Af, cf, rfl, hof, hbf⟩
    have hb := bthen hb hbf
    have B8H := Lib.hid ((hbf.block _ (lt_of_block B8H.out)).trans B8H.out)
    have B11H := Lib.hid ((hbf.block _ (lt_of_block B11H.out)).trans B11H.out)
    have R8 := R8.up hbf
    have R11 := R11.up hbf
    clear hbf
    have half : Below wf.heap.size wf (wf.alloc (.cells #[.int .i64 m.1.ins, .slice Af m.1.gs.length cf] 49)) := (Below.refl _ _).alloc (Nat.le_refl _) _
    have j0 : wf.cell? ⟨i8, 0, none⟩ = some (.int .i64 m.1.ins) := (cell_of_block B8H.out 0).1
    have j1 : wf.cell? ⟨i8, 1, none⟩ = some (.slice A3 m.1.gs.length c3) := (cell_of_block B8H.out 1).1
    have hi8 : i8 < wf.heap.size := lt_of_block B8H.out
    have Rf := hof.up half
    clear hof hoe
    have hb := bthen hb half
    have B8H := Lib.hid ((half.block _ (lt_of_block B8H.out)).trans B8H.out)
    have B11H := Lib.hid ((half.block _ (lt_of_block B11H.out)).trans B11H.out)
    have R8 := R8.up half
    have R11 := R11.up half
    clear half
    go_wp2_with fail
    clear j0 j1 hi8
    generalize wf.alloc (.cells #[.int .i64 m.1.ins, .slice Af m.1.gs.length cf] 49) = wg at *
    refine (eqNet_any Af A3 cf c3 m.1 m.1 _ _ wg (own_rd Rf) (own_rd R8) (fun _ h => h) (fun _ h => h) hml hml).mono ?_
    rw [show decide (m.1 = m.1) = true from by simp]
    rintro e wh ⟨rfl, hbh⟩
    have hb := bthen hb hbh
    have B8H := Lib.hid ((hbh.block _ (lt_of_block B8H.out)).trans B8H.out)
    have B11H := Lib.hid ((hbh.block _ (lt_of_block B11H.out)).trans B11H.out)
    have R8 := R8.up hbh
    have R11 := R11.up hbh
    clear hbh
    have k0 : wh.cell? ⟨i11, 0, none⟩ = some (.int .i64 m.1.ins) := (cell_of_block B11H.out 0).1
    have k1 : wh.cell? ⟨i11, 1, none⟩ = some (.slice A7 m.1.gs.length c7) := (cell_of_block B11H.out 1).1
    go_wp2_with fail
    clear k0 k1
    refine (heldNet_any A7 c7 m.1.gs.length m.1.ins 1 wh (own_rd R11) hml (by omega) (by omega)).mono ?_
    rw [HQ.out]
    rintro e wi ⟨rfl, hbi⟩
    have hb := bthen hb hbi
    go_wp2
    go_ret
    exact ⟨rfl, bthen hW0 hb⟩

set_option maxRecDepth 100000 in
theorem fnExactNetXor_lifted (os : Os) (started : os.Started) (H : Type) (enc : TypeId × Value → H) :
    ReturnsInHanded {} Try.checked os 8 .any (Rows.fnExactNetXorSpec.pre6 enc Try.prog Try.f8 Rows.fnExactNetXorRow.domain false) (Rows.fnExactNetXorSpec.post enc Try.prog Try.f8 false true false false) := by
  refine returnsInHanded_of_change (C := Try.checked) (by kernel_rfl) started (by kernel_rfl) Try.func8
    (ChangeSpec.witness6 (enc := enc) (C := Try.checked) false ⟨#[], #[(.agg #[.int .i64 0, .slice none 0 0]), .int .i64 0, .int .i64 0], []⟩ 16 (by kernel_rfl) (by kernel_rfl) (by kernel_rfl) (by kernel_rfl)) ?_
  intro W base args ds gs before hval0 hW hcnd _
  have hval : ∀ (j : Nat) t v, Try.f8.params[j]? = some t → args[j]? = some v → Value.okWide Try.prog W .any base t v := hval0
  have hW' := hW
  obtain ⟨p, q, hA0, hV, rfl, hfz, hnd⟩ := hW
  have hA : DataW.TrodAll enc Try.prog W 0 (fun _ => true) true Try.f8.params.toList args.toList ds p := hA0
  rw [Try.params8] at hA hval
  obtain ⟨v0, vs0, d0, ds0, p0, q0, hargs, rfl, rfl, h0, r0⟩ := trodAll_cons hA
  obtain ⟨v1, vs1, d1, ds1, p1, q1, rfl, rfl, rfl, h1, r1⟩ := trodAll_cons r0
  obtain ⟨v2, vs2, d2, ds2, p2, q2, rfl, rfl, rfl, h2, r2⟩ := trodAll_cons r1
  obtain ⟨rfl, rfl, rfl⟩ := trodAll_nil r2
  obtain rfl : args = #[v0, v1, v2] := by cases args; simp_all
  obtain ⟨rfl, rfl⟩ := trodVars_none hV
  have k0 := h0
  have lt0 : ∀ x ∈ p0, x.block < W.heap.size := by obtain ⟨m, hm⟩ := k0; exact DataW.trod_lt m _ _ _ hm
  have k1 := h1
  have lt1 : ∀ x ∈ p1, x.block < W.heap.size := by obtain ⟨m, hm⟩ := k1; exact DataW.trod_lt m _ _ _ hm
  have k2 := h2
  have lt2 : ∀ x ∈ p2, x.block < W.heap.size := by obtain ⟨m, hm⟩ := k2; exact DataW.trod_lt m _ _ _ hm
  obtain ⟨A0, c0, x0, rfl, hc0, ok0, rd0⟩ := open_net (hval 0 45 v0 rfl rfl) h0
  obtain ⟨x1, rfl, rfl, rfl, wf1⟩ := open_int Try.underlying3 (hval 1 3 v1 rfl rfl) h1
  have ok1 : okInt x1 := by have := bounds_i64 wf1; unfold okInt; omega
  obtain ⟨x2, rfl, rfl, rfl, wf2⟩ := open_int Try.underlying3 (hval 2 3 v2 rfl rfl) h2
  have ok2 : okInt x2 := by have := bounds_i64 wf2; unfold okInt; omega
  clear hA0 hval0
  refine (netXor_walk W hc0 ok0 rd0 ok1 ok2).mono fun e W' ⟨he, bel⟩ => ?_
  subst he
  exact ⟨_, rfl, _, _, _, [], _, [], hW', trodAll_mk1 (shut_bool Try.underlying4 _), (trodAll_cons_mk (Below.trod (by kernel_rfl) (by kernel_rfl) (of_decide_eq_true (by kernel_rfl)) k0 bel lt0) (trodAll_cons_mk (Below.trod (by kernel_rfl) (by kernel_rfl) (of_decide_eq_true (by kernel_rfl)) k1 bel lt1) (trodAll_cons_mk (Below.trod (by kernel_rfl) (by kernel_rfl) (of_decide_eq_true (by kernel_rfl)) k2 bel lt2) trodAll_mk0))), rfl, bel.frame _, fun h => by cases h⟩

/-- The given statement. -/
theorem fnExactNetXor_holds : Rows.FnExactNetXorSaid :=
  OpenClaim.holds_of_wide 8 Try.f8 rfl rfl rfl rfl rfl rfl rfl ⟨rfl, rfl, rfl, rfl, rfl⟩ rfl rfl rfl rfl rfl (by kernel_rfl) Try.func8 (by kernel_rfl)
    (of_decide_eq_true (by kernel_rfl)) (by unfold Func.isWrapper; first | (rw [if_pos (by decide +kernel)]; kernel_rfl) | (rw [if_neg (by decide +kernel)]; exact ⟨rfl, rfl⟩))
    (fun os started H enc _ => fnExactNetXor_lifted os started H enc)
#print axioms fnExactNetXor_holds
end Go.Proofs.Ytohchplomjenfaa
