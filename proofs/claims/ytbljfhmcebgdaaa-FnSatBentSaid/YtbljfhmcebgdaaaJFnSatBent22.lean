/- FnSatBent: damaged search states are refused: for any bytes the law says true. -/
import Derived.Test.YtbljfhmcebgdaaaRows
import Derived.Test.YtbljfhmcebgdaaaJFnSatBent3
import Derived.Test.YtbljfhmcebgdaaaJFnSatBent7
import Derived.Test.YtbljfhmcebgdaaaJFnSatBent21
/-! FnSatBent: damaged search states are refused: for any bytes the law says true. -/
namespace Go.Proofs.Ytbljfhmcebgdaaa
open Go Go.RowKit Go.ChangeShapes Go.WideShapes Go.ChangeAt Go.Deep

theorem opens_bytes : Opens Try.prog 22 Lay.byte.slice (fun xs => xs.length ≤ maxLen ∧ ∀ x ∈ xs, True) := Opens.slice Try.underlying22 (by kernel_rfl) (by decide) (Opens.byte Try.underlying5)
set_option maxRecDepth 100000 in
set_option maxHeartbeats 128000000 in
theorem fnSatBent_walk (W : World) {A0 : Option Addr} {c0 : Nat} {x0 : List UInt8} (hc0 : x0.length ≤ c0) (hok0 : x0.length ≤ maxLen ∧ ∀ z ∈ x0, True) (h0 : Lay.byte.Rd W A0 x0) :
    Calls Try.prog 6 #[.slice A0 x0.length c0] W (LawC W) := by
  have hm0 : x0.length ≤ 9223372036854775807 := by have := hok0.1; unfold maxLen at this; omega
  clear hok0
  by_cases hbig0 : (1048576 : Int) < x0.length
  · go_enter Try.func6, Try.ntmps6
    go_wp2
    go_ret
    exact ⟨rfl, Below.refl _ _⟩
  have hb : Below W.heap.size W W := Below.refl _ _
  go_enter Try.func6, Try.ntmps6
  go_wp2_with fail
  refine (drawSatOk_any A0 c0 x0 _ h0 hc0 hm0).mono ?_
  rintro e u1 ⟨x, A, a, s, P, Q, D, p', q', d', rfl, hxa, hx, hmx, hsx, hos, hrs, hb9⟩
  have hb := bthen hb hb9
  have h0 := h0.up hb9
  clear hb9
  have SX : Hid (smCnf x) := Lib.hid ⟨hmx, hsx.sm (by omega)⟩
  have SS := Lib.hid (hos.sm8 (by omega))
  have HOS := Lib.hid hos
  clear hmx hsx hos
  obtain ⟨hw9, hB0, hB1, hWS⟩ := two_boxes u1 (.cells #[.int .i64 x.many, .slice A x.list.length a] 25) (.cells #[.slice P s.put.length p', .slice Q s.why.length q', .slice D s.learned.length d', .int .i64 s.code] 35)
  have hb := bthen hb hw9
  have h0 := h0.up hw9
  have hx := hx.up hw9
  have hrs := hrs.up hw9
  clear hw9
  have BC := Lib.hid hB0
  have BS := Lib.hid hB1
  clear hB0 hB1 hWS
  go_wp2_with fail
  generalize (u1.alloc (.cells #[.int .i64 x.many, .slice A x.list.length a] 25)).alloc (.cells #[.slice P s.put.length p', .slice Q s.why.length q', .slice D s.learned.length d', .int .i64 s.code] 35) = v1 at *
  generalize u1.heap.size = iBC at *
  refine (drawSatSame_any A0 c0 x0 v1 h0 hc0 hm0).mono ?_
  rintro e v2 ⟨sa, Pa, Qa, Da, pa, qa, da, sb, Pb, Qb, Db, pb, qb, db, rfl, hoa, hob, hra, hrb, hb9⟩
  clear h0
  have hb := bthen hb hb9
  have hx := hx.up hb9
  have hrs := hrs.up hb9
  have BC := Lib.hid ((hb9.block _ (lt_of_block BC.out)).trans BC.out)
  have BS := Lib.hid ((hb9.block _ (lt_of_block BS.out)).trans BS.out)
  clear hb9
  have SA9 := Lib.hid (hoa.sm8 (by omega))
  have SB9 := Lib.hid (hob.sm8 (by omega))
  clear hoa hob
  obtain ⟨hw9, hB0, hB1, hWS⟩ := two_boxes v2 (.cells #[.slice Pa sa.put.length pa, .slice Qa sa.why.length qa, .slice Da sa.learned.length da, .int .i64 sa.code] 35) (.cells #[.slice Pb sb.put.length pb, .slice Qb sb.why.length qb, .slice Db sb.learned.length db, .int .i64 sb.code] 35)
  have hb := bthen hb hw9
  have hx := hx.up hw9
  have hrs := hrs.up hw9
  have BC := Lib.hid ((hw9.block _ (lt_of_block BC.out)).trans BC.out)
  have BS := Lib.hid ((hw9.block _ (lt_of_block BS.out)).trans BS.out)
  have hra := hra.up hw9
  have hrb := hrb.up hw9
  clear hw9
  have BA := Lib.hid hB0
  have BB := Lib.hid hB1
  clear hB0 hB1 hWS
  have kk0 := Later.cell (cell_of_block BC.out 0).1
  have kk1 := Later.cell (cell_of_block BC.out 1).1
  have kk2 := Later.cell (cell_of_block BS.out 0).1
  have kk6 := Later.cell (cell_of_block BA.out 0).1
  have kk10 := Later.cell (cell_of_block BB.out 0).1
  have kk3 := Later.cell (cell_of_block BS.out 1).1
  have kk7 := Later.cell (cell_of_block BA.out 1).1
  have kk11 := Later.cell (cell_of_block BB.out 1).1
  have kk4 := Later.cell (cell_of_block BS.out 2).1
  have kk8 := Later.cell (cell_of_block BA.out 2).1
  have kk12 := Later.cell (cell_of_block BB.out 2).1
  have kk5 := Later.cell (cell_of_block BS.out 3).1
  have kk9 := Later.cell (cell_of_block BA.out 3).1
  have kk13 := Later.cell (cell_of_block BB.out 3).1
  simp at kk0 kk1 kk2 kk3 kk4 kk5 kk6 kk7 kk8 kk9 kk10 kk11 kk12 kk13
  have HXR := Lib.hid hx
  have HSR := Lib.hid hrs
  have HAR := Lib.hid hra
  have HBR := Lib.hid hrb
  clear hx hrs hra hrb
  generalize hk9 : satOk x s = ok at *
  have HK9 := Lib.hid hk9
  clear hk9
  generalize hk8 : sameS sa sb = se at *
  have HK8 := Lib.hid hk8
  clear hk8
  have HK7 : Hid (sameS sa sa = true) := Lib.hid (sameS_iff.2 rfl)
  go_wp2
  generalize (v2.alloc (.cells #[.slice Pa sa.put.length pa, .slice Qa sa.why.length qa, .slice Da sa.learned.length da, .int .i64 sa.code] 35)).alloc (.cells #[.slice Pb sb.put.length pb, .slice Qb sb.why.length qb, .slice Db sb.learned.length db, .int .i64 sb.code] 35) = v3 at *
  generalize v2.heap.size = iBA at *
  refine wp_region_rel [[], [], [(0, 24), (1, 25)], [], [], [(3, 27), (4, 28)], [(2, 26), (5, 29)], [(6, 30)], [(7, 31)], [(7, 31)], [(7, 31), (8, 32), (9, 33)], [(7, 31)], [(7, 31)], [(7, 31), (11, 35), (12, 36)], [(7, 31), (10, 34), (13, 37)], [(7, 31), (14, 38)], [(15, 39)], [(16, 40)], [(16, 40)], [(16, 40), (17, 41), (18, 42)], [(16, 40), (19, 43)], [(16, 40), (20, 44)]]
    (fun y y' => Below y.heap.size y y')
    (fun _ yy => Below v3.heap.size v3 yy)
    [fun vs9 _ => vs9 0 = (.agg #[.int .i64 x.many, .slice A x.list.length a]),
    fun vs9 _ => vs9 1 = (.agg #[.slice P s.put.length p', .slice Q s.why.length q', .slice D s.learned.length d', .int .i64 s.code]),
    fun vs9 _ => vs9 2 = (.bool ok),
    fun vs9 _ => vs9 3 = (.agg #[.int .i64 x.many, .slice A x.list.length a]),
    fun vs9 _ => vs9 4 = (.agg #[.slice P s.put.length p', .slice Q s.why.length q', .slice D s.learned.length d', .int .i64 s.code]),
    fun vs9 _ => vs9 5 = (.bool ok),
    fun vs9 _ => vs9 6 = (.bool false),
    fun vs9 _ => vs9 7 = (.bool false),
    fun vs9 _ => vs9 8 = (.agg #[.slice Pa sa.put.length pa, .slice Qa sa.why.length qa, .slice Da sa.learned.length da, .int .i64 sa.code]),
    fun vs9 _ => vs9 9 = (.agg #[.slice Pb sb.put.length pb, .slice Qb sb.why.length qb, .slice Db sb.learned.length db, .int .i64 sb.code]),
    fun vs9 _ => vs9 10 = (.bool se),
    fun vs9 _ => vs9 11 = (.agg #[.slice Pa sa.put.length pa, .slice Qa sa.why.length qa, .slice Da sa.learned.length da, .int .i64 sa.code]),
    fun vs9 _ => vs9 12 = (.agg #[.slice Pb sb.put.length pb, .slice Qb sb.why.length qb, .slice Db sb.learned.length db, .int .i64 sb.code]),
    fun vs9 _ => vs9 13 = (.bool se),
    fun vs9 _ => vs9 14 = (.bool false),
    fun vs9 _ => vs9 15 = (.bool false),
    fun vs9 _ => vs9 16 = (.bool false),
    fun vs9 _ => vs9 17 = (.agg #[.slice Pa sa.put.length pa, .slice Qa sa.why.length qa, .slice Da sa.learned.length da, .int .i64 sa.code]),
    fun vs9 _ => vs9 18 = (.agg #[.slice Pa sa.put.length pa, .slice Qa sa.why.length qa, .slice Da sa.learned.length da, .int .i64 sa.code]),
    fun vs9 _ => vs9 19 = (.bool true),
    fun vs9 _ => vs9 20 = (.bool false),
    fun vs9 _ => vs9 21 = (.bool false)]
    [(0, 24), (1, 25), (2, 26), (3, 27), (4, 28), (5, 29), (6, 30), (7, 31), (8, 32), (9, 33), (10, 34), (11, 35), (12, 36), (13, 37), (14, 38), (15, 39), (16, 40), (17, 41), (18, 42), (19, 43), (20, 44), (21, 45)] (by kernel_rfl) (by kernel_rfl) (by kernel_rfl) (by kernel_rfl)
    (fun _ => Below.refl _ _)
    ⟨.inr (fun _ _ _ h _ => h),
    .inr (fun _ _ _ h _ => h),
    .inr (fun _ _ _ h _ => h),
    .inr (fun _ _ _ h _ => h),
    .inr (fun _ _ _ h _ => h),
    .inr (fun _ _ _ h _ => h),
    .inr (fun _ _ _ h _ => h),
    .inr (fun _ _ _ h _ => h),
    .inr (fun _ _ _ h _ => h),
    .inr (fun _ _ _ h _ => h),
    .inr (fun _ _ _ h _ => h),
    .inr (fun _ _ _ h _ => h),
    .inr (fun _ _ _ h _ => h),
    .inr (fun _ _ _ h _ => h),
    .inr (fun _ _ _ h _ => h),
    .inr (fun _ _ _ h _ => h),
    .inr (fun _ _ _ h _ => h),
    .inr (fun _ _ _ h _ => h),
    .inr (fun _ _ _ h _ => h),
    .inr (fun _ _ _ h _ => h),
    .inr (fun _ _ _ h _ => h),
    .inr (fun _ _ _ h _ => h), trivial⟩ ⟨fun vs vs' x h _ hv => (by dsimp only at hv ⊢; first | (rw [← h]; exact hv) | exact hv),
    fun vs vs' x h _ hv => (by dsimp only at hv ⊢; first | (rw [← h]; exact hv) | exact hv),
    fun vs vs' x h _ hv => (by dsimp only at hv ⊢; first | (rw [← h]; exact hv) | exact hv),
    fun vs vs' x h _ hv => (by dsimp only at hv ⊢; first | (rw [← h]; exact hv) | exact hv),
    fun vs vs' x h _ hv => (by dsimp only at hv ⊢; first | (rw [← h]; exact hv) | exact hv),
    fun vs vs' x h _ hv => (by dsimp only at hv ⊢; first | (rw [← h]; exact hv) | exact hv),
    fun vs vs' x h _ hv => (by dsimp only at hv ⊢; first | (rw [← h]; exact hv) | exact hv),
    fun vs vs' x h _ hv => (by dsimp only at hv ⊢; first | (rw [← h]; exact hv) | exact hv),
    fun vs vs' x h _ hv => (by dsimp only at hv ⊢; first | (rw [← h]; exact hv) | exact hv),
    fun vs vs' x h _ hv => (by dsimp only at hv ⊢; first | (rw [← h]; exact hv) | exact hv),
    fun vs vs' x h _ hv => (by dsimp only at hv ⊢; first | (rw [← h]; exact hv) | exact hv),
    fun vs vs' x h _ hv => (by dsimp only at hv ⊢; first | (rw [← h]; exact hv) | exact hv),
    fun vs vs' x h _ hv => (by dsimp only at hv ⊢; first | (rw [← h]; exact hv) | exact hv),
    fun vs vs' x h _ hv => (by dsimp only at hv ⊢; first | (rw [← h]; exact hv) | exact hv),
    fun vs vs' x h _ hv => (by dsimp only at hv ⊢; first | (rw [← h]; exact hv) | exact hv),
    fun vs vs' x h _ hv => (by dsimp only at hv ⊢; first | (rw [← h]; exact hv) | exact hv),
    fun vs vs' x h _ hv => (by dsimp only at hv ⊢; first | (rw [← h]; exact hv) | exact hv),
    fun vs vs' x h _ hv => (by dsimp only at hv ⊢; first | (rw [← h]; exact hv) | exact hv),
    fun vs vs' x h _ hv => (by dsimp only at hv ⊢; first | (rw [← h]; exact hv) | exact hv),
    fun vs vs' x h _ hv => (by dsimp only at hv ⊢; first | (rw [← h]; exact hv) | exact hv),
    fun vs vs' x h _ hv => (by dsimp only at hv ⊢; first | (rw [← h]; exact hv) | exact hv),
    fun vs vs' x h _ hv => (by dsimp only at hv ⊢; first | (rw [← h]; exact hv) | exact hv), trivial⟩ (below_drewN (Below.refl _ _) 1) ⟨?_, ?_, ?_, ?_, ?_, ?_, ?_, ?_, ?_, ?_, ?_, ?_, ?_, ?_, ?_, ?_, ?_, ?_, ?_, ?_, ?_, ?_, trivial⟩ ?_
  · intro vals xw n hn hI hF
    dsimp only [owes, bare]
    simp only [putsD, Act.put, List.setIfInBounds_toArray, List.set_cons_zero, List.set_cons_succ]
    have c90 : xw.cell? _ = _ := kk0 ⟨xw, hI⟩
    have c91 : xw.cell? _ = _ := kk1 ⟨xw, hI⟩
    go_wp2
    exact ⟨rfl, rfl, Below.refl _ _, hI⟩
  · intro vals xw n hn hI hF
    dsimp only [owes, bare]
    simp only [putsD, Act.put, List.setIfInBounds_toArray, List.set_cons_zero, List.set_cons_succ]
    have c90 : xw.cell? _ = _ := kk2 ⟨xw, hI⟩
    have c91 : xw.cell? _ = _ := kk3 ⟨xw, hI⟩
    have c92 : xw.cell? _ = _ := kk4 ⟨xw, hI⟩
    have c93 : xw.cell? _ = _ := kk5 ⟨xw, hI⟩
    go_wp2
    exact ⟨rfl, rfl, Below.refl _ _, hI⟩
  · intro vals xw n hn hI hF
    simp only [saysD, List.getD_cons_zero, List.getD_cons_succ, and_true] at hF
    obtain ⟨e24, e25⟩ := hF
    dsimp only [owes, bare]
    simp only [putsD, Act.put, List.setIfInBounds_toArray, List.set_cons_zero, List.set_cons_succ]
    simp only [e24, e25]
    have HWF := Lib.hid (implSatOk_u x A a s P Q D p' q' d' xw (HXR.out.up hI) hxa (HSR.out.up hI).put (HSR.out.up hI).why (HSR.out.up hI).lrn HSR.out.capP HSR.out.capQ HSR.out.capD SX.out SS.out)
    rw [HK9.out] at HWF
    go_wp2_with fail
    refine HWF.out.mono ?_
    rintro e wx ⟨rfl, hb9⟩
    go_wp2
    exact ⟨rfl, rfl, hb9, bthen hI hb9⟩
  · intro vals xw n hn hI hF
    dsimp only [owes, bare]
    simp only [putsD, Act.put, List.setIfInBounds_toArray, List.set_cons_zero, List.set_cons_succ]
    have c90 : xw.cell? _ = _ := kk0 ⟨xw, hI⟩
    have c91 : xw.cell? _ = _ := kk1 ⟨xw, hI⟩
    go_wp2
    exact ⟨rfl, rfl, Below.refl _ _, hI⟩
  · intro vals xw n hn hI hF
    dsimp only [owes, bare]
    simp only [putsD, Act.put, List.setIfInBounds_toArray, List.set_cons_zero, List.set_cons_succ]
    have c90 : xw.cell? _ = _ := kk2 ⟨xw, hI⟩
    have c91 : xw.cell? _ = _ := kk3 ⟨xw, hI⟩
    have c92 : xw.cell? _ = _ := kk4 ⟨xw, hI⟩
    have c93 : xw.cell? _ = _ := kk5 ⟨xw, hI⟩
    go_wp2
    exact ⟨rfl, rfl, Below.refl _ _, hI⟩
  · intro vals xw n hn hI hF
    simp only [saysD, List.getD_cons_zero, List.getD_cons_succ, and_true] at hF
    obtain ⟨e27, e28⟩ := hF
    dsimp only [owes, bare]
    simp only [putsD, Act.put, List.setIfInBounds_toArray, List.set_cons_zero, List.set_cons_succ]
    simp only [e27, e28]
    have HWF := Lib.hid (specSatOk_u x A a s P Q D p' q' d' xw (HXR.out.up hI) hxa (HSR.out.up hI).put (HSR.out.up hI).why (HSR.out.up hI).lrn HSR.out.capP HSR.out.capQ HSR.out.capD SX.out SS.out)
    rw [HK9.out] at HWF
    go_wp2_with fail
    refine HWF.out.mono ?_
    rintro e wx ⟨rfl, hb9⟩
    go_wp2
    exact ⟨rfl, rfl, hb9, bthen hI hb9⟩
  · intro vals xw n hn hI hF
    simp only [saysD, List.getD_cons_zero, List.getD_cons_succ, and_true] at hF
    obtain ⟨e26, e29⟩ := hF
    dsimp only [owes, bare]
    simp only [putsD, Act.put, List.setIfInBounds_toArray, List.set_cons_zero, List.set_cons_succ]
    simp only [e26, e29]
    have qq : (ok != ok) = false := by simp
    go_wp2
    exact ⟨rfl, rfl, Below.refl _ _, hI⟩
  · intro vals xw n hn hI hF
    simp only [saysD, List.getD_cons_zero, List.getD_cons_succ, and_true] at hF
    have e30 := hF
    dsimp only [owes, bare]
    simp only [putsD, Act.put, List.setIfInBounds_toArray, List.set_cons_zero, List.set_cons_succ]
    simp only [e30]
    go_wp2
    exact ⟨rfl, rfl, Below.refl _ _, hI⟩
  · intro vals xw n hn hI hF
    simp only [saysD, List.getD_cons_zero, List.getD_cons_succ, and_true] at hF
    have e31 := hF
    dsimp only [owes, bare]
    refine ⟨fun _ => ?_, fun h => absurd e31 h⟩
    simp only [putsD, Act.put, List.setIfInBounds_toArray, List.set_cons_zero, List.set_cons_succ]
    simp only [e31]
    have c90 : xw.cell? _ = _ := kk6 ⟨xw, hI⟩
    have c91 : xw.cell? _ = _ := kk7 ⟨xw, hI⟩
    have c92 : xw.cell? _ = _ := kk8 ⟨xw, hI⟩
    have c93 : xw.cell? _ = _ := kk9 ⟨xw, hI⟩
    go_wp2
    exact ⟨rfl, rfl, Below.refl _ _, hI⟩
  · intro vals xw n hn hI hF
    simp only [saysD, List.getD_cons_zero, List.getD_cons_succ, and_true] at hF
    have e31 := hF
    dsimp only [owes, bare]
    refine ⟨fun _ => ?_, fun h => absurd e31 h⟩
    simp only [putsD, Act.put, List.setIfInBounds_toArray, List.set_cons_zero, List.set_cons_succ]
    simp only [e31]
    have c90 : xw.cell? _ = _ := kk10 ⟨xw, hI⟩
    have c91 : xw.cell? _ = _ := kk11 ⟨xw, hI⟩
    have c92 : xw.cell? _ = _ := kk12 ⟨xw, hI⟩
    have c93 : xw.cell? _ = _ := kk13 ⟨xw, hI⟩
    go_wp2
    exact ⟨rfl, rfl, Below.refl _ _, hI⟩
  · intro vals xw n hn hI hF
    simp only [saysD, List.getD_cons_zero, List.getD_cons_succ, and_true] at hF
    obtain ⟨e31, e32, e33⟩ := hF
    dsimp only [owes, bare]
    refine ⟨fun _ => ?_, fun h => absurd e31 h⟩
    simp only [putsD, Act.put, List.setIfInBounds_toArray, List.set_cons_zero, List.set_cons_succ]
    simp only [e31, e32, e33]
    have HWF := Lib.hid (implSatSame_any sa sb Pa Qa Da Pb Qb Db pa qa da pb qb db xw (HAR.out.up hI).put (HAR.out.up hI).why (HAR.out.up hI).lrn (HBR.out.up hI).put (HBR.out.up hI).why (HBR.out.up hI).lrn SA9.out SB9.out)
    rw [HK8.out] at HWF
    go_wp2_with fail
    refine HWF.out.mono ?_
    rintro e wx ⟨rfl, hb9⟩
    go_wp2
    exact ⟨rfl, rfl, hb9, bthen hI hb9⟩
  · intro vals xw n hn hI hF
    simp only [saysD, List.getD_cons_zero, List.getD_cons_succ, and_true] at hF
    have e31 := hF
    dsimp only [owes, bare]
    refine ⟨fun _ => ?_, fun h => absurd e31 h⟩
    simp only [putsD, Act.put, List.setIfInBounds_toArray, List.set_cons_zero, List.set_cons_succ]
    simp only [e31]
    have c90 : xw.cell? _ = _ := kk6 ⟨xw, hI⟩
    have c91 : xw.cell? _ = _ := kk7 ⟨xw, hI⟩
    have c92 : xw.cell? _ = _ := kk8 ⟨xw, hI⟩
    have c93 : xw.cell? _ = _ := kk9 ⟨xw, hI⟩
    go_wp2
    exact ⟨rfl, rfl, Below.refl _ _, hI⟩
  · intro vals xw n hn hI hF
    simp only [saysD, List.getD_cons_zero, List.getD_cons_succ, and_true] at hF
    have e31 := hF
    dsimp only [owes, bare]
    refine ⟨fun _ => ?_, fun h => absurd e31 h⟩
    simp only [putsD, Act.put, List.setIfInBounds_toArray, List.set_cons_zero, List.set_cons_succ]
    simp only [e31]
    have c90 : xw.cell? _ = _ := kk10 ⟨xw, hI⟩
    have c91 : xw.cell? _ = _ := kk11 ⟨xw, hI⟩
    have c92 : xw.cell? _ = _ := kk12 ⟨xw, hI⟩
    have c93 : xw.cell? _ = _ := kk13 ⟨xw, hI⟩
    go_wp2
    exact ⟨rfl, rfl, Below.refl _ _, hI⟩
  · intro vals xw n hn hI hF
    simp only [saysD, List.getD_cons_zero, List.getD_cons_succ, and_true] at hF
    obtain ⟨e31, e35, e36⟩ := hF
    dsimp only [owes, bare]
    refine ⟨fun _ => ?_, fun h => absurd e31 h⟩
    simp only [putsD, Act.put, List.setIfInBounds_toArray, List.set_cons_zero, List.set_cons_succ]
    simp only [e31, e35, e36]
    have HWF := Lib.hid (specSatSame_any sa sb Pa Qa Da Pb Qb Db pa qa da pb qb db xw (HAR.out.up hI).put (HAR.out.up hI).why (HAR.out.up hI).lrn (HBR.out.up hI).put (HBR.out.up hI).why (HBR.out.up hI).lrn SA9.out SB9.out)
    rw [HK8.out] at HWF
    go_wp2_with fail
    refine HWF.out.mono ?_
    rintro e wx ⟨rfl, hb9⟩
    go_wp2
    exact ⟨rfl, rfl, hb9, bthen hI hb9⟩
  · intro vals xw n hn hI hF
    simp only [saysD, List.getD_cons_zero, List.getD_cons_succ, and_true] at hF
    obtain ⟨e31, e34, e37⟩ := hF
    dsimp only [owes, bare]
    refine ⟨fun _ => ?_, fun h => absurd e31 h⟩
    simp only [putsD, Act.put, List.setIfInBounds_toArray, List.set_cons_zero, List.set_cons_succ]
    simp only [e31, e34, e37]
    have qq : (se != se) = false := by simp
    go_wp2
    exact ⟨rfl, rfl, Below.refl _ _, hI⟩
  · intro vals xw n hn hI hF
    simp only [saysD, List.getD_cons_zero, List.getD_cons_succ, and_true] at hF
    obtain ⟨e31, e38⟩ := hF
    dsimp only [owes, bare]
    simp only [putsD, Act.put, List.setIfInBounds_toArray, List.set_cons_zero, List.set_cons_succ]
    simp only [e31, e38]
    go_wp2
    exact ⟨rfl, rfl, Below.refl _ _, hI⟩
  · intro vals xw n hn hI hF
    simp only [saysD, List.getD_cons_zero, List.getD_cons_succ, and_true] at hF
    have e39 := hF
    dsimp only [owes, bare]
    simp only [putsD, Act.put, List.setIfInBounds_toArray, List.set_cons_zero, List.set_cons_succ]
    simp only [e39]
    go_wp2
    exact ⟨rfl, rfl, Below.refl _ _, hI⟩
  · intro vals xw n hn hI hF
    simp only [saysD, List.getD_cons_zero, List.getD_cons_succ, and_true] at hF
    have e40 := hF
    dsimp only [owes, bare]
    refine ⟨fun _ => ?_, fun h => absurd e40 h⟩
    simp only [putsD, Act.put, List.setIfInBounds_toArray, List.set_cons_zero, List.set_cons_succ]
    simp only [e40]
    have c90 : xw.cell? _ = _ := kk6 ⟨xw, hI⟩
    have c91 : xw.cell? _ = _ := kk7 ⟨xw, hI⟩
    have c92 : xw.cell? _ = _ := kk8 ⟨xw, hI⟩
    have c93 : xw.cell? _ = _ := kk9 ⟨xw, hI⟩
    go_wp2
    exact ⟨rfl, rfl, Below.refl _ _, hI⟩
  · intro vals xw n hn hI hF
    simp only [saysD, List.getD_cons_zero, List.getD_cons_succ, and_true] at hF
    have e40 := hF
    dsimp only [owes, bare]
    refine ⟨fun _ => ?_, fun h => absurd e40 h⟩
    simp only [putsD, Act.put, List.setIfInBounds_toArray, List.set_cons_zero, List.set_cons_succ]
    simp only [e40]
    have c90 : xw.cell? _ = _ := kk6 ⟨xw, hI⟩
    have c91 : xw.cell? _ = _ := kk7 ⟨xw, hI⟩
    have c92 : xw.cell? _ = _ := kk8 ⟨xw, hI⟩
    have c93 : xw.cell? _ = _ := kk9 ⟨xw, hI⟩
    go_wp2
    exact ⟨rfl, rfl, Below.refl _ _, hI⟩
  · intro vals xw n hn hI hF
    simp only [saysD, List.getD_cons_zero, List.getD_cons_succ, and_true] at hF
    obtain ⟨e40, e41, e42⟩ := hF
    dsimp only [owes, bare]
    refine ⟨fun _ => ?_, fun h => absurd e40 h⟩
    simp only [putsD, Act.put, List.setIfInBounds_toArray, List.set_cons_zero, List.set_cons_succ]
    simp only [e40, e41, e42]
    have HWF := Lib.hid (implSatSame_any sa sa Pa Qa Da Pa Qa Da pa qa da pa qa da xw (HAR.out.up hI).put (HAR.out.up hI).why (HAR.out.up hI).lrn (HAR.out.up hI).put (HAR.out.up hI).why (HAR.out.up hI).lrn SA9.out SA9.out)
    rw [HK7.out] at HWF
    go_wp2_with fail
    refine HWF.out.mono ?_
    rintro e wx ⟨rfl, hb9⟩
    go_wp2
    exact ⟨rfl, rfl, hb9, bthen hI hb9⟩
  · intro vals xw n hn hI hF
    simp only [saysD, List.getD_cons_zero, List.getD_cons_succ, and_true] at hF
    obtain ⟨e40, e43⟩ := hF
    dsimp only [owes, bare]
    refine ⟨fun _ => ?_, fun h => absurd e40 h⟩
    simp only [putsD, Act.put, List.setIfInBounds_toArray, List.set_cons_zero, List.set_cons_succ]
    simp only [e40, e43]
    go_wp2
    exact ⟨rfl, rfl, Below.refl _ _, hI⟩
  · intro vals xw n hn hI hF
    simp only [saysD, List.getD_cons_zero, List.getD_cons_succ, and_true] at hF
    obtain ⟨e40, e44⟩ := hF
    dsimp only [owes, bare]
    simp only [putsD, Act.put, List.setIfInBounds_toArray, List.set_cons_zero, List.set_cons_succ]
    simp only [e40, e44]
    go_wp2
    exact ⟨rfl, rfl, Below.refl _ _, hI⟩
  · intro vals xw n hn hI hF
    rw [show List.range _ = [0, 1, 2, 3, 4, 5, 6, 7, 8, 9, 10, 11, 12, 13, 14, 15, 16, 17, 18, 19, 20, 21] from rfl] at hF
    simp only [says, List.getD_cons_zero, List.getD_cons_succ, and_true] at hF
    have e45 := hF.2.2.2.2.2.2.2.2.2.2.2.2.2.2.2.2.2.2.2.2.2
    simp only [putsD, Act.put, List.setIfInBounds_toArray, List.set_cons_zero, List.set_cons_succ]
    simp only [e45]
    clear hF e45 kk0 kk1 kk2 kk3 kk4 kk5 kk6 kk7 kk8 kk9 kk10 kk11 kk12 kk13
    have hx := HXR.out
    have hrs := HSR.out
    clear HXR HSR HAR HBR BA BB HK8 HK7 SA9 SB9
    have hb := bthen hb hI
    have BC := Lib.hid ((hI.block _ (lt_of_block BC.out)).trans BC.out)
    have BS := Lib.hid ((hI.block _ (lt_of_block BS.out)).trans BS.out)
    have hx := hx.up hI
    have hrs := hrs.up hI
    clear hI
    have kBC_0 : xw.cell? ⟨iBC, 0, none⟩ = some (.int .i64 x.many) := (cell_of_block BC.out 0).1
    have kBC_1 : xw.cell? ⟨iBC, 1, none⟩ = some (.slice A x.list.length a) := (cell_of_block BC.out 1).1
    have kBS_0 : xw.cell? ⟨iBC + 1, 0, none⟩ = some (.slice P s.put.length p') := (cell_of_block BS.out 0).1
    have kBS_1 : xw.cell? ⟨iBC + 1, 1, none⟩ = some (.slice Q s.why.length q') := (cell_of_block BS.out 1).1
    have kBS_2 : xw.cell? ⟨iBC + 1, 2, none⟩ = some (.slice D s.learned.length d') := (cell_of_block BS.out 2).1
    have kBS_3 : xw.cell? ⟨iBC + 1, 3, none⟩ = some (.int .i64 s.code) := (cell_of_block BS.out 3).1
    go_wp2_with fail
    clear kBC_0 kBC_1 kBS_0 kBS_1 kBS_2 kBS_3
    refine (specSatOk_u x A a s P Q D p' q' d' _ hx hxa hrs.put hrs.why hrs.lrn hrs.capP hrs.capQ hrs.capD SX.out SS.out).mono ?_
    rw [HK9.out]
    rintro e u31 ⟨rfl, hb9⟩
    have hb := bthen hb hb9
    have BC := Lib.hid ((hb9.block _ (lt_of_block BC.out)).trans BC.out)
    have BS := Lib.hid ((hb9.block _ (lt_of_block BS.out)).trans BS.out)
    have hx := hx.up hb9
    have hrs := hrs.up hb9
    clear hb9
    cases ok
    · skip
      go_wp2
      go_ret
      exact ⟨rfl, hb⟩
    have hm70 : 0 ≤ x.many ∧ x.many ≤ 700 := by have := (cnfOk_iff x).1 ((satOk_iff x s).1 HK9.out).cnf; omega
    have hlp := HOS.out.put
    have hlq := HOS.out.why
    have hll := HOS.out.lrn
    have hlC := lt_of_block BC.out
    have hlS := lt_of_block BS.out
    have hbX := heap_alloc_new u31 (.cells #[.slice P s.put.length p', .slice Q s.why.length q', .slice D s.learned.length d', .int .i64 s.code] 35)
    have hal : Below u31.heap.size u31 (u31.alloc (.cells #[.slice P s.put.length p', .slice Q s.why.length q', .slice D s.learned.length d', .int .i64 s.code] 35)) := (Below.refl _ _).alloc (Nat.le_refl _) _
    have n0 := (cell_of_block BS.out 0).1
    have n1 := (cell_of_block BS.out 1).1
    have n2 := (cell_of_block BS.out 2).1
    have n3 := (cell_of_block BS.out 3).1
    go_wp2
    clear n0 n1 n2 n3
    have HB1 := Lib.hid hal
    have HBX := Lib.hid hbX
    have HBU := Lib.hid hb
    have HX0 := Lib.hid hx
    have HS0 := Lib.hid hrs
    have BC0 := BC
    have BS0 := BS
    clear hb hx hrs
    have BC := Lib.hid ((hal.block _ hlC).trans BC.out)
    have BS := Lib.hid ((hal.block _ hlS).trans BS.out)
    clear hal hbX
    generalize u31.alloc (.cells #[.slice P s.put.length p', .slice Q s.why.length q', .slice D s.learned.length d', .int .i64 s.code] 35) = x1 at *
    obtain ⟨iX, hiX⟩ : ∃ i, i = u31.heap.size := ⟨_, rfl⟩
    rw [← hiX] at HBX hlC hlS ⊢
    have HIX := Lib.hid hiX
    clear hiX
    have HRP := HS0.out.up HB1.out
    have hx1s := lt_of_block HBX.out
    refine wp_region_rel6 [[], [], [(1, 52)], [(2, 53), (0, 51)], [], [(4, 55)], [(5, 56)], [(6, 57)], [(3, 54), (7, 58)], [], [(9, 60), (8, 59)]]
      (fun _ _ => True)
      []
      (fun v9 f9 x9 => AaI x1 iX 0 #[.slice P s.put.length p', .slice Q s.why.length q', .slice D s.learned.length d', .int .i64 s.code] s.put [x.many + 1] (v9 0) (v9 3) (v9 7) (v9 8) (f9 0) (f9 3) (f9 7) (f9 8) (f9 10) x9)
      [fun _ _ => True,
    fun vs9 _ => vs9 1 = (.pointer (some ⟨iBC + 1, 0, none⟩)),
    fun vs9 _ => vs9 2 = (.slice P s.put.length p'),
    fun _ _ => True,
    fun vs9 _ => vs9 4 = (.pointer (some ⟨iBC, 0, none⟩)),
    fun vs9 _ => vs9 5 = (.int .i64 x.many),
    fun vs9 _ => vs9 6 = (.int .i64 (x.many + 1)),
    fun _ _ => True,
    fun _ _ => True,
    fun vs9 _ => vs9 9 = (.pointer (some ⟨iX, 0, none⟩)),
    fun _ _ => True]
      [(0, 51), (1, 52), (2, 53), (3, 54), (4, 55), (5, 56), (6, 57), (7, 58), (8, 59), (9, 60)] (by kernel_rfl) (by kernel_rfl) (by kernel_rfl) (by kernel_rfl)
      (fun _ => trivial) trivial
      ⟨⟨.inr (fun _ _ _ h _ => h), trivial⟩,
    ⟨.inr (fun _ _ _ h _ => h), trivial⟩,
    ⟨.inr (fun _ _ _ h _ => h), trivial⟩,
    ⟨.inr (fun _ _ _ h _ => h), trivial⟩,
    ⟨.inr (fun _ _ _ h _ => h), trivial⟩,
    ⟨.inr (fun _ _ _ h _ => h), trivial⟩,
    ⟨.inr (fun _ _ _ h _ => h), trivial⟩,
    ⟨.inr (fun _ _ _ h _ => h), trivial⟩,
    ⟨.inr (fun _ _ _ h _ => h), trivial⟩,
    ⟨.inr (fun _ _ _ h _ => h), trivial⟩,
    ⟨.inr (fun _ _ _ h _ => h), trivial⟩, trivial⟩ ⟨fun _ _ _ _ _ _ => trivial,
    fun vs vs' x h _ hv => (by dsimp only at hv ⊢; first | (rw [← h]; exact hv) | exact hv),
    fun vs vs' x h _ hv => (by dsimp only at hv ⊢; first | (rw [← h]; exact hv) | exact hv),
    fun _ _ _ _ _ _ => trivial,
    fun vs vs' x h _ hv => (by dsimp only at hv ⊢; first | (rw [← h]; exact hv) | exact hv),
    fun vs vs' x h _ hv => (by dsimp only at hv ⊢; first | (rw [← h]; exact hv) | exact hv),
    fun vs vs' x h _ hv => (by dsimp only at hv ⊢; first | (rw [← h]; exact hv) | exact hv),
    fun _ _ _ _ _ _ => trivial,
    fun _ _ _ _ _ _ => trivial,
    fun vs vs' x h _ hv => (by dsimp only at hv ⊢; first | (rw [← h]; exact hv) | exact hv),
    fun _ _ _ _ _ _ => trivial, trivial⟩ (AaI.start HBX.out) ⟨?_, ?_, ?_, ?_, ?_, ?_, ?_, ?_, ?_, ?_, ?_, trivial⟩ ?_
    · intro vals yw f hf1 hf2 hf3 hI hF
      clear hf2 hf3
      dsimp only [owes6, bare]
      simp only [putsD, Act.put, List.setIfInBounds_toArray, List.set_cons_zero, List.set_cons_succ]
      have HI9 := Lib.hid hI
      clear hI
      go_wp2
      exact ⟨rfl, trivial, trivial, HI9.out.empty⟩
    · intro vals yw f hf1 hf2 hf3 hI hF
      clear hf2 hf3
      dsimp only [owes6, bare]
      simp only [putsD, Act.put, List.setIfInBounds_toArray, List.set_cons_zero, List.set_cons_succ]
      go_wp2
      exact ⟨rfl, rfl, trivial, hI⟩
    · intro vals yw f hf1 hf2 hf3 hI hF
      clear hf2 hf3
      simp only [saysD, List.getD_cons_zero, List.getD_cons_succ, and_true] at hF
      have e52 := hF
      dsimp only [owes6, bare]
      simp only [putsD, Act.put, List.setIfInBounds_toArray, List.set_cons_zero, List.set_cons_succ]
      simp only [e52]
      have bx9 := hI.1.heap (by show ¬ _ = iX; omega) BS.out
      obtain ⟨c0, _⟩ := cell_of_block bx9 0
      clear bx9
      go_wp2
      exact ⟨rfl, rfl, trivial, hI⟩
    · intro vals yw f hf1 hf2 hf3 hI hF
      have k0 : f 0 = true := hf2 0 (by kernel_rfl)
      have k8 : f 8 = false := hf3 8 (by kernel_rfl)
      have k10 : f 10 = false := hf3 10 (by kernel_rfl)
      clear hf2 hf3
      simp only [saysD, List.getD_cons_zero, List.getD_cons_succ, and_true] at hF
      have e53 := hF
      obtain ⟨p9, e51, hown9⟩ := hI.2.1 k0 hf1
      dsimp only [owes6, bare]
      simp only [putsD, Act.put, List.setIfInBounds_toArray, List.set_cons_zero, List.set_cons_succ]
      simp only [e53, e51]
      have hbx := (hI.2.2.2.2.2.1 k10).1
      have HI9 := Lib.hid hI
      clear hI
      have hrd9 := HRP.put.up hbx
      refine wpList_append_cp (ys := s.put) (by rfl) (.tmp 51) (.tmp 53) (by rfl) (by rfl) (by rfl) hown9 hrd9 (by omega) hbx.size ?_
      intro A9 c9 w9 hown hbl hbk
      exact ⟨rfl, trivial, trivial, HI9.out.copy hbl hown⟩
    · intro vals yw f hf1 hf2 hf3 hI hF
      clear hf2 hf3
      dsimp only [owes6, bare]
      simp only [putsD, Act.put, List.setIfInBounds_toArray, List.set_cons_zero, List.set_cons_succ]
      go_wp2
      exact ⟨rfl, rfl, trivial, hI⟩
    · intro vals yw f hf1 hf2 hf3 hI hF
      clear hf2 hf3
      simp only [saysD, List.getD_cons_zero, List.getD_cons_succ, and_true] at hF
      have e55 := hF
      dsimp only [owes6, bare]
      simp only [putsD, Act.put, List.setIfInBounds_toArray, List.set_cons_zero, List.set_cons_succ]
      simp only [e55]
      have bx9 := hI.1.heap (by show ¬ _ = iX; omega) BC.out
      obtain ⟨c0, _⟩ := cell_of_block bx9 0
      clear bx9
      go_wp2
      exact ⟨rfl, rfl, trivial, hI⟩
    · intro vals yw f hf1 hf2 hf3 hI hF
      clear hf2 hf3
      simp only [saysD, List.getD_cons_zero, List.getD_cons_succ, and_true] at hF
      have e56 := hF
      dsimp only [owes6, bare]
      simp only [putsD, Act.put, List.setIfInBounds_toArray, List.set_cons_zero, List.set_cons_succ]
      simp only [e56]
      have e1 : IntKind.i64.wrap (x.many + 1) = x.many + 1 := IntWalk.i64_in _ (by omega)
      go_wp2
      exact ⟨rfl, rfl, trivial, hI⟩
    · intro vals yw f hf1 hf2 hf3 hI hF
      clear hf2 hf3
      simp only [saysD, List.getD_cons_zero, List.getD_cons_succ, and_true] at hF
      have e57 := hF
      dsimp only [owes6, bare]
      simp only [putsD, Act.put, List.setIfInBounds_toArray, List.set_cons_zero, List.set_cons_succ]
      simp only [e57]
      have HI9 := Lib.hid hI
      clear hI
      go_wp2
      exact ⟨rfl, trivial, trivial, HI9.out.lit rfl⟩
    · intro vals yw f hf1 hf2 hf3 hI hF
      have k3 : f 3 = true := hf2 3 (by kernel_rfl)
      have k7 : f 7 = true := hf2 7 (by kernel_rfl)
      have k10 : f 10 = false := hf3 10 (by kernel_rfl)
      clear hf2 hf3
      simp only [saysD, List.getD_cons_zero, List.getD_cons_succ, and_true] at hF
      obtain ⟨A3, c3, e54, hown9⟩ := hI.2.2.1 k3 hf1
      obtain ⟨b7, e58, hrd9⟩ := hI.2.2.2.1 k7 hf1
      dsimp only [owes6, bare]
      simp only [putsD, Act.put, List.setIfInBounds_toArray, List.set_cons_zero, List.set_cons_succ]
      simp only [e54, e58]
      have hsz9 := hI.1.size
      have HI9 := Lib.hid hI
      clear hI
      obtain ⟨ys, hys⟩ : ∃ ys, ys = s.put ++ [x.many + 1] := ⟨_, rfl⟩
      refine wpList_append_intsD (zs := ys) (ys := [x.many + 1]) (by rfl) (.tmp 54) (.tmp 58) (by rfl) (by rfl) (by rfl) hown9 hrd9 (by simp; omega) hsz9 hys ?_
      intro A9 c9 w9 hown hgn hbk
      exact ⟨rfl, trivial, trivial, HI9.out.app k3 hf1 k10 hys hown9 hown hgn⟩
    · intro vals yw f hf1 hf2 hf3 hI hF
      clear hf2 hf3
      dsimp only [owes6, bare]
      simp only [putsD, Act.put, List.setIfInBounds_toArray, List.set_cons_zero, List.set_cons_succ]
      go_wp2
      exact ⟨rfl, rfl, trivial, hI⟩
    · intro vals yw f hf1 hf2 hf3 hI hF
      have k0 : f 0 = true := hf2 0 (by kernel_rfl)
      have k3 : f 3 = true := hf2 3 (by kernel_rfl)
      have k8 : f 8 = true := hf2 8 (by kernel_rfl)
      clear hf2 hf3
      simp only [saysD, List.getD_cons_zero, List.getD_cons_succ, and_true] at hF
      have e60 := hF
      obtain ⟨A9, c9, ys, hyy, e59, hyz⟩ := hI.2.2.2.2.1 k8
      have hbx := (hI.2.2.2.2.2.1 hf1).2
      dsimp only [owes6, bare]
      simp only [putsD, Act.put, List.setIfInBounds_toArray, List.set_cons_zero, List.set_cons_succ]
      simp only [e60, e59]
      obtain ⟨o0, o0'⟩ := cell_of_block hbx 0
      have HE9 := Lib.hid e59
      have HI9 := Lib.hid hI
      clear hI
      clear hbx e59 hyy hyz
      go_wp2
      refine ⟨rfl, trivial, trivial, ?_⟩
      have h8 := HI9.out.store k0 k3 k8 hf1
      have h7 : ∀ z, z = vals 8 → AaI x1 iX 0 #[.slice P s.put.length p', .slice Q s.why.length q', .slice D s.learned.length d', .int .i64 s.code] s.put [x.many + 1] (vals 0) (vals 3) (vals 7) (vals 8) (f 0) (f 3) (f 7) (f 8) true (yw.setCell ⟨iX, 0, none⟩ z) := fun z hz => by rw [hz]; exact h8
      exact h7 _ (by rw [HE9.out])
    · intro vals yw f hall hI hF
      rw [show List.range _ = [0, 1, 2, 3, 4, 5, 6, 7, 8, 9, 10] from rfl] at hF
      simp only [says, List.getD_cons_zero, List.getD_cons_succ, and_true] at hF
      obtain ⟨A9, c9, ho9, hb9, hg9⟩ := AaI.fin hI (hall 8 (by decide)) (hall 10 (by decide))
      simp only [putsD, Act.put, List.setIfInBounds_toArray, List.set_cons_zero, List.set_cons_succ]
      clear hI hF hall
      obtain ⟨ps, hps⟩ : ∃ ps, ps = s.put ++ [x.many + 1] := ⟨_, rfl⟩
      rw [← hps] at ho9 hb9
      have HPS := Lib.hid hps
      clear hps HRP
      have HB2 : Hid (Below u31.heap.size u31 yw) := Lib.hid (HB1.out.trans (hg9.to_below' HB1.out.size fun k hk => by have hk : k = iX := hk; have := HIX.out; omega))
      have HBX : Hid (yw.heap[iX]? = some (.cells #[.slice A9 ps.length c9, .slice Q s.why.length q', .slice D s.learned.length d', .int .i64 s.code] 35 (0, 0))) := Lib.hid (by simpa using hb9)
      have HO9 := Lib.hid ho9
      have hy1s := lt_of_block HBX.out
      clear hb9 hg9 ho9 HB1
      obtain ⟨qs, hqs⟩ : ∃ qs, qs = s.why ++ [-1] := ⟨_, rfl⟩
      have HQS := Lib.hid hqs
      clear hqs
      have halE : Below yw.heap.size yw (yw.alloc (.cells #[] 3)) := (Below.refl _ _).alloc (Nat.le_refl _) _
      have HAE := Lib.hid halE
      have HOE : Hid (OwnI (yw.alloc (.cells #[] 3)) yw.heap.size (.slice (some ⟨yw.heap.size, 0, none⟩) 0 0) []) := Lib.hid (own_lit0I yw)
      have HRQ := Lib.hid ((HS0.out.up (HB2.out)).why.up halE)
      have hl0 : ([] : List Int).length + s.why.length ≤ 1048576 := by simp; omega
      have n1 := (cell_of_block (HB2.out.block _ (lt_of_block BS0.out) |>.trans BS0.out) 1).1
      have n1 : (yw.alloc (.cells #[] 3)).cell? ⟨iBC + 1, 1, none⟩ = some (.slice Q s.why.length q') := (cell_of_block ((halE.block _ (Nat.lt_of_lt_of_le (lt_of_block BS0.out) HB2.out.size)).trans ((HB2.out.block _ (lt_of_block BS0.out)).trans BS0.out)) 1).1
      clear halE
      go_wp2_with (at_builtin; first
        | (refine wpList_append_intsC (zs := s.why) (by rfl) (.tmp 61) (.tmp 63) (by rfl) (by rfl) (by rfl) HOE.out HRQ.out (none_len HRQ.out) hl0 HAE.out.size rfl ?_; intro A7 c7 w7 hown7 hb7 hg7; have HO7 := Lib.hid hown7; have HB7 := Lib.hid hb7; have hlo7 := hb7.size; have hlw7 : s.why.length ≤ 2000000 := (by omega); clear hown7 hb7 hg7 n1)
        | (refine wpList_append_int8 (ys := qs) (by rfl) (.tmp 64) (.tmp 65) (by rfl) (by rfl) (by rfl) HO7.out hlw7 (Nat.le_trans HAE.out.size hlo7) HQS.out ?_; intro A8 c8 w8 hown8 hg8 hbk8; have HB8 : Hid (Below yw.heap.size yw w8) := Lib.hid ((HAE.out.trans (HB7.out)).grown hg8 (Nat.le_trans HAE.out.size hlo7) (fun g e => (HO7.out.lt g e).1)); have HO8 := Lib.hid hown8; have HX8 := Lib.hid ((HB8.out.block _ hy1s).trans HBX.out); obtain ⟨m1, m1'⟩ := cell_of_block HX8.out 1; have hq0 : (w8.setCell ⟨iX, 1, none⟩ (.slice A8 qs.length c8)).heap[iBC + 1]? = some (.cells #[.slice P s.put.length p', .slice Q s.why.length q', .slice D s.learned.length d', .int .i64 s.code] 35 (0, 0)) := (Below.heap_setCell w8 ⟨iX, 1, none⟩ _ (iBC + 1) (by show iBC + 1 ≠ iX; omega)).trans ((HB8.out.block _ (by omega)).trans ((HB2.out.block _ (lt_of_block BS0.out)).trans BS0.out)); obtain ⟨j0, j0'⟩ := cell_of_block hq0 0; obtain ⟨j1, j1'⟩ := cell_of_block hq0 1; obtain ⟨j2, j2'⟩ := cell_of_block hq0 2; obtain ⟨j3, j3'⟩ := cell_of_block hq0 3; clear hq0 hown8 hg8 hbk8))
      clear n1 m1 m1' j0 j0' j1 j1' j2 j2' j3 j3' hl0 HRQ HOE
      obtain ⟨e1, e2, e3, e4, e5⟩ := sat_put (off := 1) HB2.out HB8.out (by have := HIX.out; omega) HX8.out HO8.out
      obtain ⟨e6, e7⟩ := e5 _ _ _ _ HO9.out
      clear e5
      have hsz9 : w8.heap.size = (w8.setCell ⟨iX, 1, none⟩ (.slice A8 qs.length c8)).heap.size := (size_setCell ..).symm
      rw [hsz9]
      clear hsz9 HO8 HO9 HAE HB7 HO7 HX8 hlo7 HB8 HBX HB2 hy1s hx1s
      have hst := e1
      generalize w8.setCell ⟨iX, 1, none⟩ (.slice A8 qs.length c8) = s2 at *
      have hb := HBU.out
      have hx := HX0.out
      have hrs := HS0.out
      have BC := BC0
      have BS := BS0
      clear HBU HX0 HS0 BC0 BS0 hlC hlS
      have hb := bthen hb hst
      have BC := Lib.hid ((hst.block _ (lt_of_block BC.out)).trans BC.out)
      have BS := Lib.hid ((hst.block _ (lt_of_block BS.out)).trans BS.out)
      have hx := hx.up hst
      have hrs := hrs.up hst
      clear hst
      have hrX : Hid (RdS s2 ⟨ps, qs, s.learned, s.code⟩ A9 A8 D c9 c8 d') := Lib.hid ⟨e6, e3, hrs.lrn, e7, e4, hrs.capD⟩
      have BX : Hid (s2.heap[iX]? = some (.cells #[.slice A9 ps.length c9, .slice A8 qs.length c8, .slice D s.learned.length d', .int .i64 s.code] 35 (0, 0))) := Lib.hid (by simpa using e2)
      clear e1 e2 e3 e4 e6 e7 HIX
      have NX : Hid (satOk x ⟨ps, qs, s.learned, s.code⟩ = false ∧ sameS s ⟨ps, qs, s.learned, s.code⟩ = false ∧ smS ⟨ps, qs, s.learned, s.code⟩) := Lib.hid (by rw [HPS.out, HQS.out]; exact ⟨bent_put, same_put, ((HOS.out.addPut (y := x.many + 1) (by unfold okInt; omega)).addWhy (y := -1) (by unfold okInt; omega)).sm8 (by omega)⟩)
      clear HPS HQS
      obtain ⟨AX, h9AX⟩ : ∃ z, z = A9 := ⟨_, rfl⟩
      subst h9AX
      obtain ⟨aX, h9aX⟩ : ∃ z, z = c9 := ⟨_, rfl⟩
      subst h9aX
      obtain ⟨BX9, h9BX9⟩ : ∃ z, z = A8 := ⟨_, rfl⟩
      subst h9BX9
      obtain ⟨bX, h9bX⟩ : ∃ z, z = c8 := ⟨_, rfl⟩
      subst h9bX
      have hlC := lt_of_block BC.out
      have hlS := lt_of_block BS.out
      have hbX := heap_alloc_new s2 (.cells #[.slice P s.put.length p', .slice Q s.why.length q', .slice D s.learned.length d', .int .i64 s.code] 35)
      have hal : Below s2.heap.size s2 (s2.alloc (.cells #[.slice P s.put.length p', .slice Q s.why.length q', .slice D s.learned.length d', .int .i64 s.code] 35)) := (Below.refl _ _).alloc (Nat.le_refl _) _
      have HB1 := Lib.hid hal
      have HBX := Lib.hid hbX
      have HBU := Lib.hid hb
      have HX0 := Lib.hid hx
      have HS0 := Lib.hid hrs
      have BC0 := BC
      have BS0 := BS
      clear hb hx hrs
      have BC := Lib.hid ((hal.block _ hlC).trans BC.out)
      have BS := Lib.hid ((hal.block _ hlS).trans BS.out)
      clear hal hbX
      generalize s2.alloc (.cells #[.slice P s.put.length p', .slice Q s.why.length q', .slice D s.learned.length d', .int .i64 s.code] 35) = y1 at *
      obtain ⟨iY, hiX⟩ : ∃ i, i = s2.heap.size := ⟨_, rfl⟩
      rw [← hiX] at HBX hlC hlS ⊢
      have HIX := Lib.hid hiX
      clear hiX
      have HRP := HS0.out.up HB1.out
      have hx1s := lt_of_block HBX.out
      refine wp_region_rel6 [[], [], [(1, 70)], [(2, 71), (0, 69)], [], [(4, 73)], [(3, 72), (5, 74)], [], [(7, 76), (6, 75)]]
        (fun _ _ => True)
        []
        (fun v9 f9 x9 => AaI y1 iY 0 #[.slice P s.put.length p', .slice Q s.why.length q', .slice D s.learned.length d', .int .i64 s.code] s.put s.put (v9 0) (v9 3) (.slice none 0 0) (v9 6) (f9 0) (f9 3) false (f9 6) (f9 8) x9)
        [fun _ _ => True,
    fun vs9 _ => vs9 1 = (.pointer (some ⟨iBC + 1, 0, none⟩)),
    fun vs9 _ => vs9 2 = (.slice P s.put.length p'),
    fun _ _ => True,
    fun vs9 _ => vs9 4 = (.pointer (some ⟨iBC + 1, 0, none⟩)),
    fun vs9 _ => vs9 5 = (.slice P s.put.length p'),
    fun _ _ => True,
    fun vs9 _ => vs9 7 = (.pointer (some ⟨iY, 0, none⟩)),
    fun _ _ => True]
        [(0, 69), (1, 70), (2, 71), (3, 72), (4, 73), (5, 74), (6, 75), (7, 76)] (by kernel_rfl) (by kernel_rfl) (by kernel_rfl) (by kernel_rfl)
        (fun _ => trivial) trivial
        ⟨⟨.inr (fun _ _ _ h _ => h), trivial⟩,
    ⟨.inr (fun _ _ _ h _ => h), trivial⟩,
    ⟨.inr (fun _ _ _ h _ => h), trivial⟩,
    ⟨.inr (fun _ _ _ h _ => h), trivial⟩,
    ⟨.inr (fun _ _ _ h _ => h), trivial⟩,
    ⟨.inr (fun _ _ _ h _ => h), trivial⟩,
    ⟨.inr (fun _ _ _ h _ => h), trivial⟩,
    ⟨.inr (fun _ _ _ h _ => h), trivial⟩,
    ⟨.inr (fun _ _ _ h _ => h), trivial⟩, trivial⟩ ⟨fun _ _ _ _ _ _ => trivial,
    fun vs vs' x h _ hv => (by dsimp only at hv ⊢; first | (rw [← h]; exact hv) | exact hv),
    fun vs vs' x h _ hv => (by dsimp only at hv ⊢; first | (rw [← h]; exact hv) | exact hv),
    fun _ _ _ _ _ _ => trivial,
    fun vs vs' x h _ hv => (by dsimp only at hv ⊢; first | (rw [← h]; exact hv) | exact hv),
    fun vs vs' x h _ hv => (by dsimp only at hv ⊢; first | (rw [← h]; exact hv) | exact hv),
    fun _ _ _ _ _ _ => trivial,
    fun vs vs' x h _ hv => (by dsimp only at hv ⊢; first | (rw [← h]; exact hv) | exact hv),
    fun _ _ _ _ _ _ => trivial, trivial⟩ (AaI.start HBX.out) ⟨?_, ?_, ?_, ?_, ?_, ?_, ?_, ?_, ?_, trivial⟩ ?_
      · intro vals yv f hf1 hf2 hf3 hI hF
        clear hf2 hf3
        dsimp only [owes6, bare]
        simp only [putsD, Act.put, List.setIfInBounds_toArray, List.set_cons_zero, List.set_cons_succ]
        have HI9 := Lib.hid hI
        clear hI
        go_wp2
        exact ⟨rfl, trivial, trivial, HI9.out.empty⟩
      · intro vals yv f hf1 hf2 hf3 hI hF
        clear hf2 hf3
        dsimp only [owes6, bare]
        simp only [putsD, Act.put, List.setIfInBounds_toArray, List.set_cons_zero, List.set_cons_succ]
        go_wp2
        exact ⟨rfl, rfl, trivial, hI⟩
      · intro vals yv f hf1 hf2 hf3 hI hF
        clear hf2 hf3
        simp only [saysD, List.getD_cons_zero, List.getD_cons_succ, and_true] at hF
        have e70 := hF
        dsimp only [owes6, bare]
        simp only [putsD, Act.put, List.setIfInBounds_toArray, List.set_cons_zero, List.set_cons_succ]
        simp only [e70]
        have bx9 := hI.1.heap (by show ¬ _ = iY; omega) BS.out
        obtain ⟨c0, _⟩ := cell_of_block bx9 0
        clear bx9
        go_wp2
        exact ⟨rfl, rfl, trivial, hI⟩
      · intro vals yv f hf1 hf2 hf3 hI hF
        have k0 : f 0 = true := hf2 0 (by kernel_rfl)
        have k6 : f 6 = false := hf3 6 (by kernel_rfl)
        have k8 : f 8 = false := hf3 8 (by kernel_rfl)
        clear hf2 hf3
        simp only [saysD, List.getD_cons_zero, List.getD_cons_succ, and_true] at hF
        have e71 := hF
        obtain ⟨p9, e69, hown9⟩ := hI.2.1 k0 hf1
        dsimp only [owes6, bare]
        simp only [putsD, Act.put, List.setIfInBounds_toArray, List.set_cons_zero, List.set_cons_succ]
        simp only [e71, e69]
        have hbx := (hI.2.2.2.2.2.1 k8).1
        have HI9 := Lib.hid hI
        clear hI
        have hrd9 := HRP.put.up hbx
        refine wpList_append_cp (ys := s.put) (by rfl) (.tmp 69) (.tmp 71) (by rfl) (by rfl) (by rfl) hown9 hrd9 (by omega) hbx.size ?_
        intro A9 c9 w9 hown hbl hbk
        exact ⟨rfl, trivial, trivial, HI9.out.copy hbl hown⟩
      · intro vals yv f hf1 hf2 hf3 hI hF
        clear hf2 hf3
        dsimp only [owes6, bare]
        simp only [putsD, Act.put, List.setIfInBounds_toArray, List.set_cons_zero, List.set_cons_succ]
        go_wp2
        exact ⟨rfl, rfl, trivial, hI⟩
      · intro vals yv f hf1 hf2 hf3 hI hF
        clear hf2 hf3
        simp only [saysD, List.getD_cons_zero, List.getD_cons_succ, and_true] at hF
        have e73 := hF
        dsimp only [owes6, bare]
        simp only [putsD, Act.put, List.setIfInBounds_toArray, List.set_cons_zero, List.set_cons_succ]
        simp only [e73]
        have bx9 := hI.1.heap (by show ¬ _ = iY; omega) BS.out
        obtain ⟨c0, _⟩ := cell_of_block bx9 0
        clear bx9
        go_wp2
        exact ⟨rfl, rfl, trivial, hI⟩
      · intro vals yv f hf1 hf2 hf3 hI hF
        have k3 : f 3 = true := hf2 3 (by kernel_rfl)
        have k8 : f 8 = false := hf3 8 (by kernel_rfl)
        clear hf2 hf3
        simp only [saysD, List.getD_cons_zero, List.getD_cons_succ, and_true] at hF
        have e74 := hF
        obtain ⟨A3, c3, e72, hown9⟩ := hI.2.2.1 k3 hf1
        have hbx := (hI.2.2.2.2.2.1 k8).1
        dsimp only [owes6, bare]
        simp only [putsD, Act.put, List.setIfInBounds_toArray, List.set_cons_zero, List.set_cons_succ]
        simp only [e72, e74]
        have hsz9 := hI.1.size
        have HI9 := Lib.hid hI
        clear hI
        have hrd9 := HRP.put.up hbx
        obtain ⟨ys, hys⟩ : ∃ ys, ys = s.put ++ s.put := ⟨_, rfl⟩
        refine wpList_append_intsD (zs := ys) (ys := s.put) (by rfl) (.tmp 72) (.tmp 74) (by rfl) (by rfl) (by rfl) hown9 hrd9 (by omega) hsz9 hys ?_
        intro A9 c9 w9 hown hgn hbk
        exact ⟨rfl, trivial, trivial, HI9.out.app k3 hf1 k8 hys hown9 hown hgn⟩
      · intro vals yv f hf1 hf2 hf3 hI hF
        clear hf2 hf3
        dsimp only [owes6, bare]
        simp only [putsD, Act.put, List.setIfInBounds_toArray, List.set_cons_zero, List.set_cons_succ]
        go_wp2
        exact ⟨rfl, rfl, trivial, hI⟩
      · intro vals yv f hf1 hf2 hf3 hI hF
        have k0 : f 0 = true := hf2 0 (by kernel_rfl)
        have k3 : f 3 = true := hf2 3 (by kernel_rfl)
        have k6 : f 6 = true := hf2 6 (by kernel_rfl)
        clear hf2 hf3
        simp only [saysD, List.getD_cons_zero, List.getD_cons_succ, and_true] at hF
        have e76 := hF
        obtain ⟨A9, c9, ys, hyy, e75, hyz⟩ := hI.2.2.2.2.1 k6
        have hbx := (hI.2.2.2.2.2.1 hf1).2
        dsimp only [owes6, bare]
        simp only [putsD, Act.put, List.setIfInBounds_toArray, List.set_cons_zero, List.set_cons_succ]
        simp only [e76, e75]
        obtain ⟨o0, o0'⟩ := cell_of_block hbx 0
        have HE9 := Lib.hid e75
        have HI9 := Lib.hid hI
        clear hI
        clear hbx e75 hyy hyz
        go_wp2
        refine ⟨rfl, trivial, trivial, ?_⟩
        have h8 := HI9.out.store k0 k3 k6 hf1
        have h7 : ∀ z, z = vals 6 → AaI y1 iY 0 #[.slice P s.put.length p', .slice Q s.why.length q', .slice D s.learned.length d', .int .i64 s.code] s.put s.put (vals 0) (vals 3) (.slice none 0 0) (vals 6) (f 0) (f 3) false (f 6) true (yv.setCell ⟨iY, 0, none⟩ z) := fun z hz => by rw [hz]; exact h8
        exact h7 _ (by rw [HE9.out])
      · intro vals yv f hall hI hF
        rw [show List.range _ = [0, 1, 2, 3, 4, 5, 6, 7, 8] from rfl] at hF
        simp only [says, List.getD_cons_zero, List.getD_cons_succ, and_true] at hF
        obtain ⟨A9, c9, ho9, hb9, hg9⟩ := AaI.fin hI (hall 6 (by decide)) (hall 8 (by decide))
        simp only [putsD, Act.put, List.setIfInBounds_toArray, List.set_cons_zero, List.set_cons_succ]
        clear hI hF hall
        obtain ⟨pp, hpp⟩ : ∃ pp, pp = s.put ++ s.put := ⟨_, rfl⟩
        rw [← hpp] at ho9 hb9
        have HPP := Lib.hid hpp
        clear hpp HRP
        have HB2 : Hid (Below s2.heap.size s2 yv) := Lib.hid (HB1.out.trans (hg9.to_below' HB1.out.size fun k hk => by have hk : k = iY := hk; have := HIX.out; omega))
        have HBX : Hid (yv.heap[iY]? = some (.cells #[.slice A9 pp.length c9, .slice Q s.why.length q', .slice D s.learned.length d', .int .i64 s.code] 35 (0, 0))) := Lib.hid (by simpa using hb9)
        have HO9 := Lib.hid ho9
        have hy1s := lt_of_block HBX.out
        clear hb9 hg9 ho9 HB1
        have BC := Lib.hid ((HB2.out.block _ (lt_of_block BC0.out)).trans BC0.out)
        have BS := Lib.hid ((HB2.out.block _ (lt_of_block BS0.out)).trans BS0.out)
        have HRP := HS0.out.up HB2.out
        obtain ⟨AP, hAP⟩ : ∃ z, z = A9 := ⟨_, rfl⟩
        obtain ⟨cP, hcP⟩ : ∃ z, z = c9 := ⟨_, rfl⟩
        rw [← hAP, ← hcP] at HBX HO9
        clear hAP hcP
        go_wp2
        refine wp_region_rel6 [[], [], [(1, 78)], [(2, 79), (0, 77)], [], [(4, 81)], [(3, 80), (5, 82)], [], [(7, 84), (6, 83)]]
          (fun _ _ => True)
          []
          (fun v9 f9 x9 => AaI yv iY 1 #[.slice AP pp.length cP, .slice Q s.why.length q', .slice D s.learned.length d', .int .i64 s.code] s.why s.why (v9 0) (v9 3) (.slice none 0 0) (v9 6) (f9 0) (f9 3) false (f9 6) (f9 8) x9)
          [fun _ _ => True,
    fun vs9 _ => vs9 1 = (.pointer (some ⟨iBC + 1, 1, none⟩)),
    fun vs9 _ => vs9 2 = (.slice Q s.why.length q'),
    fun _ _ => True,
    fun vs9 _ => vs9 4 = (.pointer (some ⟨iBC + 1, 1, none⟩)),
    fun vs9 _ => vs9 5 = (.slice Q s.why.length q'),
    fun _ _ => True,
    fun vs9 _ => vs9 7 = (.pointer (some ⟨iY, 1, none⟩)),
    fun _ _ => True]
          [(0, 77), (1, 78), (2, 79), (3, 80), (4, 81), (5, 82), (6, 83), (7, 84)] (by kernel_rfl) (by kernel_rfl) (by kernel_rfl) (by kernel_rfl)
          (fun _ => trivial) trivial
          ⟨⟨.inr (fun _ _ _ h _ => h), trivial⟩,
    ⟨.inr (fun _ _ _ h _ => h), trivial⟩,
    ⟨.inr (fun _ _ _ h _ => h), trivial⟩,
    ⟨.inr (fun _ _ _ h _ => h), trivial⟩,
    ⟨.inr (fun _ _ _ h _ => h), trivial⟩,
    ⟨.inr (fun _ _ _ h _ => h), trivial⟩,
    ⟨.inr (fun _ _ _ h _ => h), trivial⟩,
    ⟨.inr (fun _ _ _ h _ => h), trivial⟩,
    ⟨.inr (fun _ _ _ h _ => h), trivial⟩, trivial⟩ ⟨fun _ _ _ _ _ _ => trivial,
    fun vs vs' x h _ hv => (by dsimp only at hv ⊢; first | (rw [← h]; exact hv) | exact hv),
    fun vs vs' x h _ hv => (by dsimp only at hv ⊢; first | (rw [← h]; exact hv) | exact hv),
    fun _ _ _ _ _ _ => trivial,
    fun vs vs' x h _ hv => (by dsimp only at hv ⊢; first | (rw [← h]; exact hv) | exact hv),
    fun vs vs' x h _ hv => (by dsimp only at hv ⊢; first | (rw [← h]; exact hv) | exact hv),
    fun _ _ _ _ _ _ => trivial,
    fun vs vs' x h _ hv => (by dsimp only at hv ⊢; first | (rw [← h]; exact hv) | exact hv),
    fun _ _ _ _ _ _ => trivial, trivial⟩ (AaI.start HBX.out) ⟨?_, ?_, ?_, ?_, ?_, ?_, ?_, ?_, ?_, trivial⟩ ?_
        · intro vals yz f hf1 hf2 hf3 hI hF
          clear hf2 hf3
          dsimp only [owes6, bare]
          simp only [putsD, Act.put, List.setIfInBounds_toArray, List.set_cons_zero, List.set_cons_succ]
          have HI9 := Lib.hid hI
          clear hI
          go_wp2
          exact ⟨rfl, trivial, trivial, HI9.out.empty⟩
        · intro vals yz f hf1 hf2 hf3 hI hF
          clear hf2 hf3
          dsimp only [owes6, bare]
          simp only [putsD, Act.put, List.setIfInBounds_toArray, List.set_cons_zero, List.set_cons_succ]
          go_wp2
          exact ⟨rfl, rfl, trivial, hI⟩
        · intro vals yz f hf1 hf2 hf3 hI hF
          clear hf2 hf3
          simp only [saysD, List.getD_cons_zero, List.getD_cons_succ, and_true] at hF
          have e78 := hF
          dsimp only [owes6, bare]
          simp only [putsD, Act.put, List.setIfInBounds_toArray, List.set_cons_zero, List.set_cons_succ]
          simp only [e78]
          have bx9 := hI.1.heap (by show ¬ _ = iY; omega) BS.out
          obtain ⟨c0, _⟩ := cell_of_block bx9 1
          clear bx9
          go_wp2
          exact ⟨rfl, rfl, trivial, hI⟩
        · intro vals yz f hf1 hf2 hf3 hI hF
          have k0 : f 0 = true := hf2 0 (by kernel_rfl)
          have k6 : f 6 = false := hf3 6 (by kernel_rfl)
          have k8 : f 8 = false := hf3 8 (by kernel_rfl)
          clear hf2 hf3
          simp only [saysD, List.getD_cons_zero, List.getD_cons_succ, and_true] at hF
          have e79 := hF
          obtain ⟨p9, e77, hown9⟩ := hI.2.1 k0 hf1
          dsimp only [owes6, bare]
          simp only [putsD, Act.put, List.setIfInBounds_toArray, List.set_cons_zero, List.set_cons_succ]
          simp only [e79, e77]
          have hbx := (hI.2.2.2.2.2.1 k8).1
          have HI9 := Lib.hid hI
          clear hI
          have hrd9 := HRP.why.up hbx
          refine wpList_append_cp (ys := s.why) (by rfl) (.tmp 77) (.tmp 79) (by rfl) (by rfl) (by rfl) hown9 hrd9 (by omega) hbx.size ?_
          intro A9 c9 w9 hown hbl hbk
          exact ⟨rfl, trivial, trivial, HI9.out.copy hbl hown⟩
        · intro vals yz f hf1 hf2 hf3 hI hF
          clear hf2 hf3
          dsimp only [owes6, bare]
          simp only [putsD, Act.put, List.setIfInBounds_toArray, List.set_cons_zero, List.set_cons_succ]
          go_wp2
          exact ⟨rfl, rfl, trivial, hI⟩
        · intro vals yz f hf1 hf2 hf3 hI hF
          clear hf2 hf3
          simp only [saysD, List.getD_cons_zero, List.getD_cons_succ, and_true] at hF
          have e81 := hF
          dsimp only [owes6, bare]
          simp only [putsD, Act.put, List.setIfInBounds_toArray, List.set_cons_zero, List.set_cons_succ]
          simp only [e81]
          have bx9 := hI.1.heap (by show ¬ _ = iY; omega) BS.out
          obtain ⟨c0, _⟩ := cell_of_block bx9 1
          clear bx9
          go_wp2
          exact ⟨rfl, rfl, trivial, hI⟩
        · intro vals yz f hf1 hf2 hf3 hI hF
          have k3 : f 3 = true := hf2 3 (by kernel_rfl)
          have k8 : f 8 = false := hf3 8 (by kernel_rfl)
          clear hf2 hf3
          simp only [saysD, List.getD_cons_zero, List.getD_cons_succ, and_true] at hF
          have e82 := hF
          obtain ⟨A3, c3, e80, hown9⟩ := hI.2.2.1 k3 hf1
          have hbx := (hI.2.2.2.2.2.1 k8).1
          dsimp only [owes6, bare]
          simp only [putsD, Act.put, List.setIfInBounds_toArray, List.set_cons_zero, List.set_cons_succ]
          simp only [e80, e82]
          have hsz9 := hI.1.size
          have HI9 := Lib.hid hI
          clear hI
          have hrd9 := HRP.why.up hbx
          obtain ⟨ys, hys⟩ : ∃ ys, ys = s.why ++ s.why := ⟨_, rfl⟩
          refine wpList_append_intsD (zs := ys) (ys := s.why) (by rfl) (.tmp 80) (.tmp 82) (by rfl) (by rfl) (by rfl) hown9 hrd9 (by omega) hsz9 hys ?_
          intro A9 c9 w9 hown hgn hbk
          exact ⟨rfl, trivial, trivial, HI9.out.app k3 hf1 k8 hys hown9 hown hgn⟩
        · intro vals yz f hf1 hf2 hf3 hI hF
          clear hf2 hf3
          dsimp only [owes6, bare]
          simp only [putsD, Act.put, List.setIfInBounds_toArray, List.set_cons_zero, List.set_cons_succ]
          go_wp2
          exact ⟨rfl, rfl, trivial, hI⟩
        · intro vals yz f hf1 hf2 hf3 hI hF
          have k0 : f 0 = true := hf2 0 (by kernel_rfl)
          have k3 : f 3 = true := hf2 3 (by kernel_rfl)
          have k6 : f 6 = true := hf2 6 (by kernel_rfl)
          clear hf2 hf3
          simp only [saysD, List.getD_cons_zero, List.getD_cons_succ, and_true] at hF
          have e84 := hF
          obtain ⟨A9, c9, ys, hyy, e83, hyz⟩ := hI.2.2.2.2.1 k6
          have hbx := (hI.2.2.2.2.2.1 hf1).2
          dsimp only [owes6, bare]
          simp only [putsD, Act.put, List.setIfInBounds_toArray, List.set_cons_zero, List.set_cons_succ]
          simp only [e84, e83]
          obtain ⟨o0, o0'⟩ := cell_of_block hbx 1
          have HE9 := Lib.hid e83
          have HI9 := Lib.hid hI
          clear hI
          clear hbx e83 hyy hyz
          go_wp2
          refine ⟨rfl, trivial, trivial, ?_⟩
          have h8 := HI9.out.store k0 k3 k6 hf1
          have h7 : ∀ z, z = vals 6 → AaI yv iY 1 #[.slice AP pp.length cP, .slice Q s.why.length q', .slice D s.learned.length d', .int .i64 s.code] s.why s.why (vals 0) (vals 3) (.slice none 0 0) (vals 6) (f 0) (f 3) false (f 6) true (yz.setCell ⟨iY, 1, none⟩ z) := fun z hz => by rw [hz]; exact h8
          exact h7 _ (by rw [HE9.out])
        · intro vals yz f hall hI hF
          rw [show List.range _ = [0, 1, 2, 3, 4, 5, 6, 7, 8] from rfl] at hF
          simp only [says, List.getD_cons_zero, List.getD_cons_succ, and_true] at hF
          obtain ⟨A9, c9, ho9, hb9, hg9⟩ := AaI.fin hI (hall 6 (by decide)) (hall 8 (by decide))
          simp only [putsD, Act.put, List.setIfInBounds_toArray, List.set_cons_zero, List.set_cons_succ]
          clear hI hF hall
          obtain ⟨qq, hqq⟩ : ∃ qq, qq = s.why ++ s.why := ⟨_, rfl⟩
          rw [← hqq] at ho9 hb9
          have HQQ := Lib.hid hqq
          clear hqq HRP
          have h14 : Below s2.heap.size s2 yz := HB2.out.trans (hg9.to_below' HB2.out.size fun k hk => by have hk : k = iY := hk; have := HIX.out; omega)
          have e2 : yz.heap[iY]? = some (.cells #[.slice AP pp.length cP, .slice A9 qq.length c9, .slice D s.learned.length d', .int .i64 s.code] 35 (0, 0)) := by simpa using hb9
          have o13 := own_gr9 HO9.out HBX.out hg9
          have e3 := ho9.rd
          have e4 := OwnI.cap ho9
          have e6 := o13.rd
          have e7 := OwnI.cap o13
          clear hb9 hg9 ho9 o13 HO9 HBX hy1s hx1s HB2 BC BS
          have hst := h14
          have hb := HBU.out
          have hx := HX0.out
          have hrs := HS0.out
          have BC := BC0
          have BS := BS0
          clear HBU HX0 HS0 BC0 BS0 hlC hlS
          have hb := bthen hb hst
          have BC := Lib.hid ((hst.block _ (lt_of_block BC.out)).trans BC.out)
          have BS := Lib.hid ((hst.block _ (lt_of_block BS.out)).trans BS.out)
          have hx := hx.up hst
          have hrs := hrs.up hst
          have hrX := Lib.hid (hrX.out.up hst)
          have BX := Lib.hid ((hst.block _ (lt_of_block BX.out)).trans BX.out)
          clear hst
          have hrY : Hid (RdS yz ⟨pp, qq, s.learned, s.code⟩ AP A9 D cP c9 d') := Lib.hid ⟨e6, e3, hrs.lrn, e7, e4, hrs.capD⟩
          have BY := Lib.hid e2
          clear e2 e3 e4 e6 e7 h14 HIX
          have NY : Hid ((0 < s.put.length → satOk x ⟨pp, qq, s.learned, s.code⟩ = false) ∧ smS ⟨pp, qq, s.learned, s.code⟩) := Lib.hid (by rw [HPP.out, HQQ.out]; exact ⟨fun hp9 => bent_twice hp9, HOS.out.addTwice (by omega)⟩)
          clear HPP HQQ
          obtain ⟨BY9, h9BY9⟩ : ∃ z, z = A9 := ⟨_, rfl⟩
          subst h9BY9
          obtain ⟨bY, h9bY⟩ : ∃ z, z = c9 := ⟨_, rfl⟩
          subst h9bY
          obtain ⟨i0, hi0, hz0, hz1, hz2⟩ := info_parts toIntSS_info
          have HA9 := Lib.hid (sl_none hrs.lrn)
          obtain ⟨rcs, hsrc, h1c, hcl9, hrows⟩ := src_rows hrs.lrn
          have HSRC := Lib.hid hsrc
          have HROWS := Lib.hid hrows
          have H1C := Lib.hid h1c
          clear hsrc hrows h1c hcl9
          have hlC := lt_of_block BC.out
          have hlS := lt_of_block BS.out
          have hbX := heap_alloc_new yz (.cells #[.slice P s.put.length p', .slice Q s.why.length q', .slice D s.learned.length d', .int .i64 s.code] 35)
          have hal : Below yz.heap.size yz (yz.alloc (.cells #[.slice P s.put.length p', .slice Q s.why.length q', .slice D s.learned.length d', .int .i64 s.code] 35)) := (Below.refl _ _).alloc (Nat.le_refl _) _
          have n0 := (cell_of_block BS.out 0).1
          have n1 := (cell_of_block BS.out 1).1
          have n2 := (cell_of_block BS.out 2).1
          have n3 := (cell_of_block BS.out 3).1
          have n9 : ((yz.alloc (.cells #[.slice P s.put.length p', .slice Q s.why.length q', .slice D s.learned.length d', .int .i64 s.code] 35)).alloc (.cells #[] 26)).cell? ⟨iBC + 1, 2, none⟩ = some (.slice D s.learned.length d') := (cell_of_block (((bthen hal ((Below.refl _ _).alloc (Nat.le_refl _) _)).block _ hlS).trans BS.out) 2).1
          go_wp2_with (at_builtin; refine Stop.out ?_)
          refine Stop.mk ?_
          clear n9
          clear n0 n1 n2 n3
          have HB1 := Lib.hid hal
          have HBX := Lib.hid hbX
          have HBU := Lib.hid hb
          have HX0 := Lib.hid hx
          have HS0 := Lib.hid hrs
          have BC0 := BC
          have BS0 := BS
          clear hb hx hrs
          have hz9 : yz.heap.size + 1 = (yz.alloc (.cells #[.slice P s.put.length p', .slice Q s.why.length q', .slice D s.learned.length d', .int .i64 s.code] 35)).heap.size := by simp
          have BC := Lib.hid ((hal.block _ hlC).trans BC.out)
          have BS := Lib.hid ((hal.block _ hlS).trans BS.out)
          clear hal hbX
          generalize yz.alloc (.cells #[.slice P s.put.length p', .slice Q s.why.length q', .slice D s.learned.length d', .int .i64 s.code] 35) = z1 at *
          obtain ⟨iZ, hiX⟩ : ∃ i, i = yz.heap.size := ⟨_, rfl⟩
          rw [← hiX] at HBX hlC hlS hz9 ⊢
          rw [hz9]
          clear hz9
          have HIX := Lib.hid hiX
          clear hiX
          have HRP := HS0.out.up HB1.out
          have hx1s := lt_of_block HBX.out
          have hiz : iZ < z1.heap.size := hx1s
          have hE : Below z1.heap.size z1 (z1.alloc (.cells #[] 26)) := (Below.refl _ _).alloc (Nat.le_refl _) _
          have HE := Lib.hid hE
          have hyE : Below yz.heap.size yz (z1.alloc (.cells #[] 26)) := bthen HB1.out hE
          have HYE := Lib.hid hyE
          have hsz1 := HB1.out.size
          have hsrc2 : Src (z1.alloc (.cells #[] 26)) 1 D s.learned.length rcs := ⟨HSRC.out.1, fun h9 => by obtain ⟨ad, e, hcell⟩ := HSRC.out.2 h9; exact ⟨ad, e, fun j z hz => (hyE.cell (World.block_lt_of_cell? _ _ (hcell j z hz))).trans (hcell j z hz)⟩⟩
          obtain ⟨ds, hds⟩ : ∃ ds, ds = s.learned ++ [[0]] := ⟨_, rfl⟩
          have HDS := Lib.hid hds
          clear hds hE hyE
          go_wp2_with (at_builtin; first
            | (refine wpList_append_src _ (by rfl) (.tmp 86) (.tmp 88) _ (by rfl) z1.heap.size 26 i0 _ 1 24 Try.underlying23 hi0 hz0 hz1 hz2 (by rfl) (by omega) (.slice (some ⟨z1.heap.size, 0, none⟩) 0 0) 0 [] (by rfl) (own_lit0 rfl) D s.learned.length d' rcs (by rfl) hsrc2 H1C.out s.learned.length (by omega) (by unfold maxLen; omega) (by omega) (by simp) HA9.out ?_; intro A1 c1 w1 hown1 hb1 _; have hbw : Below yz.heap.size yz w1 := HYE.out.trans ((HE.out.trans hb1).mono hsz1 |> fun h9 => hb1.mono hsz1); have hown : OwnD iZ z1.heap.size w1 (.slice A1 s.learned.length c1) s.learned := ownL_of_src (w := yz) (S := fun b => b = iZ) (by simpa using hown1) rfl hbw HROWS.out (fun b hb => ⟨hb, fun e => by have e : b = iZ := e; have := HIX.out; omega⟩) hsz1; have hal3 : Below w1.heap.size w1 (w1.alloc (.cells #[.int .i64 0] 3)) := (Below.refl _ _).alloc (Nat.le_refl _) _; have hown3 := hown.up (Stay.notIn _) hal3; have hizw : iZ < w1.heap.size := Nat.lt_of_lt_of_le hiz (HE.out.trans hb1).size; have hel : Lay.int.slice.R (w1.alloc (.cells #[.int .i64 0] 3)) (fun b => b < (w1.alloc (.cells #[.int .i64 0] 3)).heap.size ∧ (Value.slice A1 s.learned.length c1).ownBlock ≠ some b ∧ ¬ b = iZ) [0] [.slice (some ⟨w1.heap.size, 0, none⟩) 1 1] := ⟨some ⟨w1.heap.size, 0, none⟩, 1, rfl, by simp, (lit_sl (S := fun b => b < w1.heap.size) w1 [0] _ 3 rfl (by simp)).mono fun b hb => ⟨hb.1, fun e => hb.2 (hown.lt b e).2, fun e => hb.2 (by rw [e]; exact hizw)⟩⟩; have HBW3 := Lib.hid ((HE.out.trans hb1).trans (hal3.mono (HE.out.trans hb1).size)); have hlo9 := HBW3.out.size; have HBX3 := Lib.hid ((HBW3.out.block _ hiz).trans HBX.out); clear hsrc2 hown1 hb1 hal3 hown hizw)
            | (refine wpList_append_row (L := Lay.int.slice) (Q := NotIn (fun b => b = iZ)) (ys := ds) (xs := s.learned) (c := c1) (A := A1) (by rfl) (.tmp 89) (.tmp 91) (by rfl) Try.underlying23 hi0 hz0 hz1 hz2 (by rfl) (by decide) (by rfl) (by simp [Act.eval]) hown3 (Stay.notIn _) hel (fun _ h => h) (by simp [Value.oneCell']) (by omega) (by omega) hlo9 HDS.out ?_; intro A4 c4 w4 hown4 hg4 hbk4; have hne4 := hown3.ne HBX3.out (by decide); have hlt4 := hown3.lt; have HB4 := Lib.hid ((hg4.block _ (lt_of_block HBX3.out) (fun e => hne4 e.symm)).trans HBX3.out); have HBW4 : Hid (Below z1.heap.size z1 w4) := Lib.hid (HBW3.out.grown hg4 hlo9 (fun g e => (hlt4 g e).1)); have HO4 := Lib.hid hown4; obtain ⟨m2, m2'⟩ := cell_of_block HB4.out 2; have hq0 : (w4.setCell ⟨iZ, 2, none⟩ (.slice A4 ds.length c4)).heap[iBC + 1]? = some (.cells #[.slice P s.put.length p', .slice Q s.why.length q', .slice D s.learned.length d', .int .i64 s.code] 35 (0, 0)) := (Below.heap_setCell w4 ⟨iZ, 2, none⟩ _ (iBC + 1) (by show iBC + 1 ≠ iZ; omega)).trans ((HBW4.out.block _ (by omega)).trans BS.out); obtain ⟨j0, j0'⟩ := cell_of_block hq0 0; obtain ⟨j1, j1'⟩ := cell_of_block hq0 1; obtain ⟨j2, j2'⟩ := cell_of_block hq0 2; obtain ⟨j3, j3'⟩ := cell_of_block hq0 3; have n9 : (((w4.setCell ⟨iZ, 2, none⟩ (.slice A4 ds.length c4)).alloc (.cells #[.slice P s.put.length p', .slice Q s.why.length q', .slice D s.learned.length d', .int .i64 s.code] 35)).alloc (.cells #[] 3)).cell? ⟨iBC + 1, 1, none⟩ = some (.slice Q s.why.length q') := (cell_of_block (((bthen ((Below.refl _ _).alloc (Nat.le_refl _) _) ((Below.refl _ _).alloc (Nat.le_refl _) _)).block _ (lt_of_block hq0)).trans hq0) 1).1; clear hq0 hown4 hg4 hbk4 hne4 hlt4)
            | (refine Stop.out ?_))
          refine Stop.mk ?_
          clear j0 j0' j1 j1' j2 j2' j3 j3' m2 m2' n9 hown3 hel hlo9
          have e1 : Below yz.heap.size yz (w4.setCell ⟨iZ, 2, none⟩ (.slice A4 ds.length c4)) := (bthen HB1.out HBW4.out).setCell (p := ⟨iZ, 2, none⟩) (by show _ ≤ iZ; have := HIX.out; omega) _
          have hgr : Gr (fun b => b = iZ) w4 (w4.setCell ⟨iZ, 2, none⟩ (.slice A4 ds.length c4)) := (Gr.refl (fun b => b = iZ) w4).set _ _ _ (.inl (by rfl))
          have hne5 := HO4.out.ne HB4.out (by decide)
          have HO5 := HO4.out.grNe hgr (fun g hg e9 => hne5 (by rw [hg, show g = iZ from e9]))
          have e2 := heap_set_same w4 iZ 2 (.slice A4 ds.length c4) _ _ HB4.out
          have e3 := HO5.rd
          have e4 := (OwnL.cap HO5).2
          have hsz9 : w4.heap.size = ((w4.setCell ⟨iZ, 2, none⟩ (.slice A4 ds.length c4))).heap.size := (size_setCell ..).symm
          rw [hsz9]
          clear hsz9 hgr hne5 HO5 HO4 HB4 HBW4 HBX3 HBW3 HE HYE HBX HB1 hsz1 hiz hx1s HRP HSRC HROWS H1C
          have hst := e1
          generalize (w4.setCell ⟨iZ, 2, none⟩ (.slice A4 ds.length c4)) = s4 at *
          have hb := HBU.out
          have hx := HX0.out
          have hrs := HS0.out
          have BC := BC0
          have BS := BS0
          clear HBU HX0 HS0 BC0 BS0 hlC hlS
          have hb := bthen hb hst
          have BC := Lib.hid ((hst.block _ (lt_of_block BC.out)).trans BC.out)
          have BS := Lib.hid ((hst.block _ (lt_of_block BS.out)).trans BS.out)
          have hx := hx.up hst
          have hrs := hrs.up hst
          have hrX := Lib.hid (hrX.out.up hst)
          have BX := Lib.hid ((hst.block _ (lt_of_block BX.out)).trans BX.out)
          have hrY := Lib.hid (hrY.out.up hst)
          have BY := Lib.hid ((hst.block _ (lt_of_block BY.out)).trans BY.out)
          clear hst
          have hrZ : Hid (RdS s4 ⟨s.put, s.why, ds, s.code⟩ P Q A4 p' q' c4) := Lib.hid ⟨hrs.put, hrs.why, e3, hrs.capP, hrs.capQ, e4⟩
          have BZ : Hid (s4.heap[iZ]? = some (.cells #[.slice P s.put.length p', .slice Q s.why.length q', .slice A4 ds.length c4, .int .i64 s.code] 35 (0, 0))) := Lib.hid (by simpa using e2)
          clear e1 e2 e3 e4 HIX
          have NZ : Hid (satOk x ⟨s.put, s.why, ds, s.code⟩ = false ∧ sameS s ⟨s.put, s.why, ds, s.code⟩ = false ∧ smS ⟨s.put, s.why, ds, s.code⟩) := Lib.hid (by rw [HDS.out]; exact ⟨bent_zero, same_lrn, (HOS.out.addLrn (cl := [0]) (by simp) (by intro z hz; rw [List.mem_singleton.1 hz]; unfold okInt; omega)).sm8 (by omega)⟩)
          clear HDS
          obtain ⟨DZ, h9DZ⟩ : ∃ z, z = A4 := ⟨_, rfl⟩
          subst h9DZ
          obtain ⟨dZ, h9dZ⟩ : ∃ z, z = c4 := ⟨_, rfl⟩
          subst h9dZ
          have hlC := lt_of_block BC.out
          have hlS := lt_of_block BS.out
          have hbX := heap_alloc_new s4 (.cells #[.slice P s.put.length p', .slice Q s.why.length q', .slice D s.learned.length d', .int .i64 s.code] 35)
          have hal : Below s4.heap.size s4 (s4.alloc (.cells #[.slice P s.put.length p', .slice Q s.why.length q', .slice D s.learned.length d', .int .i64 s.code] 35)) := (Below.refl _ _).alloc (Nat.le_refl _) _
          have HB1 := Lib.hid hal
          have HBX := Lib.hid hbX
          have HBU := Lib.hid hb
          have HX0 := Lib.hid hx
          have HS0 := Lib.hid hrs
          have BC0 := BC
          have BS0 := BS
          clear hb hx hrs
          have hz9 : s4.heap.size + 1 = (s4.alloc (.cells #[.slice P s.put.length p', .slice Q s.why.length q', .slice D s.learned.length d', .int .i64 s.code] 35)).heap.size := by simp
          have BC := Lib.hid ((hal.block _ hlC).trans BC.out)
          have BS := Lib.hid ((hal.block _ hlS).trans BS.out)
          clear hal hbX
          generalize s4.alloc (.cells #[.slice P s.put.length p', .slice Q s.why.length q', .slice D s.learned.length d', .int .i64 s.code] 35) = z2 at *
          obtain ⟨iW, hiX⟩ : ∃ i, i = s4.heap.size := ⟨_, rfl⟩
          rw [← hiX] at HBX hlC hlS hz9 ⊢
          rw [hz9]
          clear hz9
          have HIX := Lib.hid hiX
          clear hiX
          have HRP := HS0.out.up HB1.out
          have hx1s := lt_of_block HBX.out
          have HB2 := HB1
          clear HRP
          obtain ⟨vs, hqs⟩ : ∃ qs, qs = s.why ++ [-1] := ⟨_, rfl⟩
          have HQS := Lib.hid hqs
          clear hqs
          have halE : Below z2.heap.size z2 (z2.alloc (.cells #[] 3)) := (Below.refl _ _).alloc (Nat.le_refl _) _
          have HAE := Lib.hid halE
          have HOE : Hid (OwnI (z2.alloc (.cells #[] 3)) z2.heap.size (.slice (some ⟨z2.heap.size, 0, none⟩) 0 0) []) := Lib.hid (own_lit0I z2)
          have HRQ := Lib.hid ((HS0.out.up (HB2.out)).why.up halE)
          have hl0 : ([] : List Int).length + s.why.length ≤ 1048576 := by simp; omega
          have n1 := (cell_of_block (HB2.out.block _ (lt_of_block BS0.out) |>.trans BS0.out) 1).1
          have n1 : (z2.alloc (.cells #[] 3)).cell? ⟨iBC + 1, 1, none⟩ = some (.slice Q s.why.length q') := (cell_of_block ((halE.block _ (Nat.lt_of_lt_of_le (lt_of_block BS0.out) HB2.out.size)).trans ((HB2.out.block _ (lt_of_block BS0.out)).trans BS0.out)) 1).1
          clear halE
          go_wp2_with (at_builtin; first
            | (refine wpList_append_intsC (zs := s.why) (by rfl) (.tmp 95) (.tmp 97) (by rfl) (by rfl) (by rfl) HOE.out HRQ.out (none_len HRQ.out) hl0 HAE.out.size rfl ?_; intro A7 c7 w7 hown7 hb7 hg7; have HO7 := Lib.hid hown7; have HB7 := Lib.hid hb7; have hlo7 := hb7.size; have hlw7 : s.why.length ≤ 2000000 := (by omega); clear hown7 hb7 hg7 n1)
            | (refine wpList_append_int8 (ys := vs) (by rfl) (.tmp 98) (.tmp 99) (by rfl) (by rfl) (by rfl) HO7.out hlw7 (Nat.le_trans HAE.out.size hlo7) HQS.out ?_; intro A8 c8 w8 hown8 hg8 hbk8; have HB8 : Hid (Below z2.heap.size z2 w8) := Lib.hid ((HAE.out.trans (HB7.out)).grown hg8 (Nat.le_trans HAE.out.size hlo7) (fun g e => (HO7.out.lt g e).1)); have HO8 := Lib.hid hown8; have HX8 := Lib.hid ((HB8.out.block _ hx1s).trans HBX.out); obtain ⟨m1, m1'⟩ := cell_of_block HX8.out 1; have hq0 : (w8.setCell ⟨iW, 1, none⟩ (.slice A8 vs.length c8)).heap[iBC + 1]? = some (.cells #[.slice P s.put.length p', .slice Q s.why.length q', .slice D s.learned.length d', .int .i64 s.code] 35 (0, 0)) := (Below.heap_setCell w8 ⟨iW, 1, none⟩ _ (iBC + 1) (by show iBC + 1 ≠ iW; omega)).trans ((HB8.out.block _ (by omega)).trans ((HB2.out.block _ (lt_of_block BS0.out)).trans BS0.out)); have hqC : (w8.setCell ⟨iW, 1, none⟩ (.slice A8 vs.length c8)).heap[iBC]? = some (.cells #[.int .i64 x.many, .slice A x.list.length a] 25 (0, 0)) := (Below.heap_setCell w8 ⟨iW, 1, none⟩ _ iBC (by show iBC ≠ iW; omega)).trans ((HB8.out.block _ (by omega)).trans ((HB2.out.block _ (lt_of_block BC0.out)).trans BC0.out)); have hqX : (w8.setCell ⟨iW, 1, none⟩ (.slice A8 vs.length c8)).heap[iX]? = _ := (Below.heap_setCell w8 ⟨iW, 1, none⟩ _ iX (by show iX ≠ iW; have := lt_of_block BX.out; have := HIX.out; omega)).trans ((HB8.out.block _ (Nat.lt_of_lt_of_le (lt_of_block BX.out) HB2.out.size)).trans ((HB2.out.block _ (lt_of_block BX.out)).trans BX.out)); have jC0 := (cell_of_block hqC 0).1; have jC1 := (cell_of_block hqC 1).1; have jX0 := (cell_of_block hqX 0).1; have jX1 := (cell_of_block hqX 1).1; have jX2 := (cell_of_block hqX 2).1; have jX3 := (cell_of_block hqX 3).1; clear hq0 hqC hqX hown8 hg8 hbk8))
          clear jC0 jC1 jX0 jX1 jX2 jX3 n1 m1 m1' hl0 HRQ HOE
          obtain ⟨e1, e2, e3, e4, e5⟩ := sat_put (off := 1) HB2.out HB8.out (by have := HIX.out; omega) HX8.out HO8.out
          clear e5 HO8 HAE HB7 HO7 HX8 hlo7 HB8 HBX HB2 HB1 hx1s BC BS
          have hst := e1
          generalize (w8.setCell ⟨iW, 1, none⟩ (.slice A8 vs.length c8)) = s5 at *
          have hb := HBU.out
          have hx := HX0.out
          have hrs := HS0.out
          have BC := BC0
          have BS := BS0
          clear HBU HX0 HS0 BC0 BS0 hlC hlS
          have hb := bthen hb hst
          have BC := Lib.hid ((hst.block _ (lt_of_block BC.out)).trans BC.out)
          have BS := Lib.hid ((hst.block _ (lt_of_block BS.out)).trans BS.out)
          have hx := hx.up hst
          have hrs := hrs.up hst
          have hrX := Lib.hid (hrX.out.up hst)
          have BX := Lib.hid ((hst.block _ (lt_of_block BX.out)).trans BX.out)
          have hrY := Lib.hid (hrY.out.up hst)
          have BY := Lib.hid ((hst.block _ (lt_of_block BY.out)).trans BY.out)
          have hrZ := Lib.hid (hrZ.out.up hst)
          have BZ := Lib.hid ((hst.block _ (lt_of_block BZ.out)).trans BZ.out)
          clear hst
          have hrW : Hid (RdS s5 ⟨s.put, vs, s.learned, s.code⟩ P A8 D p' c8 d') := Lib.hid ⟨hrs.put, e3, hrs.lrn, hrs.capP, e4, hrs.capD⟩
          have BW : Hid (s5.heap[iW]? = some (.cells #[.slice P s.put.length p', .slice A8 vs.length c8, .slice D s.learned.length d', .int .i64 s.code] 35 (0, 0))) := Lib.hid (by simpa using e2)
          clear e1 e2 e3 e4 HIX
          have NW : Hid (satOk x ⟨s.put, vs, s.learned, s.code⟩ = false ∧ smS ⟨s.put, vs, s.learned, s.code⟩) := Lib.hid (by rw [HQS.out]; exact ⟨bent_why HK9.out, (HOS.out.addWhy (y := -1) (by unfold okInt; omega)).sm8 (by omega)⟩)
          clear HQS
          obtain ⟨BW9, h9BW9⟩ : ∃ z, z = A8 := ⟨_, rfl⟩
          subst h9BW9
          obtain ⟨bW, h9bW⟩ : ∃ z, z = c8 := ⟨_, rfl⟩
          subst h9bW
          refine (implSatOk_u x A a ⟨ps, qs, s.learned, s.code⟩ _ _ _ _ _ _ _ hx hxa hrX.out.put hrX.out.why hrX.out.lrn hrX.out.capP hrX.out.capQ hrX.out.capD SX.out NX.out.2.2).mono ?_
          rw [NX.out.1]
          rintro e s6 ⟨rfl, hb9⟩
          have hb := bthen hb hb9
          have BC := Lib.hid ((hb9.block _ (lt_of_block BC.out)).trans BC.out)
          have BS := Lib.hid ((hb9.block _ (lt_of_block BS.out)).trans BS.out)
          have hx := hx.up hb9
          have hrs := hrs.up hb9
          have hrX := Lib.hid (hrX.out.up hb9)
          have BX := Lib.hid ((hb9.block _ (lt_of_block BX.out)).trans BX.out)
          have hrY := Lib.hid (hrY.out.up hb9)
          have BY := Lib.hid ((hb9.block _ (lt_of_block BY.out)).trans BY.out)
          have hrZ := Lib.hid (hrZ.out.up hb9)
          have BZ := Lib.hid ((hb9.block _ (lt_of_block BZ.out)).trans BZ.out)
          have hrW := Lib.hid (hrW.out.up hb9)
          have BW := Lib.hid ((hb9.block _ (lt_of_block BW.out)).trans BW.out)
          clear hb9
          rcases Nat.eq_zero_or_pos s.put.length with hp0 | hp0
          · skip
            have q0 : ((s.put.length : Int) == 0) = true := by simp [hp0]
            clear hp0
            have kBC_0 : s6.cell? ⟨iBC, 0, none⟩ = some (.int .i64 x.many) := (cell_of_block BC.out 0).1
            have kBC_1 : s6.cell? ⟨iBC, 1, none⟩ = some (.slice A x.list.length a) := (cell_of_block BC.out 1).1
            have kBZ_0 : s6.cell? ⟨iZ, 0, none⟩ = some (.slice P s.put.length p') := (cell_of_block BZ.out 0).1
            have kBZ_1 : s6.cell? ⟨iZ, 1, none⟩ = some (.slice Q s.why.length q') := (cell_of_block BZ.out 1).1
            have kBZ_2 : s6.cell? ⟨iZ, 2, none⟩ = some (.slice DZ ds.length dZ) := (cell_of_block BZ.out 2).1
            have kBZ_3 : s6.cell? ⟨iZ, 3, none⟩ = some (.int .i64 s.code) := (cell_of_block BZ.out 3).1
            have kBS_0 : s6.cell? ⟨iBC + 1, 0, none⟩ = some (.slice P s.put.length p') := (cell_of_block BS.out 0).1
            have kBS_1 : s6.cell? ⟨iBC + 1, 1, none⟩ = some (.slice Q s.why.length q') := (cell_of_block BS.out 1).1
            have kBS_2 : s6.cell? ⟨iBC + 1, 2, none⟩ = some (.slice D s.learned.length d') := (cell_of_block BS.out 2).1
            have kBS_3 : s6.cell? ⟨iBC + 1, 3, none⟩ = some (.int .i64 s.code) := (cell_of_block BS.out 3).1
            go_wp2_with fail
            clear kBC_0 kBC_1 kBZ_0 kBZ_1 kBZ_2 kBZ_3 kBS_0 kBS_1 kBS_2 kBS_3
            refine (implSatOk_u x A a ⟨s.put, s.why, ds, s.code⟩ _ _ _ _ _ _ _ hx hxa hrZ.out.put hrZ.out.why hrZ.out.lrn hrZ.out.capP hrZ.out.capQ hrZ.out.capD SX.out NZ.out.2.2).mono ?_
            rw [NZ.out.1]
            rintro e u51 ⟨rfl, hb9⟩
            have hb := bthen hb hb9
            have BC := Lib.hid ((hb9.block _ (lt_of_block BC.out)).trans BC.out)
            have BS := Lib.hid ((hb9.block _ (lt_of_block BS.out)).trans BS.out)
            have hx := hx.up hb9
            have hrs := hrs.up hb9
            have hrX := Lib.hid (hrX.out.up hb9)
            have BX := Lib.hid ((hb9.block _ (lt_of_block BX.out)).trans BX.out)
            have hrY := Lib.hid (hrY.out.up hb9)
            have BY := Lib.hid ((hb9.block _ (lt_of_block BY.out)).trans BY.out)
            have hrZ := Lib.hid (hrZ.out.up hb9)
            have BZ := Lib.hid ((hb9.block _ (lt_of_block BZ.out)).trans BZ.out)
            have hrW := Lib.hid (hrW.out.up hb9)
            have BW := Lib.hid ((hb9.block _ (lt_of_block BW.out)).trans BW.out)
            clear hb9
            have kBC_0 : u51.cell? ⟨iBC, 0, none⟩ = some (.int .i64 x.many) := (cell_of_block BC.out 0).1
            have kBC_1 : u51.cell? ⟨iBC, 1, none⟩ = some (.slice A x.list.length a) := (cell_of_block BC.out 1).1
            have kBW_0 : u51.cell? ⟨iW, 0, none⟩ = some (.slice P s.put.length p') := (cell_of_block BW.out 0).1
            have kBW_1 : u51.cell? ⟨iW, 1, none⟩ = some (.slice BW9 vs.length bW) := (cell_of_block BW.out 1).1
            have kBW_2 : u51.cell? ⟨iW, 2, none⟩ = some (.slice D s.learned.length d') := (cell_of_block BW.out 2).1
            have kBW_3 : u51.cell? ⟨iW, 3, none⟩ = some (.int .i64 s.code) := (cell_of_block BW.out 3).1
            go_wp2_with fail
            clear kBC_0 kBC_1 kBW_0 kBW_1 kBW_2 kBW_3
            refine (implSatOk_u x A a ⟨s.put, vs, s.learned, s.code⟩ _ _ _ _ _ _ _ hx hxa hrW.out.put hrW.out.why hrW.out.lrn hrW.out.capP hrW.out.capQ hrW.out.capD SX.out NW.out.2).mono ?_
            rw [NW.out.1]
            rintro e u52 ⟨rfl, hb9⟩
            have hb := bthen hb hb9
            have BC := Lib.hid ((hb9.block _ (lt_of_block BC.out)).trans BC.out)
            have BS := Lib.hid ((hb9.block _ (lt_of_block BS.out)).trans BS.out)
            have hx := hx.up hb9
            have hrs := hrs.up hb9
            have hrX := Lib.hid (hrX.out.up hb9)
            have BX := Lib.hid ((hb9.block _ (lt_of_block BX.out)).trans BX.out)
            have hrY := Lib.hid (hrY.out.up hb9)
            have BY := Lib.hid ((hb9.block _ (lt_of_block BY.out)).trans BY.out)
            have hrZ := Lib.hid (hrZ.out.up hb9)
            have BZ := Lib.hid ((hb9.block _ (lt_of_block BZ.out)).trans BZ.out)
            have hrW := Lib.hid (hrW.out.up hb9)
            have BW := Lib.hid ((hb9.block _ (lt_of_block BW.out)).trans BW.out)
            clear hb9
            have kBS_0 : u52.cell? ⟨iBC + 1, 0, none⟩ = some (.slice P s.put.length p') := (cell_of_block BS.out 0).1
            have kBS_1 : u52.cell? ⟨iBC + 1, 1, none⟩ = some (.slice Q s.why.length q') := (cell_of_block BS.out 1).1
            have kBS_2 : u52.cell? ⟨iBC + 1, 2, none⟩ = some (.slice D s.learned.length d') := (cell_of_block BS.out 2).1
            have kBS_3 : u52.cell? ⟨iBC + 1, 3, none⟩ = some (.int .i64 s.code) := (cell_of_block BS.out 3).1
            have kBX_0 : u52.cell? ⟨iX, 0, none⟩ = some (.slice AX ps.length aX) := (cell_of_block BX.out 0).1
            have kBX_1 : u52.cell? ⟨iX, 1, none⟩ = some (.slice BX9 qs.length bX) := (cell_of_block BX.out 1).1
            have kBX_2 : u52.cell? ⟨iX, 2, none⟩ = some (.slice D s.learned.length d') := (cell_of_block BX.out 2).1
            have kBX_3 : u52.cell? ⟨iX, 3, none⟩ = some (.int .i64 s.code) := (cell_of_block BX.out 3).1
            go_wp2_with fail
            clear kBS_0 kBS_1 kBS_2 kBS_3 kBX_0 kBX_1 kBX_2 kBX_3
            refine (implSatSame_any s ⟨ps, qs, s.learned, s.code⟩ _ _ _ _ _ _ _ _ _ _ _ _ _ hrs.put hrs.why hrs.lrn hrX.out.put hrX.out.why hrX.out.lrn SS.out NX.out.2.2).mono ?_
            rw [NX.out.2.1]
            rintro e u53 ⟨rfl, hb9⟩
            have hb := bthen hb hb9
            have BC := Lib.hid ((hb9.block _ (lt_of_block BC.out)).trans BC.out)
            have BS := Lib.hid ((hb9.block _ (lt_of_block BS.out)).trans BS.out)
            have hx := hx.up hb9
            have hrs := hrs.up hb9
            have hrX := Lib.hid (hrX.out.up hb9)
            have BX := Lib.hid ((hb9.block _ (lt_of_block BX.out)).trans BX.out)
            have hrY := Lib.hid (hrY.out.up hb9)
            have BY := Lib.hid ((hb9.block _ (lt_of_block BY.out)).trans BY.out)
            have hrZ := Lib.hid (hrZ.out.up hb9)
            have BZ := Lib.hid ((hb9.block _ (lt_of_block BZ.out)).trans BZ.out)
            have hrW := Lib.hid (hrW.out.up hb9)
            have BW := Lib.hid ((hb9.block _ (lt_of_block BW.out)).trans BW.out)
            clear hb9
            have kBS_0 : u53.cell? ⟨iBC + 1, 0, none⟩ = some (.slice P s.put.length p') := (cell_of_block BS.out 0).1
            have kBS_1 : u53.cell? ⟨iBC + 1, 1, none⟩ = some (.slice Q s.why.length q') := (cell_of_block BS.out 1).1
            have kBS_2 : u53.cell? ⟨iBC + 1, 2, none⟩ = some (.slice D s.learned.length d') := (cell_of_block BS.out 2).1
            have kBS_3 : u53.cell? ⟨iBC + 1, 3, none⟩ = some (.int .i64 s.code) := (cell_of_block BS.out 3).1
            have kBZ_0 : u53.cell? ⟨iZ, 0, none⟩ = some (.slice P s.put.length p') := (cell_of_block BZ.out 0).1
            have kBZ_1 : u53.cell? ⟨iZ, 1, none⟩ = some (.slice Q s.why.length q') := (cell_of_block BZ.out 1).1
            have kBZ_2 : u53.cell? ⟨iZ, 2, none⟩ = some (.slice DZ ds.length dZ) := (cell_of_block BZ.out 2).1
            have kBZ_3 : u53.cell? ⟨iZ, 3, none⟩ = some (.int .i64 s.code) := (cell_of_block BZ.out 3).1
            go_wp2_with fail
            clear kBS_0 kBS_1 kBS_2 kBS_3 kBZ_0 kBZ_1 kBZ_2 kBZ_3
            refine (implSatSame_any s ⟨s.put, s.why, ds, s.code⟩ _ _ _ _ _ _ _ _ _ _ _ _ _ hrs.put hrs.why hrs.lrn hrZ.out.put hrZ.out.why hrZ.out.lrn SS.out NZ.out.2.2).mono ?_
            rw [NZ.out.2.1]
            rintro e u54 ⟨rfl, hb9⟩
            have hb := bthen hb hb9
            have BC := Lib.hid ((hb9.block _ (lt_of_block BC.out)).trans BC.out)
            have BS := Lib.hid ((hb9.block _ (lt_of_block BS.out)).trans BS.out)
            have hx := hx.up hb9
            have hrs := hrs.up hb9
            have hrX := Lib.hid (hrX.out.up hb9)
            have BX := Lib.hid ((hb9.block _ (lt_of_block BX.out)).trans BX.out)
            have hrY := Lib.hid (hrY.out.up hb9)
            have BY := Lib.hid ((hb9.block _ (lt_of_block BY.out)).trans BY.out)
            have hrZ := Lib.hid (hrZ.out.up hb9)
            have BZ := Lib.hid ((hb9.block _ (lt_of_block BZ.out)).trans BZ.out)
            have hrW := Lib.hid (hrW.out.up hb9)
            have BW := Lib.hid ((hb9.block _ (lt_of_block BW.out)).trans BW.out)
            clear hb9
            go_wp2
            go_ret
            exact ⟨rfl, hb⟩
          · skip
            have q0 : ((s.put.length : Int) == 0) = false := by rw [beq_eq_false_iff_ne]; omega
            have HP0 := Lib.hid hp0
            clear hp0
            have kBC_0 : s6.cell? ⟨iBC, 0, none⟩ = some (.int .i64 x.many) := (cell_of_block BC.out 0).1
            have kBC_1 : s6.cell? ⟨iBC, 1, none⟩ = some (.slice A x.list.length a) := (cell_of_block BC.out 1).1
            have kBY_0 : s6.cell? ⟨iY, 0, none⟩ = some (.slice AP pp.length cP) := (cell_of_block BY.out 0).1
            have kBY_1 : s6.cell? ⟨iY, 1, none⟩ = some (.slice BY9 qq.length bY) := (cell_of_block BY.out 1).1
            have kBY_2 : s6.cell? ⟨iY, 2, none⟩ = some (.slice D s.learned.length d') := (cell_of_block BY.out 2).1
            have kBY_3 : s6.cell? ⟨iY, 3, none⟩ = some (.int .i64 s.code) := (cell_of_block BY.out 3).1
            have kBS_0 : s6.cell? ⟨iBC + 1, 0, none⟩ = some (.slice P s.put.length p') := (cell_of_block BS.out 0).1
            have kBS_1 : s6.cell? ⟨iBC + 1, 1, none⟩ = some (.slice Q s.why.length q') := (cell_of_block BS.out 1).1
            have kBS_2 : s6.cell? ⟨iBC + 1, 2, none⟩ = some (.slice D s.learned.length d') := (cell_of_block BS.out 2).1
            have kBS_3 : s6.cell? ⟨iBC + 1, 3, none⟩ = some (.int .i64 s.code) := (cell_of_block BS.out 3).1
            go_wp2_with fail
            clear kBC_0 kBC_1 kBY_0 kBY_1 kBY_2 kBY_3 kBS_0 kBS_1 kBS_2 kBS_3
            refine (implSatOk_u x A a ⟨pp, qq, s.learned, s.code⟩ _ _ _ _ _ _ _ hx hxa hrY.out.put hrY.out.why hrY.out.lrn hrY.out.capP hrY.out.capQ hrY.out.capD SX.out NY.out.2).mono ?_
            rw [NY.out.1 HP0.out]
            rintro e u55 ⟨rfl, hb9⟩
            have hb := bthen hb hb9
            have BC := Lib.hid ((hb9.block _ (lt_of_block BC.out)).trans BC.out)
            have BS := Lib.hid ((hb9.block _ (lt_of_block BS.out)).trans BS.out)
            have hx := hx.up hb9
            have hrs := hrs.up hb9
            have hrX := Lib.hid (hrX.out.up hb9)
            have BX := Lib.hid ((hb9.block _ (lt_of_block BX.out)).trans BX.out)
            have hrY := Lib.hid (hrY.out.up hb9)
            have BY := Lib.hid ((hb9.block _ (lt_of_block BY.out)).trans BY.out)
            have hrZ := Lib.hid (hrZ.out.up hb9)
            have BZ := Lib.hid ((hb9.block _ (lt_of_block BZ.out)).trans BZ.out)
            have hrW := Lib.hid (hrW.out.up hb9)
            have BW := Lib.hid ((hb9.block _ (lt_of_block BW.out)).trans BW.out)
            clear hb9
            have kBC_0 : u55.cell? ⟨iBC, 0, none⟩ = some (.int .i64 x.many) := (cell_of_block BC.out 0).1
            have kBC_1 : u55.cell? ⟨iBC, 1, none⟩ = some (.slice A x.list.length a) := (cell_of_block BC.out 1).1
            have kBZ_0 : u55.cell? ⟨iZ, 0, none⟩ = some (.slice P s.put.length p') := (cell_of_block BZ.out 0).1
            have kBZ_1 : u55.cell? ⟨iZ, 1, none⟩ = some (.slice Q s.why.length q') := (cell_of_block BZ.out 1).1
            have kBZ_2 : u55.cell? ⟨iZ, 2, none⟩ = some (.slice DZ ds.length dZ) := (cell_of_block BZ.out 2).1
            have kBZ_3 : u55.cell? ⟨iZ, 3, none⟩ = some (.int .i64 s.code) := (cell_of_block BZ.out 3).1
            go_wp2_with fail
            clear kBC_0 kBC_1 kBZ_0 kBZ_1 kBZ_2 kBZ_3
            refine (implSatOk_u x A a ⟨s.put, s.why, ds, s.code⟩ _ _ _ _ _ _ _ hx hxa hrZ.out.put hrZ.out.why hrZ.out.lrn hrZ.out.capP hrZ.out.capQ hrZ.out.capD SX.out NZ.out.2.2).mono ?_
            rw [NZ.out.1]
            rintro e u56 ⟨rfl, hb9⟩
            have hb := bthen hb hb9
            have BC := Lib.hid ((hb9.block _ (lt_of_block BC.out)).trans BC.out)
            have BS := Lib.hid ((hb9.block _ (lt_of_block BS.out)).trans BS.out)
            have hx := hx.up hb9
            have hrs := hrs.up hb9
            have hrX := Lib.hid (hrX.out.up hb9)
            have BX := Lib.hid ((hb9.block _ (lt_of_block BX.out)).trans BX.out)
            have hrY := Lib.hid (hrY.out.up hb9)
            have BY := Lib.hid ((hb9.block _ (lt_of_block BY.out)).trans BY.out)
            have hrZ := Lib.hid (hrZ.out.up hb9)
            have BZ := Lib.hid ((hb9.block _ (lt_of_block BZ.out)).trans BZ.out)
            have hrW := Lib.hid (hrW.out.up hb9)
            have BW := Lib.hid ((hb9.block _ (lt_of_block BW.out)).trans BW.out)
            clear hb9
            have kBC_0 : u56.cell? ⟨iBC, 0, none⟩ = some (.int .i64 x.many) := (cell_of_block BC.out 0).1
            have kBC_1 : u56.cell? ⟨iBC, 1, none⟩ = some (.slice A x.list.length a) := (cell_of_block BC.out 1).1
            have kBW_0 : u56.cell? ⟨iW, 0, none⟩ = some (.slice P s.put.length p') := (cell_of_block BW.out 0).1
            have kBW_1 : u56.cell? ⟨iW, 1, none⟩ = some (.slice BW9 vs.length bW) := (cell_of_block BW.out 1).1
            have kBW_2 : u56.cell? ⟨iW, 2, none⟩ = some (.slice D s.learned.length d') := (cell_of_block BW.out 2).1
            have kBW_3 : u56.cell? ⟨iW, 3, none⟩ = some (.int .i64 s.code) := (cell_of_block BW.out 3).1
            go_wp2_with fail
            clear kBC_0 kBC_1 kBW_0 kBW_1 kBW_2 kBW_3
            refine (implSatOk_u x A a ⟨s.put, vs, s.learned, s.code⟩ _ _ _ _ _ _ _ hx hxa hrW.out.put hrW.out.why hrW.out.lrn hrW.out.capP hrW.out.capQ hrW.out.capD SX.out NW.out.2).mono ?_
            rw [NW.out.1]
            rintro e u57 ⟨rfl, hb9⟩
            have hb := bthen hb hb9
            have BC := Lib.hid ((hb9.block _ (lt_of_block BC.out)).trans BC.out)
            have BS := Lib.hid ((hb9.block _ (lt_of_block BS.out)).trans BS.out)
            have hx := hx.up hb9
            have hrs := hrs.up hb9
            have hrX := Lib.hid (hrX.out.up hb9)
            have BX := Lib.hid ((hb9.block _ (lt_of_block BX.out)).trans BX.out)
            have hrY := Lib.hid (hrY.out.up hb9)
            have BY := Lib.hid ((hb9.block _ (lt_of_block BY.out)).trans BY.out)
            have hrZ := Lib.hid (hrZ.out.up hb9)
            have BZ := Lib.hid ((hb9.block _ (lt_of_block BZ.out)).trans BZ.out)
            have hrW := Lib.hid (hrW.out.up hb9)
            have BW := Lib.hid ((hb9.block _ (lt_of_block BW.out)).trans BW.out)
            clear hb9
            have kBS_0 : u57.cell? ⟨iBC + 1, 0, none⟩ = some (.slice P s.put.length p') := (cell_of_block BS.out 0).1
            have kBS_1 : u57.cell? ⟨iBC + 1, 1, none⟩ = some (.slice Q s.why.length q') := (cell_of_block BS.out 1).1
            have kBS_2 : u57.cell? ⟨iBC + 1, 2, none⟩ = some (.slice D s.learned.length d') := (cell_of_block BS.out 2).1
            have kBS_3 : u57.cell? ⟨iBC + 1, 3, none⟩ = some (.int .i64 s.code) := (cell_of_block BS.out 3).1
            have kBX_0 : u57.cell? ⟨iX, 0, none⟩ = some (.slice AX ps.length aX) := (cell_of_block BX.out 0).1
            have kBX_1 : u57.cell? ⟨iX, 1, none⟩ = some (.slice BX9 qs.length bX) := (cell_of_block BX.out 1).1
            have kBX_2 : u57.cell? ⟨iX, 2, none⟩ = some (.slice D s.learned.length d') := (cell_of_block BX.out 2).1
            have kBX_3 : u57.cell? ⟨iX, 3, none⟩ = some (.int .i64 s.code) := (cell_of_block BX.out 3).1
            go_wp2_with fail
            clear kBS_0 kBS_1 kBS_2 kBS_3 kBX_0 kBX_1 kBX_2 kBX_3
            refine (implSatSame_any s ⟨ps, qs, s.learned, s.code⟩ _ _ _ _ _ _ _ _ _ _ _ _ _ hrs.put hrs.why hrs.lrn hrX.out.put hrX.out.why hrX.out.lrn SS.out NX.out.2.2).mono ?_
            rw [NX.out.2.1]
            rintro e u58 ⟨rfl, hb9⟩
            have hb := bthen hb hb9
            have BC := Lib.hid ((hb9.block _ (lt_of_block BC.out)).trans BC.out)
            have BS := Lib.hid ((hb9.block _ (lt_of_block BS.out)).trans BS.out)
            have hx := hx.up hb9
            have hrs := hrs.up hb9
            have hrX := Lib.hid (hrX.out.up hb9)
            have BX := Lib.hid ((hb9.block _ (lt_of_block BX.out)).trans BX.out)
            have hrY := Lib.hid (hrY.out.up hb9)
            have BY := Lib.hid ((hb9.block _ (lt_of_block BY.out)).trans BY.out)
            have hrZ := Lib.hid (hrZ.out.up hb9)
            have BZ := Lib.hid ((hb9.block _ (lt_of_block BZ.out)).trans BZ.out)
            have hrW := Lib.hid (hrW.out.up hb9)
            have BW := Lib.hid ((hb9.block _ (lt_of_block BW.out)).trans BW.out)
            clear hb9
            have kBS_0 : u58.cell? ⟨iBC + 1, 0, none⟩ = some (.slice P s.put.length p') := (cell_of_block BS.out 0).1
            have kBS_1 : u58.cell? ⟨iBC + 1, 1, none⟩ = some (.slice Q s.why.length q') := (cell_of_block BS.out 1).1
            have kBS_2 : u58.cell? ⟨iBC + 1, 2, none⟩ = some (.slice D s.learned.length d') := (cell_of_block BS.out 2).1
            have kBS_3 : u58.cell? ⟨iBC + 1, 3, none⟩ = some (.int .i64 s.code) := (cell_of_block BS.out 3).1
            have kBZ_0 : u58.cell? ⟨iZ, 0, none⟩ = some (.slice P s.put.length p') := (cell_of_block BZ.out 0).1
            have kBZ_1 : u58.cell? ⟨iZ, 1, none⟩ = some (.slice Q s.why.length q') := (cell_of_block BZ.out 1).1
            have kBZ_2 : u58.cell? ⟨iZ, 2, none⟩ = some (.slice DZ ds.length dZ) := (cell_of_block BZ.out 2).1
            have kBZ_3 : u58.cell? ⟨iZ, 3, none⟩ = some (.int .i64 s.code) := (cell_of_block BZ.out 3).1
            go_wp2_with fail
            clear kBS_0 kBS_1 kBS_2 kBS_3 kBZ_0 kBZ_1 kBZ_2 kBZ_3
            refine (implSatSame_any s ⟨s.put, s.why, ds, s.code⟩ _ _ _ _ _ _ _ _ _ _ _ _ _ hrs.put hrs.why hrs.lrn hrZ.out.put hrZ.out.why hrZ.out.lrn SS.out NZ.out.2.2).mono ?_
            rw [NZ.out.2.1]
            rintro e u59 ⟨rfl, hb9⟩
            have hb := bthen hb hb9
            have BC := Lib.hid ((hb9.block _ (lt_of_block BC.out)).trans BC.out)
            have BS := Lib.hid ((hb9.block _ (lt_of_block BS.out)).trans BS.out)
            have hx := hx.up hb9
            have hrs := hrs.up hb9
            have hrX := Lib.hid (hrX.out.up hb9)
            have BX := Lib.hid ((hb9.block _ (lt_of_block BX.out)).trans BX.out)
            have hrY := Lib.hid (hrY.out.up hb9)
            have BY := Lib.hid ((hb9.block _ (lt_of_block BY.out)).trans BY.out)
            have hrZ := Lib.hid (hrZ.out.up hb9)
            have BZ := Lib.hid ((hb9.block _ (lt_of_block BZ.out)).trans BZ.out)
            have hrW := Lib.hid (hrW.out.up hb9)
            have BW := Lib.hid ((hb9.block _ (lt_of_block BW.out)).trans BW.out)
            clear hb9
            go_wp2
            go_ret
            exact ⟨rfl, hb⟩

set_option maxRecDepth 100000 in
theorem fnSatBent_lifted (os : Os) (started : os.Started) (H : Type) (enc : TypeId × Value → H) :
    ReturnsInHanded {} Try.checked os 6 .any (Rows.fnSatBentSpec.pre6 enc Try.prog Try.f6 Rows.fnSatBentRow.domain false) (Rows.fnSatBentSpec.post enc Try.prog Try.f6 false true false false) := by
  refine returnsInHanded_of_change (C := Try.checked) (by kernel_rfl) started (by kernel_rfl) Try.func6
    (ChangeSpec.witness6 (enc := enc) (C := Try.checked) false ⟨#[], #[.slice none 0 0], []⟩ 16 (by kernel_rfl) (by kernel_rfl) (by kernel_rfl) (by kernel_rfl)) ?_
  intro W base args ds gs before hval0 hW hcnd _
  have hval : ∀ (j : Nat) t v, Try.f6.params[j]? = some t → args[j]? = some v → Value.okWide Try.prog W .any base t v := hval0
  have hW' := hW
  obtain ⟨p, q, hA0, hV, rfl, hfz, hnd⟩ := hW
  have hA : DataW.TrodAll enc Try.prog W 0 (fun _ => true) true Try.f6.params.toList args.toList ds p := hA0
  rw [Try.params6] at hA hval
  obtain ⟨v0, vs0, d0, ds0, p0, q0, hargs, rfl, rfl, h0, r0⟩ := trodAll_cons hA
  obtain ⟨rfl, rfl, rfl⟩ := trodAll_nil r0
  obtain rfl : args = #[v0] := by cases args; simp_all
  obtain ⟨rfl, rfl⟩ := trodVars_none hV
  have k0 := h0
  have lt0 : ∀ x ∈ p0, x.block < W.heap.size := by obtain ⟨m, hm⟩ := k0; exact DataW.trod_lt m _ _ _ hm
  obtain ⟨A0, c0, x0, rfl, hc0, ok0, rd0⟩ := open_arg Try.underlying22 opens_bytes (hval 0 22 v0 rfl rfl) h0
  clear hA0 hval0
  refine (fnSatBent_walk W hc0 ok0 rd0).mono fun e W' ⟨he, bel⟩ => ?_
  subst he
  exact ⟨_, rfl, _, _, _, [], _, [], hW', trodAll_mk1 (shut_bool Try.underlying4 _), (trodAll_cons_mk (Below.trod (by kernel_rfl) (by kernel_rfl) (of_decide_eq_true (by kernel_rfl)) k0 bel lt0) trodAll_mk0), rfl, bel.frame _, fun h => by cases h⟩

/-- The given statement. -/
theorem fnSatBent_holds : Rows.FnSatBentSaid :=
  OpenClaim.holds_of_wide 6 Try.f6 rfl rfl rfl rfl rfl rfl rfl ⟨rfl, rfl, rfl, rfl, rfl⟩ rfl rfl rfl rfl rfl (by kernel_rfl) Try.func6 (by kernel_rfl)
    (of_decide_eq_true (by kernel_rfl)) (by unfold Func.isWrapper; first | (rw [if_pos (by decide +kernel)]; kernel_rfl) | (rw [if_neg (by decide +kernel)]; exact ⟨rfl, rfl⟩))
    (fun os started H enc _ => fnSatBent_lifted os started H enc)
#print axioms fnSatBent_holds
end Go.Proofs.Ytbljfhmcebgdaaa
