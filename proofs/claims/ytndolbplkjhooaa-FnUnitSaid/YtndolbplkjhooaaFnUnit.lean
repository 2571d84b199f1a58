/- FnUnit: unit propagation is sound: for any bytes the law says true. -/
import Derived.Test.YtndolbplkjhooaaWay
import Derived.Test.YtndolbplkjhooaaCopyC
import Derived.Test.YtndolbplkjhooaaSatU
import Derived.Test.YtndolbplkjhooaaWp
import Derived.Test.YtndolbplkjhooaaRows
namespace Go.Proofs.Ytndolbplkjhooaa
open Go Go.RowKit Go.ChangeShapes Go.WideShapes Go.ChangeAt Go.Deep

theorem opens_bytes : Opens Try.prog 34 Lay.byte.slice (fun xs => xs.length ≤ maxLen ∧ ∀ x ∈ xs, True) := Opens.slice Try.underlying34 (by kernel_rfl) (by decide) (Opens.byte Try.underlying5)
theorem withPut_small {x : C} {put : List Int} (h : smallL 31 x.list) (hl : put.length ≤ 60) (hp : ∀ l ∈ put, okInt l) : smallL 91 (withPut x put).list := by
  refine ⟨by show (x.list ++ _).length ≤ 91; simp; have := h.1; omega, fun cl hc => ?_⟩
  rcases List.mem_append.1 hc with hc | hc
  · exact h.2 cl hc
  · obtain ⟨l, hl, rfl⟩ := List.mem_map.1 hc
    exact ⟨by simp, by simpa using hp l hl⟩

set_option maxRecDepth 100000 in
set_option maxHeartbeats 4000000 in
theorem fnUnit_walk (W : World) {A0 : Option Addr} {c0 : Nat} {x0 : List UInt8} (hc0 : x0.length ≤ c0) (hok0 : x0.length ≤ maxLen ∧ ∀ z ∈ x0, True) (h0 : Lay.byte.Rd W A0 x0) :
    Calls Try.prog 7 #[.slice A0 x0.length c0] W (LawC W) := by
  have hm0 : x0.length ≤ 9223372036854775807 := by have := hok0.1; unfold maxLen at this; omega
  clear hok0
  by_cases hbig0 : (1048576 : Int) < x0.length
  · go_enter Try.func7, Try.ntmps7
    go_wp2
    go_ret
    exact ⟨rfl, Below.refl _ _⟩
  have hb : Below W.heap.size W W := Below.refl _ _
  go_enter Try.func7, Try.ntmps7
  go_wp2_with fail
  refine (drawUnitAll_any A0 c0 x0 _ h0 hc0 hm0).mono ?_
  rintro e u1 ⟨x, A1, d1, put, B1, e1, rfl, hd1, he1, hx, hp, hmx, hsx, hpl, hpo, hb9⟩
  have hb := bthen hb hb9
  clear hb9
  clear h0
  have SX : Hid (smCnf x) := Lib.hid ⟨hmx, hsx.sm (by omega)⟩
  have SP : Hid (smInts put) := Lib.hid ⟨by omega, hpo⟩
  have HSX := Lib.hid hsx
  have HPO := Lib.hid hpo
  have HMX := Lib.hid hmx
  have hmx2 := hmx
  unfold okInt at hmx2
  clear hmx hsx hpo
  have HSO := fun h1 h2 => unit_sound (x := x) (put := put) h1 h2
  have HSO := Lib.hid HSO
  have HN1 := Lib.hid (unitAllP_len (x := x) SP.out)
  have HI1 := Lib.hid (unitAllP_i64 x put)
  generalize hr9 : unitAllP x put = r9 at *
  have HR9 := Lib.hid hr9
  clear hr9
  have hal : Below u1.heap.size u1 (u1.alloc (.cells #[.int .i64 x.many, .slice A1 x.list.length d1] 28)) := (Below.refl _ _).alloc (Nat.le_refl _) _
  have B9 : (u1.alloc (.cells #[.int .i64 x.many, .slice A1 x.list.length d1] 28)).heap[u1.heap.size]? = some (.cells #[.int .i64 x.many, .slice A1 x.list.length d1] 28 (0, 0)) := heap_alloc_new _ _
  have hb := bthen hb hal
  have hx := hx.up hal
  have hp := hp.up hal
  clear hal
  have BC := Lib.hid B9
  clear B9
  go_wp2_with fail
  generalize u1.alloc (.cells #[.int .i64 x.many, .slice A1 x.list.length d1] 28) = u2 at *
  generalize u1.heap.size = iBC at *
  refine (implUnitAll_u x A1 d1 put B1 e1 _ hx hd1 hp he1 SX.out SP.out).mono ?_
  rw [HR9.out]
  rintro e u3 ⟨A2, d2, rfl, hd2, hs2, hb9⟩
  have hb := bthen hb hb9
  have hx := hx.up hb9
  have hp := hp.up hb9
  have BC := Lib.hid ((hb9.block _ (lt_of_block BC.out)).trans BC.out)
  clear hb9
  have R2 := hs2.own_rd
  clear hs2
  have kBC_0 : u3.cell? ⟨iBC, 0, none⟩ = some (.int .i64 x.many) := (cell_of_block BC.out 0).1
  have kBC_1 : u3.cell? ⟨iBC, 1, none⟩ = some (.slice A1 x.list.length d1) := (cell_of_block BC.out 1).1
  go_wp2_with fail
  clear kBC_0 kBC_1
  refine (specUnitAll_u x A1 d1 put B1 e1 _ hx hd1 hp he1 SX.out SP.out).mono ?_
  rw [HR9.out]
  rintro e u4 ⟨A3, d3, rfl, hd3, hs3, hb9⟩
  have hb := bthen hb hb9
  have hx := hx.up hb9
  have hp := hp.up hb9
  have BC := Lib.hid ((hb9.block _ (lt_of_block BC.out)).trans BC.out)
  have R2 := R2.up hb9
  clear hb9
  have R3 := hs3.own_rd
  clear hs3
  go_wp2_with fail
  refine (wpInts_u r9.1 r9.1 A2 A3 d2 d3 _ R2 R3 HN1.out HN1.out).mono ?_
  rintro e u5 ⟨rfl, hb9⟩
  have hb := bthen hb hb9
  have hx := hx.up hb9
  have hp := hp.up hb9
  have BC := Lib.hid ((hb9.block _ (lt_of_block BC.out)).trans BC.out)
  have R2 := R2.up hb9
  have R3 := R3.up hb9
  clear hb9
  rw [show decide (r9.1 = r9.1) = true by simp]
  have q2 : (r9.2 != r9.2) = false := by simp
  have q3 : (r9.2 == r9.2) = true := by simp
  have kBC_0 : u5.cell? ⟨iBC, 0, none⟩ = some (.int .i64 x.many) := (cell_of_block BC.out 0).1
  have kBC_1 : u5.cell? ⟨iBC, 1, none⟩ = some (.slice A1 x.list.length d1) := (cell_of_block BC.out 1).1
  go_wp2_with fail
  clear kBC_0 kBC_1
  refine (specCnfOk_any A1 d1 x _ _ hx (fun _ h => h) SX.out.short).mono ?_
  rintro e u6 ⟨rfl, hb9⟩
  have hb := bthen hb hb9
  have hx := hx.up hb9
  have hp := hp.up hb9
  have BC := Lib.hid ((hb9.block _ (lt_of_block BC.out)).trans BC.out)
  have R2 := R2.up hb9
  have R3 := R3.up hb9
  clear hb9
  cases hok : cnfOk x
  · clear hok
    go_wp2_with fail
    refine (wpInts_u r9.1 r9.1 A2 A3 d2 d3 _ R2 R3 HN1.out HN1.out).mono ?_
    rintro e u7 ⟨rfl, hb9⟩
    have hb := bthen hb hb9
    have hx := hx.up hb9
    have hp := hp.up hb9
    have BC := Lib.hid ((hb9.block _ (lt_of_block BC.out)).trans BC.out)
    have R2 := R2.up hb9
    have R3 := R3.up hb9
    clear hb9
    rw [show decide (r9.1 = r9.1) = true by simp]
    go_wp2
    go_ret
    exact ⟨rfl, hb⟩
  have HOK := Lib.hid hok
  have hi := (cnfOk_iff x).1 hok
  clear hok
  by_cases h7 : 7 < x.many
  · clear hi
    have cc0 : u6.cell? ⟨iBC, 0, none⟩ = some (.int .i64 x.many) := (cell_of_block BC.out 0).1
    go_wp2_with fail
    refine (wpInts_u r9.1 r9.1 A2 A3 d2 d3 _ R2 R3 HN1.out HN1.out).mono ?_
    rintro e u8 ⟨rfl, hb9⟩
    have hb := bthen hb hb9
    have hx := hx.up hb9
    have hp := hp.up hb9
    have BC := Lib.hid ((hb9.block _ (lt_of_block BC.out)).trans BC.out)
    have R2 := R2.up hb9
    have R3 := R3.up hb9
    clear hb9
    rw [show decide (r9.1 = r9.1) = true by simp]
    go_wp2
    go_ret
    exact ⟨rfl, hb⟩
  by_cases hlen : (r9.1.length : Int) < put.length
  · clear hi
    have cc0 : u6.cell? ⟨iBC, 0, none⟩ = some (.int .i64 x.many) := (cell_of_block BC.out 0).1
    go_wp2_with fail
    refine (wpInts_u r9.1 r9.1 A2 A3 d2 d3 _ R2 R3 HN1.out HN1.out).mono ?_
    rintro e u9 ⟨rfl, hb9⟩
    have hb := bthen hb hb9
    have hx := hx.up hb9
    have hp := hp.up hb9
    have BC := Lib.hid ((hb9.block _ (lt_of_block BC.out)).trans BC.out)
    have R2 := R2.up hb9
    have R3 := R3.up hb9
    clear hb9
    rw [show decide (r9.1 = r9.1) = true by simp]
    go_wp2
    go_ret
    exact ⟨rfl, hb⟩
  obtain ⟨M, hM⟩ := Int.eq_ofNat_of_zero_le hi.1
  have hM7 : M ≤ 7 := by omega
  have HMM := Lib.hid hM
  obtain ⟨hso1, hso2⟩ := HSO.out HOK.out (by omega)
  have HS1 := Lib.hid hso1
  have HS2 := Lib.hid hso2
  clear hi hM hso1 hso2 q3
  have hlenB : decide (r9.1.length < put.length) = false := by simp; omega
  have cc0 : u6.cell? ⟨iBC, 0, none⟩ = some (.int .i64 x.many) := (cell_of_block BC.out 0).1
  obtain ⟨i0, hi0, hz0, hz1, hz2⟩ := info_parts toIntSS_info
  have hA9 := sl_none hx
  have kk0 := Later.cell (show u6.cell? ⟨iBC, 0, none⟩ = some (.int .i64 x.many) from (cell_of_block BC.out 0).1)
  have kk1 := Later.cell (show u6.cell? ⟨iBC, 1, none⟩ = some (.slice A1 x.list.length d1) from (cell_of_block BC.out 1).1)
  obtain ⟨rcs, hsrc, h1c, hcl9, hrows⟩ := src_rows hx
  have HSRC := Lib.hid hsrc
  have HROWS := Lib.hid hrows
  have H1C := Lib.hid h1c
  clear hsrc hrows h1c
  go_wp2
  refine wp_region_rel [[], [(0, 68)], [], [], [(3, 71)], [(2, 70), (4, 72)], [(1, 69), (5, 73)], [], [(6, 74), (7, 9)]]
    (RC u6.heap.size)
    (fun _ yy => Below u6.heap.size u6 yy)
    [fun vs9 _ => vs9 0 = (.pointer (some ⟨iBC, 0, none⟩)),
    fun vs9 _ => vs9 1 = (.int .i64 x.many),
    fun vs9 y9 => (fun v yy => ∃ b, v = .slice (some ⟨b, 0, none⟩) 0 0 ∧ u6.heap.size ≤ b ∧ yy.heap[b]? = some (.cells #[] 25 (0, 0))) (vs9 2) y9,
    fun vs9 _ => vs9 3 = (.pointer (some ⟨iBC, 1, none⟩)),
    fun vs9 _ => vs9 4 = (.slice A1 x.list.length d1),
    fun vs9 y9 => (fun v yy => ∃ A9 c9, v = .slice A9 x.list.length c9 ∧ OwnC u6.heap.size yy (.slice A9 x.list.length c9) x.list) (vs9 5) y9,
    fun vs9 y9 => (fun v yy => ∃ A9 c9, v = .agg #[.int .i64 x.many, .slice A9 x.list.length c9] ∧ OwnC u6.heap.size yy (.slice A9 x.list.length c9) x.list) (vs9 6) y9,
    fun vs9 y9 => (fun v yy => ∃ b, v = .pointer (some ⟨b, 0, none⟩) ∧ u6.heap.size ≤ b ∧ ∃ z0 z1, yy.heap[b]? = some (.cells #[z0, z1] 28 (0, 0))) (vs9 7) y9,
    fun vs yy => ∃ b A9 c9, vs 7 = .pointer (some ⟨b, 0, none⟩) ∧ u6.heap.size ≤ b ∧ yy.heap[b]? = some (.cells #[.int .i64 x.many, .slice A9 x.list.length c9] 28 (0, 0)) ∧ OwnC u6.heap.size yy (.slice A9 x.list.length c9) x.list]
    [(0, 68), (1, 69), (2, 70), (3, 71), (4, 72), (5, 73), (6, 74), (7, 9)] (by kernel_rfl) (by kernel_rfl) (by kernel_rfl) (by kernel_rfl)
    (fun _ => RC.refl _ _) ⟨.inr (fun _ _ _ h _ => h),
    .inr (fun _ _ _ h _ => h),
    .inr (fun vs9 x9 y9 h9 hR9 => (show ∀ v9 y8 y7, (fun v yy => ∃ b, v = .slice (some ⟨b, 0, none⟩) 0 0 ∧ u6.heap.size ≤ b ∧ yy.heap[b]? = some (.cells #[] 25 (0, 0))) v9 y8 → (RC u6.heap.size) y8 y7 → (fun v yy => ∃ b, v = .slice (some ⟨b, 0, none⟩) 0 0 ∧ u6.heap.size ≤ b ∧ yy.heap[b]? = some (.cells #[] 25 (0, 0))) v9 y7 from fun _ _ _ ⟨b, h1, h2, h3⟩ hR => ⟨b, h1, h2, hR.same h3 tne2⟩) (vs9 2) x9 y9 h9 hR9),
    .inr (fun _ _ _ h _ => h),
    .inr (fun _ _ _ h _ => h),
    .inr (fun vs9 x9 y9 h9 hR9 => (show ∀ v9 y8 y7, (fun v yy => ∃ A9 c9, v = .slice A9 x.list.length c9 ∧ OwnC u6.heap.size yy (.slice A9 x.list.length c9) x.list) v9 y8 → (RC u6.heap.size) y8 y7 → (fun v yy => ∃ A9 c9, v = .slice A9 x.list.length c9 ∧ OwnC u6.heap.size yy (.slice A9 x.list.length c9) x.list) v9 y7 from fun _ _ _ ⟨A9, c9, h1, h2⟩ hR => ⟨A9, c9, h1, h2.rc hR⟩) (vs9 5) x9 y9 h9 hR9),
    .inr (fun vs9 x9 y9 h9 hR9 => (show ∀ v9 y8 y7, (fun v yy => ∃ A9 c9, v = .agg #[.int .i64 x.many, .slice A9 x.list.length c9] ∧ OwnC u6.heap.size yy (.slice A9 x.list.length c9) x.list) v9 y8 → (RC u6.heap.size) y8 y7 → (fun v yy => ∃ A9 c9, v = .agg #[.int .i64 x.many, .slice A9 x.list.length c9] ∧ OwnC u6.heap.size yy (.slice A9 x.list.length c9) x.list) v9 y7 from fun _ _ _ ⟨A9, c9, h1, h2⟩ hR => ⟨A9, c9, h1, h2.rc hR⟩) (vs9 6) x9 y9 h9 hR9),
    .inr (fun vs9 x9 y9 h9 hR9 => (show ∀ v9 y8 y7, (fun v yy => ∃ b, v = .pointer (some ⟨b, 0, none⟩) ∧ u6.heap.size ≤ b ∧ ∃ z0 z1, yy.heap[b]? = some (.cells #[z0, z1] 28 (0, 0))) v9 y8 → (RC u6.heap.size) y8 y7 → (fun v yy => ∃ b, v = .pointer (some ⟨b, 0, none⟩) ∧ u6.heap.size ≤ b ∧ ∃ z0 z1, yy.heap[b]? = some (.cells #[z0, z1] 28 (0, 0))) v9 y7 from fun _ _ _ ⟨b, h1, h2, h3⟩ hR => ⟨b, h1, h2, hR.two h3⟩) (vs9 7) x9 y9 h9 hR9),
    .inl (by kernel_rfl), trivial⟩ ⟨fun vs vs' x h _ hv => (by dsimp only at hv ⊢; first | (rw [← h]; exact hv) | exact hv),
    fun vs vs' x h _ hv => (by dsimp only at hv ⊢; first | (rw [← h]; exact hv) | exact hv),
    fun vs vs' x h _ hv => (by dsimp only at hv ⊢; first | (rw [← h]; exact hv) | exact hv),
    fun vs vs' x h _ hv => (by dsimp only at hv ⊢; first | (rw [← h]; exact hv) | exact hv),
    fun vs vs' x h _ hv => (by dsimp only at hv ⊢; first | (rw [← h]; exact hv) | exact hv),
    fun vs vs' x h _ hv => (by dsimp only at hv ⊢; first | (rw [← h]; exact hv) | exact hv),
    fun vs vs' x h _ hv => (by dsimp only at hv ⊢; first | (rw [← h]; exact hv) | exact hv),
    fun vs vs' x h _ hv => (by dsimp only at hv ⊢; first | (rw [← h]; exact hv) | exact hv),
    fun vs vs' yy _ h ⟨b, A9, c9, h1, h2⟩ => ⟨b, A9, c9, by rw [← h 7 (by simp [idxs])]; exact h1, h2⟩, trivial⟩ (below_drewN (Below.refl _ _) 1) ⟨?_, ?_, ?_, ?_, ?_, ?_, ?_, ?_, ?_, trivial⟩ ?_
  · intro vals xw n hn hI hF
    dsimp only [owes, bare]
    simp only [putsD, Act.put, List.setIfInBounds_toArray, List.set_cons_zero, List.set_cons_succ]
    go_wp2
    exact ⟨rfl, rfl, RC.refl _ _, hI⟩
  · intro vals xw n hn hI hF
    simp only [saysD, List.getD_cons_zero, List.getD_cons_succ, and_true] at hF
    dsimp only [owes, bare]
    simp only [putsD, Act.put, List.setIfInBounds_toArray, List.set_cons_zero, List.set_cons_succ]
    simp only [hF]
    have e9 : xw.cell? _ = _ := kk0 ⟨xw, hI⟩
    go_wp2
    exact ⟨rfl, rfl, RC.refl _ _, hI⟩
  · intro vals xw n hn hI hF
    dsimp only [owes, bare]
    simp only [putsD, Act.put, List.setIfInBounds_toArray, List.set_cons_zero, List.set_cons_succ]
    have hs9 := hI.size
    have hn9 := heap_alloc_new xw (.cells #[] 25)
    have hal : Below xw.heap.size xw (xw.alloc (.cells #[] 25)) := (Below.refl _ _).alloc (Nat.le_refl _) _
    go_wp2
    exact ⟨rfl, ⟨_, rfl, hs9, hn9⟩, RC.of hal, bthen hI hal⟩
  · intro vals xw n hn hI hF
    dsimp only [owes, bare]
    simp only [putsD, Act.put, List.setIfInBounds_toArray, List.set_cons_zero, List.set_cons_succ]
    go_wp2
    exact ⟨rfl, rfl, RC.refl _ _, hI⟩
  · intro vals xw n hn hI hF
    simp only [saysD, List.getD_cons_zero, List.getD_cons_succ, and_true] at hF
    dsimp only [owes, bare]
    simp only [putsD, Act.put, List.setIfInBounds_toArray, List.set_cons_zero, List.set_cons_succ]
    simp only [hF]
    have e9 : xw.cell? _ = _ := kk1 ⟨xw, hI⟩
    go_wp2
    exact ⟨rfl, rfl, RC.refl _ _, hI⟩
  · intro vals xw n hn hI hF
    simp only [saysD, List.getD_cons_zero, List.getD_cons_succ, and_true] at hF
    obtain ⟨⟨b9, e70, hb9, hh9⟩, e72⟩ := hF
    dsimp only [owes, bare]
    simp only [putsD, Act.put, List.setIfInBounds_toArray, List.set_cons_zero, List.set_cons_succ]
    simp only [e70, e72]
    have hs9 := hI.size
    have hsrc9 : Src xw 1 A1 x.list.length rcs := ⟨HSRC.out.1, fun h9 => by obtain ⟨ad, e, hcell⟩ := HSRC.out.2 h9; exact ⟨ad, e, fun j z hz => (hI.cell (World.block_lt_of_cell? _ _ (hcell j z hz))).trans (hcell j z hz)⟩⟩
    go_wp2_with (at_builtin; refine wpList_append_empty (by rfl) (.tmp 70) (.tmp 72) _ (by rfl) u6.heap.size 25 i0 _ 1 24 Try.underlying22 hi0 hz0 hz1 hz2 (by rfl) (by omega) b9 (by rfl) hh9 hb9 A1 x.list.length d1 rcs (by rfl) hsrc9 H1C.out (by unfold maxLen; have := HSX.out.1; omega) (by have := HSX.out.1; omega) hs9 hA9 ?_; intro A8 c8 w8 hown8 hb8)
    have hbw := bthen hI hb8
    have HOC : Hid (OwnC u6.heap.size w8 (.slice A8 x.list.length c8) x.list) := Lib.hid (ownL_of_src (S := fun b => u6.heap.size ≤ b) hown8 rfl hbw HROWS.out (fun b hb => ⟨hb, fun e => by have : u6.heap.size ≤ b := e; omega⟩) (Nat.le_refl _))
    have HRC : Hid (RC u6.heap.size xw w8) := Lib.hid (RC.of hb8)
    clear hown8 hb8 hsrc9 hh9
    go_wp2
    exact ⟨rfl, ⟨A8, c8, rfl, HOC.out⟩, HRC.out, hbw⟩
  · intro vals xw n hn hI hF
    simp only [saysD, List.getD_cons_zero, List.getD_cons_succ, and_true] at hF
    obtain ⟨e69, A9, c9, e73, ho9⟩ := hF
    dsimp only [owes, bare]
    simp only [putsD, Act.put, List.setIfInBounds_toArray, List.set_cons_zero, List.set_cons_succ]
    simp only [e69, e73]
    go_wp2
    exact ⟨rfl, ⟨A9, c9, rfl, ho9⟩, RC.refl _ _, hI⟩
  · intro vals xw n hn hI hF
    dsimp only [owes, bare]
    simp only [putsD, Act.put, List.setIfInBounds_toArray, List.set_cons_zero, List.set_cons_succ]
    have hs9 := hI.size
    have hn9 := heap_alloc_new xw (.cells #[.int .i64 0, .slice none 0 0] 28)
    have hal : Below xw.heap.size xw (xw.alloc (.cells #[.int .i64 0, .slice none 0 0] 28)) := (Below.refl _ _).alloc (Nat.le_refl _) _
    go_wp2
    exact ⟨rfl, ⟨_, rfl, hs9, _, _, hn9⟩, RC.of hal, bthen hI hal⟩
  · intro vals xw n hn hI hF
    simp only [saysD, List.getD_cons_zero, List.getD_cons_succ, and_true] at hF
    obtain ⟨⟨A9, c9, e74, ho9⟩, b9, e9, hb9, z0, z1, hk⟩ := hF
    dsimp only [owes, bare]
    simp only [putsD, Act.put, List.setIfInBounds_toArray, List.set_cons_zero, List.set_cons_succ]
    simp only [e74, e9]
    have v0 : xw.cell? ⟨b9, 0, none⟩ = some z0 := (cell_of_block hk 0).1
    have v1 : xw.cell? ⟨b9, 1, none⟩ = some z1 := (cell_of_block hk 1).1
    have f0 : xw.frozen? ⟨b9, 0, none⟩ = false := (cell_of_block hk 0).2
    have f1 : xw.frozen? ⟨b9, 1, none⟩ = false := (cell_of_block hk 1).2
    have HH := Lib.hid (heap_set_same _ b9 1 (.slice A9 x.list.length c9) _ _ (heap_set_same xw b9 0 (.int .i64 x.many) _ _ hk))
    have HRC := Lib.hid (rc_set (y0 := .int .i64 x.many) (y1 := .slice A9 x.list.length c9) hk hb9)
    have HO := Lib.hid (ho9.rc HRC.out)
    have HB := Lib.hid ((hI.setCell (p := ⟨b9, 0, none⟩) hb9 (.int .i64 x.many)).setCell (p := ⟨b9, 1, none⟩) hb9 (.slice A9 x.list.length c9))
    have E9 := Lib.hid e9
    clear hk ho9 hI e9
    go_wp2
    exact ⟨rfl, ⟨b9, A9, c9, E9.out, hb9, HH.out, HO.out⟩, HRC.out, HB.out⟩
  · intro vals xw n hn hI hF
    rw [show List.range _ = [0, 1, 2, 3, 4, 5, 6, 7, 8] from rfl] at hF
    simp only [says, List.getD_cons_zero, List.getD_cons_succ, and_true] at hF
    obtain ⟨iBD, ABD, cBD, e9, hiBD, hB9, hO9⟩ := hF.2.2.2.2.2.2.2.2
    simp only [putsD, Act.put, List.setIfInBounds_toArray, List.set_cons_zero, List.set_cons_succ]
    simp only [e9]
    have BD := Lib.hid hB9
    have OBD := Lib.hid hO9
    have hIBD := hI
    clear hF hB9 hO9 e9 kk0 kk1 hcl9 hA9 hI hi0 hz0 hz1 hz2
    clear cc0
    have hbdlt := lt_of_block BD.out
    have HX0 := Lib.hid hx
    have HP0 := Lib.hid hp
    have HR20 := Lib.hid R2
    go_wp2
    go_loopw [10] (fun i wr => ∃ (k : Nat) (ds : List (List Int)) (A9 : Option Addr) (c9 : Nat), k ≤ put.length ∧ i = .int .i64 k ∧ ds = x.list ++ (put.take k).map (fun l => [l]) ∧ wr.heap[iBD]? = some (.cells #[.int .i64 x.many, .slice A9 ds.length c9] 28 (0, 0)) ∧ OwnD iBD u6.heap.size wr (.slice A9 ds.length c9) ds ∧ Below u6.heap.size u6 wr) (fun i _ => put.length - (intOf i).toNat)
    case atStart => exact ⟨0, x.list, ABD, cBD, Nat.zero_le _, rfl, by simp, BD.out, OBD.out.monoQ (fun b hb e => hb (by rw [show b = iBD from e]; exact hiBD)), hIBD⟩
    case round =>
      obtain ⟨k, ds, A9, c9, hk, rfl, hds, hbd, hoc, hbr⟩ := hrel
      have HDS := Lib.hid hds
      have HBD := Lib.hid hbd
      have hdl : ds.length ≤ 200 := by rw [hds]; simp; have := HSX.out.1; omega
      clear hds hbd
      by_cases hlt : k < put.length
      · skip
        have hk1 : (k : Int) < put.length := by omega
        have HTK := Lib.hid (show put.take (k + 1) = put.take k ++ [put[k]] from List.take_succ_eq_append_getElem hlt)
        obtain ⟨ad, e, hf, hcell⟩ := (HP0.out.below hbr (fun _ h => h)).at_int hlt
        generalize put[k] = z at *
        subst e
        obtain ⟨ps, hps⟩ : ∃ ps, ps = ds ++ [[z]] := ⟨_, rfl⟩
        have HPS := Lib.hid hps
        have HPL := Lib.hid (show ps.length = ds.length + 1 by rw [hps]; simp)
        clear hps
        obtain ⟨i0, hi0, hz0, hz1, hz2⟩ := info_parts toIntSS_info
        have kk0 := Later.cell (show wr.cell? ⟨iBD, 1, none⟩ = some (.slice A9 ds.length c9) from (cell_of_block HBD.out 1).1)
        have kk1 := Later.cell hcell
        have hk0 : (0 : Int) ≤ k := by omega
        have hsz9 : u6.heap.size ≤ wr.heap.size := by have := hbr.size; omega
        have HOC := Lib.hid hoc
        have HBR := Lib.hid hbr
        clear hcell hoc hbr
        go_wp2
        refine wp_region_shares [[], [(0, 81)], [], [], [(2, 83), (3, 84)], [(4, 85)], [(5, 86)], [(6, 87)], [(1, 82), (7, 88)], [], [(8, 89), (9, 90)]]
          [.eq (.pointer (some ⟨iBD, 1, none⟩)), .eq (.slice A9 ds.length c9), .eq (.slice (some ad) put.length e1), .eq (.int .i64 k), .eq (.pointer (some (ad.add k))), .eq (.int .i64 z), Fact.lit1 wr.heap.size [z], Fact.lit2 wr.heap.size [z], Fact.rowD iBD u6.heap.size u6 (x.many) A9 ds.length c9 ps, .eq (.pointer (some ⟨iBD, 1, none⟩)), Fact.doneD iBD u6.heap.size u6 (x.many) ps]
          [8, 10] [8, 10] [9, 10] [10] [(0, 81), (1, 82), (2, 83), (3, 84), (4, 85), (5, 86), (6, 87), (7, 88), (8, 89), (9, 90)] (by kernel_rfl) (by kernel_rfl) (by kernel_rfl) (by kernel_rfl)
          ⟨?_, ?_, ?_, ?_, ?_, ?_, ?_, ?_, ?_, ?_, ?_, trivial⟩ ?_
        · intro vals xw hC hF
          simp only [putsD, Act.put, List.setIfInBounds_toArray, List.set_cons_zero, List.set_cons_succ]
          go_wp2
          exact ⟨rfl, rfl, .inr (Below.refl _ _), .inr (.inl (by simp))⟩
        · intro vals xw hC hF
          have hC := hC.resolve_left (by simp)
          have hsz := hC.size
          have e1 : xw.cell? _ = _ := kk0 ⟨xw, hC⟩
          simp only [factsD, List.getD_cons_zero, List.getD_cons_succ, Fact.eq, Fact.row, Fact.lit, Fact.lit0, Fact.of, and_true, Fact.lit1, Fact.lit2, Fact.rowD, Fact.doneD] at hF
          simp only [putsD, Act.put, List.setIfInBounds_toArray, List.set_cons_zero, List.set_cons_succ]
          simp only [hF]
          go_wp2
          exact ⟨rfl, rfl, .inr (Below.refl _ _), .inr (.inl (by simp))⟩
        · intro vals xw hC hF
          simp only [putsD, Act.put, List.setIfInBounds_toArray, List.set_cons_zero, List.set_cons_succ]
          go_wp2
          exact ⟨rfl, rfl, .inr (Below.refl _ _), .inr (.inl (by simp))⟩
        · intro vals xw hC hF
          simp only [putsD, Act.put, List.setIfInBounds_toArray, List.set_cons_zero, List.set_cons_succ]
          go_wp2
          exact ⟨rfl, rfl, .inr (Below.refl _ _), .inr (.inl (by simp))⟩
        · intro vals xw hC hF
          simp only [factsD, List.getD_cons_zero, List.getD_cons_succ, Fact.eq, Fact.row, Fact.lit, Fact.lit0, Fact.of, and_true, Fact.lit1, Fact.lit2, Fact.rowD, Fact.doneD] at hF
          simp only [putsD, Act.put, List.setIfInBounds_toArray, List.set_cons_zero, List.set_cons_succ]
          simp only [hF]
          go_wp2
          exact ⟨rfl, rfl, .inr (Below.refl _ _), .inr (.inl (by simp))⟩
        · intro vals xw hC hF
          have hC := hC.resolve_left (by simp)
          have hsz := hC.size
          have e1 : xw.cell? _ = _ := kk1 ⟨xw, hC⟩
          simp only [factsD, List.getD_cons_zero, List.getD_cons_succ, Fact.eq, Fact.row, Fact.lit, Fact.lit0, Fact.of, and_true, Fact.lit1, Fact.lit2, Fact.rowD, Fact.doneD] at hF
          simp only [putsD, Act.put, List.setIfInBounds_toArray, List.set_cons_zero, List.set_cons_succ]
          simp only [hF]
          go_wp2
          exact ⟨rfl, rfl, .inr (Below.refl _ _), .inr (.inl (by simp))⟩
        · intro vals xw hC hF
          have hC := hC.resolve_left (by simp)
          have hsz := hC.size
          simp only [factsD, List.getD_cons_zero, List.getD_cons_succ, Fact.eq, Fact.row, Fact.lit, Fact.lit0, Fact.of, and_true, Fact.lit1, Fact.lit2, Fact.rowD, Fact.doneD] at hF
          have e86 := hF
          simp only [putsD, Act.put, List.setIfInBounds_toArray, List.set_cons_zero, List.set_cons_succ]
          simp only [e86]
          have hln := litAt_new xw [z] #[.int .i64 (z)] 3 rfl hsz
          have hal : Below xw.heap.size xw (xw.alloc (.cells #[.int .i64 (z)] 3)) := (Below.refl _ _).alloc (Nat.le_refl _) _
          go_wp2
          exact ⟨rfl, ⟨xw.heap.size, rfl, hln⟩, .inr hal, .inr (.inl (by simp))⟩
        · intro vals xw hC hF
          have hC := hC.resolve_left (by simp)
          have hsz := hC.size
          simp only [factsD, List.getD_cons_zero, List.getD_cons_succ, Fact.eq, Fact.row, Fact.lit, Fact.lit0, Fact.of, and_true, Fact.lit1, Fact.lit2, Fact.rowD, Fact.doneD] at hF
          obtain ⟨b8, e87, hl8⟩ := hF
          simp only [putsD, Act.put, List.setIfInBounds_toArray, List.set_cons_zero, List.set_cons_succ]
          simp only [e87]
          have hal : Below xw.heap.size xw (xw.alloc (.cells #[.slice (some ⟨b8, 0, none⟩) 1 1] 25)) := (Below.refl _ _).alloc (Nat.le_refl _) _
          have hn9 := heap_alloc_new xw (.cells #[.slice (some ⟨b8, 0, none⟩) 1 1] 25)
          have hl9 := hl8.up hal
          go_wp2
          exact ⟨rfl, ⟨b8, xw.heap.size, rfl, hl9, hn9⟩, .inr hal, .inr (.inl (by simp))⟩
        · intro vals xw hC hF
          have hC := hC.resolve_left (by simp)
          have hsz := hC.size
          simp only [factsD, List.getD_cons_zero, List.getD_cons_succ, Fact.eq, Fact.row, Fact.lit, Fact.lit0, Fact.of, and_true, Fact.lit1, Fact.lit2, Fact.rowD, Fact.doneD] at hF
          obtain ⟨e82, b8, b9, e88, hl8, hh9⟩ := hF
          simp only [putsD, Act.put, List.setIfInBounds_toArray, List.set_cons_zero, List.set_cons_succ]
          simp only [e82, e88]
          have hown := HOC.out.up (Stay.notIn _) hC
          have HBx := Lib.hid ((hC.block _ (lt_of_block HBD.out)).trans HBD.out)
          have HBB := Lib.hid (HBR.out.trans (hC.mono hsz9))
          have hnews : ∀ j v, (#[Value.slice (some ⟨b8, 0, none⟩) 1 1] : Array Value).toList[j]? = some v → xw.cell? ((⟨b9, 0, none⟩ : Addr).add j) = some v := World.news_of_block hh9
          have hel : Lay.int.slice.R xw (fun b => b = b8 ∧ b8 < xw.heap.size) [z] [.slice (some ⟨b8, 0, none⟩) 1 1] := ⟨_, 1, rfl, by simp, hl8.2⟩
          have hB8 := hl8.1
          have hlo9 : u6.heap.size ≤ xw.heap.size := by have := hC.size; omega
          have HWX := Lib.hid (lt_of_block HBD.out)
          have hown0 := Lib.hid hown
          go_wp2_with (at_builtin; refine wpList_append_rowAt (L := Lay.int.slice) (Q := NotIn (fun b => b = iBD)) (ys := ps) (by rfl) (.tmp 82) (.tmp 88) (by rfl) Try.underlying22 hi0 hz0 hz1 hz2 (by rfl) (by decide) (by rfl) (by rfl) hnews hown (Stay.notIn _) hel (fun b hb => ⟨by rw [hb.1]; exact hb.2, fun e9 => by have := (HOC.out.lt _ e9).2; have := hb.1; omega, fun e9 => by have := HWX.out; have := hb.1; omega⟩) (by simp [Value.oneCell']) (by omega) (by omega) hlo9 HPS.out ?_; intro A4 c4 w4 hown4 hg4 hbk4)
          have hne := hown0.out.ne HBx.out (by decide)
          have hb4 : Below u6.heap.size xw w4 := ⟨hg4.os, hg4.tape, hg4.output, hg4.size, fun b hb => hg4.block b (by omega) (fun e9 => by have := (hown0.out.lt _ e9.symm).1; omega)⟩
          have HF := Lib.hid (show ∃ A c, Value.slice A4 ps.length c4 = .slice A ps.length c ∧ OwnD iBD u6.heap.size w4 (.slice A ps.length c) ps ∧ w4.heap[iBD]? = some (.cells #[.int .i64 (x.many), .slice A9 ds.length c9] 28 (0, 0)) ∧ Below u6.heap.size u6 w4 ∧ u6.heap.size ≤ w4.heap.size from ⟨A4, c4, rfl, hown4, (hg4.block _ (lt_of_block HBx.out) (fun e9 => hne e9.symm)).trans HBx.out, HBB.out.trans hb4, Nat.le_trans hlo9 hg4.size⟩)
          clear hown4 hg4 hbk4 hb4 hne hnews hel hl8 hh9
          go_wp2
          exact ⟨rfl, HF.out, .inl (by simp), .inl (by simp)⟩
        · intro vals xw hC hF
          simp only [putsD, Act.put, List.setIfInBounds_toArray, List.set_cons_zero, List.set_cons_succ]
          go_wp2
          exact ⟨rfl, rfl, .inr (Below.refl _ _), .inr (.inl (by simp))⟩
        · intro vals xw hC hF
          simp only [factsD, List.getD_cons_zero, List.getD_cons_succ, Fact.eq, Fact.row, Fact.lit, Fact.lit0, Fact.of, and_true, Fact.lit1, Fact.lit2, Fact.rowD, Fact.doneD] at hF
          obtain ⟨⟨A4, c4, e89, ho4, hb4, hbw4, hs4⟩, e90⟩ := hF
          simp only [putsD, Act.put, List.setIfInBounds_toArray, List.set_cons_zero, List.set_cons_succ]
          simp only [e89, e90]
          have v1 : xw.cell? ⟨iBD, 1, none⟩ = some (.slice A9 ds.length c9) := (cell_of_block hb4 1).1
          have f1 : xw.frozen? ⟨iBD, 1, none⟩ = false := (cell_of_block hb4 1).2
          have hne := ho4.ne hb4 (by decide)
          have hgr : Gr (fun b => b = iBD) xw (xw.setCell ⟨iBD, 1, none⟩ (.slice A4 ps.length c4)) := (Gr.refl (fun b => b = iBD) xw).set _ _ _ (.inl (by rfl))
          have HH := Lib.hid (show (xw.setCell ⟨iBD, 1, none⟩ (.slice A4 ps.length c4)).heap[iBD]? = some (.cells #[.int .i64 (x.many), .slice A4 ps.length c4] 28 (0, 0)) from heap_set_same xw iBD 1 (.slice A4 ps.length c4) _ _ hb4)
          have HO := Lib.hid (ho4.grNe hgr (fun g hg e9 => hne (by rw [hg, show g = iBD from e9])))
          have HB := Lib.hid (hbw4.setCell (p := ⟨iBD, 1, none⟩) hiBD (.slice A4 ps.length c4))
          have HS := Lib.hid hs4
          clear hb4 ho4 hbw4 hs4 hgr hne
          go_wp2
          exact ⟨rfl, ⟨A4, c4, HH.out, HO.out, HB.out, by rw [size_setCell]; exact HS.out⟩, .inl (by simp), .inl (by simp)⟩
        · intro vals xw hF
          simp only [facts, List.getD_cons_zero, List.getD_cons_succ, Fact.eq, Fact.row, Fact.lit, Fact.lit0, Fact.of, and_true, Fact.lit1, Fact.lit2, Fact.rowD, Fact.doneD] at hF
          obtain ⟨A4, c4, hb4, ho4, hbw4, hs4⟩ := hF
          have HB4 := Lib.hid hb4
          have HO4 := Lib.hid ho4
          have HBW4 := Lib.hid hbw4
          simp only [putsD, Act.put, List.setIfInBounds_toArray, List.set_cons_zero, List.set_cons_succ]
          clear hb4 ho4 hbw4 kk0 hi0 hz0 hz1 hz2
          clear kk1
          go_wp2
          go_roundw
          case rel => exact ⟨k + 1, ps, A4, c4, by omega, by go_num, by rw [HPS.out, HDS.out, HTK.out]; simp, HB4.out, HO4.out, HBW4.out⟩
          case measure => simp [intOf]; omega
      · skip
        have hke : k = put.length := by omega
        subst hke
        have hds := HDS.out
        rw [List.take_length] at hds
        have HDD := Lib.hid (show (⟨x.many, ds⟩ : C) = withPut x put by rw [hds]; rfl)
        have SD : Hid (smCnf ⟨x.many, ds⟩) := Lib.hid (by rw [HDD.out]; exact ⟨HMX.out, (withPut_small HSX.out hpl HPO.out).sm (by omega)⟩)
        have hD := hoc.rd
        have BD := HBD
        clear hds hoc HDS HBD OBD hIBD hlt hbdlt HX0 HP0 HR20
        have hb := bthen hb hbr
        have hx := hx.up hbr
        have hp := hp.up hbr
        have BC := Lib.hid ((hbr.block _ (lt_of_block BC.out)).trans BC.out)
        have R2 := R2.up hbr
        have R3 := R3.up hbr
        clear hbr
        generalize wr = v9 at *
        have hcut : ∀ (z : Int), z ∈ r9.1 → ∀ vs, cnfHas ⟨x.many, ds⟩ vs = true → clHas vs [z] = true := fun z hz vs hv => by have := (HS1.out vs (by rw [← HDD.out]; exact hv)).1 z hz; simpa [clHas] using this
        have HCUT := Lib.hid hcut
        clear hcut
        have hn1 := HN1.out
        go_wp2
        go_loopw [11] (fun i w2 => ∃ j : Nat, j ≤ r9.1.length ∧ i = .int .i64 j ∧ Below v9.heap.size v9 w2) (fun i _ => r9.1.length - (intOf i).toNat)
        case atStart => exact ⟨0, Nat.zero_le _, rfl, Below.refl _ _⟩
        case round =>
          obtain ⟨j, hj, rfl, hbr⟩ := hrel
          by_cases hlt : j < r9.1.length
          · skip
            have hj1 : (j : Int) < r9.1.length := by omega
            obtain ⟨ad2, e2, _, hc2⟩ := (R2.up hbr).at_int hlt
            have HZ := Lib.hid (List.getElem_mem hlt)
            have HZI := Lib.hid (HI1.out _ (List.getElem_mem hlt))
            have HPF : Hid (∀ h : j < put.length, put[j] = r9.1[j]) := Lib.hid fun h => by
              obtain ⟨s9, hs9⟩ := HS2.out
              have : r9.1[j]? = put[j]? := by rw [hs9, List.getElem?_append_left h]
              rw [List.getElem?_eq_getElem hlt, List.getElem?_eq_getElem h] at this
              injection this with this; exact this.symm
            generalize r9.1[j] = z at *
            subst e2
            have hDr := Lib.hid (hD.up hbr)
            have BDr := Lib.hid ((hbr.block _ (lt_of_block BD.out)).trans BD.out)
            have kk0 := Later.cell (show wr.cell? ⟨iBD, 0, none⟩ = some (.int .i64 x.many) from (cell_of_block BDr.out 0).1)
            have kk1 := Later.cell (show wr.cell? ⟨iBD, 1, none⟩ = some (.slice A9 ds.length c9) from (cell_of_block BDr.out 1).1)
            have kk2 := Later.cell hc2
            have hpr := hp.up hbr
            have HBR := Lib.hid hbr
            have hj0 : (0 : Int) ≤ j := by omega
            clear hc2 hbr
            by_cases hjp : j < put.length
            · skip
              have hjp1 : (j : Int) < put.length := by omega
              obtain ⟨ad, e, _, hc3⟩ := hpr.at_int hjp
              rw [HPF.out hjp] at hc3
              subst e
              have kk3 := Later.cell hc3
              have hzz : (z != z) = false := by simp
              clear hc3
              go_wp2
              refine wp_region_rel [[], [], [(1, 98)], [(0, 97), (2, 99)], [(3, 100)], [(4, 101)], [(4, 101)], [(4, 101), (5, 102), (6, 103)], [(4, 101), (7, 104)], [(4, 101)], [(4, 101)], [(4, 101), (9, 106), (10, 107)], [(4, 101), (11, 108)], [(4, 101), (8, 105), (12, 109)], [(4, 101), (13, 110)], [(14, 111)], [(15, 112)], [(15, 112)], [(15, 112)], [(15, 112), (17, 114), (18, 115)], [(15, 112), (19, 116)], [(15, 112), (20, 117)], [(15, 112), (16, 113), (21, 118)], [(15, 112), (22, 119)], [(15, 112), (23, 120)]]
                (fun y y' => Below y.heap.size y y')
                (fun _ yy => Below wr.heap.size wr yy)
                [fun vs9 _ => vs9 0 = (.int .i64 j),
    fun vs9 _ => vs9 1 = (.slice (some ad) put.length e1),
    fun vs9 _ => vs9 2 = (.int .i64 put.length),
    fun vs9 _ => vs9 3 = (.bool true),
    fun vs9 _ => vs9 4 = (.bool true),
    fun vs9 _ => vs9 5 = (.slice (some ad2) r9.1.length d2),
    fun vs9 _ => vs9 6 = (.int .i64 j),
    fun vs9 _ => vs9 7 = (.pointer (some (ad2.add j))),
    fun vs9 _ => vs9 8 = (.int .i64 z),
    fun vs9 _ => vs9 9 = (.slice (some ad) put.length e1),
    fun vs9 _ => vs9 10 = (.int .i64 j),
    fun vs9 _ => vs9 11 = (.pointer (some (ad.add j))),
    fun vs9 _ => vs9 12 = (.int .i64 z),
    fun vs9 _ => vs9 13 = (.bool false),
    fun vs9 _ => vs9 14 = (.bool false),
    fun vs9 _ => vs9 15 = (.bool false),
    fun vs9 _ => vs9 16 = (.agg #[.int .i64 x.many, .slice A9 ds.length c9]),
    fun vs9 _ => vs9 17 = (.slice (some ad2) r9.1.length d2),
    fun vs9 _ => vs9 18 = (.int .i64 j),
    fun vs9 _ => vs9 19 = (.pointer (some (ad2.add j))),
    fun vs9 _ => vs9 20 = (.int .i64 z),
    fun vs9 y9 => (fun v yy => ∃ b, v = .slice (some ⟨b, 0, none⟩) 1 1 ∧ LitAt 0 [z] b yy) (vs9 21) y9,
    fun vs9 _ => vs9 22 = (.bool true),
    fun vs9 _ => vs9 23 = (.bool false),
    fun vs9 _ => vs9 24 = (.bool false)]
                [(0, 97), (1, 98), (2, 99), (3, 100), (4, 101), (5, 102), (6, 103), (7, 104), (8, 105), (9, 106), (10, 107), (11, 108), (12, 109), (13, 110), (14, 111), (15, 112), (16, 113), (17, 114), (18, 115), (19, 116), (20, 117), (21, 118), (22, 119), (23, 120), (24, 121)] (by kernel_rfl) (by kernel_rfl) (by kernel_rfl) (by kernel_rfl)
                (fun _ => Below.refl _ _) ⟨.inr (fun _ _ _ h _ => h),
    .inr (fun _ _ _ h _ => h),
    .inr (fun _ _ _ h _ => h),
    .inr (fun _ _ _ h _ => h),
    .inr (fun _ _ _ h _ => h),
    .inr (fun _ _ _ h _ => h),
    .inr (fun _ _ _ h _ => h),
    .inr (fun _ _ _ h _ => h),
    .inr (fun _ _ _ h _ => h),
    .inr (fun _ _ _ h _ => h),
    .inr (fun _ _ _ h _ => h),
    .inr (fun _ _ _ h _ => h),
    .inr (fun _ _ _ h _ => h),
    .inr (fun _ _ _ h _ => h),
    .inr (fun _ _ _ h _ => h),
    .inr (fun _ _ _ h _ => h),
    .inr (fun _ _ _ h _ => h),
    .inr (fun _ _ _ h _ => h),
    .inr (fun _ _ _ h _ => h),
    .inr (fun _ _ _ h _ => h),
    .inr (fun _ _ _ h _ => h),
    .inr (fun vs9 x9 y9 h9 hR9 => (show ∀ v9 y8 y7, (fun v yy => ∃ b, v = .slice (some ⟨b, 0, none⟩) 1 1 ∧ LitAt 0 [z] b yy) v9 y8 → (fun y y' => Below y.heap.size y y') y8 y7 → (fun v yy => ∃ b, v = .slice (some ⟨b, 0, none⟩) 1 1 ∧ LitAt 0 [z] b yy) v9 y7 from fun _ _ _ ⟨b, h1, h2⟩ hR => ⟨b, h1, h2.up hR⟩) (vs9 21) x9 y9 h9 hR9),
    .inr (fun _ _ _ h _ => h),
    .inr (fun _ _ _ h _ => h),
    .inr (fun _ _ _ h _ => h), trivial⟩ ⟨fun vs vs' x h _ hv => (by dsimp only at hv ⊢; first | (rw [← h]; exact hv) | exact hv),
    fun vs vs' x h _ hv => (by dsimp only at hv ⊢; first | (rw [← h]; exact hv) | exact hv),
    fun vs vs' x h _ hv => (by dsimp only at hv ⊢; first | (rw [← h]; exact hv) | exact hv),
    fun vs vs' x h _ hv => (by dsimp only at hv ⊢; first | (rw [← h]; exact hv) | exact hv),
    fun vs vs' x h _ hv => (by dsimp only at hv ⊢; first | (rw [← h]; exact hv) | exact hv),
    fun vs vs' x h _ hv => (by dsimp only at hv ⊢; first | (rw [← h]; exact hv) | exact hv),
    fun vs vs' x h _ hv => (by dsimp only at hv ⊢; first | (rw [← h]; exact hv) | exact hv),
    fun vs vs' x h _ hv => (by dsimp only at hv ⊢; first | (rw [← h]; exact hv) | exact hv),
    fun vs vs' x h _ hv => (by dsimp only at hv ⊢; first | (rw [← h]; exact hv) | exact hv),
    fun vs vs' x h _ hv => (by dsimp only at hv ⊢; first | (rw [← h]; exact hv) | exact hv),
    fun vs vs' x h _ hv => (by dsimp only at hv ⊢; first | (rw [← h]; exact hv) | exact hv),
    fun vs vs' x h _ hv => (by dsimp only at hv ⊢; first | (rw [← h]; exact hv) | exact hv),
    fun vs vs' x h _ hv => (by dsimp only at hv ⊢; first | (rw [← h]; exact hv) | exact hv),
    fun vs vs' x h _ hv => (by dsimp only at hv ⊢; first | (rw [← h]; exact hv) | exact hv),
    fun vs vs' x h _ hv => (by dsimp only at hv ⊢; first | (rw [← h]; exact hv) | exact hv),
    fun vs vs' x h _ hv => (by dsimp only at hv ⊢; first | (rw [← h]; exact hv) | exact hv),
    fun vs vs' x h _ hv => (by dsimp only at hv ⊢; first | (rw [← h]; exact hv) | exact hv),
    fun vs vs' x h _ hv => (by dsimp only at hv ⊢; first | (rw [← h]; exact hv) | exact hv),
    fun vs vs' x h _ hv => (by dsimp only at hv ⊢; first | (rw [← h]; exact hv) | exact hv),
    fun vs vs' x h _ hv => (by dsimp only at hv ⊢; first | (rw [← h]; exact hv) | exact hv),
    fun vs vs' x h _ hv => (by dsimp only at hv ⊢; first | (rw [← h]; exact hv) | exact hv),
    fun vs vs' x h _ hv => (by dsimp only at hv ⊢; first | (rw [← h]; exact hv) | exact hv),
    fun vs vs' x h _ hv => (by dsimp only at hv ⊢; first | (rw [← h]; exact hv) | exact hv),
    fun vs vs' x h _ hv => (by dsimp only at hv ⊢; first | (rw [← h]; exact hv) | exact hv),
    fun vs vs' x h _ hv => (by dsimp only at hv ⊢; first | (rw [← h]; exact hv) | exact hv), trivial⟩ (below_drewN (Below.refl _ _) 1) ⟨?_, ?_, ?_, ?_, ?_, ?_, ?_, ?_, ?_, ?_, ?_, ?_, ?_, ?_, ?_, ?_, ?_, ?_, ?_, ?_, ?_, ?_, ?_, ?_, ?_, trivial⟩ ?_
              · intro vals xw n hn hI hF
                dsimp only [owes, bare]
                simp only [putsD, Act.put, List.setIfInBounds_toArray, List.set_cons_zero, List.set_cons_succ]
                go_wp2
                exact ⟨rfl, rfl, Below.refl _ _, hI⟩
              · intro vals xw n hn hI hF
                dsimp only [owes, bare]
                simp only [putsD, Act.put, List.setIfInBounds_toArray, List.set_cons_zero, List.set_cons_succ]
                go_wp2
                exact ⟨rfl, rfl, Below.refl _ _, hI⟩
              · intro vals xw n hn hI hF
                simp only [saysD, List.getD_cons_zero, List.getD_cons_succ, and_true] at hF
                have e98 := hF
                dsimp only [owes, bare]
                simp only [putsD, Act.put, List.setIfInBounds_toArray, List.set_cons_zero, List.set_cons_succ]
                simp only [e98]
                go_wp2
                exact ⟨rfl, rfl, Below.refl _ _, hI⟩
              · intro vals xw n hn hI hF
                simp only [saysD, List.getD_cons_zero, List.getD_cons_succ, and_true] at hF
                obtain ⟨e97, e99⟩ := hF
                dsimp only [owes, bare]
                simp only [putsD, Act.put, List.setIfInBounds_toArray, List.set_cons_zero, List.set_cons_succ]
                simp only [e97, e99]
                go_wp2
                exact ⟨rfl, rfl, Below.refl _ _, hI⟩
              · intro vals xw n hn hI hF
                simp only [saysD, List.getD_cons_zero, List.getD_cons_succ, and_true] at hF
                have e100 := hF
                dsimp only [owes, bare]
                simp only [putsD, Act.put, List.setIfInBounds_toArray, List.set_cons_zero, List.set_cons_succ]
                simp only [e100]
                go_wp2
                exact ⟨rfl, rfl, Below.refl _ _, hI⟩
              · intro vals xw n hn hI hF
                simp only [saysD, List.getD_cons_zero, List.getD_cons_succ, and_true] at hF
                have e101 := hF
                dsimp only [owes, bare]
                refine ⟨fun _ => ?_, fun h => absurd e101 h⟩
                simp only [putsD, Act.put, List.setIfInBounds_toArray, List.set_cons_zero, List.set_cons_succ]
                simp only [e101]
                go_wp2
                exact ⟨rfl, rfl, Below.refl _ _, hI⟩
              · intro vals xw n hn hI hF
                simp only [saysD, List.getD_cons_zero, List.getD_cons_succ, and_true] at hF
                have e101 := hF
                dsimp only [owes, bare]
                refine ⟨fun _ => ?_, fun h => absurd e101 h⟩
                simp only [putsD, Act.put, List.setIfInBounds_toArray, List.set_cons_zero, List.set_cons_succ]
                simp only [e101]
                go_wp2
                exact ⟨rfl, rfl, Below.refl _ _, hI⟩
              · intro vals xw n hn hI hF
                simp only [saysD, List.getD_cons_zero, List.getD_cons_succ, and_true] at hF
                obtain ⟨e101, e102, e103⟩ := hF
                dsimp only [owes, bare]
                refine ⟨fun _ => ?_, fun h => absurd e101 h⟩
                simp only [putsD, Act.put, List.setIfInBounds_toArray, List.set_cons_zero, List.set_cons_succ]
                simp only [e101, e102, e103]
                go_wp2
                exact ⟨rfl, rfl, Below.refl _ _, hI⟩
              · intro vals xw n hn hI hF
                simp only [saysD, List.getD_cons_zero, List.getD_cons_succ, and_true] at hF
                obtain ⟨e101, e104⟩ := hF
                dsimp only [owes, bare]
                refine ⟨fun _ => ?_, fun h => absurd e101 h⟩
                simp only [putsD, Act.put, List.setIfInBounds_toArray, List.set_cons_zero, List.set_cons_succ]
                simp only [e101, e104]
                have c90 : xw.cell? _ = _ := kk2 ⟨xw, hI⟩
                go_wp2
                exact ⟨rfl, rfl, Below.refl _ _, hI⟩
              · intro vals xw n hn hI hF
                simp only [saysD, List.getD_cons_zero, List.getD_cons_succ, and_true] at hF
                have e101 := hF
                dsimp only [owes, bare]
                refine ⟨fun _ => ?_, fun h => absurd e101 h⟩
                simp only [putsD, Act.put, List.setIfInBounds_toArray, List.set_cons_zero, List.set_cons_succ]
                simp only [e101]
                go_wp2
                exact ⟨rfl, rfl, Below.refl _ _, hI⟩
              · intro vals xw n hn hI hF
                simp only [saysD, List.getD_cons_zero, List.getD_cons_succ, and_true] at hF
                have e101 := hF
                dsimp only [owes, bare]
                refine ⟨fun _ => ?_, fun h => absurd e101 h⟩
                simp only [putsD, Act.put, List.setIfInBounds_toArray, List.set_cons_zero, List.set_cons_succ]
                simp only [e101]
                go_wp2
                exact ⟨rfl, rfl, Below.refl _ _, hI⟩
              · intro vals xw n hn hI hF
                simp only [saysD, List.getD_cons_zero, List.getD_cons_succ, and_true] at hF
                obtain ⟨e101, e106, e107⟩ := hF
                dsimp only [owes, bare]
                refine ⟨fun _ => ?_, fun h => absurd e101 h⟩
                simp only [putsD, Act.put, List.setIfInBounds_toArray, List.set_cons_zero, List.set_cons_succ]
                simp only [e101, e106, e107]
                go_wp2
                exact ⟨rfl, rfl, Below.refl _ _, hI⟩
              · intro vals xw n hn hI hF
                simp only [saysD, List.getD_cons_zero, List.getD_cons_succ, and_true] at hF
                obtain ⟨e101, e108⟩ := hF
                dsimp only [owes, bare]
                refine ⟨fun _ => ?_, fun h => absurd e101 h⟩
                simp only [putsD, Act.put, List.setIfInBounds_toArray, List.set_cons_zero, List.set_cons_succ]
                simp only [e101, e108]
                have c90 : xw.cell? _ = _ := kk3 ⟨xw, hI⟩
                go_wp2
                exact ⟨rfl, rfl, Below.refl _ _, hI⟩
              · intro vals xw n hn hI hF
                simp only [saysD, List.getD_cons_zero, List.getD_cons_succ, and_true] at hF
                obtain ⟨e101, e105, e109⟩ := hF
                dsimp only [owes, bare]
                refine ⟨fun _ => ?_, fun h => absurd e101 h⟩
                simp only [putsD, Act.put, List.setIfInBounds_toArray, List.set_cons_zero, List.set_cons_succ]
                simp only [e101, e105, e109]
                go_wp2
                exact ⟨rfl, rfl, Below.refl _ _, hI⟩
              · intro vals xw n hn hI hF
                simp only [saysD, List.getD_cons_zero, List.getD_cons_succ, and_true] at hF
                obtain ⟨e101, e110⟩ := hF
                dsimp only [owes, bare]
                simp only [putsD, Act.put, List.setIfInBounds_toArray, List.set_cons_zero, List.set_cons_succ]
                simp only [e101, e110]
                go_wp2
                exact ⟨rfl, rfl, Below.refl _ _, hI⟩
              · intro vals xw n hn hI hF
                simp only [saysD, List.getD_cons_zero, List.getD_cons_succ, and_true] at hF
                have e111 := hF
                dsimp only [owes, bare]
                simp only [putsD, Act.put, List.setIfInBounds_toArray, List.set_cons_zero, List.set_cons_succ]
                simp only [e111]
                go_wp2
                exact ⟨rfl, rfl, Below.refl _ _, hI⟩
              · intro vals xw n hn hI hF
                simp only [saysD, List.getD_cons_zero, List.getD_cons_succ, and_true] at hF
                have e112 := hF
                dsimp only [owes, bare]
                refine ⟨fun _ => ?_, fun h => absurd e112 h⟩
                simp only [putsD, Act.put, List.setIfInBounds_toArray, List.set_cons_zero, List.set_cons_succ]
                simp only [e112]
                have c90 : xw.cell? _ = _ := kk0 ⟨xw, hI⟩
                have c91 : xw.cell? _ = _ := kk1 ⟨xw, hI⟩
                go_wp2
                exact ⟨rfl, rfl, Below.refl _ _, hI⟩
              · intro vals xw n hn hI hF
                simp only [saysD, List.getD_cons_zero, List.getD_cons_succ, and_true] at hF
                have e112 := hF
                dsimp only [owes, bare]
                refine ⟨fun _ => ?_, fun h => absurd e112 h⟩
                simp only [putsD, Act.put, List.setIfInBounds_toArray, List.set_cons_zero, List.set_cons_succ]
                simp only [e112]
                go_wp2
                exact ⟨rfl, rfl, Below.refl _ _, hI⟩
              · intro vals xw n hn hI hF
                simp only [saysD, List.getD_cons_zero, List.getD_cons_succ, and_true] at hF
                have e112 := hF
                dsimp only [owes, bare]
                refine ⟨fun _ => ?_, fun h => absurd e112 h⟩
                simp only [putsD, Act.put, List.setIfInBounds_toArray, List.set_cons_zero, List.set_cons_succ]
                simp only [e112]
                go_wp2
                exact ⟨rfl, rfl, Below.refl _ _, hI⟩
              · intro vals xw n hn hI hF
                simp only [saysD, List.getD_cons_zero, List.getD_cons_succ, and_true] at hF
                obtain ⟨e112, e114, e115⟩ := hF
                dsimp only [owes, bare]
                refine ⟨fun _ => ?_, fun h => absurd e112 h⟩
                simp only [putsD, Act.put, List.setIfInBounds_toArray, List.set_cons_zero, List.set_cons_succ]
                simp only [e112, e114, e115]
                go_wp2
                exact ⟨rfl, rfl, Below.refl _ _, hI⟩
              · intro vals xw n hn hI hF
                simp only [saysD, List.getD_cons_zero, List.getD_cons_succ, and_true] at hF
                obtain ⟨e112, e116⟩ := hF
                dsimp only [owes, bare]
                refine ⟨fun _ => ?_, fun h => absurd e112 h⟩
                simp only [putsD, Act.put, List.setIfInBounds_toArray, List.set_cons_zero, List.set_cons_succ]
                simp only [e112, e116]
                have c90 : xw.cell? _ = _ := kk2 ⟨xw, hI⟩
                go_wp2
                exact ⟨rfl, rfl, Below.refl _ _, hI⟩
              · intro vals xw n hn hI hF
                simp only [saysD, List.getD_cons_zero, List.getD_cons_succ, and_true] at hF
                obtain ⟨e112, e117⟩ := hF
                dsimp only [owes, bare]
                refine ⟨fun _ => ?_, fun h => absurd e112 h⟩
                simp only [putsD, Act.put, List.setIfInBounds_toArray, List.set_cons_zero, List.set_cons_succ]
                simp only [e112, e117]
                have hln := litAt_new xw [z] #[.int .i64 z] 3 rfl (Nat.zero_le _)
                have hal : Below xw.heap.size xw (xw.alloc (.cells #[.int .i64 z] 3)) := (Below.refl _ _).alloc (Nat.le_refl _) _
                go_wp2
                exact ⟨rfl, ⟨xw.heap.size, rfl, hln⟩, hal, bthen hI hal⟩
              · intro vals xw n hn hI hF
                simp only [saysD, List.getD_cons_zero, List.getD_cons_succ, and_true] at hF
                obtain ⟨e112, e113, b8, e118, hl8⟩ := hF
                dsimp only [owes, bare]
                refine ⟨fun _ => ?_, fun h => absurd e112 h⟩
                simp only [putsD, Act.put, List.setIfInBounds_toArray, List.set_cons_zero, List.set_cons_succ]
                simp only [e112, e113, e118]
                have hrd8 : Lay.int.Rd xw (some ⟨b8, 0, none⟩) [z] := hl8.2.mono fun y hy => by rw [hy.1]; exact hy.2
                have HWF := Lib.hid (wpFollows_any ⟨x.many, ds⟩ [z] A9 (some ⟨b8, 0, none⟩) c9 1 M xw (hDr.out.up hI) SD.out hrd8 (by simp) (by intro l hl; rw [List.mem_singleton.1 hl]; exact HZI.out) HMM.out (by omega) (HCUT.out z HZ.out))
                clear hl8 hrd8
                go_wp2_with fail
                refine HWF.out.mono ?_
                rintro e wx ⟨rfl, hb9⟩
                go_wp2
                exact ⟨rfl, rfl, hb9, bthen hI hb9⟩
              · intro vals xw n hn hI hF
                simp only [saysD, List.getD_cons_zero, List.getD_cons_succ, and_true] at hF
                obtain ⟨e112, e119⟩ := hF
                dsimp only [owes, bare]
                refine ⟨fun _ => ?_, fun h => absurd e112 h⟩
                simp only [putsD, Act.put, List.setIfInBounds_toArray, List.set_cons_zero, List.set_cons_succ]
                simp only [e112, e119]
                go_wp2
                exact ⟨rfl, rfl, Below.refl _ _, hI⟩
              · intro vals xw n hn hI hF
                simp only [saysD, List.getD_cons_zero, List.getD_cons_succ, and_true] at hF
                obtain ⟨e112, e120⟩ := hF
                dsimp only [owes, bare]
                simp only [putsD, Act.put, List.setIfInBounds_toArray, List.set_cons_zero, List.set_cons_succ]
                simp only [e112, e120]
                go_wp2
                exact ⟨rfl, rfl, Below.refl _ _, hI⟩
              · intro vals xw n hn hI hF
                rw [show List.range _ = [0, 1, 2, 3, 4, 5, 6, 7, 8, 9, 10, 11, 12, 13, 14, 15, 16, 17, 18, 19, 20, 21, 22, 23, 24] from rfl] at hF
                simp only [says, List.getD_cons_zero, List.getD_cons_succ, and_true] at hF
                have e121 := hF.2.2.2.2.2.2.2.2.2.2.2.2.2.2.2.2.2.2.2.2.2.2.2.2
                have HB9 := Lib.hid (HBR.out.trans (hI.mono HBR.out.size))
                simp only [putsD, Act.put, List.setIfInBounds_toArray, List.set_cons_zero, List.set_cons_succ]
                simp only [e121]
                clear hF e121 kk0 kk1 kk2 kk3
                go_wp2
                go_roundw
                case rel => exact ⟨j + 1, by omega, by go_num, HB9.out⟩
                case measure => simp [intOf]; omega
            · skip
              have hjp1 : ¬ (j : Int) < put.length := by omega
              go_wp2
              refine wp_region_rel [[], [], [(1, 98)], [(0, 97), (2, 99)], [(3, 100)], [(4, 101)], [(4, 101)], [(4, 101), (5, 102), (6, 103)], [(4, 101), (7, 104)], [(4, 101)], [(4, 101)], [(4, 101), (9, 106), (10, 107)], [(4, 101), (11, 108)], [(4, 101), (8, 105), (12, 109)], [(4, 101), (13, 110)], [(14, 111)], [(15, 112)], [(15, 112)], [(15, 112)], [(15, 112), (17, 114), (18, 115)], [(15, 112), (19, 116)], [(15, 112), (20, 117)], [(15, 112), (16, 113), (21, 118)], [(15, 112), (22, 119)], [(15, 112), (23, 120)]]
                (fun y y' => Below y.heap.size y y')
                (fun _ yy => Below wr.heap.size wr yy)
                [fun vs9 _ => vs9 0 = (.int .i64 j),
    fun vs9 _ => vs9 1 = (.slice B1 put.length e1),
    fun vs9 _ => vs9 2 = (.int .i64 put.length),
    fun vs9 _ => vs9 3 = (.bool false),
    fun vs9 _ => vs9 4 = (.bool false),
    fun vs9 _ => vs9 5 = undef,
    fun vs9 _ => vs9 6 = undef,
    fun vs9 _ => vs9 7 = undef,
    fun vs9 _ => vs9 8 = undef,
    fun vs9 _ => vs9 9 = undef,
    fun vs9 _ => vs9 10 = undef,
    fun vs9 _ => vs9 11 = undef,
    fun vs9 _ => vs9 12 = undef,
    fun vs9 _ => vs9 13 = undef,
    fun vs9 _ => vs9 14 = (.bool false),
    fun vs9 _ => vs9 15 = (.bool false),
    fun vs9 _ => vs9 16 = (.agg #[.int .i64 x.many, .slice A9 ds.length c9]),
    fun vs9 _ => vs9 17 = (.slice (some ad2) r9.1.length d2),
    fun vs9 _ => vs9 18 = (.int .i64 j),
    fun vs9 _ => vs9 19 = (.pointer (some (ad2.add j))),
    fun vs9 _ => vs9 20 = (.int .i64 z),
    fun vs9 y9 => (fun v yy => ∃ b, v = .slice (some ⟨b, 0, none⟩) 1 1 ∧ LitAt 0 [z] b yy) (vs9 21) y9,
    fun vs9 _ => vs9 22 = (.bool true),
    fun vs9 _ => vs9 23 = (.bool false),
    fun vs9 _ => vs9 24 = (.bool false)]
                [(0, 97), (1, 98), (2, 99), (3, 100), (4, 101), (5, 102), (6, 103), (7, 104), (8, 105), (9, 106), (10, 107), (11, 108), (12, 109), (13, 110), (14, 111), (15, 112), (16, 113), (17, 114), (18, 115), (19, 116), (20, 117), (21, 118), (22, 119), (23, 120), (24, 121)] (by kernel_rfl) (by kernel_rfl) (by kernel_rfl) (by kernel_rfl)
                (fun _ => Below.refl _ _) ⟨.inr (fun _ _ _ h _ => h),
    .inr (fun _ _ _ h _ => h),
    .inr (fun _ _ _ h _ => h),
    .inr (fun _ _ _ h _ => h),
    .inr (fun _ _ _ h _ => h),
    .inr (fun _ _ _ h _ => h),
    .inr (fun _ _ _ h _ => h),
    .inr (fun _ _ _ h _ => h),
    .inr (fun _ _ _ h _ => h),
    .inr (fun _ _ _ h _ => h),
    .inr (fun _ _ _ h _ => h),
    .inr (fun _ _ _ h _ => h),
    .inr (fun _ _ _ h _ => h),
    .inr (fun _ _ _ h _ => h),
    .inr (fun _ _ _ h _ => h),
    .inr (fun _ _ _ h _ => h),
    .inr (fun _ _ _ h _ => h),
    .inr (fun _ _ _ h _ => h),
    .inr (fun _ _ _ h _ => h),
    .inr (fun _ _ _ h _ => h),
    .inr (fun _ _ _ h _ => h),
    .inr (fun vs9 x9 y9 h9 hR9 => (show ∀ v9 y8 y7, (fun v yy => ∃ b, v = .slice (some ⟨b, 0, none⟩) 1 1 ∧ LitAt 0 [z] b yy) v9 y8 → (fun y y' => Below y.heap.size y y') y8 y7 → (fun v yy => ∃ b, v = .slice (some ⟨b, 0, none⟩) 1 1 ∧ LitAt 0 [z] b yy) v9 y7 from fun _ _ _ ⟨b, h1, h2⟩ hR => ⟨b, h1, h2.up hR⟩) (vs9 21) x9 y9 h9 hR9),
    .inr (fun _ _ _ h _ => h),
    .inr (fun _ _ _ h _ => h),
    .inr (fun _ _ _ h _ => h), trivial⟩ ⟨fun vs vs' x h _ hv => (by dsimp only at hv ⊢; first | (rw [← h]; exact hv) | exact hv),
    fun vs vs' x h _ hv => (by dsimp only at hv ⊢; first | (rw [← h]; exact hv) | exact hv),
    fun vs vs' x h _ hv => (by dsimp only at hv ⊢; first | (rw [← h]; exact hv) | exact hv),
    fun vs vs' x h _ hv => (by dsimp only at hv ⊢; first | (rw [← h]; exact hv) | exact hv),
    fun vs vs' x h _ hv => (by dsimp only at hv ⊢; first | (rw [← h]; exact hv) | exact hv),
    fun vs vs' x h _ hv => (by dsimp only at hv ⊢; first | (rw [← h]; exact hv) | exact hv),
    fun vs vs' x h _ hv => (by dsimp only at hv ⊢; first | (rw [← h]; exact hv) | exact hv),
    fun vs vs' x h _ hv => (by dsimp only at hv ⊢; first | (rw [← h]; exact hv) | exact hv),
    fun vs vs' x h _ hv => (by dsimp only at hv ⊢; first | (rw [← h]; exact hv) | exact hv),
    fun vs vs' x h _ hv => (by dsimp only at hv ⊢; first | (rw [← h]; exact hv) | exact hv),
    fun vs vs' x h _ hv => (by dsimp only at hv ⊢; first | (rw [← h]; exact hv) | exact hv),
    fun vs vs' x h _ hv => (by dsimp only at hv ⊢; first | (rw [← h]; exact hv) | exact hv),
    fun vs vs' x h _ hv => (by dsimp only at hv ⊢; first | (rw [← h]; exact hv) | exact hv),
    fun vs vs' x h _ hv => (by dsimp only at hv ⊢; first | (rw [← h]; exact hv) | exact hv),
    fun vs vs' x h _ hv => (by dsimp only at hv ⊢; first | (rw [← h]; exact hv) | exact hv),
    fun vs vs' x h _ hv => (by dsimp only at hv ⊢; first | (rw [← h]; exact hv) | exact hv),
    fun vs vs' x h _ hv => (by dsimp only at hv ⊢; first | (rw [← h]; exact hv) | exact hv),
    fun vs vs' x h _ hv => (by dsimp only at hv ⊢; first | (rw [← h]; exact hv) | exact hv),
    fun vs vs' x h _ hv => (by dsimp only at hv ⊢; first | (rw [← h]; exact hv) | exact hv),
    fun vs vs' x h _ hv => (by dsimp only at hv ⊢; first | (rw [← h]; exact hv) | exact hv),
    fun vs vs' x h _ hv => (by dsimp only at hv ⊢; first | (rw [← h]; exact hv) | exact hv),
    fun vs vs' x h _ hv => (by dsimp only at hv ⊢; first | (rw [← h]; exact hv) | exact hv),
    fun vs vs' x h _ hv => (by dsimp only at hv ⊢; first | (rw [← h]; exact hv) | exact hv),
    fun vs vs' x h _ hv => (by dsimp only at hv ⊢; first | (rw [← h]; exact hv) | exact hv),
    fun vs vs' x h _ hv => (by dsimp only at hv ⊢; first | (rw [← h]; exact hv) | exact hv), trivial⟩ (below_drewN (Below.refl _ _) 1) ⟨?_, ?_, ?_, ?_, ?_, ?_, ?_, ?_, ?_, ?_, ?_, ?_, ?_, ?_, ?_, ?_, ?_, ?_, ?_, ?_, ?_, ?_, ?_, ?_, ?_, trivial⟩ ?_
              · intro vals xw n hn hI hF
                dsimp only [owes, bare]
                simp only [putsD, Act.put, List.setIfInBounds_toArray, List.set_cons_zero, List.set_cons_succ]
                go_wp2
                exact ⟨rfl, rfl, Below.refl _ _, hI⟩
              · intro vals xw n hn hI hF
                dsimp only [owes, bare]
                simp only [putsD, Act.put, List.setIfInBounds_toArray, List.set_cons_zero, List.set_cons_succ]
                go_wp2
                exact ⟨rfl, rfl, Below.refl _ _, hI⟩
              · intro vals xw n hn hI hF
                simp only [saysD, List.getD_cons_zero, List.getD_cons_succ, and_true] at hF
                have e98 := hF
                dsimp only [owes, bare]
                simp only [putsD, Act.put, List.setIfInBounds_toArray, List.set_cons_zero, List.set_cons_succ]
                simp only [e98]
                go_wp2
                exact ⟨rfl, rfl, Below.refl _ _, hI⟩
              · intro vals xw n hn hI hF
                simp only [saysD, List.getD_cons_zero, List.getD_cons_succ, and_true] at hF
                obtain ⟨e97, e99⟩ := hF
                dsimp only [owes, bare]
                simp only [putsD, Act.put, List.setIfInBounds_toArray, List.set_cons_zero, List.set_cons_succ]
                simp only [e97, e99]
                go_wp2
                exact ⟨rfl, rfl, Below.refl _ _, hI⟩
              · intro vals xw n hn hI hF
                simp only [saysD, List.getD_cons_zero, List.getD_cons_succ, and_true] at hF
                have e100 := hF
                dsimp only [owes, bare]
                simp only [putsD, Act.put, List.setIfInBounds_toArray, List.set_cons_zero, List.set_cons_succ]
                simp only [e100]
                go_wp2
                exact ⟨rfl, rfl, Below.refl _ _, hI⟩
              · intro vals xw n hn hI hF
                simp only [saysD, List.getD_cons_zero, List.getD_cons_succ, and_true] at hF
                have e101 := hF
                dsimp only [owes, bare]
                exact ⟨fun h => absurd (e101.symm.trans h) (by simp), fun _ => ⟨rfl, hI⟩⟩
              · intro vals xw n hn hI hF
                simp only [saysD, List.getD_cons_zero, List.getD_cons_succ, and_true] at hF
                have e101 := hF
                dsimp only [owes, bare]
                exact ⟨fun h => absurd (e101.symm.trans h) (by simp), fun _ => ⟨rfl, hI⟩⟩
              · intro vals xw n hn hI hF
                simp only [saysD, List.getD_cons_zero, List.getD_cons_succ, and_true] at hF
                obtain ⟨e101, e102, e103⟩ := hF
                dsimp only [owes, bare]
                exact ⟨fun h => absurd (e101.symm.trans h) (by simp), fun _ => ⟨rfl, hI⟩⟩
              · intro vals xw n hn hI hF
                simp only [saysD, List.getD_cons_zero, List.getD_cons_succ, and_true] at hF
                obtain ⟨e101, e104⟩ := hF
                dsimp only [owes, bare]
                exact ⟨fun h => absurd (e101.symm.trans h) (by simp), fun _ => ⟨rfl, hI⟩⟩
              · intro vals xw n hn hI hF
                simp only [saysD, List.getD_cons_zero, List.getD_cons_succ, and_true] at hF
                have e101 := hF
                dsimp only [owes, bare]
                exact ⟨fun h => absurd (e101.symm.trans h) (by simp), fun _ => ⟨rfl, hI⟩⟩
              · intro vals xw n hn hI hF
                simp only [saysD, List.getD_cons_zero, List.getD_cons_succ, and_true] at hF
                have e101 := hF
                dsimp only [owes, bare]
                exact ⟨fun h => absurd (e101.symm.trans h) (by simp), fun _ => ⟨rfl, hI⟩⟩
              · intro vals xw n hn hI hF
                simp only [saysD, List.getD_cons_zero, List.getD_cons_succ, and_true] at hF
                obtain ⟨e101, e106, e107⟩ := hF
                dsimp only [owes, bare]
                exact ⟨fun h => absurd (e101.symm.trans h) (by simp), fun _ => ⟨rfl, hI⟩⟩
              · intro vals xw n hn hI hF
                simp only [saysD, List.getD_cons_zero, List.getD_cons_succ, and_true] at hF
                obtain ⟨e101, e108⟩ := hF
                dsimp only [owes, bare]
                exact ⟨fun h => absurd (e101.symm.trans h) (by simp), fun _ => ⟨rfl, hI⟩⟩
              · intro vals xw n hn hI hF
                simp only [saysD, List.getD_cons_zero, List.getD_cons_succ, and_true] at hF
                obtain ⟨e101, e105, e109⟩ := hF
                dsimp only [owes, bare]
                exact ⟨fun h => absurd (e101.symm.trans h) (by simp), fun _ => ⟨rfl, hI⟩⟩
              · intro vals xw n hn hI hF
                simp only [saysD, List.getD_cons_zero, List.getD_cons_succ, and_true] at hF
                obtain ⟨e101, e110⟩ := hF
                dsimp only [owes, bare]
                simp only [putsD, Act.put, List.setIfInBounds_toArray, List.set_cons_zero, List.set_cons_succ]
                simp only [e101, e110]
                go_wp2
                exact ⟨rfl, rfl, Below.refl _ _, hI⟩
              · intro vals xw n hn hI hF
                simp only [saysD, List.getD_cons_zero, List.getD_cons_succ, and_true] at hF
                have e111 := hF
                dsimp only [owes, bare]
                simp only [putsD, Act.put, List.setIfInBounds_toArray, List.set_cons_zero, List.set_cons_succ]
                simp only [e111]
                go_wp2
                exact ⟨rfl, rfl, Below.refl _ _, hI⟩
              · intro vals xw n hn hI hF
                simp only [saysD, List.getD_cons_zero, List.getD_cons_succ, and_true] at hF
                have e112 := hF
                dsimp only [owes, bare]
                refine ⟨fun _ => ?_, fun h => absurd e112 h⟩
                simp only [putsD, Act.put, List.setIfInBounds_toArray, List.set_cons_zero, List.set_cons_succ]
                simp only [e112]
                have c90 : xw.cell? _ = _ := kk0 ⟨xw, hI⟩
                have c91 : xw.cell? _ = _ := kk1 ⟨xw, hI⟩
                go_wp2
                exact ⟨rfl, rfl, Below.refl _ _, hI⟩
              · intro vals xw n hn hI hF
                simp only [saysD, List.getD_cons_zero, List.getD_cons_succ, and_true] at hF
                have e112 := hF
                dsimp only [owes, bare]
                refine ⟨fun _ => ?_, fun h => absurd e112 h⟩
                simp only [putsD, Act.put, List.setIfInBounds_toArray, List.set_cons_zero, List.set_cons_succ]
                simp only [e112]
                go_wp2
                exact ⟨rfl, rfl, Below.refl _ _, hI⟩
              · intro vals xw n hn hI hF
                simp only [saysD, List.getD_cons_zero, List.getD_cons_succ, and_true] at hF
                have e112 := hF
                dsimp only [owes, bare]
                refine ⟨fun _ => ?_, fun h => absurd e112 h⟩
                simp only [putsD, Act.put, List.setIfInBounds_toArray, List.set_cons_zero, List.set_cons_succ]
                simp only [e112]
                go_wp2
                exact ⟨rfl, rfl, Below.refl _ _, hI⟩
              · intro vals xw n hn hI hF
                simp only [saysD, List.getD_cons_zero, List.getD_cons_succ, and_true] at hF
                obtain ⟨e112, e114, e115⟩ := hF
                dsimp only [owes, bare]
                refine ⟨fun _ => ?_, fun h => absurd e112 h⟩
                simp only [putsD, Act.put, List.setIfInBounds_toArray, List.set_cons_zero, List.set_cons_succ]
                simp only [e112, e114, e115]
                go_wp2
                exact ⟨rfl, rfl, Below.refl _ _, hI⟩
              · intro vals xw n hn hI hF
                simp only [saysD, List.getD_cons_zero, List.getD_cons_succ, and_true] at hF
                obtain ⟨e112, e116⟩ := hF
                dsimp only [owes, bare]
                refine ⟨fun _ => ?_, fun h => absurd e112 h⟩
                simp only [putsD, Act.put, List.setIfInBounds_toArray, List.set_cons_zero, List.set_cons_succ]
                simp only [e112, e116]
                have c90 : xw.cell? _ = _ := kk2 ⟨xw, hI⟩
                go_wp2
                exact ⟨rfl, rfl, Below.refl _ _, hI⟩
              · intro vals xw n hn hI hF
                simp only [saysD, List.getD_cons_zero, List.getD_cons_succ, and_true] at hF
                obtain ⟨e112, e117⟩ := hF
                dsimp only [owes, bare]
                refine ⟨fun _ => ?_, fun h => absurd e112 h⟩
                simp only [putsD, Act.put, List.setIfInBounds_toArray, List.set_cons_zero, List.set_cons_succ]
                simp only [e112, e117]
                have hln := litAt_new xw [z] #[.int .i64 z] 3 rfl (Nat.zero_le _)
                have hal : Below xw.heap.size xw (xw.alloc (.cells #[.int .i64 z] 3)) := (Below.refl _ _).alloc (Nat.le_refl _) _
                go_wp2
                exact ⟨rfl, ⟨xw.heap.size, rfl, hln⟩, hal, bthen hI hal⟩
              · intro vals xw n hn hI hF
                simp only [saysD, List.getD_cons_zero, List.getD_cons_succ, and_true] at hF
                obtain ⟨e112, e113, b8, e118, hl8⟩ := hF
                dsimp only [owes, bare]
                refine ⟨fun _ => ?_, fun h => absurd e112 h⟩
                simp only [putsD, Act.put, List.setIfInBounds_toArray, List.set_cons_zero, List.set_cons_succ]
                simp only [e112, e113, e118]
                have hrd8 : Lay.int.Rd xw (some ⟨b8, 0, none⟩) [z] := hl8.2.mono fun y hy => by rw [hy.1]; exact hy.2
                have HWF := Lib.hid (wpFollows_any ⟨x.many, ds⟩ [z] A9 (some ⟨b8, 0, none⟩) c9 1 M xw (hDr.out.up hI) SD.out hrd8 (by simp) (by intro l hl; rw [List.mem_singleton.1 hl]; exact HZI.out) HMM.out (by omega) (HCUT.out z HZ.out))
                clear hl8 hrd8
                go_wp2_with fail
                refine HWF.out.mono ?_
                rintro e wx ⟨rfl, hb9⟩
                go_wp2
                exact ⟨rfl, rfl, hb9, bthen hI hb9⟩
              · intro vals xw n hn hI hF
                simp only [saysD, List.getD_cons_zero, List.getD_cons_succ, and_true] at hF
                obtain ⟨e112, e119⟩ := hF
                dsimp only [owes, bare]
                refine ⟨fun _ => ?_, fun h => absurd e112 h⟩
                simp only [putsD, Act.put, List.setIfInBounds_toArray, List.set_cons_zero, List.set_cons_succ]
                simp only [e112, e119]
                go_wp2
                exact ⟨rfl, rfl, Below.refl _ _, hI⟩
              · intro vals xw n hn hI hF
                simp only [saysD, List.getD_cons_zero, List.getD_cons_succ, and_true] at hF
                obtain ⟨e112, e120⟩ := hF
                dsimp only [owes, bare]
                simp only [putsD, Act.put, List.setIfInBounds_toArray, List.set_cons_zero, List.set_cons_succ]
                simp only [e112, e120]
                go_wp2
                exact ⟨rfl, rfl, Below.refl _ _, hI⟩
              · intro vals xw n hn hI hF
                rw [show List.range _ = [0, 1, 2, 3, 4, 5, 6, 7, 8, 9, 10, 11, 12, 13, 14, 15, 16, 17, 18, 19, 20, 21, 22, 23, 24] from rfl] at hF
                simp only [says, List.getD_cons_zero, List.getD_cons_succ, and_true] at hF
                have e121 := hF.2.2.2.2.2.2.2.2.2.2.2.2.2.2.2.2.2.2.2.2.2.2.2.2
                have HB9 := Lib.hid (HBR.out.trans (hI.mono HBR.out.size))
                simp only [putsD, Act.put, List.setIfInBounds_toArray, List.set_cons_zero, List.set_cons_succ]
                simp only [e121]
                clear hF e121 kk0 kk1 kk2
                go_wp2
                go_roundw
                case rel => exact ⟨j + 1, by omega, by go_num, HB9.out⟩
                case measure => simp [intOf]; omega
          · skip
            have hje : j = r9.1.length := by omega
            subst hje
            have hb := bthen hb hbr
            have hx := hx.up hbr
            have hp := hp.up hbr
            have BC := Lib.hid ((hbr.block _ (lt_of_block BC.out)).trans BC.out)
            have R2 := R2.up hbr
            have R3 := R3.up hbr
            have hD := hD.up hbr
            have BD := Lib.hid ((hbr.block _ (lt_of_block BD.out)).trans BD.out)
            clear hbr
            have kBD_0 : wr.cell? ⟨iBD, 0, none⟩ = some (.int .i64 x.many) := (cell_of_block BD.out 0).1
            have kBD_1 : wr.cell? ⟨iBD, 1, none⟩ = some (.slice A9 ds.length c9) := (cell_of_block BD.out 1).1
            go_wp2_with fail
            clear kBD_0 kBD_1
            refine (cnfLeast_any ⟨x.many, ds⟩ A9 c9 _ hD SD.out).mono ?_
            rintro e u10 ⟨hb9, hres⟩
            have hb := bthen hb hb9
            have hx := hx.up hb9
            have hp := hp.up hb9
            have BC := Lib.hid ((hb9.block _ (lt_of_block BC.out)).trans BC.out)
            have R2 := R2.up hb9
            have R3 := R3.up hb9
            have hD := hD.up hb9
            have BD := Lib.hid ((hb9.block _ (lt_of_block BD.out)).trans BD.out)
            clear hb9
            rcases hres with ⟨A5, vs5, c5, rfl, hhas⟩ | ⟨rfl, _⟩
            · have hcl := (HS1.out vs5 (by rw [← HDD.out]; exact hhas)).2
              clear hhas
              rw [hcl]
              go_wp2
              go_ret
              exact ⟨rfl, hb⟩
            cases r9.2
            · skip
              go_wp2
              go_ret
              exact ⟨rfl, hb⟩
            · skip
              go_wp2
              go_ret
              exact ⟨rfl, hb⟩

set_option maxRecDepth 100000 in
theorem fnUnit_lifted (os : Os) (started : os.Started) (H : Type) (enc : TypeId × Value → H) :
    ReturnsInHanded {} Try.checked os 7 .any (Rows.fnUnitSpec.pre6 enc Try.prog Try.f7 Rows.fnUnitRow.domain false) (Rows.fnUnitSpec.post enc Try.prog Try.f7 false true false false) := by
  refine returnsInHanded_of_change (C := Try.checked) (by kernel_rfl) started (by kernel_rfl) Try.func7
    (ChangeSpec.witness6 (enc := enc) (C := Try.checked) false ⟨#[], #[.slice none 0 0], []⟩ 16 (by kernel_rfl) (by kernel_rfl) (by kernel_rfl) (by kernel_rfl)) ?_
  intro W base args ds gs before hval0 hW hcnd _
  have hval : ∀ (j : Nat) t v, Try.f7.params[j]? = some t → args[j]? = some v → Value.okWide Try.prog W .any base t v := hval0
  have hW' := hW
  obtain ⟨p, q, hA0, hV, rfl, hfz, hnd⟩ := hW
  have hA : DataW.TrodAll enc Try.prog W 0 (fun _ => true) true Try.f7.params.toList args.toList ds p := hA0
  rw [Try.params7] at hA hval
  obtain ⟨v0, vs0, d0, ds0, p0, q0, hargs, rfl, rfl, h0, r0⟩ := trodAll_cons hA
  obtain ⟨rfl, rfl, rfl⟩ := trodAll_nil r0
  obtain rfl : args = #[v0] := by cases args; simp_all
  obtain ⟨rfl, rfl⟩ := trodVars_none hV
  have k0 := h0
  have lt0 : ∀ x ∈ p0, x.block < W.heap.size := by obtain ⟨m, hm⟩ := k0; exact DataW.trod_lt m _ _ _ hm
  obtain ⟨A0, c0, x0, rfl, hc0, ok0, rd0⟩ := open_arg Try.underlying34 opens_bytes (hval 0 34 v0 rfl rfl) h0
  clear hA0 hval0
  refine (fnUnit_walk W hc0 ok0 rd0).mono fun e W' ⟨he, bel⟩ => ?_
  subst he
  exact ⟨_, rfl, _, _, _, [], _, [], hW', trodAll_mk1 (shut_bool Try.underlying4 _), (trodAll_cons_mk (Below.trod (by kernel_rfl) (by kernel_rfl) (of_decide_eq_true (by kernel_rfl)) k0 bel lt0) trodAll_mk0), rfl, bel.frame _, fun h => by cases h⟩

/-- The given statement. -/
theorem fnUnit_holds : Rows.FnUnitSaid :=
  OpenClaim.holds_of_wide 7 Try.f7 rfl rfl rfl rfl rfl rfl rfl ⟨rfl, rfl, rfl, rfl, rfl⟩ rfl rfl rfl rfl rfl (by kernel_rfl) Try.func7 (by kernel_rfl)
    (of_decide_eq_true (by kernel_rfl)) (by unfold Func.isWrapper; first | (rw [if_pos (by decide +kernel)]; kernel_rfl) | (rw [if_neg (by decide +kernel)]; exact ⟨rfl, rfl⟩))
    (fun os started H enc _ => fnUnit_lifted os started H enc)
#print axioms fnUnit_holds
end Go.Proofs.Ytndolbplkjhooaa
