/- FnRup: reverse unit propagation is sound and monotone: for any bytes the law says true. -/
import Derived.Test.YtbljfhmcebgdaaaRows
import Derived.Test.YtbljfhmcebgdaaaJFnRup5
import Derived.Test.YtbljfhmcebgdaaaJFnRup7
import Derived.Test.YtbljfhmcebgdaaaJFnRup9
import Derived.Test.YtbljfhmcebgdaaaJFnRup21
/-! FnRup: reverse unit propagation is sound and monotone: for any bytes the law says true. -/
namespace Go.Proofs.Ytbljfhmcebgdaaa
open Go Go.RowKit Go.ChangeShapes Go.WideShapes Go.ChangeAt Go.Deep

theorem opens_bytes : Opens Try.prog 22 Lay.byte.slice (fun xs => xs.length ≤ maxLen ∧ ∀ x ∈ xs, True) := Opens.slice Try.underlying22 (by kernel_rfl) (by decide) (Opens.byte Try.underlying5)
theorem implRupOk_u (x : C) (cl : List Int) (A B : Option Addr) (a d : Nat) (w : World) (h : Lay.int.slice.Rd w A x.list) (hxa : x.list.length ≤ a) (hc : Lay.int.Rd w B cl) (sx : smCnf x) (hl : cl.length ≤ 1048576) (hi : i64s cl) :
    Calls Try.prog 10 #[.agg #[.int .i64 x.many, .slice A x.list.length a], .slice B cl.length d] w (RetB w (rupOk x cl)) :=
  rupOkP_any x cl A B a d _ _ w h (fun _ h => h) hxa sx.1 sx.2.1 sx.ints hc (fun _ h => h) hl hi
theorem specRupOk_u (x : C) (cl : List Int) (A B : Option Addr) (a d : Nat) (w : World) (h : Lay.int.slice.Rd w A x.list) (hc : Lay.int.Rd w B cl) (sx : smCnf x) (hl : cl.length ≤ 1048576) :
    Calls Try.prog 11 #[.agg #[.int .i64 x.many, .slice A x.list.length a], .slice B cl.length d] w (RetB w (rupOk x cl)) :=
  specRupOk_any A B a d x cl _ _ w h (fun _ h => h) hc (fun _ h => h) sx.short hl
theorem longP_int {m : Int} {cl : List Int} (h : ∀ l ∈ cl, okInt l) (hm : okInt (-m)) : i64s (longP m false cl) := by
  have key : ∀ (cl : List Int), (∀ l ∈ cl, okInt l) → ∀ l ∈ longP m false cl, okInt l := by
    intro cl
    induction cl with
    | nil => intro _ l hl; rw [List.mem_singleton.1 hl]; exact hm
    | cons y ys ih =>
      intro hy l hl
      simp only [longP] at hl
      split at hl
      · rw [longP_true] at hl
        rcases List.mem_append.1 hl with hl | hl
        · split at hl
          · rw [List.mem_singleton.1 hl]; exact hm
          · cases hl
        · exact hy l hl
      · rcases List.mem_cons.1 hl with rfl | hl
        · exact hy _ (List.mem_cons_self ..)
        · exact ih (fun z hz => hy z (List.mem_cons_of_mem _ hz)) l hl
  exact fun l hl => key cl h l hl
theorem longP_drop {m : Int} {cl : List Int} {k : Nat} (h : k < cl.length) : longP m false (cl.drop k) = if m ≤ (cl[k].natAbs : Int) then (if m < (cl[k].natAbs : Int) then [-m] else []) ++ cl[k] :: longP m true (cl.drop (k + 1)) else cl[k] :: longP m false (cl.drop (k + 1)) := by
  rw [List.drop_eq_getElem_cons h]; rfl
theorem longP_dropT {m : Int} {cl : List Int} {k : Nat} (h : k < cl.length) : longP m true (cl.drop k) = cl[k] :: longP m true (cl.drop (k + 1)) := by
  rw [List.drop_eq_getElem_cons h]; rfl

set_option maxRecDepth 100000 in
set_option maxHeartbeats 4000000 in
theorem fnRup_walk (W : World) {A0 : Option Addr} {c0 : Nat} {x0 : List UInt8} {A1 : Option Addr} {c1 : Nat} {x1 : List UInt8} (hc0 : x0.length ≤ c0) (hok0 : x0.length ≤ maxLen ∧ ∀ z ∈ x0, True) (h0 : Lay.byte.Rd W A0 x0) (hc1 : x1.length ≤ c1) (hok1 : x1.length ≤ maxLen ∧ ∀ z ∈ x1, True) (h1 : Lay.byte.Rd W A1 x1) :
    Calls Try.prog 3 #[.slice A0 x0.length c0, .slice A1 x1.length c1] W (LawC W) := by
  have hm0 : x0.length ≤ 9223372036854775807 := by have := hok0.1; unfold maxLen at this; omega
  clear hok0
  have hm1 : x1.length ≤ 9223372036854775807 := by have := hok1.1; unfold maxLen at this; omega
  clear hok1
  by_cases hbig0 : (1048576 : Int) < x0.length
  · go_enter Try.func3, Try.ntmps3
    go_wp2
    go_ret
    exact ⟨rfl, Below.refl _ _⟩
  by_cases hbig1 : (1048576 : Int) < x1.length
  · go_enter Try.func3, Try.ntmps3
    go_wp2
    go_ret
    exact ⟨rfl, Below.refl _ _⟩
  have hb : Below W.heap.size W W := Below.refl _ _
  go_enter Try.func3, Try.ntmps3
  clear h1
  have hbig : x1.length ≤ 1048576 := by omega
  go_wp2_with fail
  refine (drawRupOk_any A0 c0 x0 _ h0 hc0 hm0).mono ?_
  rintro e u1 ⟨x, A, a, B, d, cl, rfl, hxa, hcd, hx, hcl, hmx, hsx, hl7, hok, hb9⟩
  have hb := bthen hb hb9
  clear hb9
  clear h0
  have SX : Hid (smCnf x) := Lib.hid ⟨hmx, hsx.sm (by omega)⟩
  have HSX := Lib.hid hsx
  have HOK := Lib.hid hok
  have hmx2 := hmx
  unfold okInt at hmx2
  clear hmx hsx hok
  generalize hr9 : rupOk x cl = ok at *
  have HR9 := Lib.hid hr9
  clear hr9
  have hal : Below u1.heap.size u1 (u1.alloc (.cells #[.int .i64 x.many, .slice A x.list.length a] 25)) := (Below.refl _ _).alloc (Nat.le_refl _) _
  have B9 : (u1.alloc (.cells #[.int .i64 x.many, .slice A x.list.length a] 25)).heap[u1.heap.size]? = some (.cells #[.int .i64 x.many, .slice A x.list.length a] 25 (0, 0)) := heap_alloc_new _ _
  have hb := bthen hb hal
  have hx := hx.up hal
  have hcl := hcl.up hal
  clear hal
  have BC := Lib.hid B9
  clear B9
  go_wp2_with fail
  generalize u1.alloc (.cells #[.int .i64 x.many, .slice A x.list.length a] 25) = u2 at *
  generalize u1.heap.size = iBC at *
  refine (implRupOk_u x cl A B a d _ hx hxa hcl SX.out (by omega) HOK.out).mono ?_
  rw [HR9.out]
  rintro e u3 ⟨rfl, hb9⟩
  have hb := bthen hb hb9
  have hx := hx.up hb9
  have hcl := hcl.up hb9
  have BC := Lib.hid ((hb9.block _ (lt_of_block BC.out)).trans BC.out)
  clear hb9
  have kBC_0 : u3.cell? ⟨iBC, 0, none⟩ = some (.int .i64 x.many) := (cell_of_block BC.out 0).1
  have kBC_1 : u3.cell? ⟨iBC, 1, none⟩ = some (.slice A x.list.length a) := (cell_of_block BC.out 1).1
  go_wp2_with fail
  clear kBC_0 kBC_1
  refine (specRupOk_u x cl A B a d _ hx hcl SX.out (by omega)).mono ?_
  rw [HR9.out]
  rintro e u4 ⟨rfl, hb9⟩
  have hb := bthen hb hb9
  have hx := hx.up hb9
  have hcl := hcl.up hb9
  have BC := Lib.hid ((hb9.block _ (lt_of_block BC.out)).trans BC.out)
  clear hb9
  have q2 : (ok != ok) = false := by simp
  have q3 : (ok == ok) = true := by simp
  cases ok
  · skip
    have kBC_0 : u4.cell? ⟨iBC, 0, none⟩ = some (.int .i64 x.many) := (cell_of_block BC.out 0).1
    have kBC_1 : u4.cell? ⟨iBC, 1, none⟩ = some (.slice A x.list.length a) := (cell_of_block BC.out 1).1
    go_wp2_with fail
    clear kBC_0 kBC_1
    refine (specRupOk_u x cl A B a d _ hx hcl SX.out (by omega)).mono ?_
    rw [HR9.out]
    rintro e u5 ⟨rfl, hb9⟩
    have hb := bthen hb hb9
    have hx := hx.up hb9
    have hcl := hcl.up hb9
    have BC := Lib.hid ((hb9.block _ (lt_of_block BC.out)).trans BC.out)
    clear hb9
    go_wp2
    go_ret
    exact ⟨rfl, hb⟩
  by_cases h7 : 7 < x.many
  · skip
    have kBC_0 : u4.cell? ⟨iBC, 0, none⟩ = some (.int .i64 x.many) := (cell_of_block BC.out 0).1
    have kBC_1 : u4.cell? ⟨iBC, 1, none⟩ = some (.slice A x.list.length a) := (cell_of_block BC.out 1).1
    go_wp2_with fail
    clear kBC_0 kBC_1
    refine (specRupOk_u x cl A B a d _ hx hcl SX.out (by omega)).mono ?_
    rw [HR9.out]
    rintro e u6 ⟨rfl, hb9⟩
    have hb := bthen hb hb9
    have hx := hx.up hb9
    have hcl := hcl.up hb9
    have BC := Lib.hid ((hb9.block _ (lt_of_block BC.out)).trans BC.out)
    clear hb9
    go_wp2
    go_ret
    exact ⟨rfl, hb⟩
  by_cases h1 : x.many < 1
  · skip
    have kBC_0 : u4.cell? ⟨iBC, 0, none⟩ = some (.int .i64 x.many) := (cell_of_block BC.out 0).1
    have kBC_1 : u4.cell? ⟨iBC, 1, none⟩ = some (.slice A x.list.length a) := (cell_of_block BC.out 1).1
    go_wp2_with fail
    clear kBC_0 kBC_1
    refine (specRupOk_u x cl A B a d _ hx hcl SX.out (by omega)).mono ?_
    rw [HR9.out]
    rintro e u7 ⟨rfl, hb9⟩
    have hb := bthen hb hb9
    have hx := hx.up hb9
    have hcl := hcl.up hb9
    have BC := Lib.hid ((hb9.block _ (lt_of_block BC.out)).trans BC.out)
    clear hb9
    go_wp2
    go_ret
    exact ⟨rfl, hb⟩
  obtain ⟨M, hM⟩ := Int.eq_ofNat_of_zero_le (show 0 ≤ x.many by omega)
  have hM7 : M ≤ 7 := by omega
  have hM1 : 1 ≤ M := by omega
  have HMM := Lib.hid hM
  obtain ⟨t, ht, ht1⟩ : ∃ t : Nat, (x1.length : Int).tmod x.many = (t : Int) ∧ t < M := ⟨x1.length % M, by rw [hM]; exact (Int.ofNat_tmod x1.length M).symm, Nat.mod_lt _ (by omega)⟩
  have HF1 := Lib.hid (rup_follows HR9.out)
  have HF2 : Hid (rupOk ⟨x.many, x.list ++ [[((t : Int) + 1)]]⟩ cl = true) := Lib.hid (rup_extra HR9.out (by have := HSX.out.1; omega) (by omega) (by omega))
  have HF3 : Hid (rupOk x (longP ((t : Int) + 1) false cl) = true) := Lib.hid (rup_long HR9.out (by omega) (by omega))
  have HT := Lib.hid ht
  have HRG := Lib.hid (clOk_rng (rupOk_iff.1 HR9.out).2.1)
  clear hM ht q2 q3
  have cc0 : u4.cell? ⟨iBC, 0, none⟩ = some (.int .i64 x.many) := (cell_of_block BC.out 0).1
  have HX0 := Lib.hid hx
  have HC0 := Lib.hid hcl
  have HBU := Lib.hid hb
  have BC0 := BC
  obtain ⟨i0, hi0, hz0, hz1, hz2⟩ := info_parts toIntSS_info
  have hA9 := sl_none hx
  have kk0 := Later.cell (show u4.cell? ⟨iBC, 0, none⟩ = some (.int .i64 x.many) from (cell_of_block BC.out 0).1)
  have kk1 := Later.cell (show u4.cell? ⟨iBC, 1, none⟩ = some (.slice A x.list.length a) from (cell_of_block BC.out 1).1)
  obtain ⟨rcs, hsrc, h1c, hcl9, hrows⟩ := src_rows hx
  have HSRC := Lib.hid hsrc
  have HROWS := Lib.hid hrows
  have H1C := Lib.hid h1c
  clear hsrc hrows h1c
  go_wp2
  refine wp_region_rel [[], [(0, 54)], [], [], [(3, 57)], [(2, 56), (4, 58)], [(1, 55), (5, 59)], [], [(6, 60), (7, 8)]]
    (RC u4.heap.size)
    (fun _ yy => Below u4.heap.size u4 yy)
    [fun vs9 _ => vs9 0 = (.pointer (some ⟨iBC, 0, none⟩)),
    fun vs9 _ => vs9 1 = (.int .i64 x.many),
    fun vs9 y9 => (fun v yy => ∃ b, v = .slice (some ⟨b, 0, none⟩) 0 0 ∧ u4.heap.size ≤ b ∧ yy.heap[b]? = some (.cells #[] 26 (0, 0))) (vs9 2) y9,
    fun vs9 _ => vs9 3 = (.pointer (some ⟨iBC, 1, none⟩)),
    fun vs9 _ => vs9 4 = (.slice A x.list.length a),
    fun vs9 y9 => (fun v yy => ∃ A9 c9, v = .slice A9 x.list.length c9 ∧ OwnC u4.heap.size yy (.slice A9 x.list.length c9) x.list) (vs9 5) y9,
    fun vs9 y9 => (fun v yy => ∃ A9 c9, v = .agg #[.int .i64 x.many, .slice A9 x.list.length c9] ∧ OwnC u4.heap.size yy (.slice A9 x.list.length c9) x.list) (vs9 6) y9,
    fun vs9 y9 => (fun v yy => ∃ b, v = .pointer (some ⟨b, 0, none⟩) ∧ u4.heap.size ≤ b ∧ ∃ z0 z1, yy.heap[b]? = some (.cells #[z0, z1] 25 (0, 0))) (vs9 7) y9,
    fun vs yy => ∃ b A9 c9, vs 7 = .pointer (some ⟨b, 0, none⟩) ∧ u4.heap.size ≤ b ∧ yy.heap[b]? = some (.cells #[.int .i64 x.many, .slice A9 x.list.length c9] 25 (0, 0)) ∧ OwnC u4.heap.size yy (.slice A9 x.list.length c9) x.list]
    [(0, 54), (1, 55), (2, 56), (3, 57), (4, 58), (5, 59), (6, 60), (7, 8)] (by kernel_rfl) (by kernel_rfl) (by kernel_rfl) (by kernel_rfl)
    (fun _ => RC.refl _ _)
    ⟨.inr (fun _ _ _ h _ => h),
    .inr (fun _ _ _ h _ => h),
    .inr (fun vs9 x9 y9 h9 hR9 => (show ∀ v9 y8 y7, (fun v yy => ∃ b, v = .slice (some ⟨b, 0, none⟩) 0 0 ∧ u4.heap.size ≤ b ∧ yy.heap[b]? = some (.cells #[] 26 (0, 0))) v9 y8 → (RC u4.heap.size) y8 y7 → (fun v yy => ∃ b, v = .slice (some ⟨b, 0, none⟩) 0 0 ∧ u4.heap.size ≤ b ∧ yy.heap[b]? = some (.cells #[] 26 (0, 0))) v9 y7 from fun _ _ _ ⟨b, h1, h2, h3⟩ hR => ⟨b, h1, h2, hR.same h3 tne2⟩) (vs9 2) x9 y9 h9 hR9),
    .inr (fun _ _ _ h _ => h),
    .inr (fun _ _ _ h _ => h),
    .inr (fun vs9 x9 y9 h9 hR9 => (show ∀ v9 y8 y7, (fun v yy => ∃ A9 c9, v = .slice A9 x.list.length c9 ∧ OwnC u4.heap.size yy (.slice A9 x.list.length c9) x.list) v9 y8 → (RC u4.heap.size) y8 y7 → (fun v yy => ∃ A9 c9, v = .slice A9 x.list.length c9 ∧ OwnC u4.heap.size yy (.slice A9 x.list.length c9) x.list) v9 y7 from fun _ _ _ ⟨A9, c9, h1, h2⟩ hR => ⟨A9, c9, h1, h2.rc hR⟩) (vs9 5) x9 y9 h9 hR9),
    .inr (fun vs9 x9 y9 h9 hR9 => (show ∀ v9 y8 y7, (fun v yy => ∃ A9 c9, v = .agg #[.int .i64 x.many, .slice A9 x.list.length c9] ∧ OwnC u4.heap.size yy (.slice A9 x.list.length c9) x.list) v9 y8 → (RC u4.heap.size) y8 y7 → (fun v yy => ∃ A9 c9, v = .agg #[.int .i64 x.many, .slice A9 x.list.length c9] ∧ OwnC u4.heap.size yy (.slice A9 x.list.length c9) x.list) v9 y7 from fun _ _ _ ⟨A9, c9, h1, h2⟩ hR => ⟨A9, c9, h1, h2.rc hR⟩) (vs9 6) x9 y9 h9 hR9),
    .inr (fun vs9 x9 y9 h9 hR9 => (show ∀ v9 y8 y7, (fun v yy => ∃ b, v = .pointer (some ⟨b, 0, none⟩) ∧ u4.heap.size ≤ b ∧ ∃ z0 z1, yy.heap[b]? = some (.cells #[z0, z1] 25 (0, 0))) v9 y8 → (RC u4.heap.size) y8 y7 → (fun v yy => ∃ b, v = .pointer (some ⟨b, 0, none⟩) ∧ u4.heap.size ≤ b ∧ ∃ z0 z1, yy.heap[b]? = some (.cells #[z0, z1] 25 (0, 0))) v9 y7 from fun _ _ _ ⟨b, h1, h2, h3⟩ hR => ⟨b, h1, h2, hR.two h3⟩) (vs9 7) x9 y9 h9 hR9),
    .inl (by kernel_rfl), trivial⟩ ⟨fun vs vs' x h _ hv => (by dsimp only at hv ⊢; first | (rw [← h]; exact hv) | exact hv),
    fun vs vs' x h _ hv => (by dsimp only at hv ⊢; first | (rw [← h]; exact hv) | exact hv),
    fun vs vs' x h _ hv => (by dsimp only at hv ⊢; first | (rw [← h]; exact hv) | exact hv),
    fun vs vs' x h _ hv => (by dsimp only at hv ⊢; first | (rw [← h]; exact hv) | exact hv),
    fun vs vs' x h _ hv => (by dsimp only at hv ⊢; first | (rw [← h]; exact hv) | exact hv),
    fun vs vs' x h _ hv => (by dsimp only at hv ⊢; first | (rw [← h]; exact hv) | exact hv),
    fun vs vs' x h _ hv => (by dsimp only at hv ⊢; first | (rw [← h]; exact hv) | exact hv),
    fun vs vs' x h _ hv => (by dsimp only at hv ⊢; first | (rw [← h]; exact hv) | exact hv),
    fun vs vs' yy _ h ⟨b, A9, c9, h1, h2⟩ => ⟨b, A9, c9, by rw [← h 7 (by simp [idxs])]; exact h1, h2⟩, trivial⟩ (below_drewN (Below.refl _ _) 1) ⟨?_, ?_, ?_, ?_, ?_, ?_, ?_, ?_, ?_, trivial⟩ ?_
  · intro vals xw n hn hI hF
    dsimp only [owes, bare]
    simp only [putsD, Act.put, List.setIfInBounds_toArray, List.set_cons_zero, List.set_cons_succ]
    go_wp2
    exact ⟨rfl, rfl, RC.refl _ _, hI⟩
  · intro vals xw n hn hI hF
    simp only [saysD, List.getD_cons_zero, List.getD_cons_succ, and_true] at hF
    dsimp only [owes, bare]
    simp only [putsD, Act.put, List.setIfInBounds_toArray, List.set_cons_zero, List.set_cons_succ]
    simp only [hF]
    have e9 : xw.cell? _ = _ := kk0 ⟨xw, hI⟩
    go_wp2
    exact ⟨rfl, rfl, RC.refl _ _, hI⟩
  · intro vals xw n hn hI hF
    dsimp only [owes, bare]
    simp only [putsD, Act.put, List.setIfInBounds_toArray, List.set_cons_zero, List.set_cons_succ]
    have hs9 := hI.size
    have hn9 := heap_alloc_new xw (.cells #[] 26)
    have hal : Below xw.heap.size xw (xw.alloc (.cells #[] 26)) := (Below.refl _ _).alloc (Nat.le_refl _) _
    go_wp2
    exact ⟨rfl, ⟨_, rfl, hs9, hn9⟩, RC.of hal, bthen hI hal⟩
  · intro vals xw n hn hI hF
    dsimp only [owes, bare]
    simp only [putsD, Act.put, List.setIfInBounds_toArray, List.set_cons_zero, List.set_cons_succ]
    go_wp2
    exact ⟨rfl, rfl, RC.refl _ _, hI⟩
  · intro vals xw n hn hI hF
    simp only [saysD, List.getD_cons_zero, List.getD_cons_succ, and_true] at hF
    dsimp only [owes, bare]
    simp only [putsD, Act.put, List.setIfInBounds_toArray, List.set_cons_zero, List.set_cons_succ]
    simp only [hF]
    have e9 : xw.cell? _ = _ := kk1 ⟨xw, hI⟩
    go_wp2
    exact ⟨rfl, rfl, RC.refl _ _, hI⟩
  · intro vals xw n hn hI hF
    simp only [saysD, List.getD_cons_zero, List.getD_cons_succ, and_true] at hF
    obtain ⟨⟨b9, e70, hb9, hh9⟩, e72⟩ := hF
    dsimp only [owes, bare]
    simp only [putsD, Act.put, List.setIfInBounds_toArray, List.set_cons_zero, List.set_cons_succ]
    simp only [e70, e72]
    have hs9 := hI.size
    have hsrc9 : Src xw 1 A x.list.length rcs := ⟨HSRC.out.1, fun h9 => by obtain ⟨ad, e, hcell⟩ := HSRC.out.2 h9; exact ⟨ad, e, fun j z hz => (hI.cell (World.block_lt_of_cell? _ _ (hcell j z hz))).trans (hcell j z hz)⟩⟩
    go_wp2_with (at_builtin; refine wpList_append_empty (by rfl) (.tmp 56) (.tmp 58) _ (by rfl) u4.heap.size 26 i0 _ 1 24 Try.underlying23 hi0 hz0 hz1 hz2 (by rfl) (by omega) b9 (by rfl) hh9 hb9 A x.list.length a rcs (by rfl) hsrc9 H1C.out (by unfold maxLen; have := HSX.out.1; omega) (by have := HSX.out.1; omega) hs9 hA9 ?_; intro A8 c8 w8 hown8 hb8)
    have hbw := bthen hI hb8
    have HOC : Hid (OwnC u4.heap.size w8 (.slice A8 x.list.length c8) x.list) := Lib.hid (ownL_of_src (S := fun b => u4.heap.size ≤ b) hown8 rfl hbw HROWS.out (fun b hb => ⟨hb, fun e => by have : u4.heap.size ≤ b := e; omega⟩) (Nat.le_refl _))
    have HRC : Hid (RC u4.heap.size xw w8) := Lib.hid (RC.of hb8)
    clear hown8 hb8 hsrc9 hh9
    go_wp2
    exact ⟨rfl, ⟨A8, c8, rfl, HOC.out⟩, HRC.out, hbw⟩
  · intro vals xw n hn hI hF
    simp only [saysD, List.getD_cons_zero, List.getD_cons_succ, and_true] at hF
    obtain ⟨e69, A9, c9, e73, ho9⟩ := hF
    dsimp only [owes, bare]
    simp only [putsD, Act.put, List.setIfInBounds_toArray, List.set_cons_zero, List.set_cons_succ]
    simp only [e69, e73]
    go_wp2
    exact ⟨rfl, ⟨A9, c9, rfl, ho9⟩, RC.refl _ _, hI⟩
  · intro vals xw n hn hI hF
    dsimp only [owes, bare]
    simp only [putsD, Act.put, List.setIfInBounds_toArray, List.set_cons_zero, List.set_cons_succ]
    have hs9 := hI.size
    have hn9 := heap_alloc_new xw (.cells #[.int .i64 0, .slice none 0 0] 25)
    have hal : Below xw.heap.size xw (xw.alloc (.cells #[.int .i64 0, .slice none 0 0] 25)) := (Below.refl _ _).alloc (Nat.le_refl _) _
    go_wp2
    exact ⟨rfl, ⟨_, rfl, hs9, _, _, hn9⟩, RC.of hal, bthen hI hal⟩
  · intro vals xw n hn hI hF
    simp only [saysD, List.getD_cons_zero, List.getD_cons_succ, and_true] at hF
    obtain ⟨⟨A9, c9, e74, ho9⟩, b9, e9, hb9, z0, z1, hk⟩ := hF
    dsimp only [owes, bare]
    simp only [putsD, Act.put, List.setIfInBounds_toArray, List.set_cons_zero, List.set_cons_succ]
    simp only [e74, e9]
    have v0 : xw.cell? ⟨b9, 0, none⟩ = some z0 := (cell_of_block hk 0).1
    have v1 : xw.cell? ⟨b9, 1, none⟩ = some z1 := (cell_of_block hk 1).1
    have f0 : xw.frozen? ⟨b9, 0, none⟩ = false := (cell_of_block hk 0).2
    have f1 : xw.frozen? ⟨b9, 1, none⟩ = false := (cell_of_block hk 1).2
    have HH := Lib.hid (heap_set_same _ b9 1 (.slice A9 x.list.length c9) _ _ (heap_set_same xw b9 0 (.int .i64 x.many) _ _ hk))
    have HRC := Lib.hid (rc_set (y0 := .int .i64 x.many) (y1 := .slice A9 x.list.length c9) hk hb9)
    have HO := Lib.hid (ho9.rc HRC.out)
    have HB := Lib.hid ((hI.setCell (p := ⟨b9, 0, none⟩) hb9 (.int .i64 x.many)).setCell (p := ⟨b9, 1, none⟩) hb9 (.slice A9 x.list.length c9))
    have E9 := Lib.hid e9
    clear hk ho9 hI e9
    go_wp2
    exact ⟨rfl, ⟨b9, A9, c9, E9.out, hb9, HH.out, HO.out⟩, HRC.out, HB.out⟩
  · intro vals xw n hn hI hF
    rw [show List.range _ = [0, 1, 2, 3, 4, 5, 6, 7, 8] from rfl] at hF
    simp only [says, List.getD_cons_zero, List.getD_cons_succ, and_true] at hF
    obtain ⟨iBD, ABD, cBD, e9, hiBD, hB9, hO9⟩ := hF.2.2.2.2.2.2.2.2
    simp only [putsD, Act.put, List.setIfInBounds_toArray, List.set_cons_zero, List.set_cons_succ]
    simp only [e9]
    have BD := Lib.hid hB9
    have OBD := Lib.hid hO9
    have hIBD := hI
    clear hF hB9 hO9 e9 kk0 kk1 hcl9 hA9 hI hi0 hz0 hz1 hz2
    clear cc0
    have hbdlt := lt_of_block BD.out
    have hIB := hIBD
    have hx := hx.up hIBD
    have hcl := hcl.up hIBD
    have BC := Lib.hid ((hIBD.block _ (lt_of_block BC.out)).trans BC.out)
    have hb := bthen hb hIBD
    obtain ⟨i0, hi0, hz0, hz1, hz2⟩ := info_parts toIntSS_info
    have OD : OwnD iBD u4.heap.size xw (.slice ABD x.list.length cBD) x.list := OBD.out.monoQ (fun b hb e => hb (by rw [show b = iBD from e]; exact hiBD))
    have hal : Below xw.heap.size xw (xw.alloc (.cells #[.int .i64 ((t : Int) + 1)] 3)) := (Below.refl _ _).alloc (Nat.le_refl _) _
    have hown3 := OD.up (Stay.notIn _) hal
    have hel : Lay.int.slice.R (xw.alloc (.cells #[.int .i64 ((t : Int) + 1)] 3)) (fun b => b < (xw.alloc (.cells #[.int .i64 ((t : Int) + 1)] 3)).heap.size ∧ (Value.slice ABD x.list.length cBD).ownBlock ≠ some b ∧ ¬ b = iBD) [((t : Int) + 1)] [.slice (some ⟨xw.heap.size, 0, none⟩) 1 1] :=
      ⟨some ⟨xw.heap.size, 0, none⟩, 1, rfl, by simp, (lit_sl (S := fun b => b < xw.heap.size) xw [((t : Int) + 1)] _ 3 rfl (by simp)).mono fun b hb => ⟨hb.1, fun e => hb.2 (OD.lt b e).2, fun e => hb.2 (by rw [e]; exact hbdlt)⟩⟩
    have HBD2 := Lib.hid ((hal.block _ hbdlt).trans BD.out)
    have HAL := Lib.hid hal
    obtain ⟨ps, hps⟩ : ∃ ps, ps = x.list ++ [[((t : Int) + 1)]] := ⟨_, rfl⟩
    have HPS := Lib.hid hps
    have hpl : ps.length ≤ 32 := by rw [hps, List.length_append, List.length_singleton]; have := HSX.out.1; omega
    have hxl := HSX.out.1
    rw [← hps] at HF2
    have ht := HT.out
    have hlo9 : u4.heap.size ≤ (xw.alloc (.cells #[.int .i64 ((t : Int) + 1)] 3)).heap.size := by have := hIB.size; have := hal.size; omega
    have e1 : IntKind.i64.wrap (t : Int) = (t : Int) := IntWalk.i64_in _ (by omega)
    have e2 : (1 : Int) + (t : Int) = ((t : Int) + 1) := by omega
    have e3 : IntKind.i64.wrap (1 + (t : Int)) = ((t : Int) + 1) := (IntWalk.i64_in _ (by omega)).trans e2
    obtain ⟨b0, b0'⟩ := cell_of_block BC.out 0
    obtain ⟨d1, d1'⟩ := cell_of_block BD.out 1
    have hne0 : x.many ≠ 0 := by omega
    clear hps hal OBD
    go_wp2_with (at_builtin; refine wpList_append_row (L := Lay.int.slice) (Q := NotIn (fun b => b = iBD)) (ys := ps) (xs := x.list) (c := cBD) (A := ABD) (by rfl) (.tmp 68) (.tmp 71) (by rfl) Try.underlying23 hi0 hz0 hz1 hz2 (by rfl) (by decide) (by rfl) (by simp [Act.eval]) hown3 (Stay.notIn _) hel (fun _ h => h) (by simp [Value.oneCell']) (by omega) (by omega) hlo9 HPS.out ?_; intro A4 c4 w4 hown4 hg4 hbk4; have hne4 := hown3.ne HBD2.out (by decide); have HB4 := Lib.hid ((hg4.block _ (lt_of_block HBD2.out) (fun e => hne4 e.symm)).trans HBD2.out); obtain ⟨p1, p1'⟩ := cell_of_block HB4.out 1; have HO4 := Lib.hid hown4; have HG4 := Lib.hid hg4; clear hown4 hg4 hbk4 hne4)
    have hlt4 := hown3.lt
    have hb4 : Below u4.heap.size xw w4 := (hIB.size |> fun h9 => ((Below.refl u4.heap.size xw).trans (HAL.out.mono h9))).grown HG4.out (Nat.le_trans hIB.size HAL.out.size) (fun g e => (hlt4 g e).1)
    have hgr : Gr (fun b => b = iBD) w4 (w4.setCell ⟨iBD, 1, none⟩ (.slice A4 ps.length c4)) := (Gr.refl (fun b => b = iBD) w4).set _ _ _ (.inl (by rfl))
    have hne5 := HO4.out.ne HB4.out (by decide)
    have HO5 := Lib.hid (HO4.out.grNe hgr (fun g hg e9 => hne5 (by rw [hg, show g = iBD from e9])))
    have HB5 := Lib.hid (heap_set_same w4 iBD 1 (.slice A4 ps.length c4) _ _ HB4.out)
    have HL5 := Lib.hid (hIB.trans (hb4.setCell (p := ⟨iBD, 1, none⟩) hiBD (.slice A4 ps.length c4)))
    clear hb4 hgr hne5 hlt4 hown3 hel OD p1 p1' b0 b0' d1 d1' hlo9 HAL HBD2 HB4 HO4 HG4 e1 e2 e3 ht HT BD hIB hIBD hx hcl BC hb
    have HS45 : Hid (w4.heap.size = (w4.setCell ⟨iBD, 1, none⟩ (.slice A4 ps.length c4)).heap.size) := Lib.hid (by rw [size_setCell])
    generalize w4.setCell ⟨iBD, 1, none⟩ (.slice A4 ps.length c4) = w5 at *
    have hx := HX0.out.up HL5.out
    have hcl := HC0.out.up HL5.out
    have BC := Lib.hid ((HL5.out.block _ (lt_of_block BC0.out)).trans BC0.out)
    have BD : Hid (w5.heap[iBD]? = some (.cells #[.int .i64 x.many, .slice A4 ps.length c4] 25 (0, 0))) := Lib.hid (by simpa using HB5.out)
    have hD := HO5.out.rd
    have HDC : Hid (ps.length ≤ c4) := Lib.hid HO5.out.cap.2
    have hb := bthen HBU.out HL5.out
    have SD : Hid (smCnf ⟨x.many, ps⟩) := Lib.hid ⟨SX.out.1, by
      have : smallL 32 ps := by rw [HPS.out]; exact HSX.out.snoc (by simp) (by intro z hz; rw [List.mem_singleton.1 hz]; unfold okInt; omega)
      exact this.sm (by omega)⟩
    clear HX0 HC0 BC0 HB5 HO5 HL5 HBU hbdlt hiBD
    obtain ⟨m, hm⟩ : ∃ m : Int, m = (t : Int) + 1 := ⟨_, rfl⟩
    have hm1 : 1 ≤ m := by omega
    have hm7 : m ≤ 7 := by omega
    rw [← hm] at HF3 ⊢
    have hlit : OwnI (w5.alloc (.cells #[] 3)) w5.heap.size (.slice (some ⟨w5.heap.size, 0, none⟩) 0 0) [] := own_lit0I w5
    have hbl : Below w5.heap.size w5 (w5.alloc (.cells #[] 3)) := (Below.refl _ _).alloc (Nat.le_refl _) _
    clear hm
    go_loopw [10, 11, 12] (fun s g i wr => ∃ (k : Nat) (has : Bool) (ns : List Int) (A9 : Option Addr) (c9 : Nat), k ≤ cl.length ∧ i = .int .i64 k ∧ g = .bool has ∧ s = .slice A9 ns.length c9 ∧ Hid (longP m false cl = ns ++ longP m has (cl.drop k)) ∧ ns.length ≤ k + 1 ∧ (has = false → ns.length ≤ k) ∧ OwnI wr w5.heap.size (.slice A9 ns.length c9) ns ∧ Below w5.heap.size w5 wr) (fun _ _ i _ => cl.length - (intOf i).toNat)
    case atStart => exact ⟨0, false, [], _, 0, Nat.zero_le _, rfl, rfl, rfl, Lib.hid (by simp), by simp, fun _ => by simp, by rw [HS45.out]; exact hlit, hbl⟩
    case round =>
      obtain ⟨k, has, ns, A9, c9, hk, rfl, rfl, rfl, HP, hnl, hnl2, hown, hbr⟩ := hrel
      clear hlit hbl
      have hlo := hbr.size
      by_cases hlt : k < cl.length
      · have hk1 : (k : Int) < cl.length := by omega
        obtain ⟨ad, e, _, hc⟩ := (hcl.up hbr).at_int hlt
        have HADB : Hid (ad.block < w5.heap.size) := Lib.hid (by
          obtain ⟨ad5, e5, hf5, _⟩ := hcl.at_int hlt
          rw [e] at e5
          injection e5 with e5
          rw [e5]; exact hf5)
        have hok9 := HOK.out _ (List.getElem_mem hlt)
        have hrg9 := HRG.out _ (List.getElem_mem hlt)
        have HD := Lib.hid (longP_drop (m := m) hlt)
        have HDT := Lib.hid (longP_dropT (m := m) hlt)
        generalize cl[k] = l at *
        subst e
        by_cases hneg : l < 0
        · have e9 : IntKind.i64.wrap (-l) = -l := IntWalk.i64_in _ (by omega)
          have hna : (l.natAbs : Int) = -l := by omega
          rw [hna] at HD
          cases has
          · by_cases hge : m ≤ -l
            · have hg1 : -l ≥ m := hge
              rw [if_pos hge] at HD
              by_cases hgt : m < -l
              · have hg2 : -l > m := hgt
                rw [if_pos hgt] at HD
                obtain ⟨ps0, hps0⟩ : ∃ ps0, ps0 = ns ++ [-m] := ⟨_, rfl⟩
                obtain ⟨ps1, hps1⟩ : ∃ ps1, ps1 = ps0 ++ [l] := ⟨_, rfl⟩
                have hl0 : ps0.length = ns.length + 1 := by rw [hps0]; simp
                have HPS0 := Lib.hid hps0
                have HPS1 := Lib.hid hps1
                have hl1 : ps1.length = ps0.length + 1 := by rw [hps1]; simp
                have HL1 := Lib.hid hl1
                have HL0 := Lib.hid hl0
                clear hps1 hl1 hps0 hl0
                have HADN : Hid ((Value.slice A9 ns.length c9).ownBlock ≠ some ad.block) := Lib.hid fun e9 => by have := (hown.lt _ e9).1; have := HADB.out; omega
                go_wp2_with (at_builtin; first | (refine wpList_append_int8 (ys := ps0) (by rfl) (.tmp 99) (.tmp 102) (by rfl) (by rfl) (by rfl) hown (by omega) hlo HPS0.out ?_; intro A8 c8 w8 hown8 hg8 hbk8; have hc8 : w8.cell? (ad.add k) = some (.int .i64 l) := (World.cell?_of_block (hg8.block _ (World.block_lt_of_cell? _ _ hc) (fun e9 => HADN.out (by rw [block_of_add] at e9; exact e9.symm)))).trans hc) | (refine wpList_append_intB (b := w8.heap.size) (ys := ps1) (by rfl) (.tmp 104) (.tmp 109) (by rfl) (by rfl) (by rfl) rfl hown8 (by have := HL0.out; omega) (by have := hg8.size; omega) HPS1.out ?_; intro A7 c7 w7 hown7 hg7 hbk7; clear hc8))
                have hb8 := hbr.trans (own_at_least hown hlo hg8)
                have hb7 := hb8.trans (own_at_least hown8 hb8.size hg7)
                clear hbk7 hg7 hbk8 hg8
                go_wp2
                go_roundw
                case rel => exact ⟨k + 1, true, ps1, A7, c7, by omega, by go_num, rfl, rfl, Lib.hid (by rw [HP.out, HD.out, longP_true, HPS1.out, HPS0.out]; simp), by have := HL1.out; have := HL0.out; have := hnl2 rfl; omega, fun e => absurd e (by simp), hown7, hb7⟩
                case measure => simp [intOf]; omega
              · have hg2 : ¬ -l > m := hgt
                have hg3 : decide (-l > m) = false := decide_eq_false hg2
                rw [if_neg hgt] at HD
                obtain ⟨ps1, hps1⟩ : ∃ ps1, ps1 = ns ++ [l] := ⟨_, rfl⟩
                have HPS1 := Lib.hid hps1
                have hl1 : ps1.length = ns.length + 1 := by rw [hps1]; simp
                have HL1 := Lib.hid hl1
                clear hps1 hl1
                go_wp2_with (at_builtin; refine wpList_append_int8 (ys := ps1) (by rfl) (.tmp 104) (.tmp 109) (by rfl) (by rfl) (by rfl) hown (by omega) hlo HPS1.out ?_; intro A7 c7 w7 hown7 hg7 hbk7)
                have hb7 := hbr.trans (own_at_least hown hlo hg7)
                clear hbk7 hg7
                go_wp2
                go_roundw
                case rel => exact ⟨k + 1, true, ps1, A7, c7, by omega, by go_num, rfl, rfl, Lib.hid (by rw [HP.out, HD.out, longP_true, HPS1.out]; simp), by have := HL1.out; have := hnl2 rfl; omega, fun e => absurd e (by simp), hown7, hb7⟩
                case measure => simp [intOf]; omega
            · have hg1 : ¬ -l ≥ m := hge
              have hg3 : decide (-l ≥ m) = false := decide_eq_false hg1
              rw [if_neg hge] at HD
              obtain ⟨ps1, hps1⟩ : ∃ ps1, ps1 = ns ++ [l] := ⟨_, rfl⟩
              have HPS1 := Lib.hid hps1
              have hl1 : ps1.length = ns.length + 1 := by rw [hps1]; simp
              have HL1 := Lib.hid hl1
              clear hps1 hl1
              go_wp2_with (at_builtin; refine wpList_append_int8 (ys := ps1) (by rfl) (.tmp 104) (.tmp 109) (by rfl) (by rfl) (by rfl) hown (by omega) hlo HPS1.out ?_; intro A7 c7 w7 hown7 hg7 hbk7)
              have hb7 := hbr.trans (own_at_least hown hlo hg7)
              clear hbk7 hg7
              go_wp2
              go_roundw
              case rel => exact ⟨k + 1, false, ps1, A7, c7, by omega, by go_num, rfl, rfl, Lib.hid (by rw [HP.out, HD.out, HPS1.out]; simp), by have := HL1.out; have := hnl2 rfl; omega, fun e => (by have := HL1.out; have := hnl2 rfl; omega), hown7, hb7⟩
              case measure => simp [intOf]; omega
          · skip
            obtain ⟨ps1, hps1⟩ : ∃ ps1, ps1 = ns ++ [l] := ⟨_, rfl⟩
            have HPS1 := Lib.hid hps1
            have hl1 : ps1.length = ns.length + 1 := by rw [hps1]; simp
            have HL1 := Lib.hid hl1
            clear hps1 hl1
            go_wp2_with (at_builtin; refine wpList_append_int8 (ys := ps1) (by rfl) (.tmp 104) (.tmp 109) (by rfl) (by rfl) (by rfl) hown (by omega) hlo HPS1.out ?_; intro A7 c7 w7 hown7 hg7 hbk7)
            have hb7 := hbr.trans (own_at_least hown hlo hg7)
            clear hbk7 hg7
            go_wp2
            go_roundw
            case rel => exact ⟨k + 1, true, ps1, A7, c7, by omega, by go_num, rfl, rfl, Lib.hid (by rw [HP.out, HDT.out, HPS1.out]; simp), by have := HL1.out; omega, fun e => absurd e (by simp), hown7, hb7⟩
            case measure => simp [intOf]; omega
        · have hpos : ¬ l < 0 := hneg
          have hna : (l.natAbs : Int) = l := by omega
          rw [hna] at HD
          cases has
          · by_cases hge : m ≤ l
            · have hg1 : l ≥ m := hge
              rw [if_pos hge] at HD
              by_cases hgt : m < l
              · have hg2 : l > m := hgt
                rw [if_pos hgt] at HD
                obtain ⟨ps0, hps0⟩ : ∃ ps0, ps0 = ns ++ [-m] := ⟨_, rfl⟩
                obtain ⟨ps1, hps1⟩ : ∃ ps1, ps1 = ps0 ++ [l] := ⟨_, rfl⟩
                have hl0 : ps0.length = ns.length + 1 := by rw [hps0]; simp
                have HPS0 := Lib.hid hps0
                have HPS1 := Lib.hid hps1
                have hl1 : ps1.length = ps0.length + 1 := by rw [hps1]; simp
                have HL1 := Lib.hid hl1
                have HL0 := Lib.hid hl0
                clear hps1 hl1 hps0 hl0
                have HADN : Hid ((Value.slice A9 ns.length c9).ownBlock ≠ some ad.block) := Lib.hid fun e9 => by have := (hown.lt _ e9).1; have := HADB.out; omega
                go_wp2_with (at_builtin; first | (refine wpList_append_int8 (ys := ps0) (by rfl) (.tmp 99) (.tmp 102) (by rfl) (by rfl) (by rfl) hown (by omega) hlo HPS0.out ?_; intro A8 c8 w8 hown8 hg8 hbk8; have hc8 : w8.cell? (ad.add k) = some (.int .i64 l) := (World.cell?_of_block (hg8.block _ (World.block_lt_of_cell? _ _ hc) (fun e9 => HADN.out (by rw [block_of_add] at e9; exact e9.symm)))).trans hc) | (refine wpList_append_intB (b := w8.heap.size) (ys := ps1) (by rfl) (.tmp 104) (.tmp 109) (by rfl) (by rfl) (by rfl) rfl hown8 (by have := HL0.out; omega) (by have := hg8.size; omega) HPS1.out ?_; intro A7 c7 w7 hown7 hg7 hbk7; clear hc8))
                have hb8 := hbr.trans (own_at_least hown hlo hg8)
                have hb7 := hb8.trans (own_at_least hown8 hb8.size hg7)
                clear hbk7 hg7 hbk8 hg8
                go_wp2
                go_roundw
                case rel => exact ⟨k + 1, true, ps1, A7, c7, by omega, by go_num, rfl, rfl, Lib.hid (by rw [HP.out, HD.out, longP_true, HPS1.out, HPS0.out]; simp), by have := HL1.out; have := HL0.out; have := hnl2 rfl; omega, fun e => absurd e (by simp), hown7, hb7⟩
                case measure => simp [intOf]; omega
              · have hg2 : ¬ l > m := hgt
                have hg3 : decide (l > m) = false := decide_eq_false hg2
                rw [if_neg hgt] at HD
                obtain ⟨ps1, hps1⟩ : ∃ ps1, ps1 = ns ++ [l] := ⟨_, rfl⟩
                have HPS1 := Lib.hid hps1
                have hl1 : ps1.length = ns.length + 1 := by rw [hps1]; simp
                have HL1 := Lib.hid hl1
                clear hps1 hl1
                go_wp2_with (at_builtin; refine wpList_append_int8 (ys := ps1) (by rfl) (.tmp 104) (.tmp 109) (by rfl) (by rfl) (by rfl) hown (by omega) hlo HPS1.out ?_; intro A7 c7 w7 hown7 hg7 hbk7)
                have hb7 := hbr.trans (own_at_least hown hlo hg7)
                clear hbk7 hg7
                go_wp2
                go_roundw
                case rel => exact ⟨k + 1, true, ps1, A7, c7, by omega, by go_num, rfl, rfl, Lib.hid (by rw [HP.out, HD.out, longP_true, HPS1.out]; simp), by have := HL1.out; have := hnl2 rfl; omega, fun e => absurd e (by simp), hown7, hb7⟩
                case measure => simp [intOf]; omega
            · have hg1 : ¬ l ≥ m := hge
              have hg3 : decide (l ≥ m) = false := decide_eq_false hg1
              rw [if_neg hge] at HD
              obtain ⟨ps1, hps1⟩ : ∃ ps1, ps1 = ns ++ [l] := ⟨_, rfl⟩
              have HPS1 := Lib.hid hps1
              have hl1 : ps1.length = ns.length + 1 := by rw [hps1]; simp
              have HL1 := Lib.hid hl1
              clear hps1 hl1
              go_wp2_with (at_builtin; refine wpList_append_int8 (ys := ps1) (by rfl) (.tmp 104) (.tmp 109) (by rfl) (by rfl) (by rfl) hown (by omega) hlo HPS1.out ?_; intro A7 c7 w7 hown7 hg7 hbk7)
              have hb7 := hbr.trans (own_at_least hown hlo hg7)
              clear hbk7 hg7
              go_wp2
              go_roundw
              case rel => exact ⟨k + 1, false, ps1, A7, c7, by omega, by go_num, rfl, rfl, Lib.hid (by rw [HP.out, HD.out, HPS1.out]; simp), by have := HL1.out; have := hnl2 rfl; omega, fun e => (by have := HL1.out; have := hnl2 rfl; omega), hown7, hb7⟩
              case measure => simp [intOf]; omega
          · skip
            obtain ⟨ps1, hps1⟩ : ∃ ps1, ps1 = ns ++ [l] := ⟨_, rfl⟩
            have HPS1 := Lib.hid hps1
            have hl1 : ps1.length = ns.length + 1 := by rw [hps1]; simp
            have HL1 := Lib.hid hl1
            clear hps1 hl1
            go_wp2_with (at_builtin; refine wpList_append_int8 (ys := ps1) (by rfl) (.tmp 104) (.tmp 109) (by rfl) (by rfl) (by rfl) hown (by omega) hlo HPS1.out ?_; intro A7 c7 w7 hown7 hg7 hbk7)
            have hb7 := hbr.trans (own_at_least hown hlo hg7)
            clear hbk7 hg7
            go_wp2
            go_roundw
            case rel => exact ⟨k + 1, true, ps1, A7, c7, by omega, by go_num, rfl, rfl, Lib.hid (by rw [HP.out, HDT.out, HPS1.out]; simp), by have := HL1.out; omega, fun e => absurd e (by simp), hown7, hb7⟩
            case measure => simp [intOf]; omega
      · have hke : k = cl.length := by omega
        subst hke
        have hDc : Hid (ps.length ≤ c4) := HDC
        have HPE := HP.out
        rw [List.drop_length] at HPE
        have HPE := Lib.hid HPE
        cases has
        · obtain ⟨ls, hls⟩ : ∃ ls, ls = ns ++ [-m] := ⟨_, rfl⟩
          have HLS := Lib.hid hls
          have hll : ls.length = ns.length + 1 := by rw [hls]; simp
          have HLL : Hid (ls.length ≤ 1048576) := Lib.hid (by omega)
          have HLE : Hid (ls = longP m false cl) := Lib.hid (by rw [HPE.out, hls]; rfl)
          clear hls hll
          go_wp2_with (at_builtin; refine wpList_append_int8 (ys := ls) (by rfl) (.tmp 113) (.tmp 116) (by rfl) (by rfl) (by rfl) hown (by omega) hlo HLS.out ?_; intro A7 c7 w7 hown7 hg7 hbk7; have hb7 := hbr.trans (own_at_least hown hlo hg7); have hlr := hown7.rd; have HLI : Hid (i64s ls) := Lib.hid (by rw [HLE.out]; exact longP_int HOK.out (by unfold okInt; omega)); clear hbk7 hg7 hown hown7; have hx := hx.up hb7; have hcl := hcl.up hb7; have hD := hD.up hb7; have BC := Lib.hid ((hb7.block _ (lt_of_block BC.out)).trans BC.out); have BD := Lib.hid ((hb7.block _ (lt_of_block BD.out)).trans BD.out); have hb := bthen hb hb7; clear hb7 hbr; have k0 := (cell_of_block BC.out 0).1; have k1 := (cell_of_block BC.out 1).1)
          clear k0 k1
          refine (wpFollows_any x cl A B a d M _ hx SX.out hcl (by omega) (HOK.out) HMM.out (by omega) HF1.out).mono ?_
          rintro e v1 ⟨rfl, hb9⟩
          have hb := bthen hb hb9
          have hx := hx.up hb9
          have hcl := hcl.up hb9
          have BC := Lib.hid ((hb9.block _ (lt_of_block BC.out)).trans BC.out)
          have BD := Lib.hid ((hb9.block _ (lt_of_block BD.out)).trans BD.out)
          have hD := hD.up hb9
          have hlr := hlr.up hb9
          clear hb9
          have kBD_0 : v1.cell? ⟨iBD, 0, none⟩ = some (.int .i64 x.many) := (cell_of_block BD.out 0).1
          have kBD_1 : v1.cell? ⟨iBD, 1, none⟩ = some (.slice A4 ps.length c4) := (cell_of_block BD.out 1).1
          go_wp2_with fail
          clear kBD_0 kBD_1
          refine (implRupOk_u ⟨x.many, ps⟩ cl A4 B c4 d _ hD hDc.out hcl SD.out (by omega) HOK.out).mono ?_
          rw [HF2.out]
          rintro e u21 ⟨rfl, hb9⟩
          have hb := bthen hb hb9
          have hx := hx.up hb9
          have hcl := hcl.up hb9
          have BC := Lib.hid ((hb9.block _ (lt_of_block BC.out)).trans BC.out)
          have BD := Lib.hid ((hb9.block _ (lt_of_block BD.out)).trans BD.out)
          have hD := hD.up hb9
          have hlr := hlr.up hb9
          clear hb9
          have kBC_0 : u21.cell? ⟨iBC, 0, none⟩ = some (.int .i64 x.many) := (cell_of_block BC.out 0).1
          have kBC_1 : u21.cell? ⟨iBC, 1, none⟩ = some (.slice A x.list.length a) := (cell_of_block BC.out 1).1
          go_wp2_with fail
          clear kBC_0 kBC_1
          refine (implRupOk_u x ls A A7 a c7 _ hx hxa hlr SX.out HLL.out HLI.out).mono ?_
          rw [HLE.out]
          rw [HF3.out]
          rintro e u22 ⟨rfl, hb9⟩
          have hb := bthen hb hb9
          have hx := hx.up hb9
          have hcl := hcl.up hb9
          have BC := Lib.hid ((hb9.block _ (lt_of_block BC.out)).trans BC.out)
          have BD := Lib.hid ((hb9.block _ (lt_of_block BD.out)).trans BD.out)
          have hD := hD.up hb9
          have hlr := hlr.up hb9
          clear hb9
          go_wp2
          go_ret
          exact ⟨rfl, hb⟩
        · have HLL : Hid (ns.length ≤ 1048576) := Lib.hid (by omega)
          have HLE : Hid (ns = longP m false cl) := Lib.hid (by rw [HPE.out]; simp [longP])
          have HLI : Hid (i64s ns) := Lib.hid (by rw [HLE.out]; exact longP_int HOK.out (by unfold okInt; omega))
          have hlr := hown.rd
          clear hown
          have hx := hx.up hbr
          have hcl := hcl.up hbr
          have hD := hD.up hbr
          have BC := Lib.hid ((hbr.block _ (lt_of_block BC.out)).trans BC.out)
          have BD := Lib.hid ((hbr.block _ (lt_of_block BD.out)).trans BD.out)
          have hb := bthen hb hbr
          clear hbr
          have k0 := (cell_of_block BC.out 0).1
          have k1 := (cell_of_block BC.out 1).1
          go_wp2_with fail
          clear k0 k1
          refine (wpFollows_any x cl A B a d M _ hx SX.out hcl (by omega) (HOK.out) HMM.out (by omega) HF1.out).mono ?_
          rintro e v1 ⟨rfl, hb9⟩
          have hb := bthen hb hb9
          have hx := hx.up hb9
          have hcl := hcl.up hb9
          have BC := Lib.hid ((hb9.block _ (lt_of_block BC.out)).trans BC.out)
          have BD := Lib.hid ((hb9.block _ (lt_of_block BD.out)).trans BD.out)
          have hD := hD.up hb9
          have hlr := hlr.up hb9
          clear hb9
          have kBD_0 : v1.cell? ⟨iBD, 0, none⟩ = some (.int .i64 x.many) := (cell_of_block BD.out 0).1
          have kBD_1 : v1.cell? ⟨iBD, 1, none⟩ = some (.slice A4 ps.length c4) := (cell_of_block BD.out 1).1
          go_wp2_with fail
          clear kBD_0 kBD_1
          refine (implRupOk_u ⟨x.many, ps⟩ cl A4 B c4 d _ hD hDc.out hcl SD.out (by omega) HOK.out).mono ?_
          rw [HF2.out]
          rintro e u21 ⟨rfl, hb9⟩
          have hb := bthen hb hb9
          have hx := hx.up hb9
          have hcl := hcl.up hb9
          have BC := Lib.hid ((hb9.block _ (lt_of_block BC.out)).trans BC.out)
          have BD := Lib.hid ((hb9.block _ (lt_of_block BD.out)).trans BD.out)
          have hD := hD.up hb9
          have hlr := hlr.up hb9
          clear hb9
          have kBC_0 : u21.cell? ⟨iBC, 0, none⟩ = some (.int .i64 x.many) := (cell_of_block BC.out 0).1
          have kBC_1 : u21.cell? ⟨iBC, 1, none⟩ = some (.slice A x.list.length a) := (cell_of_block BC.out 1).1
          go_wp2_with fail
          clear kBC_0 kBC_1
          refine (implRupOk_u x ns A A9 a c9 _ hx hxa hlr SX.out HLL.out HLI.out).mono ?_
          rw [HLE.out]
          rw [HF3.out]
          rintro e u22 ⟨rfl, hb9⟩
          have hb := bthen hb hb9
          have hx := hx.up hb9
          have hcl := hcl.up hb9
          have BC := Lib.hid ((hb9.block _ (lt_of_block BC.out)).trans BC.out)
          have BD := Lib.hid ((hb9.block _ (lt_of_block BD.out)).trans BD.out)
          have hD := hD.up hb9
          have hlr := hlr.up hb9
          clear hb9
          go_wp2
          go_ret
          exact ⟨rfl, hb⟩

set_option maxRecDepth 100000 in
theorem fnRup_lifted (os : Os) (started : os.Started) (H : Type) (enc : TypeId × Value → H) :
    ReturnsInHanded {} Try.checked os 3 .any (Rows.fnRupSpec.pre6 enc Try.prog Try.f3 Rows.fnRupRow.domain false) (Rows.fnRupSpec.post enc Try.prog Try.f3 false true false false) := by
  refine returnsInHanded_of_change (C := Try.checked) (by kernel_rfl) started (by kernel_rfl) Try.func3
    (ChangeSpec.witness6 (enc := enc) (C := Try.checked) false ⟨#[], #[.slice none 0 0, .slice none 0 0], []⟩ 16 (by kernel_rfl) (by kernel_rfl) (by kernel_rfl) (by kernel_rfl)) ?_
  intro W base args ds gs before hval0 hW hcnd _
  have hval : ∀ (j : Nat) t v, Try.f3.params[j]? = some t → args[j]? = some v → Value.okWide Try.prog W .any base t v := hval0
  have hW' := hW
  obtain ⟨p, q, hA0, hV, rfl, hfz, hnd⟩ := hW
  have hA : DataW.TrodAll enc Try.prog W 0 (fun _ => true) true Try.f3.params.toList args.toList ds p := hA0
  rw [Try.params3] at hA hval
  obtain ⟨v0, vs0, d0, ds0, p0, q0, hargs, rfl, rfl, h0, r0⟩ := trodAll_cons hA
  obtain ⟨v1, vs1, d1, ds1, p1, q1, rfl, rfl, rfl, h1, r1⟩ := trodAll_cons r0
  obtain ⟨rfl, rfl, rfl⟩ := trodAll_nil r1
  obtain rfl : args = #[v0, v1] := by cases args; simp_all
  obtain ⟨rfl, rfl⟩ := trodVars_none hV
  have k0 := h0
  have lt0 : ∀ x ∈ p0, x.block < W.heap.size := by obtain ⟨m, hm⟩ := k0; exact DataW.trod_lt m _ _ _ hm
  have k1 := h1
  have lt1 : ∀ x ∈ p1, x.block < W.heap.size := by obtain ⟨m, hm⟩ := k1; exact DataW.trod_lt m _ _ _ hm
  obtain ⟨A0, c0, x0, rfl, hc0, ok0, rd0⟩ := open_arg Try.underlying22 opens_bytes (hval 0 22 v0 rfl rfl) h0
  obtain ⟨A1, c1, x1, rfl, hc1, ok1, rd1⟩ := open_arg Try.underlying22 opens_bytes (hval 1 22 v1 rfl rfl) h1
  clear hA0 hval0
  refine (fnRup_walk W hc0 ok0 rd0 hc1 ok1 rd1).mono fun e W' ⟨he, bel⟩ => ?_
  subst he
  exact ⟨_, rfl, _, _, _, [], _, [], hW', trodAll_mk1 (shut_bool Try.underlying4 _), (trodAll_cons_mk (Below.trod (by kernel_rfl) (by kernel_rfl) (of_decide_eq_true (by kernel_rfl)) k0 bel lt0) (trodAll_cons_mk (Below.trod (by kernel_rfl) (by kernel_rfl) (of_decide_eq_true (by kernel_rfl)) k1 bel lt1) trodAll_mk0)), rfl, bel.frame _, fun h => by cases h⟩

/-- The given statement. -/
theorem fnRup_holds : Rows.FnRupSaid :=
  OpenClaim.holds_of_wide 3 Try.f3 rfl rfl rfl rfl rfl rfl rfl ⟨rfl, rfl, rfl, rfl, rfl⟩ rfl rfl rfl rfl rfl (by kernel_rfl) Try.func3 (by kernel_rfl)
    (of_decide_eq_true (by kernel_rfl)) (by unfold Func.isWrapper; first | (rw [if_pos (by decide +kernel)]; kernel_rfl) | (rw [if_neg (by decide +kernel)]; exact ⟨rfl, rfl⟩))
    (fun os started H enc _ => fnRup_lifted os started H enc)
#print axioms fnRup_holds
end Go.Proofs.Ytbljfhmcebgdaaa
