/- FnSatVals: the assignment is what the trail says: for any bytes the law says true. -/
import Derived.Test.YtbljfhmcebgdaaaRows
import Derived.Test.YtbljfhmcebgdaaaJFnSatVals3
import Derived.Test.YtbljfhmcebgdaaaJFnSatVals7
import Derived.Test.YtbljfhmcebgdaaaJFnSatVals19
/-! FnSatVals: the assignment is what the trail says: for any bytes the law says true. -/
namespace Go.Proofs.Ytbljfhmcebgdaaa
open Go Go.RowKit Go.ChangeShapes Go.WideShapes Go.ChangeAt Go.Deep

theorem opens_bytes : Opens Try.prog 22 Lay.byte.slice (fun xs => xs.length ≤ maxLen ∧ ∀ x ∈ xs, True) := Opens.slice Try.underlying22 (by kernel_rfl) (by decide) (Opens.byte Try.underlying5)
theorem okS.sm {n : Nat} {s : S} (h : okS n s) (hn : n ≤ 300) : smS s := by
  have h1 := h.put
  have h2 := h.why
  have h3 := h.lrn
  refine ⟨⟨by omega, h.puts⟩, ⟨by omega, h.whys⟩, ⟨by omega, fun cl hcl => ⟨by have := (h.cls cl hcl).1; omega, (h.cls cl hcl).2⟩, ?_⟩, h.code⟩
  have key : ∀ ys : List (List Int), (∀ l ∈ ys, l.length ≤ 700) → nsum (ys.map List.length) ≤ ys.length * 700 := by
    intro ys
    induction ys with
    | nil => intro _; simp [nsum]
    | cons y ys ih =>
      intro hy
      have h1 := ih fun l hl => hy l (by simp [hl])
      have h2 := hy y (by simp)
      simp only [List.map_cons, nsum, List.length_cons]
      omega
  have := key s.learned fun l hl => (h.cls l hl).1
  omega
def cnt9 (p : Nat → Bool) : Nat → Nat
  | 0 => 0
  | n + 1 => cnt9 p n + (if p n then 1 else 0)
theorem cnt9_le (p : Nat → Bool) : ∀ n, cnt9 p n ≤ n
  | 0 => Nat.le_refl _
  | n + 1 => by have := cnt9_le p n; simp only [cnt9]; split <;> omega
theorem cnt9_eq {p q : Nat → Bool} : ∀ n, (∀ i, i < n → p i = q i) → cnt9 p n = cnt9 q n
  | 0, _ => rfl
  | n + 1, h => by simp only [cnt9]; rw [cnt9_eq n fun i hi => h i (by omega), h n (by omega)]
theorem cnt9_one {p : Nat → Bool} {k : Nat} (hp : p k = false) : ∀ n, k < n → cnt9 (fun i => decide (i = k) || p i) n = cnt9 p n + 1
  | 0, h => by omega
  | n + 1, h => by
    simp only [cnt9]
    by_cases e : n = k
    · subst e
      have h1 : cnt9 (fun i => decide (i = n) || p i) n = cnt9 p n := cnt9_eq n fun i hi => by simp [show i ≠ n by omega]
      simp [h1, hp]
    · rw [cnt9_one hp n (by omega)]
      simp [e]
      omega
/-- How many marks are put so. -/
def posN : List Int → Nat
  | [] => 0
  | l :: ls => (if 0 < l then 1 else 0) + posN ls
theorem posN_le : ∀ ls : List Int, posN ls ≤ ls.length
  | [] => Nat.le_refl _
  | l :: ls => by have := posN_le ls; simp only [posN, List.length_cons]; split <;> omega
theorem posN_app : ∀ (xs ys : List Int), posN (xs ++ ys) = posN xs + posN ys
  | [], ys => by simp [posN]
  | x :: xs, ys => by simp only [List.cons_append, posN, posN_app xs ys]; omega
theorem posN_take {xs : List Int} {k : Nat} (h : k < xs.length) : posN (xs.take (k + 1)) = posN (xs.take k) + (if 0 < xs[k] then 1 else 0) := by
  rw [List.take_succ_eq_append_getElem h, posN_app]; simp [posN]
theorem pos_cnt {M : Nat} : ∀ {put : List Int}, Good M put → cnt9 (fun i => decide (((i : Int) + 1) ∈ put)) M = posN put
  | [], _ => by
    have : ∀ n, cnt9 (fun i => decide (((i : Int) + 1) ∈ ([] : List Int))) n = 0 := fun n => by
      induction n with
      | zero => rfl
      | succ n ih => simp only [cnt9, ih]; simp
    exact this M
  | l :: ls, h => by
    have hn := h.nodup
    rw [List.map_cons, List.nodup_cons] at hn
    have hg : Good M ls := ⟨fun x hx => h.rng x (List.mem_cons_of_mem _ hx), hn.2⟩
    have ih := pos_cnt hg
    have hr := h.rng l (List.mem_cons_self ..)
    simp only [posN]
    by_cases h0 : 0 < l
    · have hk : ∀ i : Nat, decide (((i : Int) + 1) ∈ l :: ls) = (decide (i = (l - 1).toNat) || decide (((i : Int) + 1) ∈ ls)) := fun i => by
        rw [Bool.eq_iff_iff]
        simp only [decide_eq_true_eq, Bool.or_eq_true, List.mem_cons]
        constructor
        · rintro (e | e)
          · left; omega
          · exact .inr e
        · rintro (e | e)
          · left; omega
          · exact .inr e
      rw [cnt9_eq (q := fun i => decide (i = (l - 1).toNat) || decide (((i : Int) + 1) ∈ ls)) M fun i _ => hk i, cnt9_one (p := fun i => decide (((i : Int) + 1) ∈ ls)) (by
        simp only [decide_eq_false_iff_not]
        intro e
        exact hn.1 (List.mem_map.2 ⟨_, e, by omega⟩)) M (by omega), ih, if_pos h0]
      omega
    · rw [cnt9_eq (q := fun i => decide (((i : Int) + 1) ∈ ls)) M fun i _ => by
        rw [Bool.eq_iff_iff]
        simp only [decide_eq_true_eq, List.mem_cons]
        exact ⟨fun e => e.elim (fun e => by omega) id, .inr⟩, ih, if_neg h0]
      omega
theorem valsP_at {x : C} {s : S} {M : Nat} (hM : x.many = M) {k : Nat} (h : k < (valsP x s).length) : (valsP x s)[k] = decide (((k : Int) + 1) ∈ s.put) := by
  simp [valsP]
theorem valsP_len9 {x : C} {s : S} {M : Nat} (hM : x.many = M) : (valsP x s).length = M := by simp [valsP, hM]

set_option maxRecDepth 100000 in
set_option maxHeartbeats 4000000 in
theorem fnSatVals_walk (W : World) {A0 : Option Addr} {c0 : Nat} {x0 : List UInt8} (hc0 : x0.length ≤ c0) (hok0 : x0.length ≤ maxLen ∧ ∀ z ∈ x0, True) (h0 : Lay.byte.Rd W A0 x0) :
    Calls Try.prog 5 #[.slice A0 x0.length c0] W (LawC W) := by
  have hm0 : x0.length ≤ 9223372036854775807 := by have := hok0.1; unfold maxLen at this; omega
  clear hok0
  by_cases hbig0 : (1048576 : Int) < x0.length
  · go_enter Try.func5, Try.ntmps5
    go_wp2
    go_ret
    exact ⟨rfl, Below.refl _ _⟩
  have hb : Below W.heap.size W W := Below.refl _ _
  go_enter Try.func5, Try.ntmps5
  go_wp2_with fail
  refine (drawSatVals_any A0 c0 x0 _ h0 hc0 hm0).mono ?_
  rintro e u1 ⟨x, A, a, s, P, Q, D, p', q', d', rfl, hxa, hx, hmx, hsx, hos, hrs, hb9⟩
  have hb := bthen hb hb9
  clear hb9
  clear h0
  have SX : Hid (smCnf x) := Lib.hid ⟨hmx, hsx.sm (by omega)⟩
  have SS := Lib.hid (hos.sm (by omega))
  have HOS := Lib.hid hos
  clear hmx hsx hos
  generalize hv9 : satVals x s = vs at *
  have HV9 := Lib.hid hv9
  clear hv9
  generalize hk9 : satOk x s = ok at *
  have HK9 := Lib.hid hk9
  clear hk9
  have HVL : Hid (vs.length ≤ 700) := Lib.hid (by
    rw [← HV9.out]
    unfold satVals
    split
    · rename_i h
      have := (cnfOk_iff x).1 ((satOk_iff x s).1 h).cnf
      simp [valsP]; omega
    · simp)
  obtain ⟨hw9, hB0, hB1, hWS⟩ := two_boxes u1 (.cells #[.int .i64 x.many, .slice A x.list.length a] 25) (.cells #[.slice P s.put.length p', .slice Q s.why.length q', .slice D s.learned.length d', .int .i64 s.code] 35)
  have hb := bthen hb hw9
  have hx := hx.up hw9
  have hrs := hrs.up hw9
  clear hw9
  have BC := Lib.hid hB0
  have BS := Lib.hid hB1
  clear hB0 hB1 hWS
  go_wp2_with fail
  generalize (u1.alloc (.cells #[.int .i64 x.many, .slice A x.list.length a] 25)).alloc (.cells #[.slice P s.put.length p', .slice Q s.why.length q', .slice D s.learned.length d', .int .i64 s.code] 35) = v1 at *
  generalize u1.heap.size = iBC at *
  have HC := Lib.hid (implSatVals_u x A a s P Q D p' q' d' v1 hx hxa hrs.put hrs.why hrs.lrn hrs.capP hrs.capQ hrs.capD SX.out SS.out)
  rw [HV9.out] at HC
  refine HC.out.mono ?_
  clear HC
  rintro e u2 ⟨A2, c2, rfl, hc2, hs2, hb9⟩
  have hb := bthen hb hb9
  have hx := hx.up hb9
  have hrs := hrs.up hb9
  have BC := Lib.hid ((hb9.block _ (lt_of_block BC.out)).trans BC.out)
  have BS := Lib.hid ((hb9.block _ (lt_of_block BS.out)).trans BS.out)
  clear hb9
  have R2 := hs2.own_rd
  clear hs2
  have kk0 := Later.cell (cell_of_block BC.out 0).1
  have kk1 := Later.cell (cell_of_block BC.out 1).1
  have kk2 := Later.cell (cell_of_block BS.out 0).1
  have kk3 := Later.cell (cell_of_block BS.out 1).1
  have kk4 := Later.cell (cell_of_block BS.out 2).1
  have kk5 := Later.cell (cell_of_block BS.out 3).1
  simp at kk0 kk1 kk2 kk3 kk4 kk5
  have HXR := Lib.hid hx
  have HSR := Lib.hid hrs
  have HR2 := Lib.hid R2
  clear hx hrs R2
  go_wp2
  refine wp_region_rel [[], [], [], [(1, 21), (2, 22)], [(0, 20), (3, 23)], [(4, 24)], [(5, 25)], [(6, 26)], [(6, 26)], [(6, 26), (7, 27), (8, 28)], [(6, 26)], [(6, 26)], [(6, 26), (10, 30), (11, 31)], [(6, 26), (9, 29), (12, 32)], [(6, 26), (13, 33)]]
    (fun y y' => Below y.heap.size y y')
    (fun _ yy => Below u2.heap.size u2 yy)
    [fun vs9 _ => vs9 0 = (.slice A2 vs.length c2),
    fun vs9 _ => vs9 1 = (.agg #[.int .i64 x.many, .slice A x.list.length a]),
    fun vs9 _ => vs9 2 = (.agg #[.slice P s.put.length p', .slice Q s.why.length q', .slice D s.learned.length d', .int .i64 s.code]),
    fun vs9 y9 => (fun v yy => ∃ B9 b9, v = .slice B9 vs.length b9 ∧ Lay.bool.Rd yy B9 vs) (vs9 3) y9,
    fun vs9 _ => vs9 4 = (.bool true),
    fun vs9 _ => vs9 5 = (.bool false),
    fun vs9 _ => vs9 6 = (.bool false),
    fun vs9 _ => vs9 7 = (.agg #[.int .i64 x.many, .slice A x.list.length a]),
    fun vs9 _ => vs9 8 = (.agg #[.slice P s.put.length p', .slice Q s.why.length q', .slice D s.learned.length d', .int .i64 s.code]),
    fun vs9 _ => vs9 9 = (.bool ok),
    fun vs9 _ => vs9 10 = (.agg #[.int .i64 x.many, .slice A x.list.length a]),
    fun vs9 _ => vs9 11 = (.agg #[.slice P s.put.length p', .slice Q s.why.length q', .slice D s.learned.length d', .int .i64 s.code]),
    fun vs9 _ => vs9 12 = (.bool ok),
    fun vs9 _ => vs9 13 = (.bool false),
    fun vs9 _ => vs9 14 = (.bool false)]
    [(0, 20), (1, 21), (2, 22), (3, 23), (4, 24), (5, 25), (6, 26), (7, 27), (8, 28), (9, 29), (10, 30), (11, 31), (12, 32), (13, 33), (14, 34)] (by kernel_rfl) (by kernel_rfl) (by kernel_rfl) (by kernel_rfl)
    (fun _ => Below.refl _ _)
    ⟨.inr (fun _ _ _ h _ => h),
    .inr (fun _ _ _ h _ => h),
    .inr (fun _ _ _ h _ => h),
    .inr (fun vs9 x9 y9 h9 hR9 => (show ∀ v9 y8 y7, (fun v yy => ∃ B9 b9, v = .slice B9 vs.length b9 ∧ Lay.bool.Rd yy B9 vs) v9 y8 → (fun y y' => Below y.heap.size y y') y8 y7 → (fun v yy => ∃ B9 b9, v = .slice B9 vs.length b9 ∧ Lay.bool.Rd yy B9 vs) v9 y7 from fun _ _ _ ⟨B9, b9, h1, h2⟩ hR => ⟨B9, b9, h1, h2.up hR⟩) (vs9 3) x9 y9 h9 hR9),
    .inr (fun _ _ _ h _ => h),
    .inr (fun _ _ _ h _ => h),
    .inr (fun _ _ _ h _ => h),
    .inr (fun _ _ _ h _ => h),
    .inr (fun _ _ _ h _ => h),
    .inr (fun _ _ _ h _ => h),
    .inr (fun _ _ _ h _ => h),
    .inr (fun _ _ _ h _ => h),
    .inr (fun _ _ _ h _ => h),
    .inr (fun _ _ _ h _ => h),
    .inr (fun _ _ _ h _ => h), trivial⟩ ⟨fun vs vs' x h _ hv => (by dsimp only at hv ⊢; first | (rw [← h]; exact hv) | exact hv),
    fun vs vs' x h _ hv => (by dsimp only at hv ⊢; first | (rw [← h]; exact hv) | exact hv),
    fun vs vs' x h _ hv => (by dsimp only at hv ⊢; first | (rw [← h]; exact hv) | exact hv),
    fun vs vs' x h _ hv => (by dsimp only at hv ⊢; first | (rw [← h]; exact hv) | exact hv),
    fun vs vs' x h _ hv => (by dsimp only at hv ⊢; first | (rw [← h]; exact hv) | exact hv),
    fun vs vs' x h _ hv => (by dsimp only at hv ⊢; first | (rw [← h]; exact hv) | exact hv),
    fun vs vs' x h _ hv => (by dsimp only at hv ⊢; first | (rw [← h]; exact hv) | exact hv),
    fun vs vs' x h _ hv => (by dsimp only at hv ⊢; first | (rw [← h]; exact hv) | exact hv),
    fun vs vs' x h _ hv => (by dsimp only at hv ⊢; first | (rw [← h]; exact hv) | exact hv),
    fun vs vs' x h _ hv => (by dsimp only at hv ⊢; first | (rw [← h]; exact hv) | exact hv),
    fun vs vs' x h _ hv => (by dsimp only at hv ⊢; first | (rw [← h]; exact hv) | exact hv),
    fun vs vs' x h _ hv => (by dsimp only at hv ⊢; first | (rw [← h]; exact hv) | exact hv),
    fun vs vs' x h _ hv => (by dsimp only at hv ⊢; first | (rw [← h]; exact hv) | exact hv),
    fun vs vs' x h _ hv => (by dsimp only at hv ⊢; first | (rw [← h]; exact hv) | exact hv),
    fun vs vs' x h _ hv => (by dsimp only at hv ⊢; first | (rw [← h]; exact hv) | exact hv), trivial⟩ (below_drewN (Below.refl _ _) 1) ⟨?_, ?_, ?_, ?_, ?_, ?_, ?_, ?_, ?_, ?_, ?_, ?_, ?_, ?_, ?_, trivial⟩ ?_
  · intro vals xw n hn hI hF
    dsimp only [owes, bare]
    simp only [putsD, Act.put, List.setIfInBounds_toArray, List.set_cons_zero, List.set_cons_succ]
    go_wp2
    exact ⟨rfl, rfl, Below.refl _ _, hI⟩
  · intro vals xw n hn hI hF
    dsimp only [owes, bare]
    simp only [putsD, Act.put, List.setIfInBounds_toArray, List.set_cons_zero, List.set_cons_succ]
    have c90 : xw.cell? _ = _ := kk0 ⟨xw, hI⟩
    have c91 : xw.cell? _ = _ := kk1 ⟨xw, hI⟩
    go_wp2
    exact ⟨rfl, rfl, Below.refl _ _, hI⟩
  · intro vals xw n hn hI hF
    dsimp only [owes, bare]
    simp only [putsD, Act.put, List.setIfInBounds_toArray, List.set_cons_zero, List.set_cons_succ]
    have c90 : xw.cell? _ = _ := kk2 ⟨xw, hI⟩
    have c91 : xw.cell? _ = _ := kk3 ⟨xw, hI⟩
    have c92 : xw.cell? _ = _ := kk4 ⟨xw, hI⟩
    have c93 : xw.cell? _ = _ := kk5 ⟨xw, hI⟩
    go_wp2
    exact ⟨rfl, rfl, Below.refl _ _, hI⟩
  · intro vals xw n hn hI hF
    simp only [saysD, List.getD_cons_zero, List.getD_cons_succ, and_true] at hF
    obtain ⟨e21, e22⟩ := hF
    dsimp only [owes, bare]
    simp only [putsD, Act.put, List.setIfInBounds_toArray, List.set_cons_zero, List.set_cons_succ]
    simp only [e21, e22]
    have HWF := Lib.hid (specSatVals_u x A a s P Q D p' q' d' xw (HXR.out.up hI) hxa (HSR.out.up hI).put (HSR.out.up hI).why (HSR.out.up hI).lrn HSR.out.capP HSR.out.capQ HSR.out.capD SX.out SS.out)
    rw [HV9.out] at HWF
    go_wp2_with fail
    refine HWF.out.mono ?_
    rintro e wx ⟨A3, c3, rfl, hc3, hs3, hb9⟩
    have HRD := Lib.hid hs3.own_rd
    clear hs3
    go_wp2
    exact ⟨rfl, ⟨A3, c3, rfl, HRD.out⟩, hb9, bthen hI hb9⟩
  · intro vals xw n hn hI hF
    simp only [saysD, List.getD_cons_zero, List.getD_cons_succ, and_true] at hF
    obtain ⟨e20, A3, c3, e23, hr3⟩ := hF
    dsimp only [owes, bare]
    simp only [putsD, Act.put, List.setIfInBounds_toArray, List.set_cons_zero, List.set_cons_succ]
    simp only [e20, e23]
    have HWF := Lib.hid (wpBools_any A2 A3 c2 c3 vs vs _ _ xw (HR2.out.up hI) hr3 (by have := HVL.out; omega) (by have := HVL.out; omega))
    rw [show decide (vs = vs) = true by simp] at HWF
    clear hr3
    go_wp2_with fail
    refine HWF.out.mono ?_
    rintro e wx ⟨rfl, n9, rfl⟩
    have hb9 : Below xw.heap.size xw (xw.drewN n9) := below_drewN (Below.refl _ _) _
    go_wp2
    exact ⟨rfl, rfl, hb9, bthen hI hb9⟩
  · intro vals xw n hn hI hF
    simp only [saysD, List.getD_cons_zero, List.getD_cons_succ, and_true] at hF
    have e24 := hF
    dsimp only [owes, bare]
    simp only [putsD, Act.put, List.setIfInBounds_toArray, List.set_cons_zero, List.set_cons_succ]
    simp only [e24]
    go_wp2
    exact ⟨rfl, rfl, Below.refl _ _, hI⟩
  · intro vals xw n hn hI hF
    simp only [saysD, List.getD_cons_zero, List.getD_cons_succ, and_true] at hF
    have e25 := hF
    dsimp only [owes, bare]
    simp only [putsD, Act.put, List.setIfInBounds_toArray, List.set_cons_zero, List.set_cons_succ]
    simp only [e25]
    go_wp2
    exact ⟨rfl, rfl, Below.refl _ _, hI⟩
  · intro vals xw n hn hI hF
    simp only [saysD, List.getD_cons_zero, List.getD_cons_succ, and_true] at hF
    have e26 := hF
    dsimp only [owes, bare]
    refine ⟨fun _ => ?_, fun h => absurd e26 h⟩
    simp only [putsD, Act.put, List.setIfInBounds_toArray, List.set_cons_zero, List.set_cons_succ]
    simp only [e26]
    have c90 : xw.cell? _ = _ := kk0 ⟨xw, hI⟩
    have c91 : xw.cell? _ = _ := kk1 ⟨xw, hI⟩
    go_wp2
    exact ⟨rfl, rfl, Below.refl _ _, hI⟩
  · intro vals xw n hn hI hF
    simp only [saysD, List.getD_cons_zero, List.getD_cons_succ, and_true] at hF
    have e26 := hF
    dsimp only [owes, bare]
    refine ⟨fun _ => ?_, fun h => absurd e26 h⟩
    simp only [putsD, Act.put, List.setIfInBounds_toArray, List.set_cons_zero, List.set_cons_succ]
    simp only [e26]
    have c90 : xw.cell? _ = _ := kk2 ⟨xw, hI⟩
    have c91 : xw.cell? _ = _ := kk3 ⟨xw, hI⟩
    have c92 : xw.cell? _ = _ := kk4 ⟨xw, hI⟩
    have c93 : xw.cell? _ = _ := kk5 ⟨xw, hI⟩
    go_wp2
    exact ⟨rfl, rfl, Below.refl _ _, hI⟩
  · intro vals xw n hn hI hF
    simp only [saysD, List.getD_cons_zero, List.getD_cons_succ, and_true] at hF
    obtain ⟨e26, e27, e28⟩ := hF
    dsimp only [owes, bare]
    refine ⟨fun _ => ?_, fun h => absurd e26 h⟩
    simp only [putsD, Act.put, List.setIfInBounds_toArray, List.set_cons_zero, List.set_cons_succ]
    simp only [e26, e27, e28]
    have HWF := Lib.hid (implSatOk_u x A a s P Q D p' q' d' xw (HXR.out.up hI) hxa (HSR.out.up hI).put (HSR.out.up hI).why (HSR.out.up hI).lrn HSR.out.capP HSR.out.capQ HSR.out.capD SX.out SS.out)
    rw [HK9.out] at HWF
    go_wp2_with fail
    refine HWF.out.mono ?_
    rintro e wx ⟨rfl, hb9⟩
    go_wp2
    exact ⟨rfl, rfl, hb9, bthen hI hb9⟩
  · intro vals xw n hn hI hF
    simp only [saysD, List.getD_cons_zero, List.getD_cons_succ, and_true] at hF
    have e26 := hF
    dsimp only [owes, bare]
    refine ⟨fun _ => ?_, fun h => absurd e26 h⟩
    simp only [putsD, Act.put, List.setIfInBounds_toArray, List.set_cons_zero, List.set_cons_succ]
    simp only [e26]
    have c90 : xw.cell? _ = _ := kk0 ⟨xw, hI⟩
    have c91 : xw.cell? _ = _ := kk1 ⟨xw, hI⟩
    go_wp2
    exact ⟨rfl, rfl, Below.refl _ _, hI⟩
  · intro vals xw n hn hI hF
    simp only [saysD, List.getD_cons_zero, List.getD_cons_succ, and_true] at hF
    have e26 := hF
    dsimp only [owes, bare]
    refine ⟨fun _ => ?_, fun h => absurd e26 h⟩
    simp only [putsD, Act.put, List.setIfInBounds_toArray, List.set_cons_zero, List.set_cons_succ]
    simp only [e26]
    have c90 : xw.cell? _ = _ := kk2 ⟨xw, hI⟩
    have c91 : xw.cell? _ = _ := kk3 ⟨xw, hI⟩
    have c92 : xw.cell? _ = _ := kk4 ⟨xw, hI⟩
    have c93 : xw.cell? _ = _ := kk5 ⟨xw, hI⟩
    go_wp2
    exact ⟨rfl, rfl, Below.refl _ _, hI⟩
  · intro vals xw n hn hI hF
    simp only [saysD, List.getD_cons_zero, List.getD_cons_succ, and_true] at hF
    obtain ⟨e26, e30, e31⟩ := hF
    dsimp only [owes, bare]
    refine ⟨fun _ => ?_, fun h => absurd e26 h⟩
    simp only [putsD, Act.put, List.setIfInBounds_toArray, List.set_cons_zero, List.set_cons_succ]
    simp only [e26, e30, e31]
    have HWF := Lib.hid (specSatOk_u x A a s P Q D p' q' d' xw (HXR.out.up hI) hxa (HSR.out.up hI).put (HSR.out.up hI).why (HSR.out.up hI).lrn HSR.out.capP HSR.out.capQ HSR.out.capD SX.out SS.out)
    rw [HK9.out] at HWF
    go_wp2_with fail
    refine HWF.out.mono ?_
    rintro e wx ⟨rfl, hb9⟩
    go_wp2
    exact ⟨rfl, rfl, hb9, bthen hI hb9⟩
  · intro vals xw n hn hI hF
    simp only [saysD, List.getD_cons_zero, List.getD_cons_succ, and_true] at hF
    obtain ⟨e26, e29, e32⟩ := hF
    dsimp only [owes, bare]
    refine ⟨fun _ => ?_, fun h => absurd e26 h⟩
    simp only [putsD, Act.put, List.setIfInBounds_toArray, List.set_cons_zero, List.set_cons_succ]
    simp only [e26, e29, e32]
    have qq : (ok != ok) = false := by simp
    go_wp2
    exact ⟨rfl, rfl, Below.refl _ _, hI⟩
  · intro vals xw n hn hI hF
    simp only [saysD, List.getD_cons_zero, List.getD_cons_succ, and_true] at hF
    obtain ⟨e26, e33⟩ := hF
    dsimp only [owes, bare]
    simp only [putsD, Act.put, List.setIfInBounds_toArray, List.set_cons_zero, List.set_cons_succ]
    simp only [e26, e33]
    go_wp2
    exact ⟨rfl, rfl, Below.refl _ _, hI⟩
  · intro vals xw n hn hI hF
    rw [show List.range _ = [0, 1, 2, 3, 4, 5, 6, 7, 8, 9, 10, 11, 12, 13, 14] from rfl] at hF
    simp only [says, List.getD_cons_zero, List.getD_cons_succ, and_true] at hF
    have e34 := hF.2.2.2.2.2.2.2.2.2.2.2.2.2.2
    simp only [putsD, Act.put, List.setIfInBounds_toArray, List.set_cons_zero, List.set_cons_succ]
    simp only [e34]
    clear hF e34 kk0 kk1 kk2 kk3 kk4 kk5
    have hx := HXR.out
    have hrs := HSR.out
    have R2 := HR2.out
    clear HXR HSR HR2
    have hb := bthen hb hI
    have hx := hx.up hI
    have hrs := hrs.up hI
    have BC := Lib.hid ((hI.block _ (lt_of_block BC.out)).trans BC.out)
    have BS := Lib.hid ((hI.block _ (lt_of_block BS.out)).trans BS.out)
    have R2 := R2.up hI
    clear hI
    have kBC_0 : xw.cell? ⟨iBC, 0, none⟩ = some (.int .i64 x.many) := (cell_of_block BC.out 0).1
    have kBC_1 : xw.cell? ⟨iBC, 1, none⟩ = some (.slice A x.list.length a) := (cell_of_block BC.out 1).1
    have kBS_0 : xw.cell? ⟨iBC + 1, 0, none⟩ = some (.slice P s.put.length p') := (cell_of_block BS.out 0).1
    have kBS_1 : xw.cell? ⟨iBC + 1, 1, none⟩ = some (.slice Q s.why.length q') := (cell_of_block BS.out 1).1
    have kBS_2 : xw.cell? ⟨iBC + 1, 2, none⟩ = some (.slice D s.learned.length d') := (cell_of_block BS.out 2).1
    have kBS_3 : xw.cell? ⟨iBC + 1, 3, none⟩ = some (.int .i64 s.code) := (cell_of_block BS.out 3).1
    go_wp2_with fail
    clear kBC_0 kBC_1 kBS_0 kBS_1 kBS_2 kBS_3
    refine (specSatOk_u x A a s P Q D p' q' d' _ hx hxa hrs.put hrs.why hrs.lrn hrs.capP hrs.capQ hrs.capD SX.out SS.out).mono ?_
    rw [HK9.out]
    rintro e u3 ⟨rfl, hb9⟩
    have hb := bthen hb hb9
    have hx := hx.up hb9
    have hrs := hrs.up hb9
    have BC := Lib.hid ((hb9.block _ (lt_of_block BC.out)).trans BC.out)
    have BS := Lib.hid ((hb9.block _ (lt_of_block BS.out)).trans BS.out)
    have R2 := R2.up hb9
    clear hb9
    cases ok
    · skip
      have hve : vs = [] := by rw [← HV9.out]; unfold satVals; rw [HK9.out]; rfl
      subst hve
      go_wp2
      go_ret
      exact ⟨rfl, hb⟩
    have hg := (satOk_iff x s).1 HK9.out
    obtain ⟨M, hM⟩ := Int.eq_ofNat_of_zero_le ((cnfOk_iff x).1 hg.cnf).1
    have hv : vs = valsP x s := by rw [← HV9.out]; unfold satVals; rw [HK9.out]; rfl
    have hvl : vs.length = M := by rw [hv]; exact valsP_len9 hM
    have HVA : Hid (∀ k (h : k < vs.length), vs[k] = decide (((k : Int) + 1) ∈ s.put)) := Lib.hid (by subst hv; exact fun k h => valsP_at hM h)
    have hgd : Good M s.put := by rw [← hM]; exact hg.good
    have HPC := Lib.hid (pos_cnt hgd)
    have HGD := Lib.hid hgd
    have HVM : Hid (vs.length = M) := Lib.hid hvl
    have HMM := Lib.hid hM
    have hpl := hgd.length
    rw [Int.toNat_natCast] at hpl
    have hM7 : M ≤ 700 := by have := ((cnfOk_iff x).1 hg.cnf).2.1; omega
    clear hg hv hvl hgd hM
    have kBC_0 : u3.cell? ⟨iBC, 0, none⟩ = some (.int .i64 x.many) := (cell_of_block BC.out 0).1
    have kBC_1 : u3.cell? ⟨iBC, 1, none⟩ = some (.slice A x.list.length a) := (cell_of_block BC.out 1).1
    have kBS_0 : u3.cell? ⟨iBC + 1, 0, none⟩ = some (.slice P s.put.length p') := (cell_of_block BS.out 0).1
    have kBS_1 : u3.cell? ⟨iBC + 1, 1, none⟩ = some (.slice Q s.why.length q') := (cell_of_block BS.out 1).1
    have kBS_2 : u3.cell? ⟨iBC + 1, 2, none⟩ = some (.slice D s.learned.length d') := (cell_of_block BS.out 2).1
    have kBS_3 : u3.cell? ⟨iBC + 1, 3, none⟩ = some (.int .i64 s.code) := (cell_of_block BS.out 3).1
    go_wp2
    go_loop [6, 7] (fun n i => ∃ k : Nat, k ≤ s.put.length ∧ i = .int .i64 k ∧ n = .int .i64 (posN (s.put.take k))) (fun _ i => s.put.length - (intOf i).toNat)
    case atStart => exact ⟨0, Nat.zero_le _, rfl, rfl⟩
    case round =>
      obtain ⟨k, hk, rfl, rfl⟩ := hrel
      have hpk := posN_le (s.put.take k)
      rw [List.length_take] at hpk
      by_cases hlt : k < s.put.length
      · have hk1 : (k : Int) < s.put.length := by omega
        obtain ⟨ad, e, _, hc⟩ := hrs.put.at_int hlt
        have HST := Lib.hid (posN_take hlt)
        have hmem := List.getElem_mem hlt
        have hrg := HGD.out.rng _ hmem
        generalize s.put[k] = l at *
        subst e
        by_cases h0 : 0 < l
        · have hl1 : l > 0 := h0
          have hin : (l - 1).toNat < vs.length := by rw [HVM.out]; omega
          obtain ⟨ae, e2, _, hcv⟩ := R2.at_bool hin
          rw [HVA.out _ hin, show decide ((((l - 1).toNat : Int) + 1) ∈ s.put) = true by rw [decide_eq_true_eq, show (((l - 1).toNat : Int) + 1) = l by omega]; exact hmem] at hcv
          obtain ⟨j, hj⟩ : ∃ j : Nat, l = (j : Int) + 1 := ⟨(l - 1).toNat, by omega⟩
          have hjt : (l - 1).toNat = j := by omega
          rw [hjt] at hcv hin
          rw [if_pos h0] at HST
          have hin1 : (j : Int) < vs.length := by omega
          have hin2 := HVM.out
          clear hmem h0 hjt hin2
          subst e2
          subst hj
          go_wp2
          go_round
          case rel => exact ⟨k + 1, by omega, by go_num, by rw [HST.out]; go_num⟩
          case measure => simp [intOf]; omega
        · have hl1 : ¬ l > 0 := h0
          have hl2 : decide (l > 0) = false := decide_eq_false hl1
          rw [if_neg h0] at HST
          clear hmem h0
          go_wp2
          go_round
          case rel => exact ⟨k + 1, by omega, by go_num, by rw [HST.out]; rfl⟩
          case measure => simp [intOf]; omega
      have hke : k = s.put.length := by omega
      subst hke
      have HPT : Hid (posN (s.put.take s.put.length) = posN s.put) := Lib.hid (by rw [List.take_length])
      rw [HPT.out]
      have hpn := posN_le s.put
      clear hpk hlt
      go_wp2
      go_loop [6, 8] (fun n i => ∃ k : Nat, k ≤ vs.length ∧ i = .int .i64 k ∧ n = .int .i64 ((posN s.put : Int) - (cnt9 (fun i => decide (((i : Int) + 1) ∈ s.put)) k : Int))) (fun _ i => vs.length - (intOf i).toNat)
      case atStart => exact ⟨0, Nat.zero_le _, rfl, by simp [cnt9]⟩
      case round =>
        obtain ⟨k, hk, rfl, rfl⟩ := hrel
        have hcl := cnt9_le (fun i => decide (((i : Int) + 1) ∈ s.put)) k
        have HFN : ∀ n, cnt9 (fun i => decide (((i : Int) + 1) ∈ s.put)) n = cnt9 (fun i => decide (((i : Int) + 1) ∈ s.put)) n := fun _ => rfl
        clear HFN
        have hvm := HVM.out
        by_cases hlt : k < vs.length
        · have hk1 : (k : Int) < vs.length := by omega
          obtain ⟨ae, e2, _, hcv⟩ := R2.at_bool hlt
          rw [HVA.out _ hlt] at hcv
          have HC1 : Hid (cnt9 (fun i => decide (((i : Int) + 1) ∈ s.put)) (k + 1) = cnt9 (fun i => decide (((i : Int) + 1) ∈ s.put)) k + (if decide (((k : Int) + 1) ∈ s.put) then 1 else 0)) := Lib.hid rfl
          generalize cnt9 (fun i => decide (((i : Int) + 1) ∈ s.put)) k = cc at *
          have hv7 := HVL.out
          generalize decide (((k : Int) + 1) ∈ s.put) = bb at *
          clear hvm
          subst e2
          cases bb
          · go_wp2
            go_round
            case rel => exact ⟨k + 1, by omega, by go_num, by rw [HC1.out]; rfl⟩
            case measure => simp [intOf]; omega
          · go_wp2
            go_round
            case rel => exact ⟨k + 1, by omega, by go_num, by rw [HC1.out]; rw [if_pos rfl]; go_num⟩
            case measure => simp [intOf]; omega
        · have hke : k = M := by omega
          subst hke
          have HZ := HPC.out
          rw [HZ]
          have hz : (posN s.put : Int) - (posN s.put : Int) = 0 := by omega
          rw [hz]
          have hml : ((vs.length : Int) == x.many) = true := by rw [HMM.out, hvm]; simp
          clear HZ hz hvm hcl
          go_wp2
          go_ret
          exact ⟨rfl, hb⟩

set_option maxRecDepth 100000 in
theorem fnSatVals_lifted (os : Os) (started : os.Started) (H : Type) (enc : TypeId × Value → H) :
    ReturnsInHanded {} Try.checked os 5 .any (Rows.fnSatValsSpec.pre6 enc Try.prog Try.f5 Rows.fnSatValsRow.domain false) (Rows.fnSatValsSpec.post enc Try.prog Try.f5 false true false false) := by
  refine returnsInHanded_of_change (C := Try.checked) (by kernel_rfl) started (by kernel_rfl) Try.func5
    (ChangeSpec.witness6 (enc := enc) (C := Try.checked) false ⟨#[], #[.slice none 0 0], []⟩ 16 (by kernel_rfl) (by kernel_rfl) (by kernel_rfl) (by kernel_rfl)) ?_
  intro W base args ds gs before hval0 hW hcnd _
  have hval : ∀ (j : Nat) t v, Try.f5.params[j]? = some t → args[j]? = some v → Value.okWide Try.prog W .any base t v := hval0
  have hW' := hW
  obtain ⟨p, q, hA0, hV, rfl, hfz, hnd⟩ := hW
  have hA : DataW.TrodAll enc Try.prog W 0 (fun _ => true) true Try.f5.params.toList args.toList ds p := hA0
  rw [Try.params5] at hA hval
  obtain ⟨v0, vs0, d0, ds0, p0, q0, hargs, rfl, rfl, h0, r0⟩ := trodAll_cons hA
  obtain ⟨rfl, rfl, rfl⟩ := trodAll_nil r0
  obtain rfl : args = #[v0] := by cases args; simp_all
  obtain ⟨rfl, rfl⟩ := trodVars_none hV
  have k0 := h0
  have lt0 : ∀ x ∈ p0, x.block < W.heap.size := by obtain ⟨m, hm⟩ := k0; exact DataW.trod_lt m _ _ _ hm
  obtain ⟨A0, c0, x0, rfl, hc0, ok0, rd0⟩ := open_arg Try.underlying22 opens_bytes (hval 0 22 v0 rfl rfl) h0
  clear hA0 hval0
  refine (fnSatVals_walk W hc0 ok0 rd0).mono fun e W' ⟨he, bel⟩ => ?_
  subst he
  exact ⟨_, rfl, _, _, _, [], _, [], hW', trodAll_mk1 (shut_bool Try.underlying4 _), (trodAll_cons_mk (Below.trod (by kernel_rfl) (by kernel_rfl) (of_decide_eq_true (by kernel_rfl)) k0 bel lt0) trodAll_mk0), rfl, bel.frame _, fun h => by cases h⟩

/-- The given statement. -/
theorem fnSatVals_holds : Rows.FnSatValsSaid :=
  OpenClaim.holds_of_wide 5 Try.f5 rfl rfl rfl rfl rfl rfl rfl ⟨rfl, rfl, rfl, rfl, rfl⟩ rfl rfl rfl rfl rfl (by kernel_rfl) Try.func5 (by kernel_rfl)
    (of_decide_eq_true (by kernel_rfl)) (by unfold Func.isWrapper; first | (rw [if_pos (by decide +kernel)]; kernel_rfl) | (rw [if_neg (by decide +kernel)]; exact ⟨rfl, rfl⟩))
    (fun os started H enc _ => fnSatVals_lifted os started H enc)
#print axioms fnSatVals_holds
end Go.Proofs.Ytbljfhmcebgdaaa
