/- Proofs: spec.ProofOk. -/
import Derived.Test.YtbljfhmcebgdaaaJFnProof3
import Derived.Test.YtbljfhmcebgdaaaJFnProof12
import Derived.Test.YtbljfhmcebgdaaaJFnProof13
import Derived.Test.YtbljfhmcebgdaaaJFnProof14
/-! Proofs: spec.ProofOk. -/
namespace Go.Proofs.Ytbljfhmcebgdaaa
open Go Go.RowKit

theorem clOk_put8 {many : Int} {cl : List Int} (h : clOk many cl = true) : Good many (cl.map fun l => -l) := (cOk_good (Int.le_refl 0) h).1
/-- One clause that lies somewhere is appended to the formula in the box i: list 6, append 7, store 9. -/
def ApD (W0 i : Nat) (m : Int) (A9 : Option Addr) (c9 : Nat) (ds : List (List Int)) (A1 : Option Addr) (c1 : Nat) (cl : List Int) (u w : World) (v6 v7 : Value) (f6 f7 f9 : Bool) (x : World) : Prop :=
  (Below W0 u x ∧ W0 ≤ x.heap.size ∧ w.heap.size ≤ x.heap.size) ∧ (f7 = false → Below w.heap.size w x ∧ OwnD i W0 x (.slice A9 ds.length c9) ds) ∧
  (f6 = true → f7 = false → ∃ b6, v6 = .slice (some ⟨b6, 0, none⟩) 1 1 ∧ x.heap[b6]? = some (.cells #[.slice A1 cl.length c1] 26 (0, 0))) ∧
  (f7 = true → ∃ (A' : Option Addr) (c' : Nat) (ys : List (List Int)), ys = ds ++ [cl] ∧ v7 = .slice A' ys.length c' ∧ OwnD i W0 x (.slice A' ys.length c') ys) ∧
  (f9 = false → x.heap[i]? = some (.cells #[.int .i64 m, .slice A9 ds.length c9] 25 (0, 0))) ∧ (f9 = true → x.heap[i]? = some (.cells #[.int .i64 m, v7] 25 (0, 0)))
section
variable {W0 i : Nat} {m : Int} {A9 : Option Addr} {c9 : Nat} {ds : List (List Int)} {A1 : Option Addr} {c1 : Nat} {cl : List Int} {u w x z : World} {v6 v7 : Value} {f6 f7 f9 : Bool}
theorem ApD.start (h0 : Below W0 u w) (hw : W0 ≤ w.heap.size) (ho : OwnD i W0 w (.slice A9 ds.length c9) ds) (hb : w.heap[i]? = some (.cells #[.int .i64 m, .slice A9 ds.length c9] 25 (0, 0))) : ApD W0 i m A9 c9 ds A1 c1 cl u w v6 v7 false false false (w.drewN 1) := by
  have hbl : Below w.heap.size w (w.drewN 1) := below_drewN (Below.refl _ _) 1
  exact ⟨⟨below_drewN h0 1, hw, Nat.le_refl _⟩, fun _ => ⟨hbl, ho.up (Stay.notIn _) hbl⟩, fun e => absurd e (by simp), fun e => absurd e (by simp), fun _ => hb, fun e => absurd e (by simp)⟩
theorem ApD.list (h : ApD W0 i m A9 c9 ds A1 c1 cl u w v6 v7 f6 f7 f9 x) (h7 : f7 = false) : ApD W0 i m A9 c9 ds A1 c1 cl u w (.slice (some ⟨x.heap.size, 0, none⟩) 1 1) v7 true f7 f9 (x.alloc (.cells #[.slice A1 cl.length c1] 26)) := by
  subst h7
  obtain ⟨⟨h1, h1b, h1c⟩, h2, h3, h4, h5, h6⟩ := h
  have hb : Below x.heap.size x (x.alloc (.cells #[.slice A1 cl.length c1] 26)) := (Below.refl _ _).alloc (Nat.le_refl _) _
  have bk : ∀ {k : Nat} {o : Obj}, x.heap[k]? = some o → (x.alloc (.cells #[.slice A1 cl.length c1] 26)).heap[k]? = some o := fun h => (hb.block _ (lt_of_block h)).trans h
  exact ⟨⟨h1.trans (hb.mono h1b), Nat.le_trans h1b hb.size, Nat.le_trans h1c hb.size⟩, fun _ => ⟨bthen (h2 rfl).1 hb, (h2 rfl).2.up (Stay.notIn _) hb⟩, fun _ _ => ⟨_, rfl, heap_alloc_new _ _⟩, fun e => absurd e (by simp), fun e => bk (h5 e), fun e => bk (h6 e)⟩
theorem ApD.app {A' : Option Addr} {c' : Nat} {ys : List (List Int)} (h : ApD W0 i m A9 c9 ds A1 c1 cl u w v6 v7 f6 f7 f9 x) (h7 : f7 = false) (hf9 : f9 = false) (hys : ys = ds ++ [cl]) (ho : OwnD i W0 z (.slice A' ys.length c') ys) (hg : x.grownBy z (Value.slice A9 ds.length c9).ownBlock) :
    ApD W0 i m A9 c9 ds A1 c1 cl u w v6 (.slice A' ys.length c') f6 true f9 z := by
  subst h7 hf9
  obtain ⟨⟨h1, h1b, h1c⟩, h2, h3, h4, h5, h6⟩ := h
  have hown := (h2 rfl).2
  exact ⟨⟨h1.grown hg h1b (fun b e => (hown.lt b e).1), Nat.le_trans h1b hg.size, Nat.le_trans h1c hg.size⟩, fun e => absurd e (by simp), fun _ e => absurd e (by simp), fun _ => ⟨A', c', ys, hys, rfl, ho⟩, fun e => (hg.block _ (lt_of_block (h5 rfl)) fun e => hown.ne (h5 rfl) (by decide) e.symm).trans (h5 rfl), fun e => absurd e (by simp)⟩
theorem ApD.store (h : ApD W0 i m A9 c9 ds A1 c1 cl u w v6 v7 f6 f7 f9 x) (h7 : f7 = true) (h9 : f9 = false) (hi : W0 ≤ i) : ApD W0 i m A9 c9 ds A1 c1 cl u w v6 v7 f6 f7 true (x.setCell ⟨i, 1, none⟩ v7) := by
  subst h7 h9
  obtain ⟨⟨h1, h1b, h1c⟩, h2, h3, h4, h5, h6⟩ := h
  obtain ⟨A', c', ys, k1, k2, k3⟩ := h4 rfl
  have hg : Gr (fun k => k = i) x (x.setCell ⟨i, 1, none⟩ v7) := Gr.set (Gr.refl (fun k => k = i) x) i 1 v7 (.inl rfl)
  exact ⟨⟨h1.setCell (p := ⟨i, 1, none⟩) hi v7, by rw [size_setCell]; exact h1b, by rw [size_setCell]; exact h1c⟩, fun e => absurd e (by simp), fun _ e => absurd e (by simp), fun _ => ⟨A', c', ys, k1, k2, k3.grNe hg fun g hgg e => k3.ne (h5 rfl) (by decide) (by rw [hgg, show g = i from e])⟩, fun e => absurd e (by simp), fun _ => by simpa using heap_set_same x i 1 v7 _ _ (h5 rfl)⟩
theorem ApD.fin (h : ApD W0 i m A9 c9 ds A1 c1 cl u w v6 v7 f6 f7 f9 x) (h7 : f7 = true) (h9 : f9 = true) : ∃ (A' : Option Addr) (c' : Nat), OwnD i W0 x (.slice A' (ds ++ [cl]).length c') (ds ++ [cl]) ∧ x.heap[i]? = some (.cells #[.int .i64 m, .slice A' (ds ++ [cl]).length c'] 25 (0, 0)) ∧ Below W0 u x ∧ w.heap.size ≤ x.heap.size := by
  subst h7 h9
  obtain ⟨⟨h1, h1b, h1c⟩, h2, h3, h4, h5, h6⟩ := h
  obtain ⟨A', c', ys, rfl, k2, k3⟩ := h4 rfl
  have := h6 rfl
  rw [k2] at this
  exact ⟨A', c', k3, this, h1, h1c⟩
end
set_option maxRecDepth 100000 in
set_option maxHeartbeats 16000000 in
theorem specProofOk_any (x : C) (cs : List (List Int)) (A B : Option Addr) (a d : Nat) (w : World) (h : Lay.int.slice.Rd w A x.list) (hxa : x.list.length ≤ a) (hc : Lay.int.slice.Rd w B cs) (hcd : cs.length ≤ d) (sx : smCnf x) (hl : cs.length ≤ 1048576) (hcs : ∀ cl ∈ cs, cl.length ≤ 1048576 ∧ i64s cl) :
    Calls Try.prog 15 #[.agg #[.int .i64 x.many, .slice A x.list.length a], .slice B cs.length d] w (RetB w (proofOk x cs)) := by
  have hw : Below w.heap.size w (w.alloc (.cells #[.int .i64 x.many, .slice A x.list.length a] 25)) := (Below.refl _ _).alloc (Nat.le_refl _) _
  have hb0 := heap_alloc_new w (.cells #[.int .i64 x.many, .slice A x.list.length a] 25)
  have c0 := (cell_of_block hb0 0).1
  have c1 := (cell_of_block hb0 1).1
  simp at c0 c1
  obtain ⟨W, hW⟩ : ∃ W, W = w.alloc (.cells #[.int .i64 x.many, .slice A x.list.length a] 25) := ⟨_, rfl⟩
  rw [← hW] at hw hb0
  have hx := h.up hw
  have hcr := hc.up hw
  have HCO := Lib.hid (specCnfOk_any A a x _ W hx (fun _ h => h) sx.short)
  have HE : Hid (proofOk x cs = (cnfOk x && (decide (cs.length ≤ 300) && prf x [] cs))) := Lib.hid rfl
  have HW := Lib.hid hW
  have BC := Lib.hid hb0
  have HCS := Lib.hid hcs
  have SX := Lib.hid sx
  clear h hc hb0 hW sx hcs
  go_enter Try.func15, Try.ntmps15
  go_wp2_with fail
  clear c0 c1
  rw [← HW.out]
  obtain ⟨iBC, hbe⟩ : ∃ b, b = w.heap.size := ⟨_, rfl⟩
  rw [← hbe] at BC ⊢
  clear hbe HW
  refine HCO.out.mono ?_
  clear HCO
  rintro e w1 ⟨rfl, hb1⟩
  have BC := Lib.hid ((hb1.block _ (lt_of_block BC.out)).trans BC.out)
  have hx := hx.up hb1
  have hcr := hcr.up hb1
  have hbw := bthen hw hb1
  clear hw hb1
  cases hok : cnfOk x
  · go_wp2
    go_ret
    exact ⟨ret_bool (by rw [HE.out, hok]; rfl), hbw⟩
  have HOK := Lib.hid hok
  rw [hok] at HE
  clear hok
  by_cases h3 : 300 < cs.length
  · have h31 : (cs.length : Int) > 300 := by omega
    go_wp2
    go_ret
    exact ⟨ret_bool (by rw [HE.out, decide_eq_false (by omega)]; rfl), hbw⟩
  have h31 : ¬ (cs.length : Int) > 300 := by omega
  have h32 : decide ((cs.length : Int) > 300) = false := decide_eq_false h31
  rw [decide_eq_true (show cs.length ≤ 300 by omega)] at HE
  obtain ⟨M, hM⟩ := Int.eq_ofNat_of_zero_le ((cnfOk_iff x).1 HOK.out).1
  have HMM := Lib.hid hM
  have hM7 : M ≤ 700 := by have := ((cnfOk_iff x).1 HOK.out).2.1; omega
  have hm0 : 0 ≤ x.many := by omega
  have hm70 : x.many ≤ 700 := by omega
  have hxl : x.list.length ≤ 2500 := ((cnfOk_iff x).1 HOK.out).2.2.1
  have HRN := Lib.hid (cnfOk_rng HOK.out)
  have HXL : Hid (x.list.length ≤ 2500) := Lib.hid hxl
  clear hM
  have HBCL : Hid (iBC < w1.heap.size) := Lib.hid (lt_of_block BC.out)
  have BC0 := BC
  have HC1 := Lib.hid hcr
  have HBWN := Lib.hid hbw
  obtain ⟨i0, hi0, hz0, hz1, hz2⟩ := info_parts toIntSS_info
  have hA9 := sl_none hx
  have kk0 := Later.cell (show w1.cell? ⟨iBC, 0, none⟩ = some (.int .i64 x.many) from (cell_of_block BC.out 0).1)
  have kk1 := Later.cell (show w1.cell? ⟨iBC, 1, none⟩ = some (.slice A x.list.length a) from (cell_of_block BC.out 1).1)
  obtain ⟨rcs, hsrc, h1c, hcl9, hrows⟩ := src_rows hx
  have HSRC := Lib.hid hsrc
  have HROWS := Lib.hid hrows
  have H1C := Lib.hid h1c
  clear hsrc hrows h1c
  go_wp2
  refine wp_region_rel [[], [(0, 15)], [], [], [(3, 18)], [(2, 17), (4, 19)], [(1, 16), (5, 20)], [], [(6, 21), (7, 5)]]
    (RC w1.heap.size)
    (fun _ yy => Below w1.heap.size w1 yy)
    [fun vs9 _ => vs9 0 = (.pointer (some ⟨iBC, 0, none⟩)),
    fun vs9 _ => vs9 1 = (.int .i64 x.many),
    fun vs9 y9 => (fun v yy => ∃ b, v = .slice (some ⟨b, 0, none⟩) 0 0 ∧ w1.heap.size ≤ b ∧ yy.heap[b]? = some (.cells #[] 26 (0, 0))) (vs9 2) y9,
    fun vs9 _ => vs9 3 = (.pointer (some ⟨iBC, 1, none⟩)),
    fun vs9 _ => vs9 4 = (.slice A x.list.length a),
    fun vs9 y9 => (fun v yy => ∃ A9 c9, v = .slice A9 x.list.length c9 ∧ OwnC w1.heap.size yy (.slice A9 x.list.length c9) x.list) (vs9 5) y9,
    fun vs9 y9 => (fun v yy => ∃ A9 c9, v = .agg #[.int .i64 x.many, .slice A9 x.list.length c9] ∧ OwnC w1.heap.size yy (.slice A9 x.list.length c9) x.list) (vs9 6) y9,
    fun vs9 y9 => (fun v yy => ∃ b, v = .pointer (some ⟨b, 0, none⟩) ∧ w1.heap.size ≤ b ∧ ∃ z0 z1, yy.heap[b]? = some (.cells #[z0, z1] 25 (0, 0))) (vs9 7) y9,
    fun vs yy => ∃ b A9 c9, vs 7 = .pointer (some ⟨b, 0, none⟩) ∧ w1.heap.size ≤ b ∧ yy.heap[b]? = some (.cells #[.int .i64 x.many, .slice A9 x.list.length c9] 25 (0, 0)) ∧ OwnC w1.heap.size yy (.slice A9 x.list.length c9) x.list]
    [(0, 15), (1, 16), (2, 17), (3, 18), (4, 19), (5, 20), (6, 21), (7, 5)] (by kernel_rfl) (by kernel_rfl) (by kernel_rfl) (by kernel_rfl)
    (fun _ => RC.refl _ _)
    ⟨.inr (fun _ _ _ h _ => h),
    .inr (fun _ _ _ h _ => h),
    .inr (fun vs9 x9 y9 h9 hR9 => (show ∀ v9 y8 y7, (fun v yy => ∃ b, v = .slice (some ⟨b, 0, none⟩) 0 0 ∧ w1.heap.size ≤ b ∧ yy.heap[b]? = some (.cells #[] 26 (0, 0))) v9 y8 → (RC w1.heap.size) y8 y7 → (fun v yy => ∃ b, v = .slice (some ⟨b, 0, none⟩) 0 0 ∧ w1.heap.size ≤ b ∧ yy.heap[b]? = some (.cells #[] 26 (0, 0))) v9 y7 from fun _ _ _ ⟨b, h1, h2, h3⟩ hR => ⟨b, h1, h2, hR.same h3 tne2⟩) (vs9 2) x9 y9 h9 hR9),
    .inr (fun _ _ _ h _ => h),
    .inr (fun _ _ _ h _ => h),
    .inr (fun vs9 x9 y9 h9 hR9 => (show ∀ v9 y8 y7, (fun v yy => ∃ A9 c9, v = .slice A9 x.list.length c9 ∧ OwnC w1.heap.size yy (.slice A9 x.list.length c9) x.list) v9 y8 → (RC w1.heap.size) y8 y7 → (fun v yy => ∃ A9 c9, v = .slice A9 x.list.length c9 ∧ OwnC w1.heap.size yy (.slice A9 x.list.length c9) x.list) v9 y7 from fun _ _ _ ⟨A9, c9, h1, h2⟩ hR => ⟨A9, c9, h1, h2.rc hR⟩) (vs9 5) x9 y9 h9 hR9),
    .inr (fun vs9 x9 y9 h9 hR9 => (show ∀ v9 y8 y7, (fun v yy => ∃ A9 c9, v = .agg #[.int .i64 x.many, .slice A9 x.list.length c9] ∧ OwnC w1.heap.size yy (.slice A9 x.list.length c9) x.list) v9 y8 → (RC w1.heap.size) y8 y7 → (fun v yy => ∃ A9 c9, v = .agg #[.int .i64 x.many, .slice A9 x.list.length c9] ∧ OwnC w1.heap.size yy (.slice A9 x.list.length c9) x.list) v9 y7 from fun _ _ _ ⟨A9, c9, h1, h2⟩ hR => ⟨A9, c9, h1, h2.rc hR⟩) (vs9 6) x9 y9 h9 hR9),
    .inr (fun vs9 x9 y9 h9 hR9 => (show ∀ v9 y8 y7, (fun v yy => ∃ b, v = .pointer (some ⟨b, 0, none⟩) ∧ w1.heap.size ≤ b ∧ ∃ z0 z1, yy.heap[b]? = some (.cells #[z0, z1] 25 (0, 0))) v9 y8 → (RC w1.heap.size) y8 y7 → (fun v yy => ∃ b, v = .pointer (some ⟨b, 0, none⟩) ∧ w1.heap.size ≤ b ∧ ∃ z0 z1, yy.heap[b]? = some (.cells #[z0, z1] 25 (0, 0))) v9 y7 from fun _ _ _ ⟨b, h1, h2, h3⟩ hR => ⟨b, h1, h2, hR.two h3⟩) (vs9 7) x9 y9 h9 hR9),
    .inl (by kernel_rfl), trivial⟩ ⟨fun vs vs' x h _ hv => (by dsimp only at hv ⊢; first | (rw [← h]; exact hv) | exact hv),
    fun vs vs' x h _ hv => (by dsimp only at hv ⊢; first | (rw [← h]; exact hv) | exact hv),
    fun vs vs' x h _ hv => (by dsimp only at hv ⊢; first | (rw [← h]; exact hv) | exact hv),
    fun vs vs' x h _ hv => (by dsimp only at hv ⊢; first | (rw [← h]; exact hv) | exact hv),
    fun vs vs' x h _ hv => (by dsimp only at hv ⊢; first | (rw [← h]; exact hv) | exact hv),
    fun vs vs' x h _ hv => (by dsimp only at hv ⊢; first | (rw [← h]; exact hv) | exact hv),
    fun vs vs' x h _ hv => (by dsimp only at hv ⊢; first | (rw [← h]; exact hv) | exact hv),
    fun vs vs' x h _ hv => (by dsimp only at hv ⊢; first | (rw [← h]; exact hv) | exact hv),
    fun vs vs' yy _ h ⟨b, A9, c9, h1, h2⟩ => ⟨b, A9, c9, by rw [← h 7 (by simp [idxs])]; exact h1, h2⟩, trivial⟩ (below_drewN (Below.refl _ _) 1) ⟨?_, ?_, ?_, ?_, ?_, ?_, ?_, ?_, ?_, trivial⟩ ?_
  · intro vals xw n hn hI hF
    dsimp only [owes, bare]
    simp only [putsD, Act.put, List.setIfInBounds_toArray, List.set_cons_zero, List.set_cons_succ]
    go_wp2
    exact ⟨rfl, rfl, RC.refl _ _, hI⟩
  · intro vals xw n hn hI hF
    simp only [saysD, List.getD_cons_zero, List.getD_cons_succ, and_true] at hF
    dsimp only [owes, bare]
    simp only [putsD, Act.put, List.setIfInBounds_toArray, List.set_cons_zero, List.set_cons_succ]
    simp only [hF]
    have e9 : xw.cell? _ = _ := kk0 ⟨xw, hI⟩
    go_wp2
    exact ⟨rfl, rfl, RC.refl _ _, hI⟩
  · intro vals xw n hn hI hF
    dsimp only [owes, bare]
    simp only [putsD, Act.put, List.setIfInBounds_toArray, List.set_cons_zero, List.set_cons_succ]
    have hs9 := hI.size
    have hn9 := heap_alloc_new xw (.cells #[] 26)
    have hal : Below xw.heap.size xw (xw.alloc (.cells #[] 26)) := (Below.refl _ _).alloc (Nat.le_refl _) _
    go_wp2
    exact ⟨rfl, ⟨_, rfl, hs9, hn9⟩, RC.of hal, bthen hI hal⟩
  · intro vals xw n hn hI hF
    dsimp only [owes, bare]
    simp only [putsD, Act.put, List.setIfInBounds_toArray, List.set_cons_zero, List.set_cons_succ]
    go_wp2
    exact ⟨rfl, rfl, RC.refl _ _, hI⟩
  · intro vals xw n hn hI hF
    simp only [saysD, List.getD_cons_zero, List.getD_cons_succ, and_true] at hF
    dsimp only [owes, bare]
    simp only [putsD, Act.put, List.setIfInBounds_toArray, List.set_cons_zero, List.set_cons_succ]
    simp only [hF]
    have e9 : xw.cell? _ = _ := kk1 ⟨xw, hI⟩
    go_wp2
    exact ⟨rfl, rfl, RC.refl _ _, hI⟩
  · intro vals xw n hn hI hF
    simp only [saysD, List.getD_cons_zero, List.getD_cons_succ, and_true] at hF
    obtain ⟨⟨b9, e70, hb9, hh9⟩, e72⟩ := hF
    dsimp only [owes, bare]
    simp only [putsD, Act.put, List.setIfInBounds_toArray, List.set_cons_zero, List.set_cons_succ]
    simp only [e70, e72]
    have hs9 := hI.size
    have hsrc9 : Src xw 1 A x.list.length rcs := ⟨HSRC.out.1, fun h9 => by obtain ⟨ad, e, hcell⟩ := HSRC.out.2 h9; exact ⟨ad, e, fun j z hz => (hI.cell (World.block_lt_of_cell? _ _ (hcell j z hz))).trans (hcell j z hz)⟩⟩
    go_wp2_with (at_builtin; refine wpList_append_empty (by rfl) (.tmp 17) (.tmp 19) _ (by rfl) w1.heap.size 26 i0 _ 1 24 Try.underlying23 hi0 hz0 hz1 hz2 (by rfl) (by omega) b9 (by rfl) hh9 hb9 A x.list.length a rcs (by rfl) hsrc9 H1C.out (by unfold maxLen; have := HXL.out; omega) (by have := HXL.out; omega) hs9 hA9 ?_; intro A8 c8 w8 hown8 hb8)
    have hbw := bthen hI hb8
    have HOC : Hid (OwnC w1.heap.size w8 (.slice A8 x.list.length c8) x.list) := Lib.hid (ownL_of_src (S := fun b => w1.heap.size ≤ b) hown8 rfl hbw HROWS.out (fun b hb => ⟨hb, fun e => by have : w1.heap.size ≤ b := e; omega⟩) (Nat.le_refl _))
    have HRC : Hid (RC w1.heap.size xw w8) := Lib.hid (RC.of hb8)
    clear hown8 hb8 hsrc9 hh9
    go_wp2
    exact ⟨rfl, ⟨A8, c8, rfl, HOC.out⟩, HRC.out, hbw⟩
  · intro vals xw n hn hI hF
    simp only [saysD, List.getD_cons_zero, List.getD_cons_succ, and_true] at hF
    obtain ⟨e69, A9, c9, e73, ho9⟩ := hF
    dsimp only [owes, bare]
    simp only [putsD, Act.put, List.setIfInBounds_toArray, List.set_cons_zero, List.set_cons_succ]
    simp only [e69, e73]
    go_wp2
    exact ⟨rfl, ⟨A9, c9, rfl, ho9⟩, RC.refl _ _, hI⟩
  · intro vals xw n hn hI hF
    dsimp only [owes, bare]
    simp only [putsD, Act.put, List.setIfInBounds_toArray, List.set_cons_zero, List.set_cons_succ]
    have hs9 := hI.size
    have hn9 := heap_alloc_new xw (.cells #[.int .i64 0, .slice none 0 0] 25)
    have hal : Below xw.heap.size xw (xw.alloc (.cells #[.int .i64 0, .slice none 0 0] 25)) := (Below.refl _ _).alloc (Nat.le_refl _) _
    go_wp2
    exact ⟨rfl, ⟨_, rfl, hs9, _, _, hn9⟩, RC.of hal, bthen hI hal⟩
  · intro vals xw n hn hI hF
    simp only [saysD, List.getD_cons_zero, List.getD_cons_succ, and_true] at hF
    obtain ⟨⟨A9, c9, e74, ho9⟩, b9, e9, hb9, z0, z1, hk⟩ := hF
    dsimp only [owes, bare]
    simp only [putsD, Act.put, List.setIfInBounds_toArray, List.set_cons_zero, List.set_cons_succ]
    simp only [e74, e9]
    have v0 : xw.cell? ⟨b9, 0, none⟩ = some z0 := (cell_of_block hk 0).1
    have v1 : xw.cell? ⟨b9, 1, none⟩ = some z1 := (cell_of_block hk 1).1
    have f0 : xw.frozen? ⟨b9, 0, none⟩ = false := (cell_of_block hk 0).2
    have f1 : xw.frozen? ⟨b9, 1, none⟩ = false := (cell_of_block hk 1).2
    have HH := Lib.hid (heap_set_same _ b9 1 (.slice A9 x.list.length c9) _ _ (heap_set_same xw b9 0 (.int .i64 x.many) _ _ hk))
    have HRC := Lib.hid (rc_set (y0 := .int .i64 x.many) (y1 := .slice A9 x.list.length c9) hk hb9)
    have HO := Lib.hid (ho9.rc HRC.out)
    have HB := Lib.hid ((hI.setCell (p := ⟨b9, 0, none⟩) hb9 (.int .i64 x.many)).setCell (p := ⟨b9, 1, none⟩) hb9 (.slice A9 x.list.length c9))
    have E9 := Lib.hid e9
    clear hk ho9 hI e9
    go_wp2
    exact ⟨rfl, ⟨b9, A9, c9, E9.out, hb9, HH.out, HO.out⟩, HRC.out, HB.out⟩
  · intro vals xw n hn hI hF
    rw [show List.range _ = [0, 1, 2, 3, 4, 5, 6, 7, 8] from rfl] at hF
    simp only [says, List.getD_cons_zero, List.getD_cons_succ, and_true] at hF
    obtain ⟨iBD, ABD, cBD, e9, hiBD, hB9, hO9⟩ := hF.2.2.2.2.2.2.2.2
    simp only [putsD, Act.put, List.setIfInBounds_toArray, List.set_cons_zero, List.set_cons_succ]
    simp only [e9]
    have BD := Lib.hid hB9
    have OBD := Lib.hid hO9
    have hIBD := hI
    clear hF hB9 hO9 e9 kk0 kk1 hcl9 hA9 hI hi0 hz0 hz1 hz2
    have hbdlt := lt_of_block BD.out
    have hx := hx.up hIBD
    have hcr := hcr.up hIBD
    have BC := Lib.hid ((hIBD.block _ (lt_of_block BC.out)).trans BC.out)
    have OD : OwnD iBD w1.heap.size xw (.slice ABD x.list.length cBD) x.list := OBD.out.monoQ (fun b hb e => hb (by rw [show b = iBD from e]; exact hiBD))
    have hw0 : w1.heap.size ≤ xw.heap.size := hIBD.size
    have hbcl : iBC < w1.heap.size := HBCL.out
    have hiBDn : iBC ≠ iBD := by omega
    have HX9 := Lib.hid hx
    have HC9 := Lib.hid hcr
    have HOD := Lib.hid OD
    have HI0 := Lib.hid hIBD
    clear hx hcr OD OBD
    go_wp2
    go_loopw [6] (fun i wr => ∃ (k : Nat) (ds : List (List Int)) (A9 : Option Addr) (c9 : Nat), k ≤ cs.length ∧ i = .int .i64 k ∧ Hid (ds = x.list ++ cs.take k) ∧ Hid (wr.heap[iBD]? = some (.cells #[.int .i64 x.many, .slice A9 ds.length c9] 25 (0, 0))) ∧ Hid (OwnD iBD w1.heap.size wr (.slice A9 ds.length c9) ds) ∧ Hid (Below w1.heap.size w1 wr) ∧ Hid (prf x [] cs = prf x (cs.take k) (cs.drop k)) ∧ Hid (∀ c ∈ cs.take k, clOk x.many c = true)) (fun i _ => cs.length - (intOf i).toNat)
    case atStart => exact ⟨0, x.list, ABD, cBD, Nat.zero_le _, rfl, Lib.hid (by simp), BD, HOD, HI0, Lib.hid (by simp), Lib.hid (by simp)⟩
    case round =>
      obtain ⟨k, ds, A9, c9, hk, rfl, HDS, HBD, HOC, HBR, HP, HG⟩ := hrel
      have hdl : ds.length ≤ 2800 := by rw [HDS.out, List.length_append, List.length_take]; omega
      have hbr := HBR.out
      have hsz9 := hbr.size
      by_cases hlt : k < cs.length
      · have hk1 : (k : Int) < cs.length := by omega
        have hk0 : (0 : Int) ≤ k := by omega
        have HPD := Lib.hid (HP.out.trans (prf_drop hlt))
        have HTK : Hid (cs.take (k + 1) = cs.take k ++ [cs[k]]) := Lib.hid (List.take_succ_eq_append_getElem hlt)
        have HM9 := Lib.hid (HCS.out _ (List.getElem_mem hlt))
        have hcr0 : Lay.int.slice.Sl w1 (fun b => b < w1.heap.size) B cs := HC1.out
        have hcr2 := hcr0.keep fun b hb => hbr.block b hb
        obtain ⟨ad, A1, c1, e1, hf, hc1, hcc, hsx⟩ := hcr2.at_slice hlt
        generalize cs[k] = cl at *
        subst e1
        have HCL := Lib.hid hsx
        have hbd9 := lt_of_block HBD.out
        have kk0 := Later.cell (cell_of_block ((hbr.block _ hbcl).trans BC0.out) 0).1
        have kk1 := Later.cell hc1
        have kk2 := Later.cell (cell_of_block HBD.out 0).1
        have kk3 := Later.cell (cell_of_block HBD.out 1).1
        simp at kk0 kk2 kk3
        clear hc1 hsx hcr2 hcr0
        cases hck : clOk x.many cl
        · have HCK := Lib.hid hck
          clear hck
          go_wp2
          refine wp_region_rel [[], [], [(0, 28), (1, 29)], [(2, 30)], [], [(4, 32)], [(3, 31), (5, 33)], [(6, 34)], [(7, 35)], [(8, 36)], [(8, 36)], [(8, 36)], [(8, 36), (10, 38), (11, 39)], [(8, 36), (12, 40)], [(8, 36), (9, 37), (13, 41)], [(8, 36), (14, 42)], [(8, 36), (15, 43)]]
            (fun y y' => Below y.heap.size y y')
            (fun _ yy => Below wr.heap.size wr yy)
            [fun vs9 _ => vs9 0 = (.slice (some ad) cs.length d),
    fun vs9 _ => vs9 1 = (.int .i64 (k : Int)),
    fun vs9 _ => vs9 2 = (.pointer (some (ad.add k))),
    fun vs9 _ => vs9 3 = (.slice A1 cl.length c1),
    fun vs9 _ => vs9 4 = (.pointer (some ⟨iBC, 0, none⟩)),
    fun vs9 _ => vs9 5 = (.int .i64 x.many),
    fun vs9 _ => vs9 6 = (.bool false),
    fun vs9 _ => vs9 7 = (.bool true),
    fun vs9 _ => vs9 8 = (.bool true),
    fun vs9 _ => vs9 9 = undef,
    fun vs9 _ => vs9 10 = undef,
    fun vs9 _ => vs9 11 = undef,
    fun vs9 _ => vs9 12 = undef,
    fun vs9 _ => vs9 13 = undef,
    fun vs9 _ => vs9 14 = undef,
    fun vs9 _ => vs9 15 = undef,
    fun vs9 _ => vs9 16 = (.bool true)]
            [(0, 28), (1, 29), (2, 30), (3, 31), (4, 32), (5, 33), (6, 34), (7, 35), (8, 36), (9, 37), (10, 38), (11, 39), (12, 40), (13, 41), (14, 42), (15, 43), (16, 44)] (by kernel_rfl) (by kernel_rfl) (by kernel_rfl) (by kernel_rfl)
            (fun _ => Below.refl _ _)
            ⟨.inr (fun _ _ _ h _ => h),
    .inr (fun _ _ _ h _ => h),
    .inr (fun _ _ _ h _ => h),
    .inr (fun _ _ _ h _ => h),
    .inr (fun _ _ _ h _ => h),
    .inr (fun _ _ _ h _ => h),
    .inr (fun _ _ _ h _ => h),
    .inr (fun _ _ _ h _ => h),
    .inr (fun _ _ _ h _ => h),
    .inr (fun _ _ _ h _ => h),
    .inr (fun _ _ _ h _ => h),
    .inr (fun _ _ _ h _ => h),
    .inr (fun _ _ _ h _ => h),
    .inr (fun _ _ _ h _ => h),
    .inr (fun _ _ _ h _ => h),
    .inr (fun _ _ _ h _ => h),
    .inr (fun _ _ _ h _ => h), trivial⟩ ⟨fun vs vs' x h _ hv => (by dsimp only at hv ⊢; first | (rw [← h]; exact hv) | exact hv),
    fun vs vs' x h _ hv => (by dsimp only at hv ⊢; first | (rw [← h]; exact hv) | exact hv),
    fun vs vs' x h _ hv => (by dsimp only at hv ⊢; first | (rw [← h]; exact hv) | exact hv),
    fun vs vs' x h _ hv => (by dsimp only at hv ⊢; first | (rw [← h]; exact hv) | exact hv),
    fun vs vs' x h _ hv => (by dsimp only at hv ⊢; first | (rw [← h]; exact hv) | exact hv),
    fun vs vs' x h _ hv => (by dsimp only at hv ⊢; first | (rw [← h]; exact hv) | exact hv),
    fun vs vs' x h _ hv => (by dsimp only at hv ⊢; first | (rw [← h]; exact hv) | exact hv),
    fun vs vs' x h _ hv => (by dsimp only at hv ⊢; first | (rw [← h]; exact hv) | exact hv),
    fun vs vs' x h _ hv => (by dsimp only at hv ⊢; first | (rw [← h]; exact hv) | exact hv),
    fun vs vs' x h _ hv => (by dsimp only at hv ⊢; first | (rw [← h]; exact hv) | exact hv),
    fun vs vs' x h _ hv => (by dsimp only at hv ⊢; first | (rw [← h]; exact hv) | exact hv),
    fun vs vs' x h _ hv => (by dsimp only at hv ⊢; first | (rw [← h]; exact hv) | exact hv),
    fun vs vs' x h _ hv => (by dsimp only at hv ⊢; first | (rw [← h]; exact hv) | exact hv),
    fun vs vs' x h _ hv => (by dsimp only at hv ⊢; first | (rw [← h]; exact hv) | exact hv),
    fun vs vs' x h _ hv => (by dsimp only at hv ⊢; first | (rw [← h]; exact hv) | exact hv),
    fun vs vs' x h _ hv => (by dsimp only at hv ⊢; first | (rw [← h]; exact hv) | exact hv),
    fun vs vs' x h _ hv => (by dsimp only at hv ⊢; first | (rw [← h]; exact hv) | exact hv), trivial⟩ (below_drewN (Below.refl _ _) 1) ⟨?_, ?_, ?_, ?_, ?_, ?_, ?_, ?_, ?_, ?_, ?_, ?_, ?_, ?_, ?_, ?_, ?_, trivial⟩ ?_
          · intro vals xw n hn hI hF
            dsimp only [owes, bare]
            simp only [putsD, Act.put, List.setIfInBounds_toArray, List.set_cons_zero, List.set_cons_succ]
            go_wp2
            exact ⟨rfl, rfl, Below.refl _ _, hI⟩
          · intro vals xw n hn hI hF
            dsimp only [owes, bare]
            simp only [putsD, Act.put, List.setIfInBounds_toArray, List.set_cons_zero, List.set_cons_succ]
            go_wp2
            exact ⟨rfl, rfl, Below.refl _ _, hI⟩
          · intro vals xw n hn hI hF
            simp only [saysD, List.getD_cons_zero, List.getD_cons_succ, and_true] at hF
            obtain ⟨e28, e29⟩ := hF
            dsimp only [owes, bare]
            simp only [putsD, Act.put, List.setIfInBounds_toArray, List.set_cons_zero, List.set_cons_succ]
            simp only [e28, e29]
            go_wp2
            exact ⟨rfl, rfl, Below.refl _ _, hI⟩
          · intro vals xw n hn hI hF
            simp only [saysD, List.getD_cons_zero, List.getD_cons_succ, and_true] at hF
            have e30 := hF
            dsimp only [owes, bare]
            simp only [putsD, Act.put, List.setIfInBounds_toArray, List.set_cons_zero, List.set_cons_succ]
            simp only [e30]
            have c90 : xw.cell? _ = _ := kk1 ⟨xw, hI⟩
            go_wp2
            exact ⟨rfl, rfl, Below.refl _ _, hI⟩
          · intro vals xw n hn hI hF
            dsimp only [owes, bare]
            simp only [putsD, Act.put, List.setIfInBounds_toArray, List.set_cons_zero, List.set_cons_succ]
            go_wp2
            exact ⟨rfl, rfl, Below.refl _ _, hI⟩
          · intro vals xw n hn hI hF
            simp only [saysD, List.getD_cons_zero, List.getD_cons_succ, and_true] at hF
            have e32 := hF
            dsimp only [owes, bare]
            simp only [putsD, Act.put, List.setIfInBounds_toArray, List.set_cons_zero, List.set_cons_succ]
            simp only [e32]
            have c90 : xw.cell? _ = _ := kk0 ⟨xw, hI⟩
            go_wp2
            exact ⟨rfl, rfl, Below.refl _ _, hI⟩
          · intro vals xw n hn hI hF
            simp only [saysD, List.getD_cons_zero, List.getD_cons_succ, and_true] at hF
            obtain ⟨e31, e33⟩ := hF
            dsimp only [owes, bare]
            simp only [putsD, Act.put, List.setIfInBounds_toArray, List.set_cons_zero, List.set_cons_succ]
            simp only [e31, e33]
            have HCA := Lib.hid (l4Clause_any A1 c1 cl x.many _ xw ((HCL.out.mono fun b hb => by omega : Lay.int.Rd wr A1 cl).up hI) HM9.out.1 hm0 (by omega))
            rw [HCK.out] at HCA
            go_wp2_with fail
            refine HCA.out.mono ?_
            rintro e wx ⟨rfl, rfl⟩
            go_wp2
            exact ⟨rfl, rfl, Below.refl _ _, hI⟩
          · intro vals xw n hn hI hF
            simp only [saysD, List.getD_cons_zero, List.getD_cons_succ, and_true] at hF
            have e34 := hF
            dsimp only [owes, bare]
            simp only [putsD, Act.put, List.setIfInBounds_toArray, List.set_cons_zero, List.set_cons_succ]
            simp only [e34]
            go_wp2
            exact ⟨rfl, rfl, Below.refl _ _, hI⟩
          · intro vals xw n hn hI hF
            simp only [saysD, List.getD_cons_zero, List.getD_cons_succ, and_true] at hF
            have e35 := hF
            dsimp only [owes, bare]
            simp only [putsD, Act.put, List.setIfInBounds_toArray, List.set_cons_zero, List.set_cons_succ]
            simp only [e35]
            go_wp2
            exact ⟨rfl, rfl, Below.refl _ _, hI⟩
          · intro vals xw n hn hI hF
            simp only [saysD, List.getD_cons_zero, List.getD_cons_succ, and_true] at hF
            have e36 := hF
            dsimp only [owes, bare]
            exact ⟨fun h => absurd (e36.symm.trans h) (by simp), fun _ => ⟨rfl, hI⟩⟩
          · intro vals xw n hn hI hF
            simp only [saysD, List.getD_cons_zero, List.getD_cons_succ, and_true] at hF
            have e36 := hF
            dsimp only [owes, bare]
            exact ⟨fun h => absurd (e36.symm.trans h) (by simp), fun _ => ⟨rfl, hI⟩⟩
          · intro vals xw n hn hI hF
            simp only [saysD, List.getD_cons_zero, List.getD_cons_succ, and_true] at hF
            have e36 := hF
            dsimp only [owes, bare]
            exact ⟨fun h => absurd (e36.symm.trans h) (by simp), fun _ => ⟨rfl, hI⟩⟩
          · intro vals xw n hn hI hF
            simp only [saysD, List.getD_cons_zero, List.getD_cons_succ, and_true] at hF
            obtain ⟨e36, e38, e39⟩ := hF
            dsimp only [owes, bare]
            exact ⟨fun h => absurd (e36.symm.trans h) (by simp), fun _ => ⟨rfl, hI⟩⟩
          · intro vals xw n hn hI hF
            simp only [saysD, List.getD_cons_zero, List.getD_cons_succ, and_true] at hF
            obtain ⟨e36, e40⟩ := hF
            dsimp only [owes, bare]
            exact ⟨fun h => absurd (e36.symm.trans h) (by simp), fun _ => ⟨rfl, hI⟩⟩
          · intro vals xw n hn hI hF
            simp only [saysD, List.getD_cons_zero, List.getD_cons_succ, and_true] at hF
            obtain ⟨e36, e37, e41⟩ := hF
            dsimp only [owes, bare]
            exact ⟨fun h => absurd (e36.symm.trans h) (by simp), fun _ => ⟨rfl, hI⟩⟩
          · intro vals xw n hn hI hF
            simp only [saysD, List.getD_cons_zero, List.getD_cons_succ, and_true] at hF
            obtain ⟨e36, e42⟩ := hF
            dsimp only [owes, bare]
            exact ⟨fun h => absurd (e36.symm.trans h) (by simp), fun _ => ⟨rfl, hI⟩⟩
          · intro vals xw n hn hI hF
            simp only [saysD, List.getD_cons_zero, List.getD_cons_succ, and_true] at hF
            obtain ⟨e36, e43⟩ := hF
            dsimp only [owes, bare]
            simp only [putsD, Act.put, List.setIfInBounds_toArray, List.set_cons_zero, List.set_cons_succ]
            simp only [e36, e43]
            go_wp2
            exact ⟨rfl, rfl, Below.refl _ _, hI⟩
          · intro vals xw n hn hI hF
            rw [show List.range _ = [0, 1, 2, 3, 4, 5, 6, 7, 8, 9, 10, 11, 12, 13, 14, 15, 16] from rfl] at hF
            simp only [says, List.getD_cons_zero, List.getD_cons_succ, and_true] at hF
            have e44 := hF.2.2.2.2.2.2.2.2.2.2.2.2.2.2.2.2
            simp only [putsD, Act.put, List.setIfInBounds_toArray, List.set_cons_zero, List.set_cons_succ]
            simp only [e44]
            clear hF e44
            have hb9 := hbr.trans (hI.mono hsz9)
            clear kk0 kk1 kk2 kk3
            go_wp2
            go_ret
            exact ⟨ret_bool (by rw [HE.out, HPD.out, HCK.out]; rfl), HBWN.out.trans (hb9.mono HBWN.out.size)⟩
        · have HCK := Lib.hid hck
          clear hck
          have HQ : Hid (∀ xw : World, Below wr.heap.size wr xw → Calls Try.prog 46 #[.agg #[.int .i64 x.many, .slice A9 ds.length c9], .slice A1 cl.length c1] xw (RetB xw (units x.many (x.list ++ cs.take k) (cl.map fun l => -l)).2)) := Lib.hid fun xw hb9 => by
            have hdr : ∀ c ∈ ds, (∀ l ∈ c, l ≠ 0 ∧ -(M : Int) ≤ l ∧ l ≤ M) ∧ c.length ≤ 1048576 := fun c hc => by
              rw [HDS.out] at hc
              rcases List.mem_append.1 hc with hc | hc
              · exact ⟨fun l hl => by have := HRN.out c hc l hl; rw [HMM.out] at this; exact this, (SX.out.2.2.1 c hc).1⟩
              · exact ⟨fun l hl => by have := clOk_rng (HG.out c hc) l hl; rw [HMM.out] at this; exact this, (HCS.out c (List.mem_of_mem_take hc)).1⟩
            have hck2 := HCK.out
            rw [HMM.out] at hck2
            have := l5Rup_any A9 A1 c9 c1 M ⟨x.many, ds⟩ cl _ _ xw HMM.out hM7 (Lay.Sl.up HOC.out.rd hb9) (fun _ h => h) (Lay.Sl.up ((HCL.out.mono fun b hb => by omega : Lay.int.Rd wr A1 cl)) hb9) (fun _ h => h) (clOk_put8 hck2) (clOk_rng hck2) hdr (by show ds.length ≤ 1048576; omega) HM9.out.1
            rw [HMM.out, ← HDS.out]
            rw [HMM.out] at this
            exact this
          obtain ⟨q, hq⟩ : ∃ q, q = (units x.many (x.list ++ cs.take k) (cl.map fun l => -l)).2 := ⟨_, rfl⟩
          rw [← hq] at HQ HPD
          rw [HCK.out] at HPD
          clear hq
          go_wp2
          refine wp_region_rel [[], [], [(0, 28), (1, 29)], [(2, 30)], [], [(4, 32)], [(3, 31), (5, 33)], [(6, 34)], [(7, 35)], [(8, 36)], [(8, 36)], [(8, 36)], [(8, 36), (10, 38), (11, 39)], [(8, 36), (12, 40)], [(8, 36), (9, 37), (13, 41)], [(8, 36), (14, 42)], [(8, 36), (15, 43)]]
            (fun y y' => Below y.heap.size y y')
            (fun _ yy => Below wr.heap.size wr yy)
            [fun vs9 _ => vs9 0 = (.slice (some ad) cs.length d),
    fun vs9 _ => vs9 1 = (.int .i64 (k : Int)),
    fun vs9 _ => vs9 2 = (.pointer (some (ad.add k))),
    fun vs9 _ => vs9 3 = (.slice A1 cl.length c1),
    fun vs9 _ => vs9 4 = (.pointer (some ⟨iBC, 0, none⟩)),
    fun vs9 _ => vs9 5 = (.int .i64 x.many),
    fun vs9 _ => vs9 6 = (.bool true),
    fun vs9 _ => vs9 7 = (.bool false),
    fun vs9 _ => vs9 8 = (.bool false),
    fun vs9 _ => vs9 9 = (.agg #[.int .i64 x.many, .slice A9 ds.length c9]),
    fun vs9 _ => vs9 10 = (.slice (some ad) cs.length d),
    fun vs9 _ => vs9 11 = (.int .i64 (k : Int)),
    fun vs9 _ => vs9 12 = (.pointer (some (ad.add k))),
    fun vs9 _ => vs9 13 = (.slice A1 cl.length c1),
    fun vs9 _ => vs9 14 = (.bool q),
    fun vs9 _ => vs9 15 = (.bool (!q)),
    fun vs9 _ => vs9 16 = (.bool (!q))]
            [(0, 28), (1, 29), (2, 30), (3, 31), (4, 32), (5, 33), (6, 34), (7, 35), (8, 36), (9, 37), (10, 38), (11, 39), (12, 40), (13, 41), (14, 42), (15, 43), (16, 44)] (by kernel_rfl) (by kernel_rfl) (by kernel_rfl) (by kernel_rfl)
            (fun _ => Below.refl _ _)
            ⟨.inr (fun _ _ _ h _ => h),
    .inr (fun _ _ _ h _ => h),
    .inr (fun _ _ _ h _ => h),
    .inr (fun _ _ _ h _ => h),
    .inr (fun _ _ _ h _ => h),
    .inr (fun _ _ _ h _ => h),
    .inr (fun _ _ _ h _ => h),
    .inr (fun _ _ _ h _ => h),
    .inr (fun _ _ _ h _ => h),
    .inr (fun _ _ _ h _ => h),
    .inr (fun _ _ _ h _ => h),
    .inr (fun _ _ _ h _ => h),
    .inr (fun _ _ _ h _ => h),
    .inr (fun _ _ _ h _ => h),
    .inr (fun _ _ _ h _ => h),
    .inr (fun _ _ _ h _ => h),
    .inr (fun _ _ _ h _ => h), trivial⟩ ⟨fun vs vs' x h _ hv => (by dsimp only at hv ⊢; first | (rw [← h]; exact hv) | exact hv),
    fun vs vs' x h _ hv => (by dsimp only at hv ⊢; first | (rw [← h]; exact hv) | exact hv),
    fun vs vs' x h _ hv => (by dsimp only at hv ⊢; first | (rw [← h]; exact hv) | exact hv),
    fun vs vs' x h _ hv => (by dsimp only at hv ⊢; first | (rw [← h]; exact hv) | exact hv),
    fun vs vs' x h _ hv => (by dsimp only at hv ⊢; first | (rw [← h]; exact hv) | exact hv),
    fun vs vs' x h _ hv => (by dsimp only at hv ⊢; first | (rw [← h]; exact hv) | exact hv),
    fun vs vs' x h _ hv => (by dsimp only at hv ⊢; first | (rw [← h]; exact hv) | exact hv),
    fun vs vs' x h _ hv => (by dsimp only at hv ⊢; first | (rw [← h]; exact hv) | exact hv),
    fun vs vs' x h _ hv => (by dsimp only at hv ⊢; first | (rw [← h]; exact hv) | exact hv),
    fun vs vs' x h _ hv => (by dsimp only at hv ⊢; first | (rw [← h]; exact hv) | exact hv),
    fun vs vs' x h _ hv => (by dsimp only at hv ⊢; first | (rw [← h]; exact hv) | exact hv),
    fun vs vs' x h _ hv => (by dsimp only at hv ⊢; first | (rw [← h]; exact hv) | exact hv),
    fun vs vs' x h _ hv => (by dsimp only at hv ⊢; first | (rw [← h]; exact hv) | exact hv),
    fun vs vs' x h _ hv => (by dsimp only at hv ⊢; first | (rw [← h]; exact hv) | exact hv),
    fun vs vs' x h _ hv => (by dsimp only at hv ⊢; first | (rw [← h]; exact hv) | exact hv),
    fun vs vs' x h _ hv => (by dsimp only at hv ⊢; first | (rw [← h]; exact hv) | exact hv),
    fun vs vs' x h _ hv => (by dsimp only at hv ⊢; first | (rw [← h]; exact hv) | exact hv), trivial⟩ (below_drewN (Below.refl _ _) 1) ⟨?_, ?_, ?_, ?_, ?_, ?_, ?_, ?_, ?_, ?_, ?_, ?_, ?_, ?_, ?_, ?_, ?_, trivial⟩ ?_
          · intro vals xw n hn hI hF
            dsimp only [owes, bare]
            simp only [putsD, Act.put, List.setIfInBounds_toArray, List.set_cons_zero, List.set_cons_succ]
            go_wp2
            exact ⟨rfl, rfl, Below.refl _ _, hI⟩
          · intro vals xw n hn hI hF
            dsimp only [owes, bare]
            simp only [putsD, Act.put, List.setIfInBounds_toArray, List.set_cons_zero, List.set_cons_succ]
            go_wp2
            exact ⟨rfl, rfl, Below.refl _ _, hI⟩
          · intro vals xw n hn hI hF
            simp only [saysD, List.getD_cons_zero, List.getD_cons_succ, and_true] at hF
            obtain ⟨e28, e29⟩ := hF
            dsimp only [owes, bare]
            simp only [putsD, Act.put, List.setIfInBounds_toArray, List.set_cons_zero, List.set_cons_succ]
            simp only [e28, e29]
            go_wp2
            exact ⟨rfl, rfl, Below.refl _ _, hI⟩
          · intro vals xw n hn hI hF
            simp only [saysD, List.getD_cons_zero, List.getD_cons_succ, and_true] at hF
            have e30 := hF
            dsimp only [owes, bare]
            simp only [putsD, Act.put, List.setIfInBounds_toArray, List.set_cons_zero, List.set_cons_succ]
            simp only [e30]
            have c90 : xw.cell? _ = _ := kk1 ⟨xw, hI⟩
            go_wp2
            exact ⟨rfl, rfl, Below.refl _ _, hI⟩
          · intro vals xw n hn hI hF
            dsimp only [owes, bare]
            simp only [putsD, Act.put, List.setIfInBounds_toArray, List.set_cons_zero, List.set_cons_succ]
            go_wp2
            exact ⟨rfl, rfl, Below.refl _ _, hI⟩
          · intro vals xw n hn hI hF
            simp only [saysD, List.getD_cons_zero, List.getD_cons_succ, and_true] at hF
            have e32 := hF
            dsimp only [owes, bare]
            simp only [putsD, Act.put, List.setIfInBounds_toArray, List.set_cons_zero, List.set_cons_succ]
            simp only [e32]
            have c90 : xw.cell? _ = _ := kk0 ⟨xw, hI⟩
            go_wp2
            exact ⟨rfl, rfl, Below.refl _ _, hI⟩
          · intro vals xw n hn hI hF
            simp only [saysD, List.getD_cons_zero, List.getD_cons_succ, and_true] at hF
            obtain ⟨e31, e33⟩ := hF
            dsimp only [owes, bare]
            simp only [putsD, Act.put, List.setIfInBounds_toArray, List.set_cons_zero, List.set_cons_succ]
            simp only [e31, e33]
            have HCA := Lib.hid (l4Clause_any A1 c1 cl x.many _ xw ((HCL.out.mono fun b hb => by omega : Lay.int.Rd wr A1 cl).up hI) HM9.out.1 hm0 (by omega))
            rw [HCK.out] at HCA
            go_wp2_with fail
            refine HCA.out.mono ?_
            rintro e wx ⟨rfl, rfl⟩
            go_wp2
            exact ⟨rfl, rfl, Below.refl _ _, hI⟩
          · intro vals xw n hn hI hF
            simp only [saysD, List.getD_cons_zero, List.getD_cons_succ, and_true] at hF
            have e34 := hF
            dsimp only [owes, bare]
            simp only [putsD, Act.put, List.setIfInBounds_toArray, List.set_cons_zero, List.set_cons_succ]
            simp only [e34]
            go_wp2
            exact ⟨rfl, rfl, Below.refl _ _, hI⟩
          · intro vals xw n hn hI hF
            simp only [saysD, List.getD_cons_zero, List.getD_cons_succ, and_true] at hF
            have e35 := hF
            dsimp only [owes, bare]
            simp only [putsD, Act.put, List.setIfInBounds_toArray, List.set_cons_zero, List.set_cons_succ]
            simp only [e35]
            go_wp2
            exact ⟨rfl, rfl, Below.refl _ _, hI⟩
          · intro vals xw n hn hI hF
            simp only [saysD, List.getD_cons_zero, List.getD_cons_succ, and_true] at hF
            have e36 := hF
            dsimp only [owes, bare]
            refine ⟨fun _ => ?_, fun h => absurd e36 h⟩
            simp only [putsD, Act.put, List.setIfInBounds_toArray, List.set_cons_zero, List.set_cons_succ]
            simp only [e36]
            have c90 : xw.cell? _ = _ := kk2 ⟨xw, hI⟩
            have c91 : xw.cell? _ = _ := kk3 ⟨xw, hI⟩
            go_wp2
            exact ⟨rfl, rfl, Below.refl _ _, hI⟩
          · intro vals xw n hn hI hF
            simp only [saysD, List.getD_cons_zero, List.getD_cons_succ, and_true] at hF
            have e36 := hF
            dsimp only [owes, bare]
            refine ⟨fun _ => ?_, fun h => absurd e36 h⟩
            simp only [putsD, Act.put, List.setIfInBounds_toArray, List.set_cons_zero, List.set_cons_succ]
            simp only [e36]
            go_wp2
            exact ⟨rfl, rfl, Below.refl _ _, hI⟩
          · intro vals xw n hn hI hF
            simp only [saysD, List.getD_cons_zero, List.getD_cons_succ, and_true] at hF
            have e36 := hF
            dsimp only [owes, bare]
            refine ⟨fun _ => ?_, fun h => absurd e36 h⟩
            simp only [putsD, Act.put, List.setIfInBounds_toArray, List.set_cons_zero, List.set_cons_succ]
            simp only [e36]
            go_wp2
            exact ⟨rfl, rfl, Below.refl _ _, hI⟩
          · intro vals xw n hn hI hF
            simp only [saysD, List.getD_cons_zero, List.getD_cons_succ, and_true] at hF
            obtain ⟨e36, e38, e39⟩ := hF
            dsimp only [owes, bare]
            refine ⟨fun _ => ?_, fun h => absurd e36 h⟩
            simp only [putsD, Act.put, List.setIfInBounds_toArray, List.set_cons_zero, List.set_cons_succ]
            simp only [e36, e38, e39]
            go_wp2
            exact ⟨rfl, rfl, Below.refl _ _, hI⟩
          · intro vals xw n hn hI hF
            simp only [saysD, List.getD_cons_zero, List.getD_cons_succ, and_true] at hF
            obtain ⟨e36, e40⟩ := hF
            dsimp only [owes, bare]
            refine ⟨fun _ => ?_, fun h => absurd e36 h⟩
            simp only [putsD, Act.put, List.setIfInBounds_toArray, List.set_cons_zero, List.set_cons_succ]
            simp only [e36, e40]
            have c90 : xw.cell? _ = _ := kk1 ⟨xw, hI⟩
            go_wp2
            exact ⟨rfl, rfl, Below.refl _ _, hI⟩
          · intro vals xw n hn hI hF
            simp only [saysD, List.getD_cons_zero, List.getD_cons_succ, and_true] at hF
            obtain ⟨e36, e37, e41⟩ := hF
            dsimp only [owes, bare]
            refine ⟨fun _ => ?_, fun h => absurd e36 h⟩
            simp only [putsD, Act.put, List.setIfInBounds_toArray, List.set_cons_zero, List.set_cons_succ]
            simp only [e36, e37, e41]
            have HCA := Lib.hid (HQ.out xw hI)
            go_wp2_with fail
            refine HCA.out.mono ?_
            rintro e wx ⟨rfl, hb9⟩
            go_wp2
            exact ⟨rfl, rfl, hb9, bthen hI hb9⟩
          · intro vals xw n hn hI hF
            simp only [saysD, List.getD_cons_zero, List.getD_cons_succ, and_true] at hF
            obtain ⟨e36, e42⟩ := hF
            dsimp only [owes, bare]
            refine ⟨fun _ => ?_, fun h => absurd e36 h⟩
            simp only [putsD, Act.put, List.setIfInBounds_toArray, List.set_cons_zero, List.set_cons_succ]
            simp only [e36, e42]
            go_wp2
            exact ⟨rfl, rfl, Below.refl _ _, hI⟩
          · intro vals xw n hn hI hF
            simp only [saysD, List.getD_cons_zero, List.getD_cons_succ, and_true] at hF
            obtain ⟨e36, e43⟩ := hF
            dsimp only [owes, bare]
            simp only [putsD, Act.put, List.setIfInBounds_toArray, List.set_cons_zero, List.set_cons_succ]
            simp only [e36, e43]
            go_wp2
            exact ⟨rfl, rfl, Below.refl _ _, hI⟩
          · intro vals xw n hn hI hF
            rw [show List.range _ = [0, 1, 2, 3, 4, 5, 6, 7, 8, 9, 10, 11, 12, 13, 14, 15, 16] from rfl] at hF
            simp only [says, List.getD_cons_zero, List.getD_cons_succ, and_true] at hF
            have e44 := hF.2.2.2.2.2.2.2.2.2.2.2.2.2.2.2.2
            simp only [putsD, Act.put, List.setIfInBounds_toArray, List.set_cons_zero, List.set_cons_succ]
            simp only [e44]
            clear hF e44
            have hb9 := hbr.trans (hI.mono hsz9)
            cases q
            · clear kk0 kk1 kk2 kk3
              go_wp2
              go_ret
              exact ⟨ret_bool (by rw [HE.out, HPD.out]; rfl), HBWN.out.trans (hb9.mono HBWN.out.size)⟩
            have HOX := Lib.hid (HOC.out.up (Stay.notIn _) hI)
            have HBX := Lib.hid ((hI.block _ hbd9).trans HBD.out)
            have HCX := Lib.hid (HCL.out.keep fun b hb => hI.block b (by omega))
            have HB9 := Lib.hid hb9
            have hszx := hI.size
            have kk1x : xw.cell? (ad.add k) = some (.slice A1 cl.length c1) := kk1 ⟨xw, hI⟩
            clear kk0 kk1 kk2 kk3 hI hb9
            have kk1 := Later.cell kk1x
            clear kk1x
            go_wp2
            refine wp_region_rel6 [[], [(0, 45)], [], [], [(2, 47), (3, 48)], [(4, 49)], [(5, 50)], [(1, 46), (6, 51)], [], [(8, 53), (7, 52)]]
              (fun _ _ => True)
              []
              (fun v9 f9 x9 => ApD w1.heap.size iBD x.many A9 c9 ds A1 c1 cl w1 xw (v9 6) (v9 7) (f9 6) (f9 7) (f9 9) x9)
              [fun vs9 _ => vs9 0 = (.pointer (some ⟨iBD, 1, none⟩)),
    fun vs9 _ => vs9 1 = (.slice A9 ds.length c9),
    fun vs9 _ => vs9 2 = (.slice (some ad) cs.length d),
    fun vs9 _ => vs9 3 = (.int .i64 (k : Int)),
    fun vs9 _ => vs9 4 = (.pointer (some (ad.add k))),
    fun vs9 _ => vs9 5 = (.slice A1 cl.length c1),
    fun _ _ => True,
    fun _ _ => True,
    fun vs9 _ => vs9 8 = (.pointer (some ⟨iBD, 1, none⟩)),
    fun _ _ => True]
              [(0, 45), (1, 46), (2, 47), (3, 48), (4, 49), (5, 50), (6, 51), (7, 52), (8, 53)] (by kernel_rfl) (by kernel_rfl) (by kernel_rfl) (by kernel_rfl)
              (fun _ => trivial) trivial
              ⟨⟨.inr (fun _ _ _ h _ => h), trivial⟩,
    ⟨.inr (fun _ _ _ h _ => h), trivial⟩,
    ⟨.inr (fun _ _ _ h _ => h), trivial⟩,
    ⟨.inr (fun _ _ _ h _ => h), trivial⟩,
    ⟨.inr (fun _ _ _ h _ => h), trivial⟩,
    ⟨.inr (fun _ _ _ h _ => h), trivial⟩,
    ⟨.inr (fun _ _ _ h _ => h), trivial⟩,
    ⟨.inr (fun _ _ _ h _ => h), trivial⟩,
    ⟨.inr (fun _ _ _ h _ => h), trivial⟩,
    ⟨.inr (fun _ _ _ h _ => h), trivial⟩, trivial⟩ ⟨fun vs vs' x h _ hv => (by dsimp only at hv ⊢; first | (rw [← h]; exact hv) | exact hv),
    fun vs vs' x h _ hv => (by dsimp only at hv ⊢; first | (rw [← h]; exact hv) | exact hv),
    fun vs vs' x h _ hv => (by dsimp only at hv ⊢; first | (rw [← h]; exact hv) | exact hv),
    fun vs vs' x h _ hv => (by dsimp only at hv ⊢; first | (rw [← h]; exact hv) | exact hv),
    fun vs vs' x h _ hv => (by dsimp only at hv ⊢; first | (rw [← h]; exact hv) | exact hv),
    fun vs vs' x h _ hv => (by dsimp only at hv ⊢; first | (rw [← h]; exact hv) | exact hv),
    fun _ _ _ _ _ _ => trivial,
    fun _ _ _ _ _ _ => trivial,
    fun vs vs' x h _ hv => (by dsimp only at hv ⊢; first | (rw [← h]; exact hv) | exact hv),
    fun _ _ _ _ _ _ => trivial, trivial⟩ (ApD.start HB9.out (by omega) HOX.out HBX.out) ⟨?_, ?_, ?_, ?_, ?_, ?_, ?_, ?_, ?_, ?_, trivial⟩ ?_
            · intro vals yw f hf1 hf2 hf3 hI hF
              clear hf2 hf3
              dsimp only [owes6, bare]
              simp only [putsD, Act.put, List.setIfInBounds_toArray, List.set_cons_zero, List.set_cons_succ]
              go_wp2
              exact ⟨rfl, rfl, trivial, hI⟩
            · intro vals yw f hf1 hf2 hf3 hI hF
              have k9 : f 9 = false := hf3 9 (by kernel_rfl)
              clear hf2 hf3
              simp only [saysD, List.getD_cons_zero, List.getD_cons_succ, and_true] at hF
              have e45 := hF
              dsimp only [owes6, bare]
              simp only [putsD, Act.put, List.setIfInBounds_toArray, List.set_cons_zero, List.set_cons_succ]
              simp only [e45]
              have bx9 := hI.2.2.2.2.1 k9
              obtain ⟨c0, _⟩ := cell_of_block bx9 1
              clear bx9
              go_wp2
              exact ⟨rfl, rfl, trivial, hI⟩
            · intro vals yw f hf1 hf2 hf3 hI hF
              clear hf2 hf3
              dsimp only [owes6, bare]
              simp only [putsD, Act.put, List.setIfInBounds_toArray, List.set_cons_zero, List.set_cons_succ]
              go_wp2
              exact ⟨rfl, rfl, trivial, hI⟩
            · intro vals yw f hf1 hf2 hf3 hI hF
              clear hf2 hf3
              dsimp only [owes6, bare]
              simp only [putsD, Act.put, List.setIfInBounds_toArray, List.set_cons_zero, List.set_cons_succ]
              go_wp2
              exact ⟨rfl, rfl, trivial, hI⟩
            · intro vals yw f hf1 hf2 hf3 hI hF
              clear hf2 hf3
              simp only [saysD, List.getD_cons_zero, List.getD_cons_succ, and_true] at hF
              obtain ⟨e47, e48⟩ := hF
              dsimp only [owes6, bare]
              simp only [putsD, Act.put, List.setIfInBounds_toArray, List.set_cons_zero, List.set_cons_succ]
              simp only [e47, e48]
              go_wp2
              exact ⟨rfl, rfl, trivial, hI⟩
            · intro vals yw f hf1 hf2 hf3 hI hF
              have k7 : f 7 = false := hf3 7 (by kernel_rfl)
              clear hf2 hf3
              simp only [saysD, List.getD_cons_zero, List.getD_cons_succ, and_true] at hF
              have e49 := hF
              dsimp only [owes6, bare]
              simp only [putsD, Act.put, List.setIfInBounds_toArray, List.set_cons_zero, List.set_cons_succ]
              simp only [e49]
              have c9 : yw.cell? _ = _ := kk1 ⟨yw, (hI.2.1 k7).1⟩
              go_wp2
              exact ⟨rfl, rfl, trivial, hI⟩
            · intro vals yw f hf1 hf2 hf3 hI hF
              have k7 : f 7 = false := hf3 7 (by kernel_rfl)
              clear hf2 hf3
              simp only [saysD, List.getD_cons_zero, List.getD_cons_succ, and_true] at hF
              have e50 := hF
              dsimp only [owes6, bare]
              simp only [putsD, Act.put, List.setIfInBounds_toArray, List.set_cons_zero, List.set_cons_succ]
              simp only [e50]
              have HI9 := Lib.hid hI
              clear hI
              go_wp2
              exact ⟨rfl, trivial, trivial, HI9.out.list k7⟩
            · intro vals yw f hf1 hf2 hf3 hI hF
              have k6 : f 6 = true := hf2 6 (by kernel_rfl)
              have k9 : f 9 = false := hf3 9 (by kernel_rfl)
              clear hf2 hf3
              simp only [saysD, List.getD_cons_zero, List.getD_cons_succ, and_true] at hF
              have e46 := hF
              obtain ⟨b6, e51, hb6⟩ := hI.2.2.1 k6 hf1
              obtain ⟨hbw9, hown9⟩ := hI.2.1 hf1
              dsimp only [owes6, bare]
              simp only [putsD, Act.put, List.setIfInBounds_toArray, List.set_cons_zero, List.set_cons_succ]
              simp only [e46, e51]
              have hlo9 := hI.1.2.1
              have HI9 := Lib.hid hI
              clear hI
              obtain ⟨i0, hi0, hz0, hz1, hz2⟩ := info_parts rowi_info
              obtain ⟨ys, hys⟩ : ∃ ys, ys = ds ++ [cl] := ⟨_, rfl⟩
              have hcl9 := HCX.out.keep fun b hb => hbw9.block b (by omega)
              have hsx9 := hbw9.size
              refine wpList_append_rowAt (P := Try.prog) (L := Lay.int.slice) (Q := NotIn (fun b => b = iBD)) (G := fun b => b < w1.heap.size) (ys := ys) (cs := #[.slice A1 cl.length c1]) (x := cl) (by rfl) (.tmp 46) (.tmp 51) (by rfl) Try.underlying23 hi0 hz0 hz1 hz2 rfl (by show 0 < 1; omega) (by rfl) (by rfl) (World.news_of_block hb6) hown9 (Stay.notIn _) ⟨A1, c1, rfl, hcc, hcl9⟩ (fun b hb => ⟨by omega, fun e9 => by have := (hown9.lt _ e9).1; omega, fun e9 => by have e9 : b = iBD := e9; omega⟩) (by simp [Value.oneCell']) (by omega) (by omega) hlo9 hys ?_
              intro A8 c8 w8 hown8 hg8 hbk8
              exact ⟨rfl, trivial, trivial, HI9.out.app hf1 k9 hys hown8 hg8⟩
            · intro vals yw f hf1 hf2 hf3 hI hF
              clear hf2 hf3
              dsimp only [owes6, bare]
              simp only [putsD, Act.put, List.setIfInBounds_toArray, List.set_cons_zero, List.set_cons_succ]
              go_wp2
              exact ⟨rfl, rfl, trivial, hI⟩
            · intro vals yw f hf1 hf2 hf3 hI hF
              have k7 : f 7 = true := hf2 7 (by kernel_rfl)
              clear hf2 hf3
              simp only [saysD, List.getD_cons_zero, List.getD_cons_succ, and_true] at hF
              have e53 := hF
              obtain ⟨A8, c8, ys, hyy, e52, hyz⟩ := hI.2.2.2.1 k7
              have hbx := hI.2.2.2.2.1 hf1
              dsimp only [owes6, bare]
              simp only [putsD, Act.put, List.setIfInBounds_toArray, List.set_cons_zero, List.set_cons_succ]
              simp only [e53, e52]
              obtain ⟨o0, o0'⟩ := cell_of_block hbx 1
              have HE9 := Lib.hid e52
              have HI9 := Lib.hid hI
              clear hI
              clear hbx e52 hyy hyz
              go_wp2
              refine ⟨rfl, trivial, trivial, ?_⟩
              have h8 := HI9.out.store k7 hf1 hiBD
              have h7 : ∀ z, z = vals 7 → ApD w1.heap.size iBD x.many A9 c9 ds A1 c1 cl w1 xw (vals 6) (vals 7) (f 6) (f 7) true (yw.setCell ⟨iBD, 1, none⟩ z) := fun z hz => by rw [hz]; exact h8
              exact h7 _ (by rw [HE9.out])
            · intro vals yw f hall hI hF
              rw [show List.range _ = [0, 1, 2, 3, 4, 5, 6, 7, 8, 9] from rfl] at hF
              simp only [says, List.getD_cons_zero, List.getD_cons_succ, and_true] at hF
              obtain ⟨A8, c8, ho8, hb8, hbl8, hsz8⟩ := ApD.fin hI (hall 7 (by decide)) (hall 9 (by decide))
              have HO8 := Lib.hid ho8
              have HB8 := Lib.hid hb8
              have HL8 := Lib.hid hbl8
              simp only [putsD, Act.put, List.setIfInBounds_toArray, List.set_cons_zero, List.set_cons_succ]
              clear hI hF hall ho8 hb8 hbl8 kk1
              go_wp2
              go_roundw
              case rel => exact ⟨k + 1, ds ++ [cl], A8, c8, by omega, by go_num, Lib.hid (by rw [HDS.out, HTK.out, List.append_assoc]), HB8, HO8, HL8, Lib.hid (by rw [HPD.out, HTK.out]; rfl), Lib.hid (fun c hc => by
                rw [HTK.out] at hc
                rcases List.mem_append.1 hc with hc | hc
                · exact HG.out c hc
                · rw [List.mem_singleton.1 hc]; exact HCK.out)⟩
              case measure => simp [intOf]; omega
      · have hke : k = cs.length := by omega
        subst hke
        have HZ : Hid (prf x [] cs = true) := Lib.hid (by rw [HP.out, List.drop_length]; rfl)
        go_wp2
        go_ret
        exact ⟨ret_bool (by rw [HE.out, HZ.out]; rfl), HBWN.out.trans (hbr.mono HBWN.out.size)⟩
end Go.Proofs.Ytbljfhmcebgdaaa
