/- Proofs: impl.ProofOk. Draws of clauses: l4Draw, l5Clause. Draws of formulas: l4Cnf, l4Bent, DrawUnitAll. -/
import Derived.Test.YtbljfhmcebgdaaaJFnProof4
import Derived.Test.YtbljfhmcebgdaaaJFnProof5
import Derived.Test.YtbljfhmcebgdaaaJFnProof6
import Derived.Test.YtbljfhmcebgdaaaJFnProof11
/-! Proofs: impl.ProofOk. -/
namespace Go.Proofs.Ytbljfhmcebgdaaa
open Go Go.RowKit

/-- Clauses follow one after the other. -/
def prf (x : C) : List (List Int) → List (List Int) → Bool
  | _, [] => true
  | pre, c :: cs => (clOk x.many c && (units x.many (x.list ++ pre) (c.map fun l => -l)).2) && prf x (pre ++ [c]) cs
def proofOk (x : C) (cs : List (List Int)) : Bool := cnfOk x && (decide (cs.length ≤ 300) && prf x [] cs)
theorem prf_drop {x : C} {pre cs : List (List Int)} {k : Nat} (h : k < cs.length) : prf x pre (cs.drop k) = ((clOk x.many cs[k] && (units x.many (x.list ++ pre) (cs[k].map fun l => -l)).2) && prf x (pre ++ [cs[k]]) (cs.drop (k + 1))) := by
  rw [List.drop_eq_getElem_cons h]; rfl
theorem size_rowL (W : World) : (sizeOf (Try.prog.elem 23)).run Try.prog W = .ok Lay.int.slice.size W := by
  obtain ⟨i0, hi0, hz0, hz1, hz2⟩ := info_parts rowi_info
  have he : Try.prog.elem 23 = 26 := by kernel_rfl
  rw [he]
  unfold sizeOf
  simp [hi0, hz1]
  rfl
/-- s[:m] of rows that are read. -/
theorem slice_hL (A : Option Addr) (xs : List (List Int)) (c : Nat) (m : Nat) (hm : m ≤ xs.length) (hc : xs.length ≤ c) :
    (∀ W : World, (Instr.slice 23 (.slice A xs.length c) none (some (.int .i64 (m : Int))) none).run Try.prog W = .ok (.slice A (xs.take m).length c) W) := by
  have hlen : (xs.take m).length = m := by rw [List.length_take]; omega
  refine fun W => ?_
  have ht : Try.prog.underlying 23 = some (.slice (Try.prog.elem 23)) := by
    rw [show Try.prog.elem 23 = 26 by kernel_rfl]; exact Try.underlying23
  rw [run_slice_h (P := Try.prog) (w := W) 23 A xs.length c ht .i64 (m : Int) (by omega) (by omega), size_rowL W, hlen]
  show Result.ok (sliced A 0 m c Lay.int.slice.size) W = _
  unfold sliced
  rw [Nat.sub_zero, Nat.sub_zero, Nat.zero_mul]
  rcases A with _ | ad
  · simp
  · have e : ad.add 0 = ad := rfl
    simp [e]
theorem two_lists {w : World} {A B : Option Addr} {p q : Nat} {ls ms : List (List Int)} {t : TypeId} (h : Lay.int.slice.Rd w A ls) (hp : ls.length ≤ p) (h' : Lay.int.slice.Rd w B ms) (hq : ms.length ≤ q) :
    Lay.int.slice.slice.Rd (w.alloc (.cells #[.slice A ls.length p, .slice B ms.length q] t)) (some ⟨w.heap.size, 0, none⟩) [ls, ms] := by
  have hw : Below w.heap.size w (w.alloc (.cells #[.slice A ls.length p, .slice B ms.length q] t)) := (Below.refl _ _).alloc (Nat.le_refl _) _
  intro _
  refine ⟨⟨w.heap.size, 0, none⟩, rfl, by simp, fun k x hx => ?_⟩
  rcases k with _ | _ | k
  · injection hx with hx
    subst hx
    refine ⟨[.slice A ls.length p], ⟨A, p, rfl, hp, h.up hw⟩, fun j u hu => ?_⟩
    rcases j with _ | j
    · injection hu with hu
      subst hu
      have := (cell_of_block (heap_alloc_new w (.cells #[.slice A ls.length p, .slice B ms.length q] t)) 0).1
      exact this.trans rfl
    · simp at hu
  · injection hx with hx
    subst hx
    refine ⟨[.slice B ms.length q], ⟨B, q, rfl, hq, h'.up hw⟩, fun j u hu => ?_⟩
    rcases j with _ | j
    · injection hu with hu
      subst hu
      have := (cell_of_block (heap_alloc_new w (.cells #[.slice A ls.length p, .slice B ms.length q] t)) 1).1
      exact this.trans rfl
    · simp at hu
  · simp at hx
set_option maxRecDepth 100000 in
set_option maxHeartbeats 8000000 in
theorem implProofOk_any (x : C) (cs : List (List Int)) (A B : Option Addr) (a d : Nat) (w : World) (h : Lay.int.slice.Rd w A x.list) (hxa : x.list.length ≤ a) (hc : Lay.int.slice.Rd w B cs) (hcd : cs.length ≤ d) (sx : smCnf x) (hl : cs.length ≤ 1048576) (hcs : ∀ cl ∈ cs, cl.length ≤ 1048576 ∧ i64s cl) :
    Calls Try.prog 14 #[.agg #[.int .i64 x.many, .slice A x.list.length a], .slice B cs.length d] w (RetB w (proofOk x cs)) := by
  have hw : Below w.heap.size w (w.alloc (.cells #[.int .i64 x.many, .slice A x.list.length a] 25)) := (Below.refl _ _).alloc (Nat.le_refl _) _
  have hb0 := heap_alloc_new w (.cells #[.int .i64 x.many, .slice A x.list.length a] 25)
  have c0 := (cell_of_block hb0 0).1
  have c1 := (cell_of_block hb0 1).1
  simp at c0 c1
  obtain ⟨W, hW⟩ : ∃ W, W = w.alloc (.cells #[.int .i64 x.many, .slice A x.list.length a] 25) := ⟨_, rfl⟩
  rw [← hW] at hw hb0
  have hx := h.up hw
  have hcr := hc.up hw
  have HCO := Lib.hid (cnfOkP_any x A a _ W hx (fun _ h => h) sx.1 (by have := sx.2.1; omega) sx.ints)
  have HE : Hid (proofOk x cs = (cnfOk x && (decide (cs.length ≤ 300) && prf x [] cs))) := Lib.hid rfl
  have HW := Lib.hid hW
  have HB0 := Lib.hid hb0
  have HCS := Lib.hid hcs
  have SX := Lib.hid sx
  clear h hc hb0 hW sx hcs
  go_enter Try.func14, Try.ntmps14
  go_wp2_with fail
  clear c0 c1
  rw [← HW.out]
  obtain ⟨b, hbe⟩ : ∃ b, b = w.heap.size := ⟨_, rfl⟩
  rw [← hbe] at HB0 ⊢
  clear hbe HW
  refine HCO.out.mono ?_
  clear HCO
  rintro e w1 ⟨rfl, hb1⟩
  have HB0 := Lib.hid ((hb1.block _ (lt_of_block HB0.out)).trans HB0.out)
  have hx := hx.up hb1
  have hcr := hcr.up hb1
  have hbw := bthen hw hb1
  clear hw hb1
  cases hok : cnfOk x
  · go_wp2
    go_ret
    exact ⟨ret_bool (by rw [HE.out, hok]; rfl), hbw⟩
  have HOK := Lib.hid hok
  rw [hok] at HE
  clear hok
  by_cases h3 : 300 < cs.length
  · have h31 : (cs.length : Int) > 300 := by omega
    go_wp2
    go_ret
    exact ⟨ret_bool (by rw [HE.out, decide_eq_false (by omega)]; rfl), hbw⟩
  have h31 : ¬ (cs.length : Int) > 300 := by omega
  have h32 : decide ((cs.length : Int) > 300) = false := decide_eq_false h31
  rw [decide_eq_true (show cs.length ≤ 300 by omega)] at HE
  obtain ⟨M, hM⟩ := Int.eq_ofNat_of_zero_le ((cnfOk_iff x).1 HOK.out).1
  have HMM := Lib.hid hM
  have hM7 : M ≤ 700 := by have := ((cnfOk_iff x).1 HOK.out).2.1; omega
  have hxl : x.list.length ≤ 2500 := ((cnfOk_iff x).1 HOK.out).2.2.1
  have HRN := Lib.hid (cnfOk_rng HOK.out)
  clear hM
  go_wp2
  clear h31 h32
  go_loopw [17] (fun i wr => ∃ k : Nat, k ≤ cs.length ∧ i = .int .i64 k ∧ Below w1.heap.size w1 wr ∧ Hid (prf x [] cs = prf x (cs.take k) (cs.drop k)) ∧ Hid (∀ c ∈ cs.take k, clOk x.many c = true)) (fun i _ => cs.length - (intOf i).toNat)
  case atStart => exact ⟨0, Nat.zero_le _, rfl, Below.refl _ _, Lib.hid (by simp), Lib.hid (by simp)⟩
  case round =>
    obtain ⟨k, hk, rfl, hbr, HP, HG⟩ := hrel
    by_cases hlt : k < cs.length
    · have hk1 : (k : Int) < cs.length := by omega
      have hk0 : (0 : Int) ≤ k := by omega
      have HPD := Lib.hid (HP.out.trans (prf_drop hlt))
      have HTK : Hid (cs.take (k + 1) = cs.take k ++ [cs[k]]) := Lib.hid (List.take_succ_eq_append_getElem hlt)
      have hm9 := HCS.out _ (List.getElem_mem hlt)
      have hcr2 := hcr.up hbr
      obtain ⟨ad, A1, c1, e1, hf, hc1, hcc, hsx⟩ := hcr2.at_slice hlt
      generalize cs[k] = cl at *
      subst e1
      have HSP := Lib.hid (slice_hL (some ad) cs d k hk hcd)
      obtain ⟨pre, hpre⟩ : ∃ pre, pre = cs.take k := ⟨_, rfl⟩
      have hpr : Lay.int.slice.Rd wr (some ad) pre := by rw [hpre]; exact hcr2.take k
      have hprl : pre.length ≤ 300 := by rw [hpre, List.length_take]; omega
      have hprc : ∀ c ∈ pre, c ∈ cs := fun c hc => by rw [hpre] at hc; exact List.mem_of_mem_take hc
      rw [← hpre] at HPD HTK HG HSP
      have hpd : pre.length ≤ d := by rw [hpre, List.length_take]; omega
      have hsp := HSP.out
      have HCL := Lib.hid hsx
      have HPR := Lib.hid hpr
      have HX := Lib.hid (hx.up hbr)
      have HM9 := Lib.hid hm9
      have HPC := Lib.hid hprc
      have kk0 := Later.cell (cell_of_block ((hbr.block _ (lt_of_block HB0.out)).trans HB0.out) 0).1
      have kk1 := Later.cell (cell_of_block ((hbr.block _ (lt_of_block HB0.out)).trans HB0.out) 1).1
      simp at kk0 kk1
      have HRU : Hid (∀ (xw : World) (g : Nat), Below wr.heap.size wr xw → Lay.int.slice.slice.Rd xw (some ⟨g, 0, none⟩) [x.list, pre] → Calls Try.prog 43 #[.int .i64 x.many, .slice A1 cl.length c1, .slice (some ⟨g, 0, none⟩) 2 2] xw (RetB xw (clOk x.many cl && (units x.many (x.list ++ pre) (cl.map fun l => -l)).2))) := Lib.hid fun xw g hb9 hl9 => by
        have := rup_any M cl [x.list, pre] A1 (some ⟨g, 0, none⟩) c1 2 _ _ xw (Lay.Sl.up HCL.out hb9) (fun _ h => h) HM9.out.1 HM9.out.2 hl9 (fun _ h => h) (fun cls h9 => by
          rcases List.mem_cons.1 h9 with rfl | h9
          · exact ⟨by omega, fun c hc => ⟨fun l hl => by have := HRN.out c hc l hl; rw [HMM.out] at this; exact this, (SX.out.2.2.1 c hc).1⟩⟩
          · rw [List.mem_singleton.1 h9]
            exact ⟨by omega, fun c hc => ⟨fun l hl => by have := clOk_rng (HG.out c hc) l hl; rw [HMM.out] at this; exact this, (HCS.out c (HPC.out c hc)).1⟩⟩) (by simp) hM7 (by simp; omega)
        simp only [List.flatten_cons, List.flatten_nil, List.append_nil] at this
        rw [HMM.out]
        exact this
      obtain ⟨q, hq⟩ : ∃ q, q = (clOk x.many cl && (units x.many (x.list ++ pre) (cl.map fun l => -l)).2) := ⟨_, rfl⟩
      have HQ := Lib.hid hq
      rw [← hq] at HRU HPD
      clear hq hpre hsx hcr2 hpr hm9 hprc
      go_wp2
      refine wp_region_rel [[], [(0, 22)], [], [], [(3, 25)], [], [], [(5, 27), (6, 28)], [(4, 26), (7, 29)], [(1, 23), (2, 24), (8, 30)], [(9, 31)]]
        (fun y y' => Below y.heap.size y y')
        (fun _ yy => Below wr.heap.size wr yy)
        [fun vs9 _ => vs9 0 = (.pointer (some ⟨b, 0, none⟩)),
    fun vs9 _ => vs9 1 = (.int .i64 x.many),
    fun vs9 _ => vs9 2 = (.slice A1 cl.length c1),
    fun vs9 _ => vs9 3 = (.pointer (some ⟨b, 1, none⟩)),
    fun vs9 _ => vs9 4 = (.slice A x.list.length a),
    fun vs9 _ => vs9 5 = (.slice (some ad) cs.length d),
    fun vs9 _ => vs9 6 = (.int .i64 (k : Int)),
    fun vs9 _ => vs9 7 = (.slice (some ad) pre.length d),
    fun vs9 y9 => (fun v yy => ∃ g, v = .slice (some ⟨g, 0, none⟩) 2 2 ∧ Lay.int.slice.slice.Rd yy (some ⟨g, 0, none⟩) [x.list, pre]) (vs9 8) y9,
    fun vs9 _ => vs9 9 = (.bool q),
    fun vs9 _ => vs9 10 = (.bool (!q))]
        [(0, 22), (1, 23), (2, 24), (3, 25), (4, 26), (5, 27), (6, 28), (7, 29), (8, 30), (9, 31), (10, 32)] (by kernel_rfl) (by kernel_rfl) (by kernel_rfl) (by kernel_rfl)
        (fun _ => Below.refl _ _)
        ⟨.inr (fun _ _ _ h _ => h),
    .inr (fun _ _ _ h _ => h),
    .inr (fun _ _ _ h _ => h),
    .inr (fun _ _ _ h _ => h),
    .inr (fun _ _ _ h _ => h),
    .inr (fun _ _ _ h _ => h),
    .inr (fun _ _ _ h _ => h),
    .inr (fun _ _ _ h _ => h),
    .inr (fun vs9 x9 y9 h9 hR9 => (show ∀ v9 y8 y7, (fun v yy => ∃ g, v = .slice (some ⟨g, 0, none⟩) 2 2 ∧ Lay.int.slice.slice.Rd yy (some ⟨g, 0, none⟩) [x.list, pre]) v9 y8 → (fun y y' => Below y.heap.size y y') y8 y7 → (fun v yy => ∃ g, v = .slice (some ⟨g, 0, none⟩) 2 2 ∧ Lay.int.slice.slice.Rd yy (some ⟨g, 0, none⟩) [x.list, pre]) v9 y7 from fun _ _ _ ⟨g, h1, h2⟩ hR => ⟨g, h1, h2.up hR⟩) (vs9 8) x9 y9 h9 hR9),
    .inr (fun _ _ _ h _ => h),
    .inr (fun _ _ _ h _ => h), trivial⟩ ⟨fun vs vs' x h _ hv => (by dsimp only at hv ⊢; first | (rw [← h]; exact hv) | exact hv),
    fun vs vs' x h _ hv => (by dsimp only at hv ⊢; first | (rw [← h]; exact hv) | exact hv),
    fun vs vs' x h _ hv => (by dsimp only at hv ⊢; first | (rw [← h]; exact hv) | exact hv),
    fun vs vs' x h _ hv => (by dsimp only at hv ⊢; first | (rw [← h]; exact hv) | exact hv),
    fun vs vs' x h _ hv => (by dsimp only at hv ⊢; first | (rw [← h]; exact hv) | exact hv),
    fun vs vs' x h _ hv => (by dsimp only at hv ⊢; first | (rw [← h]; exact hv) | exact hv),
    fun vs vs' x h _ hv => (by dsimp only at hv ⊢; first | (rw [← h]; exact hv) | exact hv),
    fun vs vs' x h _ hv => (by dsimp only at hv ⊢; first | (rw [← h]; exact hv) | exact hv),
    fun vs vs' x h _ hv => (by dsimp only at hv ⊢; first | (rw [← h]; exact hv) | exact hv),
    fun vs vs' x h _ hv => (by dsimp only at hv ⊢; first | (rw [← h]; exact hv) | exact hv),
    fun vs vs' x h _ hv => (by dsimp only at hv ⊢; first | (rw [← h]; exact hv) | exact hv), trivial⟩ (below_drewN (Below.refl _ _) 1) ⟨?_, ?_, ?_, ?_, ?_, ?_, ?_, ?_, ?_, ?_, ?_, trivial⟩ ?_
      · intro vals xw n hn hI hF
        dsimp only [owes, bare]
        simp only [putsD, Act.put, List.setIfInBounds_toArray, List.set_cons_zero, List.set_cons_succ]
        go_wp2
        exact ⟨rfl, rfl, Below.refl _ _, hI⟩
      · intro vals xw n hn hI hF
        simp only [saysD, List.getD_cons_zero, List.getD_cons_succ, and_true] at hF
        have e22 := hF
        dsimp only [owes, bare]
        simp only [putsD, Act.put, List.setIfInBounds_toArray, List.set_cons_zero, List.set_cons_succ]
        simp only [e22]
        have c90 : xw.cell? _ = _ := kk0 ⟨xw, hI⟩
        go_wp2
        exact ⟨rfl, rfl, Below.refl _ _, hI⟩
      · intro vals xw n hn hI hF
        dsimp only [owes, bare]
        simp only [putsD, Act.put, List.setIfInBounds_toArray, List.set_cons_zero, List.set_cons_succ]
        go_wp2
        exact ⟨rfl, rfl, Below.refl _ _, hI⟩
      · intro vals xw n hn hI hF
        dsimp only [owes, bare]
        simp only [putsD, Act.put, List.setIfInBounds_toArray, List.set_cons_zero, List.set_cons_succ]
        go_wp2
        exact ⟨rfl, rfl, Below.refl _ _, hI⟩
      · intro vals xw n hn hI hF
        simp only [saysD, List.getD_cons_zero, List.getD_cons_succ, and_true] at hF
        have e25 := hF
        dsimp only [owes, bare]
        simp only [putsD, Act.put, List.setIfInBounds_toArray, List.set_cons_zero, List.set_cons_succ]
        simp only [e25]
        have c90 : xw.cell? _ = _ := kk1 ⟨xw, hI⟩
        go_wp2
        exact ⟨rfl, rfl, Below.refl _ _, hI⟩
      · intro vals xw n hn hI hF
        dsimp only [owes, bare]
        simp only [putsD, Act.put, List.setIfInBounds_toArray, List.set_cons_zero, List.set_cons_succ]
        go_wp2
        exact ⟨rfl, rfl, Below.refl _ _, hI⟩
      · intro vals xw n hn hI hF
        dsimp only [owes, bare]
        simp only [putsD, Act.put, List.setIfInBounds_toArray, List.set_cons_zero, List.set_cons_succ]
        go_wp2
        exact ⟨rfl, rfl, Below.refl _ _, hI⟩
      · intro vals xw n hn hI hF
        simp only [saysD, List.getD_cons_zero, List.getD_cons_succ, and_true] at hF
        obtain ⟨e27, e28⟩ := hF
        dsimp only [owes, bare]
        simp only [putsD, Act.put, List.setIfInBounds_toArray, List.set_cons_zero, List.set_cons_succ]
        simp only [e27, e28]
        go_wp2
        exact ⟨rfl, rfl, Below.refl _ _, hI⟩
      · intro vals xw n hn hI hF
        simp only [saysD, List.getD_cons_zero, List.getD_cons_succ, and_true] at hF
        obtain ⟨e26, e29⟩ := hF
        dsimp only [owes, bare]
        simp only [putsD, Act.put, List.setIfInBounds_toArray, List.set_cons_zero, List.set_cons_succ]
        simp only [e26, e29]
        have hal : Below xw.heap.size xw (xw.alloc (.cells #[.slice A x.list.length a, .slice (some ad) pre.length d] 23)) := (Below.refl _ _).alloc (Nat.le_refl _) _
        have HTL := Lib.hid (two_lists (t := 23) (HX.out.up hI) hxa (HPR.out.up hI) hpd)
        go_wp2
        exact ⟨rfl, ⟨_, rfl, HTL.out⟩, hal, bthen hI hal⟩
      · intro vals xw n hn hI hF
        simp only [saysD, List.getD_cons_zero, List.getD_cons_succ, and_true] at hF
        obtain ⟨e23, e24, g, e30, hl30⟩ := hF
        dsimp only [owes, bare]
        simp only [putsD, Act.put, List.setIfInBounds_toArray, List.set_cons_zero, List.set_cons_succ]
        simp only [e23, e24, e30]
        have HCA := Lib.hid (HRU.out xw g hI hl30)
        clear hl30
        go_wp2_with fail
        refine HCA.out.mono ?_
        rintro e wx ⟨rfl, hb9⟩
        go_wp2
        exact ⟨rfl, rfl, hb9, bthen hI hb9⟩
      · intro vals xw n hn hI hF
        simp only [saysD, List.getD_cons_zero, List.getD_cons_succ, and_true] at hF
        have e31 := hF
        dsimp only [owes, bare]
        simp only [putsD, Act.put, List.setIfInBounds_toArray, List.set_cons_zero, List.set_cons_succ]
        simp only [e31]
        go_wp2
        exact ⟨rfl, rfl, Below.refl _ _, hI⟩
      · intro vals xw n hn hI hF
        rw [show List.range _ = [0, 1, 2, 3, 4, 5, 6, 7, 8, 9, 10] from rfl] at hF
        simp only [says, List.getD_cons_zero, List.getD_cons_succ, and_true] at hF
        have e32 := hF.2.2.2.2.2.2.2.2.2.2
        simp only [putsD, Act.put, List.setIfInBounds_toArray, List.set_cons_zero, List.set_cons_succ]
        simp only [e32]
        clear hF e32 kk0 kk1 hsp
        have hb9 := bthen hbr hI
        cases q
        · go_wp2
          go_ret
          exact ⟨ret_bool (by rw [HE.out, HPD.out]; rfl), bthen hbw hb9⟩
        · have HQ9 := HQ.out
          have HCK : Hid (clOk x.many cl = true) := Lib.hid (by
            have := HQ9.symm
            rw [Bool.and_eq_true] at this
            exact this.1)
          clear HQ9
          go_wp2
          go_roundw
          case rel => exact ⟨k + 1, by omega, by go_num, hb9, Lib.hid (by rw [HPD.out, HTK.out, Bool.true_and]), Lib.hid (fun c hc => by
            rw [HTK.out] at hc
            rcases List.mem_append.1 hc with hc | hc
            · exact HG.out c hc
            · rw [List.mem_singleton.1 hc]; exact HCK.out)⟩
          case measure => simp [intOf]; omega
    · have hke : k = cs.length := by omega
      subst hke
      have HZ : Hid (prf x [] cs = true) := Lib.hid (by rw [HP.out, List.drop_length]; rfl)
      go_wp2
      go_ret
      exact ⟨ret_bool (by rw [HE.out, HZ.out]; rfl), bthen hbw hbr⟩
end Go.Proofs.Ytbljfhmcebgdaaa

/-! Draws of clauses: l4Draw, l5Clause. -/
namespace Go.Proofs.Ytbljfhmcebgdaaa
open Go Go.RowKit

theorem OwnI.gr {S : Nat → Prop} {w w' : World} {base : Nat} {v : Value} {xs : List Int} (h : OwnI w base v xs) (hg : Gr S w w') (hr : ∀ b, S b → b < base) : OwnI w' base v xs :=
  own_of_heap h fun g hg' => hg.block g (h.lt g hg').2 (fun e => by have := hr g e; have := (h.lt g hg').1; omega)
theorem OwnI.ab {S : Nat → Prop} {w : World} {base c : Nat} {A : Option Addr} {xs : List Int} (h : OwnI w base (.slice A xs.length c) xs) (hr : ∀ b, S b → b < base) : Lay.int.Sl w (Ab S w) A xs := by
  obtain ⟨A', c', e, h1, h2⟩ := h.form
  injection e with e1 e2 e3
  subst e1
  exact h2.mono fun b hb => ⟨hb.2, fun e => by have := hr b e; have := hb.1; omega⟩
/-- A drawn row of integers, of the call's own. -/
def RetDI (r : Nat) (p N : Int) (ok : List Int → Prop) (w : World) (e : Ending) (w' : World) : Prop := ∃ A c xs, e = .returned (.slice A xs.length c) ∧ OwnI w' w.heap.size (.slice A xs.length c) xs ∧ ok xs ∧ Drawn r p N w w'
theorem own_lit0I (w : World) : OwnI (w.alloc (.cells #[] 3)) w.heap.size (.slice (some ⟨w.heap.size, 0, none⟩) 0 0) [] := own_lit0 rfl

set_option maxRecDepth 100000 in
set_option maxHeartbeats 1000000 in
theorem l4Draw_any (r : Nat) (p : Int) (many : Nat) (long : Int) (w : World) (h : Rdr w r p) (hm : many ≤ 1000) (p0 : 0 ≤ p) (p1 : p ≤ 900000000) (l0 : -1000 ≤ long) (l1 : long ≤ 1000) :
    Calls Try.prog 73 #[.pointer (some ⟨r, 0, none⟩), .int .i64 many, .int .i64 long] w (RetDI r p (2 * many) (fun xs => xs.length ≤ many ∧ ∀ x ∈ xs, x ≠ 0 ∧ -(many : Int) ≤ x ∧ x ≤ many) w) := by
  have hrl := h.lt
  go_enter Try.func73, Try.ntmps73
  go_wp2
  go_loopw [7, 8] (fun s i wr => ∃ (j : Nat) (ns : List Int) (A : Option Addr) (c : Nat) (q : Int), 1 ≤ j ∧ j ≤ many + 1 ∧ i = .int .i64 j ∧ s = .slice A ns.length c ∧ ns.length + 1 ≤ j ∧ (∀ x ∈ ns, x ≠ 0 ∧ -(many : Int) ≤ x ∧ x ≤ many) ∧
    OwnI wr w.heap.size (.slice A ns.length c) ns ∧ p ≤ q ∧ q ≤ p + 2 * (j - 1) ∧ Rdr wr r q ∧ Gr (IsR r) w wr) (fun _ i _ => many + 1 - (intOf i).toNat)
  case atStart => exact ⟨1, [], _, 0, p, by omega, by omega, rfl, rfl, by simp, by simp, own_lit0I w, by omega, by omega, h.up ((Below.refl _ _).alloc (Nat.le_refl _) _), (Gr.refl _ _).up ((Below.refl _ _).alloc (Nat.le_refl _) _)⟩
  case round =>
    obtain ⟨j, ns, A, c, q, j0, j1, rfl, rfl, hnl, hrng, hown, q0, q1, hR, hg⟩ := hrel
    have HRNG := Lib.hid hrng
    clear hrng
    by_cases hlt : j ≤ many
    · have hlti : (j : Int) ≤ many := by omega
      go_wp2_with fail
      refine (pick_any r q many wr hR (by omega) (by omega) (by omega) (by omega)).mono ?_
      rintro e w1 ⟨k, rfl, k0, _, _, hR1, hg1⟩
      have hg1 := Gr.one (S := IsR r) hg1 rfl
      have hown1 := hown.gr hg1 (fun b e => by rw [e]; exact hrl)
      have hgg1 := hg.trans hg1
      clear hR hg hown hg1
      by_cases hk : k < long
      · go_wp2_with fail
        refine (pick_any r (q + 1) 2 w1 hR1 (by omega) (by omega) (by omega) (by omega)).mono ?_
        rintro e w2 ⟨k2, rfl, k20, k21, _, hR2, hg2⟩
        have hg2 := Gr.one (S := IsR r) hg2 rfl
        have hown2 := hown1.gr hg2 (fun b e => by rw [e]; exact hrl)
        have hgg2 := hgg1.trans hg2
        have hlo := hgg2.size
        clear hR1 hgg1 hown1 hg2 k21
        by_cases hz : k2 = 0
        · subst hz
          obtain ⟨ps, hps⟩ : ∃ ps, ps = ns ++ [(j : Int)] := ⟨_, rfl⟩
          have HPS := Lib.hid hps
          clear hps
          go_wp2_with (at_builtin; refine wpList_append_int (ys := ps) (by rfl) (.tmp 23) (.tmp 25) (by rfl) (by rfl) (by rfl) hown2 (by omega) hlo HPS.out ?_; intro A1 c1 w3 hown3 hg3 hbk3)
          have hR3 := hR2.own hg3 (fun g e => by have := (hown2.lt g e).1; omega)
          have hgg3 := hgg2.own hg3 (fun g e => (hown2.lt g e).1)
          clear hbk3 hg3 hown2
          go_wp2
          go_roundw
          case rel => exact ⟨j + 1, ps, A1, c1, q + 1 + 1, by omega, by omega, by go_num, rfl, by rw [HPS.out]; simp; omega, by
              rw [HPS.out]; intro x hx
              rcases List.mem_append.1 hx with hx | hx
              · exact HRNG.out x hx
              · rw [List.mem_singleton.1 hx]; omega, hown3, by omega, by omega, hR3, hgg3⟩
          case measure => simp [intOf]; omega
        · have hz2 : (k2 == 0) = false := by simpa using hz
          obtain ⟨ps, hps⟩ : ∃ ps, ps = ns ++ [-(j : Int)] := ⟨_, rfl⟩
          have HPS := Lib.hid hps
          have e1 : IntKind.i64.wrap (-(j : Int)) = -(j : Int) := IntWalk.i64_in _ (by omega)
          clear hps hz
          go_wp2_with (at_builtin; refine wpList_append_int (ys := ps) (by rfl) (.tmp 27) (.tmp 30) (by rfl) (by rfl) (by rfl) hown2 (by omega) hlo HPS.out ?_; intro A1 c1 w3 hown3 hg3 hbk3)
          have hR3 := hR2.own hg3 (fun g e => by have := (hown2.lt g e).1; omega)
          have hgg3 := hgg2.own hg3 (fun g e => (hown2.lt g e).1)
          clear hbk3 hg3 hown2
          go_wp2
          go_roundw
          case rel => exact ⟨j + 1, ps, A1, c1, q + 1 + 1, by omega, by omega, by go_num, rfl, by rw [HPS.out]; simp; omega, by
              rw [HPS.out]; intro x hx
              rcases List.mem_append.1 hx with hx | hx
              · exact HRNG.out x hx
              · rw [List.mem_singleton.1 hx]; omega, hown3, by omega, by omega, hR3, hgg3⟩
          case measure => simp [intOf]; omega
      · go_wp2
        go_roundw
        case rel => exact ⟨j + 1, ns, A, c, q + 1, by omega, by omega, by go_num, rfl, by omega, HRNG.out, hown1, by omega, by omega, hR1, hgg1⟩
        case measure => simp [intOf]; omega
    · have hje : j = many + 1 := by omega
      subst hje
      go_wp2
      go_ret
      exact ⟨A, c, ns, rfl, hown, ⟨by omega, HRNG.out⟩, q, q0, by omega, hR, hg⟩

theorem l4Max_any (a b : Int) (w : World) : Calls Try.prog 74 #[.int .i64 a, .int .i64 b] w fun e w' => e = .returned (.int .i64 (if a > b then a else b)) ∧ w = w' := by
  by_cases h : a > b
  · rw [if_pos h]
    go_enter Try.func74, Try.ntmps74
    go_wp2
    go_ret
    exact ⟨rfl, rfl⟩
  · rw [if_neg h]
    go_enter Try.func74, Try.ntmps74
    go_wp2
    go_ret
    exact ⟨rfl, rfl⟩
set_option maxRecDepth 100000 in
set_option maxHeartbeats 1000000 in
theorem l5Clause_any (r : Nat) (p many : Int) (w : World) (h : Rdr w r p) (p0 : 0 ≤ p) (p1 : p ≤ 800000000) (hm : okInt many) :
    Calls Try.prog 41 #[.pointer (some ⟨r, 0, none⟩), .int .i64 many] w (RetDI r p 200 (fun xs => xs.length ≤ 60 ∧ ∀ x ∈ xs, okInt x) w) := by
  have hrl := h.lt
  obtain ⟨t, ht, ht0, ht1⟩ : ∃ t : Int, many.tmod 50 = t ∧ -50 < t ∧ t < 50 := ⟨_, rfl, by
    have := Int.tmod_lt_of_pos (-many) (show (0 : Int) < 50 by omega)
    rw [Int.neg_tmod] at this
    omega, Int.tmod_lt_of_pos many (by omega)⟩
  obtain ⟨m, hm1, hm2⟩ : ∃ m : Nat, (if (1 : Int) > t.natAbs then (1 : Int) else t.natAbs) = m ∧ m ≤ 50 := ⟨(if (1 : Int) > t.natAbs then (1 : Int) else t.natAbs).toNat, by split <;> omega, by split <;> omega⟩
  have e1 : IntKind.i64.wrap t = t := IntWalk.i64_in _ (by omega)
  have HM := Lib.hid hm1
  clear hm1
  go_enter Try.func41, Try.ntmps41
  go_wp2_with fail
  refine (l4Abs_any t w (by omega) (by omega)).mono ?_
  rintro e w' ⟨rfl, rfl⟩
  go_wp2_with fail
  refine (l4Max_any 1 t.natAbs _).mono ?_
  rw [HM.out]
  rintro e w' ⟨rfl, rfl⟩
  go_wp2_with fail
  refine (pick_any r p 3 _ h (by omega) (by omega) (by omega) (by omega)).mono ?_
  rintro e w1 ⟨k, rfl, k0, k1, _, hR1, hg1⟩
  have k1 := k1 (by omega)
  have hg1 := Gr.one (S := IsR r) hg1 rfl
  have hs1 := hg1.size
  go_wp2_with fail
  refine (l4Draw_any r (p + 1) m (1 + k) w1 hR1 (by omega) (by omega) (by omega) (by omega) (by omega)).mono ?_
  rintro e w2 ⟨A, c, xs, rfl, ho2, ⟨hl2, hx2⟩, q, q0, q1, hR2, hg2⟩
  have hgg2 := hg1.trans hg2
  have ho2 : OwnI w2 w.heap.size (.slice A xs.length c) xs := own_mono ho2 hs1
  have HX := Lib.hid hx2
  clear hg1 hg2 hx2 hR1
  go_wp2_with fail
  refine (pick_any r q 16 _ hR2 (by omega) (by omega) (by omega) (by omega)).mono ?_
  rintro e w3 ⟨k3, rfl, k30, _, _, hR3, hg3⟩
  have hg3 := Gr.one (S := IsR r) hg3 rfl
  have ho3 := ho2.gr hg3 (fun b e => by rw [e]; exact hrl)
  have hgg3 := hgg2.trans hg3
  clear ho2 hg3 hR2 hgg2
  by_cases hz : k3 = 0
  · subst hz
    have hs3 := hgg3.size
    have hal : Below w3.heap.size w3 (w3.alloc (.cells #[.int .i64 0, .int .i64 1, .int .i64 60, .int .i64 (-60), .int .i64 (-9223372036854775808)] 3)) := (Below.refl _ _).alloc (Nat.le_refl _) _
    have hsl := lit_sl (S := IsR r) w3 [0, 1, 60, -60, -9223372036854775808] _ 3 rfl (by show ¬ _ = r; omega)
    have hnum := num_any r (q + 1) _ 5 _ _ (hR3.up hal) hsl (by simp) (by simp) (by omega) (by omega)
    have ho4 := ho3.up hal
    have hgg4 := hgg3.up hal
    have HN := Lib.hid hnum
    clear hnum hsl hal hgg3 ho3 hR3
    go_wp2_with fail
    refine HN.out.mono ?_
    rintro e w5 ⟨y, hy, rfl, hR5, hg5⟩
    have hoy : okInt y := mem_lit hy (by simp [okInt])
    have ho5 := ho4.gr hg5 (fun b e => by rw [e]; exact hrl)
    have hgg5 := hgg4.trans hg5
    have hlo := hgg5.size
    have HY := Lib.hid hoy
    obtain ⟨ps, hps⟩ : ∃ ps, ps = xs ++ [y] := ⟨_, rfl⟩
    have HPS := Lib.hid hps
    clear hy hoy hps ho4 hg5 hgg4
    go_wp2_with (at_builtin; refine wpList_append_int (ys := ps) (by rfl) (.tmp 18) (.tmp 22) (by rfl) (by rfl) (by rfl) ho5 (by omega) hlo HPS.out ?_; intro A1 c1 w6 hown6 hg6 hbk6)
    have hR6 := hR5.own hg6 (fun g e => by have := (ho5.lt g e).1; omega)
    have hgg6 := hgg5.own hg6 (fun g e => (ho5.lt g e).1)
    clear hbk6 hg6 ho5
    go_wp2
    go_ret
    exact ⟨A1, c1, ps, rfl, hown6, ⟨by rw [HPS.out]; simp; omega, by
      rw [HPS.out]; intro x hx
      rcases List.mem_append.1 hx with hx | hx
      · have := HX.out x hx; unfold okInt; omega
      · rw [List.mem_singleton.1 hx]; exact HY.out⟩, _, by omega, by omega, hR6, hgg6⟩
  · have hz2 : (k3 == 0) = false := by simpa using hz
    clear hz
    go_wp2
    go_ret
    exact ⟨A, c, xs, rfl, ho3, ⟨by omega, fun x hx => by have := HX.out x hx; unfold okInt; omega⟩, _, by omega, by omega, hR3, hgg3⟩
end Go.Proofs.Ytbljfhmcebgdaaa

/-! Draws of formulas: l4Cnf, l4Bent, DrawUnitAll. -/
namespace Go.Proofs.Ytbljfhmcebgdaaa
open Go Go.RowKit

/-- Small clauses. -/
def smallL (m : Nat) (xs : List (List Int)) : Prop := xs.length ≤ m ∧ ∀ cl ∈ xs, cl.length ≤ 100 ∧ ∀ x ∈ cl, okInt x
theorem smallL.snoc {m : Nat} {xs : List (List Int)} {cl : List Int} (h : smallL m xs) (hl : cl.length ≤ 100) (hx : ∀ x ∈ cl, okInt x) : smallL (m + 1) (xs ++ [cl]) :=
  ⟨by simp; exact h.1, fun c hc => by
    rcases List.mem_append.1 hc with hc | hc
    · exact h.2 c hc
    · rw [List.mem_singleton.1 hc]; exact ⟨hl, hx⟩⟩
theorem smallL.mono {m n : Nat} {xs : List (List Int)} (h : smallL m xs) (hn : m ≤ n) : smallL n xs := ⟨Nat.le_trans h.1 hn, h.2⟩
theorem smallL.sm {m : Nat} {xs : List (List Int)} (h : smallL m xs) (hm : m ≤ 1000) : smRows xs := by
  refine ⟨by have := h.1; omega, fun l hl => ⟨by have := (h.2 l hl).1; omega, fun x hx => (h.2 l hl).2 x hx⟩, ?_⟩
  have key : ∀ ys : List (List Int), (∀ l ∈ ys, l.length ≤ 100) → nsum (ys.map List.length) ≤ ys.length * 100 := by
    intro ys
    induction ys with
    | nil => intro _; simp [nsum]
    | cons y ys ih =>
      intro hy
      have h1 := ih fun l hl => hy l (by simp [hl])
      have h2 := hy y (by simp)
      simp only [List.map_cons, nsum, List.length_cons]
      omega
  have := key xs fun l hl => (h.2 l hl).1
  have := h.1
  omega
/-- A drawn formula. -/
def RetDC (S0 : Nat → Prop) (r : Nat) (p N : Int) (ok : C → Prop) (w : World) (e : Ending) (w' : World) : Prop :=
  ∃ x A c, e = .returned (.agg #[.int .i64 (C.many x), .slice A (C.list x).length c]) ∧ x.list.length ≤ c ∧ Lay.int.slice.Sl w' (Ab S0 w') A x.list ∧ ok x ∧ Drawn r p N w w'
/-- An own row of integers as an element. -/
theorem own_elemS {S : Nat → Prop} {w w2 : World} {v : Value} {A : Option Addr} {c : Nat} {x : List Int} (ho : OwnI w2 w.heap.size (.slice A x.length c) x) (hS : ∀ b, S b → b < w.heap.size) (hv : ∀ g, v.ownBlock = some g → g < w.heap.size) :
    Lay.int.slice.R w2 (fun b => b < w2.heap.size ∧ v.ownBlock ≠ some b ∧ NotIn S w2 b) x [.slice A x.length c] :=
  ⟨A, c, rfl, ho.cap, ho.own.mono fun b hb => ⟨hb.2.1, fun e => by have := hv b e; have := hb.1; omega, fun e => by have := hS b e; have := hb.1; omega⟩⟩

set_option maxRecDepth 100000 in
set_option maxHeartbeats 4000000 in
theorem l4Cnf_any (S0 : Nat → Prop) (r : Nat) (p : Int) (w : World) (h : Rdr w r p) (hS0 : ∀ b, S0 b → b < w.heap.size) (hSr : S0 r) (p0 : 0 ≤ p) (p1 : p ≤ 700000000) :
    Calls Try.prog 38 #[.pointer (some ⟨r, 0, none⟩)] w (RetDC S0 r p 1000 (fun x => 1 ≤ x.many ∧ x.many ≤ 7 ∧ smallL 30 x.list) w) := by
  obtain ⟨i0, hi0, hz0, hz1, hz2⟩ := info_parts toIntSS_info
  have hrl := h.lt
  have hal0 : Below w.heap.size w (w.alloc (.cells #[.int .i64 0, .slice none 0 0] 25)) := (Below.refl _ _).alloc (Nat.le_refl _) _
  have hb2 : (w.alloc (.cells #[.int .i64 0, .slice none 0 0] 25)).heap[w.heap.size]? = some (.cells #[.int .i64 0, .slice none 0 0] 25 (0, 0)) := heap_alloc_new _ _
  have hsz0 : (w.alloc (.cells #[.int .i64 0, .slice none 0 0] 25)).heap.size = w.heap.size + 1 := by simp
  generalize hW0 : w.alloc (.cells #[.int .i64 0, .slice none 0 0] 25) = w0 at *
  have hR0 := h.up hal0
  have hg0 : Gr (IsR r) w w0 := .below hal0
  clear hal0 h
  go_enter Try.func38, Try.ntmps38
  go_wp2_with fail
  clear hW0
  refine (pick_any r p 7 w0 hR0 (by omega) (by omega) (by omega) (by omega)).mono ?_
  rintro e w1 ⟨k, rfl, k0, k1, _, hR1, hg1⟩
  have k1 := k1 (by omega)
  have hg1 := Gr.one (S := IsR r) hg1 rfl
  have hb2 := hg1.heap (by show ¬ _ = r; omega) hb2
  have hgg1 := hg0.trans hg1
  have hsz1 := hg1.size
  obtain ⟨m, hm⟩ : ∃ m : Nat, 1 + k = m := ⟨(1 + k).toNat, by omega⟩
  have HM := Lib.hid hm
  have hm1 : 1 ≤ m ∧ m ≤ 7 := by omega
  clear hR0 hg0 hg1
  go_wp2_with fail
  generalize hW2 : w1.alloc (.cells #[.int .i64 (m : Int), .slice none 0 0] 25) = w2 at *
  have hal : Below w1.heap.size w1 w2 := by rw [← hW2]; exact (Below.refl _ _).alloc (Nat.le_refl _) _
  have hb3 : w2.heap[w1.heap.size]? = some (.cells #[.int .i64 m, .slice none 0 0] 25 (0, 0)) := by rw [← hW2]; exact heap_alloc_new _ _
  have hb2 := (hal.block _ (lt_of_block hb2)).trans hb2
  have hR2 := hR1.up hal
  have hgg2 := hgg1.up hal
  have hsz2 : w2.heap.size = w1.heap.size + 1 := by rw [← hW2]; simp
  clear hal hR1 hgg1 hW2
  obtain ⟨b3, hb3e⟩ : ∃ b, b = w1.heap.size := ⟨_, rfl⟩
  obtain ⟨b2, hb2e⟩ : ∃ b, b = w.heap.size := ⟨_, rfl⟩
  have hal3 : Below w2.heap.size w2 (w2.alloc (.cells #[.int .i64 3, .int .i64 6, .int .i64 10, .int .i64 16, .int .i64 24, .int .i64 30, .int .i64 20] 3)) := (Below.refl _ _).alloc (Nat.le_refl _) _
  have hsl := lit_sl (S := IsR r) w2 [3, 6, 10, 16, 24, 30, 20] _ 3 rfl (by show ¬ _ = r; omega)
  have HN := Lib.hid (num_any r (p + 1) _ 7 _ _ (hR2.up hal3) hsl (by simp) (by simp) (by omega) (by omega))
  have hb2 := (hal3.block _ (lt_of_block hb2)).trans hb2
  have hb3 := (hal3.block _ (lt_of_block hb3)).trans hb3
  have hgg3 := hgg2.up hal3
  have hsz3 := hal3.size
  rw [← hb3e] at hb3 hsz2
  rw [← hb2e] at hb2 hsz0
  clear hsl hR2 hgg2 hal3 hm
  rw [← hb3e, ← hb2e]
  rw [hsz2] at HN
  have i2 : w.heap.size ≤ b2 := by omega
  have i3 : b2 < b3 := by omega
  have i4 : r < b2 := by omega
  clear hb2e hb3e hsz0 hsz1 hsz2 hsz3 hrl
  refine HN.out.mono ?_
  clear HN
  rintro e w4 ⟨n, hn, rfl, hR4, hg4⟩
  have hnb : 3 ≤ n ∧ n ≤ 30 := by simp at hn; omega
  have hb2 := hg4.heap (by show ¬ _ = r; omega) hb2
  have hb3 := hg4.heap (by show ¬ _ = r; omega) hb3
  have hgg4 := hgg3.trans hg4
  have hsz4 := hg4.size
  obtain ⟨n, rfl⟩ := Int.eq_ofNat_of_zero_le (show 0 ≤ n by omega)
  clear hn hgg3 hg4
  go_wp2_with fail
  refine (pick_any r (p + 1 + 1) 2 w4 hR4 (by omega) (by omega) (by omega) (by omega)).mono ?_
  rintro e w5 ⟨l, rfl, l0, l1, _, hR5, hg5⟩
  have l1 := l1 (by omega)
  have hg5 := Gr.one (S := IsR r) hg5 rfl
  have hb2 := hg5.heap (by show ¬ _ = r; omega) hb2
  have hb3 := hg5.heap (by show ¬ _ = r; omega) hb3
  have hgg5 := hgg4.trans hg5
  have hsz5 := hg5.size
  clear hgg4 hg5 hR4
  have HS : Hid (∃ S : Nat → Prop, (∀ b, S b ↔ S0 b ∨ b = b2 ∨ b = b3)) := Lib.hid ⟨fun b => S0 b ∨ b = b2 ∨ b = b3, fun _ => Iff.rfl⟩
  obtain ⟨S, hS⟩ := HS.out
  have HS := Lib.hid hS
  clear hS
  have hSlt : ∀ b, S b → b < b3 + 1 := fun b hb => by
    rcases (HS.out b).1 hb with h9 | h9 | h9
    · have := hS0 b h9; omega
    · omega
    · omega
  have hSr : ∀ b, IsR r b → S b := fun b hb => (HS.out b).2 (.inl (by rw [show b = r from hb]; exact hSr))
  have HS0 : Hid (∀ b, S0 b → S b) := Lib.hid fun b hb => (HS.out b).2 (.inl hb)
  have HSL := Lib.hid (And.intro hSlt hSr)
  have hb3lt := lt_of_block hb3
  clear hSlt hSr
  go_wp2
  go_loopw [6] (fun i wr => ∃ (j : Nat) (ns : List (List Int)) (A : Option Addr) (c : Nat) (q : Int), j ≤ n ∧ i = .int .i64 j ∧ smallL j ns ∧ wr.heap[b3]? = some (.cells #[.int .i64 m, .slice A ns.length c] 25 (0, 0)) ∧ wr.heap[b2]? = some (.cells #[.int .i64 0, .slice none 0 0] 25 (0, 0)) ∧
    OwnL Lay.int.slice (NotIn S) 26 wr (b3 + 1) (.slice A ns.length c) ns ∧ Rdr wr r q ∧ p ≤ q ∧ q ≤ p + 3 + 20 * j ∧ Gr (IsR r) w wr) (fun i _ => n - (intOf i).toNat)
  case atStart => exact ⟨0, [], none, 0, p + 1 + 1 + 1, Nat.zero_le _, rfl, ⟨Nat.zero_le _, by simp⟩, hb3, hb2, OwnL.nil _ _ _ _ _, hR5, by omega, by omega, hgg5⟩
  case round =>
    obtain ⟨j, ns, A, c, q, hj, rfl, hsm, hb3, hb2, hown, hR, q0, q1, hg⟩ := hrel
    have HB3 := Lib.hid hb3
    have HB2 := Lib.hid hb2
    have HSM := Lib.hid hsm
    have hnl : ns.length ≤ 100 := by have := hsm.1; omega
    have hlt3 := lt_of_block hb3
    clear hb3 hb2 hsm
    have c0 : wr.cell? ⟨b3, 0, none⟩ = some (.int .i64 m) := (cell_of_block HB3.out 0).1
    have c1 : wr.cell? ⟨b3, 1, none⟩ = some (.slice A ns.length c) := (cell_of_block HB3.out 1).1
    by_cases hlt : j < n
    · have hj1 : (j : Int) < n := by omega
      clear c1
      go_wp2_with fail
      clear c0
      refine (l4Draw_any r q m (2 + l) wr hR (by omega) (by omega) (by omega) (by omega) (by omega)).mono ?_
      rintro e w6 ⟨A6, c6, xs, rfl, ho6, ⟨hl6, hx6⟩, q6, q60, q61, hR6, hg6⟩
      have HX6 : Hid (∀ x ∈ xs, okInt x) := Lib.hid fun x hx => by have := hx6 x hx; unfold okInt; omega
      have HB3 := Lib.hid (hg6.heap (by show ¬ _ = r; omega) HB3.out)
      have HB2 := Lib.hid (hg6.heap (by show ¬ _ = r; omega) HB2.out)
      have hown6 := hown.gr (hg6.mono HSL.out.2) HSL.out.1
      have hel6 := own_elemS (S := S) (v := .slice A ns.length c) ho6 (fun b hb => by have := HSL.out.1 b hb; omega) (fun g hg => (hown.lt g hg).2)
      have HEL6 := Lib.hid hel6
      have hgg6 := hg.trans hg6
      have hs6 := hg6.size
      clear hx6 hown hR hg hg6 hel6 ho6
      by_cases hpos : 0 < xs.length
      · have hposi : (0 : Int) < xs.length := by omega
        obtain ⟨ps, hps⟩ : ∃ ps, ps = ns ++ [xs] := ⟨_, rfl⟩
        have HPS := Lib.hid hps
        clear hps
        have cc1 : w6.cell? ⟨b3, 1, none⟩ = some (.slice A ns.length c) := (cell_of_block HB3.out 1).1
        have hlo : b3 + 1 ≤ w6.heap.size := by have := lt_of_block HB3.out; omega
        go_wp2_with (at_builtin; refine wpList_append_row (L := Lay.int.slice) (Q := NotIn S) (ys := ps) (by rfl) (.tmp 37) (.tmp 39) (by rfl) Try.underlying23 hi0 hz0 hz1 hz2 (by rfl) (by decide) (by rfl) (by rfl) hown6 (Stay.notIn S) HEL6.out (fun _ h => h) (by simp [Value.oneCell']) (by omega) (by omega) hlo HPS.out ?_; intro A1 c1 w8 hown8 hg8 hbk8; have HB38 := Lib.hid ((hg8.block b3 (by omega) (fun e => by have := (hown6.lt _ e.symm).1; omega)).trans HB3.out); have v1 := (cell_of_block HB38.out 1).1; have f1 := (cell_of_block HB38.out 1).2; have v1 : w8.cell? ⟨b3, 1, none⟩ = some (.slice A ns.length c) := v1)
        have HB28 := Lib.hid ((hg8.block b2 (by omega) (fun e => by have := (hown6.lt _ e.symm).1; omega)).trans HB2.out)
        have hR8 := hR6.own hg8 (fun g e => by have := (hown6.lt g e).1; omega)
        have hgg8 := hgg6.own hg8 (fun g e => by have := (hown6.lt g e).1; omega)
        have hset : Gr S w8 (w8.setCell ⟨b3, 1, none⟩ (.slice A1 ps.length c1)) := (Gr.refl _ _).set _ _ _ (.inl ((HS.out b3).2 (.inr (.inr rfl))))
        have HB39 := Lib.hid (show (w8.setCell ⟨b3, 1, none⟩ (.slice A1 ps.length c1)).heap[b3]? = some (.cells #[.int .i64 m, .slice A1 ps.length c1] 25 (0, 0)) from heap_set_same w8 b3 1 (.slice A1 ps.length c1) _ _ HB38.out)
        have HB29 := Lib.hid ((Below.heap_setCell w8 ⟨b3, 1, none⟩ (.slice A1 ps.length c1) b2 (by show b2 ≠ b3; omega)).trans HB28.out)
        have hown9 := hown8.gr hset HSL.out.1
        have hR9 := hR8.set (g := b3) (o := 1) (u := .slice A1 ps.length c1) (by omega)
        have hgg9 := hgg8.set b3 1 (.slice A1 ps.length c1) (.inr (by omega))
        clear hg8 hbk8 hown8 hR8 hgg8 hset v1 f1 cc1
        go_wp2
        go_roundw
        case rel => exact ⟨j + 1, ps, A1, c1, q6, by omega, by go_num, by rw [HPS.out]; exact HSM.out.snoc (by omega) HX6.out, HB39.out, HB29.out, hown9, hR9, by omega, by omega, hgg9⟩
        case measure => simp [intOf]; omega
      · have hposi : ¬ (0 : Int) < xs.length := by omega
        go_wp2_with fail
        refine (pick_any r q6 40 w6 hR6 (by omega) (by omega) (by omega) (by omega)).mono ?_
        rintro e w7 ⟨z, rfl, z0, _, _, hR7, hg7⟩
        have hg7 := Gr.one (S := IsR r) hg7 rfl
        have HB3 := Lib.hid (hg7.heap (by show ¬ _ = r; omega) HB3.out)
        have HB2 := Lib.hid (hg7.heap (by show ¬ _ = r; omega) HB2.out)
        have hown7 := hown6.gr (hg7.mono HSL.out.2) HSL.out.1
        have hx0 : xs = [] := List.eq_nil_of_length_eq_zero (by omega)
        have hgg7 := hgg6.trans hg7
        have hs7 := hg7.size
        have HEL7 : Hid (Lay.int.slice.R w7 (fun b => b < w7.heap.size ∧ (Value.slice A ns.length c).ownBlock ≠ some b ∧ NotIn S w7 b) xs [.slice A6 xs.length c6]) := Lib.hid (by
          subst hx0
          exact ⟨A6, c6, rfl, by simp, Lay.Sl.nil _ _ _ _⟩)
        clear hx0 hown6 hR6 hg7 hgg6
        by_cases hz : z = 0
        · subst hz
          obtain ⟨ps, hps⟩ : ∃ ps, ps = ns ++ [xs] := ⟨_, rfl⟩
          have HPS := Lib.hid hps
          clear hps
          have cc1 : w7.cell? ⟨b3, 1, none⟩ = some (.slice A ns.length c) := (cell_of_block HB3.out 1).1
          have hlo : b3 + 1 ≤ w7.heap.size := by have := lt_of_block HB3.out; omega
          go_wp2_with (at_builtin; refine wpList_append_row (L := Lay.int.slice) (Q := NotIn S) (ys := ps) (by rfl) (.tmp 37) (.tmp 39) (by rfl) Try.underlying23 hi0 hz0 hz1 hz2 (by rfl) (by decide) (by rfl) (by rfl) hown7 (Stay.notIn S) HEL7.out (fun _ h => h) (by simp [Value.oneCell']) (by omega) (by omega) hlo HPS.out ?_; intro A1 c1 w8 hown8 hg8 hbk8; have HB38 := Lib.hid ((hg8.block b3 (by omega) (fun e => by have := (hown7.lt _ e.symm).1; omega)).trans HB3.out); have v1 := (cell_of_block HB38.out 1).1; have f1 := (cell_of_block HB38.out 1).2; have v1 : w8.cell? ⟨b3, 1, none⟩ = some (.slice A ns.length c) := v1)
          have HB28 := Lib.hid ((hg8.block b2 (by omega) (fun e => by have := (hown7.lt _ e.symm).1; omega)).trans HB2.out)
          have hR8 := hR7.own hg8 (fun g e => by have := (hown7.lt g e).1; omega)
          have hgg8 := hgg7.own hg8 (fun g e => by have := (hown7.lt g e).1; omega)
          have hset : Gr S w8 (w8.setCell ⟨b3, 1, none⟩ (.slice A1 ps.length c1)) := (Gr.refl _ _).set _ _ _ (.inl ((HS.out b3).2 (.inr (.inr rfl))))
          have HB39 := Lib.hid (show (w8.setCell ⟨b3, 1, none⟩ (.slice A1 ps.length c1)).heap[b3]? = some (.cells #[.int .i64 m, .slice A1 ps.length c1] 25 (0, 0)) from heap_set_same w8 b3 1 (.slice A1 ps.length c1) _ _ HB38.out)
          have HB29 := Lib.hid ((Below.heap_setCell w8 ⟨b3, 1, none⟩ (.slice A1 ps.length c1) b2 (by show b2 ≠ b3; omega)).trans HB28.out)
          have hown9 := hown8.gr hset HSL.out.1
          have hR9 := hR8.set (g := b3) (o := 1) (u := .slice A1 ps.length c1) (by omega)
          have hgg9 := hgg8.set b3 1 (.slice A1 ps.length c1) (.inr (by omega))
          clear hg8 hbk8 hown8 hR8 hgg8 hset v1 f1 cc1
          go_wp2
          go_roundw
          case rel => exact ⟨j + 1, ps, A1, c1, q6 + 1, by omega, by go_num, by rw [HPS.out]; exact HSM.out.snoc (by omega) HX6.out, HB39.out, HB29.out, hown9, hR9, by omega, by omega, hgg9⟩
          case measure => simp [intOf]; omega
        · have hzb : (z == 0) = false := by simpa using hz
          go_wp2
          go_roundw
          case rel => exact ⟨j + 1, ns, A, c, q6 + 1, by omega, by go_num, HSM.out.mono (by omega), HB3.out, HB2.out, hown7, hR7, by omega, by omega, hgg7⟩
          case measure => simp [intOf]; omega
    · have hje : j = n := by omega
      subst hje
      have hsl := hown.ab HSL.out.1
      have v0 : wr.cell? ⟨b2, 0, none⟩ = some (.int .i64 0) := (cell_of_block HB2.out 0).1
      have v1 : wr.cell? ⟨b2, 1, none⟩ = some (.slice none 0 0) := (cell_of_block HB2.out 1).1
      have f0 : wr.frozen? ⟨b2, 0, none⟩ = false := (cell_of_block HB2.out 0).2
      have f1 : wr.frozen? ⟨b2, 1, none⟩ = false := (cell_of_block HB2.out 1).2
      have hcap := hown.cap.2
      go_wp2
      refine bodyPost_ret (v := .agg #[.int .i64 m, .slice A ns.length c]) (by simp [results, Try.results38, go_sem, v0, v1, f0, f1]) rfl ⟨⟨m, ns⟩, A, c, rfl, hcap, ?_, ⟨by show (1 : Int) ≤ m; omega, by show (m : Int) ≤ 7; omega, HSM.out.mono (by omega)⟩, q, q0, by omega, ?_, ?_⟩
      · have hset : Gr S wr ((wr.setCell ⟨b2, 0, none⟩ (.int .i64 m)).setCell ⟨b2, 1, none⟩ (.slice A ns.length c)) := ((Gr.refl _ _).set _ _ _ (.inl ((HS.out b2).2 (.inr (.inl rfl))))).set _ _ _ (.inl ((HS.out b2).2 (.inr (.inl rfl))))
        exact (hsl.gr hset).ab_mono fun b _ hb => HS0.out b hb
      · exact (hR.set (by omega)).set (by omega)
      · exact (hg.set _ _ _ (.inr (by omega))).set _ _ _ (.inr (by omega))

end Go.Proofs.Ytbljfhmcebgdaaa
