/- FnProof: proofs are sound, and so are their prefixes: for any bytes the law says true. -/
import Derived.Test.YtbljfhmcebgdaaaRows
import Derived.Test.YtbljfhmcebgdaaaJFnProof5
import Derived.Test.YtbljfhmcebgdaaaJFnProof7
import Derived.Test.YtbljfhmcebgdaaaJFnProof15
import Derived.Test.YtbljfhmcebgdaaaJFnProof22
/-! FnProof: proofs are sound, and so are their prefixes: for any bytes the law says true. -/
namespace Go.Proofs.Ytbljfhmcebgdaaa
open Go Go.RowKit Go.ChangeShapes Go.WideShapes Go.ChangeAt Go.Deep

theorem opens_bytes : Opens Try.prog 22 Lay.byte.slice (fun xs => xs.length ≤ maxLen ∧ ∀ x ∈ xs, True) := Opens.slice Try.underlying22 (by kernel_rfl) (by decide) (Opens.byte Try.underlying5)
theorem prf_sound {x : C} (h1 : cnfOk x = true) {vs : List Bool} (hlen : (vs.length : Int) = x.many) (hall : ∀ cl ∈ x.list, clHas vs cl = true) : ∀ (cs pre : List (List Int)), (∀ cl ∈ pre, clOk x.many cl = true ∧ clHas vs cl = true) → prf x pre cs = true → ∀ cl ∈ cs, clHas vs cl = true
  | [], _, _, _, cl, h => by cases h
  | c :: cs, pre, hp, h, cl, hcl => by
    simp only [prf, Bool.and_eq_true] at h
    obtain ⟨⟨h2, h3⟩, h4⟩ := h
    have hc : clHas vs c = true := by
      cases hc : clHas vs c with
      | true => rfl
      | false =>
        have hn : ∀ l ∈ c, holdsL vs l = false := fun l hl => by
          have hc := hc
          unfold clHas at hc
          have := List.any_eq_false.1 hc l hl
          simpa using this
        have hr := clOk_rng h2
        have hrg : ∀ cl ∈ x.list ++ pre, ∀ l ∈ cl, l ≠ 0 ∧ -x.many ≤ l ∧ l ≤ x.many := fun cl hcl => by
          rcases List.mem_append.1 hcl with hcl | hcl
          · exact cnfOk_rng h1 cl hcl
          · exact clOk_rng (hp cl hcl).1
        have hal : ∀ cl ∈ x.list ++ pre, clHas vs cl = true := fun cl hcl => by
          rcases List.mem_append.1 hcl with hcl | hcl
          · exact hall cl hcl
          · exact (hp cl hcl).2
        have := (un_sound (vs := vs) hlen hrg hal (x.many.toNat + 1 - (c.map fun l => -l).length) (c.map fun l => -l) fun l hl => by
          obtain ⟨y, hy, rfl⟩ := List.mem_map.1 hl
          rw [holdsL_neg (by unfold inV; rw [decide_eq_true_eq]; have := hr y hy; omega), hn y hy]
          rfl).2
        unfold units at h3
        rw [this] at h3
        cases h3
    rcases List.mem_cons.1 hcl with rfl | hcl
    · exact hc
    · exact prf_sound h1 hlen hall cs (pre ++ [c]) (fun y hy => by
        rcases List.mem_append.1 hy with hy | hy
        · exact hp y hy
        · rw [List.mem_singleton.1 hy]; exact ⟨h2, hc⟩) h4 cl hcl
theorem proof_follows {x : C} {cs : List (List Int)} (h : proofOk x cs = true) {cl : List Int} (hcl : cl ∈ cs) (vs : List Bool) (hv : cnfHas x vs = true) : clHas vs cl = true := by
  unfold proofOk at h
  rw [Bool.and_eq_true, Bool.and_eq_true] at h
  obtain ⟨_, hlen, hall⟩ := cnfHas_iff.1 hv
  exact prf_sound h.1 hlen hall cs [] (by simp) h.2.2 cl hcl
theorem prf_take {x : C} : ∀ (cs pre : List (List Int)) (k : Nat), prf x pre cs = true → prf x pre (cs.take k) = true
  | _, _, 0, _ => by simp [prf]
  | [], _, k + 1, h => by simp [prf]
  | c :: cs, pre, k + 1, h => by
    simp only [prf, Bool.and_eq_true, List.take_succ_cons] at h ⊢
    exact ⟨h.1, prf_take cs _ k h.2⟩
theorem proof_take {x : C} {cs : List (List Int)} (h : proofOk x cs = true) (k : Nat) : proofOk x (cs.take k) = true := by
  unfold proofOk at h ⊢
  rw [Bool.and_eq_true, Bool.and_eq_true, decide_eq_true_eq] at h ⊢
  exact ⟨h.1, by rw [List.length_take]; omega, prf_take cs [] k h.2.2⟩

set_option maxRecDepth 100000 in
set_option maxHeartbeats 4000000 in
theorem fnProof_walk (W : World) {A0 : Option Addr} {c0 : Nat} {x0 : List UInt8} {A1 : Option Addr} {c1 : Nat} {x1 : List UInt8} (hc0 : x0.length ≤ c0) (hok0 : x0.length ≤ maxLen ∧ ∀ z ∈ x0, True) (h0 : Lay.byte.Rd W A0 x0) (hc1 : x1.length ≤ c1) (hok1 : x1.length ≤ maxLen ∧ ∀ z ∈ x1, True) (h1 : Lay.byte.Rd W A1 x1) :
    Calls Try.prog 4 #[.slice A0 x0.length c0, .slice A1 x1.length c1] W (LawC W) := by
  have hm0 : x0.length ≤ 9223372036854775807 := by have := hok0.1; unfold maxLen at this; omega
  clear hok0
  have hm1 : x1.length ≤ 9223372036854775807 := by have := hok1.1; unfold maxLen at this; omega
  clear hok1
  by_cases hbig0 : (1048576 : Int) < x0.length
  · go_enter Try.func4, Try.ntmps4
    go_wp2
    go_ret
    exact ⟨rfl, Below.refl _ _⟩
  by_cases hbig1 : (1048576 : Int) < x1.length
  · go_enter Try.func4, Try.ntmps4
    go_wp2
    go_ret
    exact ⟨rfl, Below.refl _ _⟩
  have hb : Below W.heap.size W W := Below.refl _ _
  go_enter Try.func4, Try.ntmps4
  clear h1
  have hbig : x1.length ≤ 1048576 := by omega
  go_wp2_with fail
  refine (drawProofOk_any A0 c0 x0 _ h0 hc0 hm0).mono ?_
  rintro e u1 ⟨x, A, a, B, d, cs, rfl, hxa, hcd, hx, hcs, hmx, hsx, hl7, hok, hb9⟩
  have hb := bthen hb hb9
  clear hb9
  clear h0
  have SX : Hid (smCnf x) := Lib.hid ⟨hmx, hsx.sm (by omega)⟩
  have HOK : Hid (∀ cl ∈ cs, cl.length ≤ 1048576 ∧ i64s cl) := Lib.hid fun cl hcl => ⟨by have := (hok cl hcl).1; omega, (hok cl hcl).2⟩
  have hmx2 := hmx
  unfold okInt at hmx2
  clear hmx hsx hok
  generalize hr9 : proofOk x cs = ok at *
  have HR9 := Lib.hid hr9
  clear hr9
  have hal : Below u1.heap.size u1 (u1.alloc (.cells #[.int .i64 x.many, .slice A x.list.length a] 25)) := (Below.refl _ _).alloc (Nat.le_refl _) _
  have B9 : (u1.alloc (.cells #[.int .i64 x.many, .slice A x.list.length a] 25)).heap[u1.heap.size]? = some (.cells #[.int .i64 x.many, .slice A x.list.length a] 25 (0, 0)) := heap_alloc_new _ _
  have hb := bthen hb hal
  have hx := hx.up hal
  have hcs := hcs.up hal
  clear hal
  have BC := Lib.hid B9
  clear B9
  go_wp2_with fail
  generalize u1.alloc (.cells #[.int .i64 x.many, .slice A x.list.length a] 25) = u2 at *
  generalize u1.heap.size = iBC at *
  refine (implProofOk_any x cs A B a d _ hx hxa hcs hcd SX.out (by omega) HOK.out).mono ?_
  rw [HR9.out]
  rintro e u3 ⟨rfl, hb9⟩
  have hb := bthen hb hb9
  have hx := hx.up hb9
  have hcs := hcs.up hb9
  have BC := Lib.hid ((hb9.block _ (lt_of_block BC.out)).trans BC.out)
  clear hb9
  have kBC_0 : u3.cell? ⟨iBC, 0, none⟩ = some (.int .i64 x.many) := (cell_of_block BC.out 0).1
  have kBC_1 : u3.cell? ⟨iBC, 1, none⟩ = some (.slice A x.list.length a) := (cell_of_block BC.out 1).1
  go_wp2_with fail
  clear kBC_0 kBC_1
  refine (specProofOk_any x cs A B a d _ hx hxa hcs hcd SX.out (by omega) HOK.out).mono ?_
  rw [HR9.out]
  rintro e u4 ⟨rfl, hb9⟩
  have hb := bthen hb hb9
  have hx := hx.up hb9
  have hcs := hcs.up hb9
  have BC := Lib.hid ((hb9.block _ (lt_of_block BC.out)).trans BC.out)
  clear hb9
  have q2 : (ok != ok) = false := by simp
  have q3 : (ok == ok) = true := by simp
  cases ok
  · skip
    have kBC_0 : u4.cell? ⟨iBC, 0, none⟩ = some (.int .i64 x.many) := (cell_of_block BC.out 0).1
    have kBC_1 : u4.cell? ⟨iBC, 1, none⟩ = some (.slice A x.list.length a) := (cell_of_block BC.out 1).1
    go_wp2_with fail
    clear kBC_0 kBC_1
    refine (specProofOk_any x cs A B a d _ hx hxa hcs hcd SX.out (by omega) HOK.out).mono ?_
    rw [HR9.out]
    rintro e u5 ⟨rfl, hb9⟩
    have hb := bthen hb hb9
    have hx := hx.up hb9
    have hcs := hcs.up hb9
    have BC := Lib.hid ((hb9.block _ (lt_of_block BC.out)).trans BC.out)
    clear hb9
    go_wp2
    go_ret
    exact ⟨rfl, hb⟩
  by_cases h7 : 7 < x.many
  · skip
    have kBC_0 : u4.cell? ⟨iBC, 0, none⟩ = some (.int .i64 x.many) := (cell_of_block BC.out 0).1
    have kBC_1 : u4.cell? ⟨iBC, 1, none⟩ = some (.slice A x.list.length a) := (cell_of_block BC.out 1).1
    go_wp2_with fail
    clear kBC_0 kBC_1
    refine (specProofOk_any x cs A B a d _ hx hxa hcs hcd SX.out (by omega) HOK.out).mono ?_
    rw [HR9.out]
    rintro e u6 ⟨rfl, hb9⟩
    have hb := bthen hb hb9
    have hx := hx.up hb9
    have hcs := hcs.up hb9
    have BC := Lib.hid ((hb9.block _ (lt_of_block BC.out)).trans BC.out)
    clear hb9
    go_wp2
    go_ret
    exact ⟨rfl, hb⟩
  have hx0 : 0 ≤ x.many := by
    have := HR9.out
    unfold proofOk at this
    rw [Bool.and_eq_true] at this
    exact ((cnfOk_iff x).1 this.1).1
  obtain ⟨M, hM⟩ := Int.eq_ofNat_of_zero_le hx0
  have hM7 : M ≤ 7 := by omega
  have HMM := Lib.hid hM
  clear hM q2 q3
  have cc0 : u4.cell? ⟨iBC, 0, none⟩ = some (.int .i64 x.many) := (cell_of_block BC.out 0).1
  have HBU := Lib.hid hb
  have HX0 := Lib.hid hx
  have HC0 := Lib.hid hcs
  go_wp2
  clear cc0
  go_loopw [8] (fun i wr => ∃ k : Nat, k ≤ cs.length ∧ i = .int .i64 k ∧ Below u4.heap.size u4 wr) (fun i _ => cs.length - (intOf i).toNat)
  case atStart => exact ⟨0, Nat.zero_le _, rfl, Below.refl _ _⟩
  case round =>
    obtain ⟨k, hk, rfl, hbr⟩ := hrel
    by_cases hlt : k < cs.length
    · have hk1 : (k : Int) < cs.length := by omega
      have hk0 : (0 : Int) ≤ k := by omega
      have HFO := Lib.hid (proof_follows HR9.out (List.getElem_mem hlt))
      have HM9 := Lib.hid (HOK.out _ (List.getElem_mem hlt))
      obtain ⟨ad, A1, c1, e1, hf, hc1, hcc, hsx⟩ := (hcs.up hbr).at_slice hlt
      generalize cs[k] = cl at *
      subst e1
      have HCL := Lib.hid hsx
      have HX := Lib.hid (hx.up hbr)
      have kk0 := Later.cell (cell_of_block ((hbr.block _ (lt_of_block BC.out)).trans BC.out) 0).1
      have kk1 := Later.cell (cell_of_block ((hbr.block _ (lt_of_block BC.out)).trans BC.out) 1).1
      have kk2 := Later.cell hc1
      simp at kk0 kk1
      clear hc1 hsx
      go_wp2
      refine wp_region_rel [[], [], [], [(1, 52), (2, 53)], [(3, 54)], [(0, 51), (4, 55)], [(5, 56)]]
        (fun y y' => Below y.heap.size y y')
        (fun _ yy => Below wr.heap.size wr yy)
        [fun vs9 _ => vs9 0 = (.agg #[.int .i64 x.many, .slice A x.list.length a]),
    fun vs9 _ => vs9 1 = (.slice (some ad) cs.length d),
    fun vs9 _ => vs9 2 = (.int .i64 (k : Int)),
    fun vs9 _ => vs9 3 = (.pointer (some (ad.add k))),
    fun vs9 _ => vs9 4 = (.slice A1 cl.length c1),
    fun vs9 _ => vs9 5 = (.bool true),
    fun vs9 _ => vs9 6 = (.bool false)]
        [(0, 51), (1, 52), (2, 53), (3, 54), (4, 55), (5, 56), (6, 57)] (by kernel_rfl) (by kernel_rfl) (by kernel_rfl) (by kernel_rfl)
        (fun _ => Below.refl _ _)
        ⟨.inr (fun _ _ _ h _ => h),
    .inr (fun _ _ _ h _ => h),
    .inr (fun _ _ _ h _ => h),
    .inr (fun _ _ _ h _ => h),
    .inr (fun _ _ _ h _ => h),
    .inr (fun _ _ _ h _ => h),
    .inr (fun _ _ _ h _ => h), trivial⟩ ⟨fun vs vs' x h _ hv => (by dsimp only at hv ⊢; first | (rw [← h]; exact hv) | exact hv),
    fun vs vs' x h _ hv => (by dsimp only at hv ⊢; first | (rw [← h]; exact hv) | exact hv),
    fun vs vs' x h _ hv => (by dsimp only at hv ⊢; first | (rw [← h]; exact hv) | exact hv),
    fun vs vs' x h _ hv => (by dsimp only at hv ⊢; first | (rw [← h]; exact hv) | exact hv),
    fun vs vs' x h _ hv => (by dsimp only at hv ⊢; first | (rw [← h]; exact hv) | exact hv),
    fun vs vs' x h _ hv => (by dsimp only at hv ⊢; first | (rw [← h]; exact hv) | exact hv),
    fun vs vs' x h _ hv => (by dsimp only at hv ⊢; first | (rw [← h]; exact hv) | exact hv), trivial⟩ (below_drewN (Below.refl _ _) 1) ⟨?_, ?_, ?_, ?_, ?_, ?_, ?_, trivial⟩ ?_
      · intro vals xw n hn hI hF
        dsimp only [owes, bare]
        simp only [putsD, Act.put, List.setIfInBounds_toArray, List.set_cons_zero, List.set_cons_succ]
        have c90 : xw.cell? _ = _ := kk0 ⟨xw, hI⟩
        have c91 : xw.cell? _ = _ := kk1 ⟨xw, hI⟩
        go_wp2
        exact ⟨rfl, rfl, Below.refl _ _, hI⟩
      · intro vals xw n hn hI hF
        dsimp only [owes, bare]
        simp only [putsD, Act.put, List.setIfInBounds_toArray, List.set_cons_zero, List.set_cons_succ]
        go_wp2
        exact ⟨rfl, rfl, Below.refl _ _, hI⟩
      · intro vals xw n hn hI hF
        dsimp only [owes, bare]
        simp only [putsD, Act.put, List.setIfInBounds_toArray, List.set_cons_zero, List.set_cons_succ]
        go_wp2
        exact ⟨rfl, rfl, Below.refl _ _, hI⟩
      · intro vals xw n hn hI hF
        simp only [saysD, List.getD_cons_zero, List.getD_cons_succ, and_true] at hF
        obtain ⟨e52, e53⟩ := hF
        dsimp only [owes, bare]
        simp only [putsD, Act.put, List.setIfInBounds_toArray, List.set_cons_zero, List.set_cons_succ]
        simp only [e52, e53]
        go_wp2
        exact ⟨rfl, rfl, Below.refl _ _, hI⟩
      · intro vals xw n hn hI hF
        simp only [saysD, List.getD_cons_zero, List.getD_cons_succ, and_true] at hF
        have e54 := hF
        dsimp only [owes, bare]
        simp only [putsD, Act.put, List.setIfInBounds_toArray, List.set_cons_zero, List.set_cons_succ]
        simp only [e54]
        have c90 : xw.cell? _ = _ := kk2 ⟨xw, hI⟩
        go_wp2
        exact ⟨rfl, rfl, Below.refl _ _, hI⟩
      · intro vals xw n hn hI hF
        simp only [saysD, List.getD_cons_zero, List.getD_cons_succ, and_true] at hF
        obtain ⟨e51, e55⟩ := hF
        dsimp only [owes, bare]
        simp only [putsD, Act.put, List.setIfInBounds_toArray, List.set_cons_zero, List.set_cons_succ]
        simp only [e51, e55]
        have HCA := Lib.hid (wpFollows_any x cl A A1 a c1 M xw (HX.out.up hI) SX.out (Lay.Sl.up HCL.out hI) HM9.out.1 HM9.out.2 HMM.out (by omega) HFO.out)
        go_wp2_with fail
        refine HCA.out.mono ?_
        rintro e wx ⟨rfl, hb9⟩
        go_wp2
        exact ⟨rfl, rfl, hb9, bthen hI hb9⟩
      · intro vals xw n hn hI hF
        simp only [saysD, List.getD_cons_zero, List.getD_cons_succ, and_true] at hF
        have e56 := hF
        dsimp only [owes, bare]
        simp only [putsD, Act.put, List.setIfInBounds_toArray, List.set_cons_zero, List.set_cons_succ]
        simp only [e56]
        go_wp2
        exact ⟨rfl, rfl, Below.refl _ _, hI⟩
      · intro vals xw n hn hI hF
        rw [show List.range _ = [0, 1, 2, 3, 4, 5, 6] from rfl] at hF
        simp only [says, List.getD_cons_zero, List.getD_cons_succ, and_true] at hF
        have e57 := hF.2.2.2.2.2.2
        simp only [putsD, Act.put, List.setIfInBounds_toArray, List.set_cons_zero, List.set_cons_succ]
        simp only [e57]
        clear hF e57 kk0 kk1 kk2
        have hb9 := bthen hbr hI
        go_wp2
        go_roundw
        case rel => exact ⟨k + 1, by omega, by go_num, hb9⟩
        case measure => simp [intOf]; omega
    · have hke : k = cs.length := by omega
      subst hke
      have hx := HX0.out.up hbr
      have hcs := HC0.out.up hbr
      have BC := Lib.hid ((hbr.block _ (lt_of_block BC.out)).trans BC.out)
      have hb := bthen HBU.out hbr
      have kk0 := Later.cell (cell_of_block BC.out 0).1
      have kk1 := Later.cell (cell_of_block BC.out 1).1
      simp at kk0 kk1
      have HNI : Hid (proofOk x [] = true) := Lib.hid (by have := proof_take HR9.out 0; rwa [List.take_zero] at this)
      have HX := Lib.hid hx
      have HCS := Lib.hid hcs
      by_cases hne : 0 < cs.length
      · have hne1 : (cs.length : Int) > 0 := by omega
        have hne2 : (cs.length : Int) ≠ 0 := by omega
        obtain ⟨t, ht, ht1⟩ : ∃ t : Nat, (x1.length : Int).tmod (cs.length : Int) = (t : Int) ∧ t < cs.length := ⟨x1.length % cs.length, (Int.ofNat_tmod x1.length cs.length).symm, Nat.mod_lt _ hne⟩
        have e1 : IntKind.i64.wrap (t : Int) = (t : Int) := IntWalk.i64_in _ (by omega)
        have HSP := Lib.hid (slice_hL B cs d t (by omega) hcd)
        have HTP := Lib.hid (proof_take HR9.out t)
        obtain ⟨pre, hpre⟩ : ∃ pre, pre = cs.take t := ⟨_, rfl⟩
        have hprl : pre.length ≤ cs.length := by rw [hpre, List.length_take]; omega
        have HPRE := Lib.hid hpre
        rw [← hpre] at HSP HTP
        have hsp := HSP.out
        clear hpre hx hcs
        go_wp2
        refine wp_region_rel [[], [], [], [(1, 67), (2, 68)], [(0, 66), (3, 69)], [(4, 70)], [(5, 71)], [(5, 71), (6, 72)], [(5, 71), (7, 73)], [(8, 74)]]
          (fun y y' => Below y.heap.size y y')
          (fun _ yy => Below wr.heap.size wr yy)
          [fun vs9 _ => vs9 0 = (.agg #[.int .i64 x.many, .slice A x.list.length a]),
    fun vs9 _ => vs9 1 = (.slice B cs.length d),
    fun vs9 _ => vs9 2 = (.int .i64 (t : Int)),
    fun vs9 _ => vs9 3 = (.slice B pre.length d),
    fun vs9 _ => vs9 4 = (.bool true),
    fun vs9 _ => vs9 5 = (.bool true),
    fun vs9 _ => vs9 6 = (.agg #[.int .i64 x.many, .slice A x.list.length a]),
    fun vs9 _ => vs9 7 = (.bool true),
    fun vs9 _ => vs9 8 = (.bool true),
    fun vs9 _ => vs9 9 = (.bool true)]
          [(0, 66), (1, 67), (2, 68), (3, 69), (4, 70), (5, 71), (6, 72), (7, 73), (8, 74), (9, 4)] (by kernel_rfl) (by kernel_rfl) (by kernel_rfl) (by kernel_rfl)
          (fun _ => Below.refl _ _)
          ⟨.inr (fun _ _ _ h _ => h),
    .inr (fun _ _ _ h _ => h),
    .inr (fun _ _ _ h _ => h),
    .inr (fun _ _ _ h _ => h),
    .inr (fun _ _ _ h _ => h),
    .inr (fun _ _ _ h _ => h),
    .inr (fun _ _ _ h _ => h),
    .inr (fun _ _ _ h _ => h),
    .inr (fun _ _ _ h _ => h),
    .inr (fun _ _ _ h _ => h), trivial⟩ ⟨fun vs vs' x h _ hv => (by dsimp only at hv ⊢; first | (rw [← h]; exact hv) | exact hv),
    fun vs vs' x h _ hv => (by dsimp only at hv ⊢; first | (rw [← h]; exact hv) | exact hv),
    fun vs vs' x h _ hv => (by dsimp only at hv ⊢; first | (rw [← h]; exact hv) | exact hv),
    fun vs vs' x h _ hv => (by dsimp only at hv ⊢; first | (rw [← h]; exact hv) | exact hv),
    fun vs vs' x h _ hv => (by dsimp only at hv ⊢; first | (rw [← h]; exact hv) | exact hv),
    fun vs vs' x h _ hv => (by dsimp only at hv ⊢; first | (rw [← h]; exact hv) | exact hv),
    fun vs vs' x h _ hv => (by dsimp only at hv ⊢; first | (rw [← h]; exact hv) | exact hv),
    fun vs vs' x h _ hv => (by dsimp only at hv ⊢; first | (rw [← h]; exact hv) | exact hv),
    fun vs vs' x h _ hv => (by dsimp only at hv ⊢; first | (rw [← h]; exact hv) | exact hv),
    fun vs vs' x h _ hv => (by dsimp only at hv ⊢; first | (rw [← h]; exact hv) | exact hv), trivial⟩ (below_drewN (Below.refl _ _) 1) ⟨?_, ?_, ?_, ?_, ?_, ?_, ?_, ?_, ?_, ?_, trivial⟩ ?_
        · intro vals xw n hn hI hF
          dsimp only [owes, bare]
          simp only [putsD, Act.put, List.setIfInBounds_toArray, List.set_cons_zero, List.set_cons_succ]
          have c90 : xw.cell? _ = _ := kk0 ⟨xw, hI⟩
          have c91 : xw.cell? _ = _ := kk1 ⟨xw, hI⟩
          go_wp2
          exact ⟨rfl, rfl, Below.refl _ _, hI⟩
        · intro vals xw n hn hI hF
          dsimp only [owes, bare]
          simp only [putsD, Act.put, List.setIfInBounds_toArray, List.set_cons_zero, List.set_cons_succ]
          go_wp2
          exact ⟨rfl, rfl, Below.refl _ _, hI⟩
        · intro vals xw n hn hI hF
          dsimp only [owes, bare]
          simp only [putsD, Act.put, List.setIfInBounds_toArray, List.set_cons_zero, List.set_cons_succ]
          go_wp2
          exact ⟨rfl, rfl, Below.refl _ _, hI⟩
        · intro vals xw n hn hI hF
          simp only [saysD, List.getD_cons_zero, List.getD_cons_succ, and_true] at hF
          obtain ⟨e67, e68⟩ := hF
          dsimp only [owes, bare]
          simp only [putsD, Act.put, List.setIfInBounds_toArray, List.set_cons_zero, List.set_cons_succ]
          simp only [e67, e68]
          go_wp2
          exact ⟨rfl, rfl, Below.refl _ _, hI⟩
        · intro vals xw n hn hI hF
          simp only [saysD, List.getD_cons_zero, List.getD_cons_succ, and_true] at hF
          obtain ⟨e66, e69⟩ := hF
          dsimp only [owes, bare]
          simp only [putsD, Act.put, List.setIfInBounds_toArray, List.set_cons_zero, List.set_cons_succ]
          simp only [e66, e69]
          have HCA := Lib.hid (implProofOk_any x pre A B a d xw (HX.out.up hI) hxa (by rw [HPRE.out]; exact (HCS.out.up hI).take t) (by omega) SX.out (by omega) (fun cl hcl => HOK.out cl (by rw [HPRE.out] at hcl; exact List.mem_of_mem_take hcl)))
          rw [HTP.out] at HCA
          go_wp2_with fail
          refine HCA.out.mono ?_
          rintro e wx ⟨rfl, hb9⟩
          go_wp2
          exact ⟨rfl, rfl, hb9, bthen hI hb9⟩
        · intro vals xw n hn hI hF
          simp only [saysD, List.getD_cons_zero, List.getD_cons_succ, and_true] at hF
          have e70 := hF
          dsimp only [owes, bare]
          simp only [putsD, Act.put, List.setIfInBounds_toArray, List.set_cons_zero, List.set_cons_succ]
          simp only [e70]
          go_wp2
          exact ⟨rfl, rfl, Below.refl _ _, hI⟩
        · intro vals xw n hn hI hF
          simp only [saysD, List.getD_cons_zero, List.getD_cons_succ, and_true] at hF
          have e71 := hF
          dsimp only [owes, bare]
          refine ⟨fun _ => ?_, fun h => absurd e71 h⟩
          simp only [putsD, Act.put, List.setIfInBounds_toArray, List.set_cons_zero, List.set_cons_succ]
          simp only [e71]
          have c90 : xw.cell? _ = _ := kk0 ⟨xw, hI⟩
          have c91 : xw.cell? _ = _ := kk1 ⟨xw, hI⟩
          go_wp2
          exact ⟨rfl, rfl, Below.refl _ _, hI⟩
        · intro vals xw n hn hI hF
          simp only [saysD, List.getD_cons_zero, List.getD_cons_succ, and_true] at hF
          obtain ⟨e71, e72⟩ := hF
          dsimp only [owes, bare]
          refine ⟨fun _ => ?_, fun h => absurd e71 h⟩
          simp only [putsD, Act.put, List.setIfInBounds_toArray, List.set_cons_zero, List.set_cons_succ]
          simp only [e71, e72]
          have HCA := Lib.hid (implProofOk_any x [] A none a 0 xw (HX.out.up hI) hxa (Lay.Sl.nil _ _ _ _) (by simp) SX.out (by simp) (by simp))
          rw [HNI.out] at HCA
          go_wp2_with fail
          refine HCA.out.mono ?_
          rintro e wx ⟨rfl, hb9⟩
          go_wp2
          exact ⟨rfl, rfl, hb9, bthen hI hb9⟩
        · intro vals xw n hn hI hF
          simp only [saysD, List.getD_cons_zero, List.getD_cons_succ, and_true] at hF
          obtain ⟨e71, e73⟩ := hF
          dsimp only [owes, bare]
          simp only [putsD, Act.put, List.setIfInBounds_toArray, List.set_cons_zero, List.set_cons_succ]
          simp only [e71, e73]
          go_wp2
          exact ⟨rfl, rfl, Below.refl _ _, hI⟩
        · intro vals xw n hn hI hF
          simp only [saysD, List.getD_cons_zero, List.getD_cons_succ, and_true] at hF
          have e74 := hF
          dsimp only [owes, bare]
          simp only [putsD, Act.put, List.setIfInBounds_toArray, List.set_cons_zero, List.set_cons_succ]
          simp only [e74]
          go_wp2
          exact ⟨rfl, rfl, Below.refl _ _, hI⟩
        · intro vals xw n hn hI hF
          rw [show List.range _ = [0, 1, 2, 3, 4, 5, 6, 7, 8, 9] from rfl] at hF
          simp only [says, List.getD_cons_zero, List.getD_cons_succ, and_true] at hF
          have e74 := hF.2.2.2.2.2.2.2.2.2
          simp only [putsD, Act.put, List.setIfInBounds_toArray, List.set_cons_zero, List.set_cons_succ]
          simp only [e74]
          clear hF e74 kk0 kk1 hsp
          have hb9 := bthen hb hI
          go_wp2
          go_ret
          exact ⟨rfl, hb9⟩
      · have hne1 : ¬ (cs.length : Int) > 0 := by omega
        have hne2 : decide ((cs.length : Int) > 0) = false := decide_eq_false hne1
        obtain ⟨t, ht⟩ : ∃ t : Nat, t = 0 := ⟨0, rfl⟩
        have HSP := Lib.hid (slice_hL B cs d 0 (by omega) hcd)
        have HTP := Lib.hid (proof_take HR9.out 0)
        obtain ⟨pre, hpre⟩ : ∃ pre, pre = cs.take 0 := ⟨_, rfl⟩
        have hprl : pre.length ≤ cs.length := by rw [hpre, List.length_take]; omega
        have HPRE : Hid (pre = cs.take t) := Lib.hid (by rw [hpre, ht])
        rw [← hpre] at HSP HTP
        have hsp : ∀ W : World, (Instr.slice 23 (.slice B cs.length d) none (some (.int .i64 0)) none).run Try.prog W = .ok (.slice B pre.length d) W := HSP.out
        clear hpre hx hcs ht
        go_wp2
        refine wp_region_rel [[], [], [], [(1, 67), (2, 68)], [(0, 66), (3, 69)], [(4, 70)], [(5, 71)], [(5, 71), (6, 72)], [(5, 71), (7, 73)], [(8, 74)]]
          (fun y y' => Below y.heap.size y y')
          (fun _ yy => Below wr.heap.size wr yy)
          [fun vs9 _ => vs9 0 = (.agg #[.int .i64 x.many, .slice A x.list.length a]),
    fun vs9 _ => vs9 1 = (.slice B cs.length d),
    fun vs9 _ => vs9 2 = (.int .i64 0),
    fun vs9 _ => vs9 3 = (.slice B pre.length d),
    fun vs9 _ => vs9 4 = (.bool true),
    fun vs9 _ => vs9 5 = (.bool true),
    fun vs9 _ => vs9 6 = (.agg #[.int .i64 x.many, .slice A x.list.length a]),
    fun vs9 _ => vs9 7 = (.bool true),
    fun vs9 _ => vs9 8 = (.bool true),
    fun vs9 _ => vs9 9 = (.bool true)]
          [(0, 66), (1, 67), (2, 68), (3, 69), (4, 70), (5, 71), (6, 72), (7, 73), (8, 74), (9, 4)] (by kernel_rfl) (by kernel_rfl) (by kernel_rfl) (by kernel_rfl)
          (fun _ => Below.refl _ _)
          ⟨.inr (fun _ _ _ h _ => h),
    .inr (fun _ _ _ h _ => h),
    .inr (fun _ _ _ h _ => h),
    .inr (fun _ _ _ h _ => h),
    .inr (fun _ _ _ h _ => h),
    .inr (fun _ _ _ h _ => h),
    .inr (fun _ _ _ h _ => h),
    .inr (fun _ _ _ h _ => h),
    .inr (fun _ _ _ h _ => h),
    .inr (fun _ _ _ h _ => h), trivial⟩ ⟨fun vs vs' x h _ hv => (by dsimp only at hv ⊢; first | (rw [← h]; exact hv) | exact hv),
    fun vs vs' x h _ hv => (by dsimp only at hv ⊢; first | (rw [← h]; exact hv) | exact hv),
    fun vs vs' x h _ hv => (by dsimp only at hv ⊢; first | (rw [← h]; exact hv) | exact hv),
    fun vs vs' x h _ hv => (by dsimp only at hv ⊢; first | (rw [← h]; exact hv) | exact hv),
    fun vs vs' x h _ hv => (by dsimp only at hv ⊢; first | (rw [← h]; exact hv) | exact hv),
    fun vs vs' x h _ hv => (by dsimp only at hv ⊢; first | (rw [← h]; exact hv) | exact hv),
    fun vs vs' x h _ hv => (by dsimp only at hv ⊢; first | (rw [← h]; exact hv) | exact hv),
    fun vs vs' x h _ hv => (by dsimp only at hv ⊢; first | (rw [← h]; exact hv) | exact hv),
    fun vs vs' x h _ hv => (by dsimp only at hv ⊢; first | (rw [← h]; exact hv) | exact hv),
    fun vs vs' x h _ hv => (by dsimp only at hv ⊢; first | (rw [← h]; exact hv) | exact hv), trivial⟩ (below_drewN (Below.refl _ _) 1) ⟨?_, ?_, ?_, ?_, ?_, ?_, ?_, ?_, ?_, ?_, trivial⟩ ?_
        · intro vals xw n hn hI hF
          dsimp only [owes, bare]
          simp only [putsD, Act.put, List.setIfInBounds_toArray, List.set_cons_zero, List.set_cons_succ]
          have c90 : xw.cell? _ = _ := kk0 ⟨xw, hI⟩
          have c91 : xw.cell? _ = _ := kk1 ⟨xw, hI⟩
          go_wp2
          exact ⟨rfl, rfl, Below.refl _ _, hI⟩
        · intro vals xw n hn hI hF
          dsimp only [owes, bare]
          simp only [putsD, Act.put, List.setIfInBounds_toArray, List.set_cons_zero, List.set_cons_succ]
          go_wp2
          exact ⟨rfl, rfl, Below.refl _ _, hI⟩
        · intro vals xw n hn hI hF
          dsimp only [owes, bare]
          simp only [putsD, Act.put, List.setIfInBounds_toArray, List.set_cons_zero, List.set_cons_succ]
          go_wp2
          exact ⟨rfl, rfl, Below.refl _ _, hI⟩
        · intro vals xw n hn hI hF
          simp only [saysD, List.getD_cons_zero, List.getD_cons_succ, and_true] at hF
          obtain ⟨e67, e68⟩ := hF
          dsimp only [owes, bare]
          simp only [putsD, Act.put, List.setIfInBounds_toArray, List.set_cons_zero, List.set_cons_succ]
          simp only [e67, e68]
          go_wp2
          exact ⟨rfl, rfl, Below.refl _ _, hI⟩
        · intro vals xw n hn hI hF
          simp only [saysD, List.getD_cons_zero, List.getD_cons_succ, and_true] at hF
          obtain ⟨e66, e69⟩ := hF
          dsimp only [owes, bare]
          simp only [putsD, Act.put, List.setIfInBounds_toArray, List.set_cons_zero, List.set_cons_succ]
          simp only [e66, e69]
          have HCA := Lib.hid (implProofOk_any x pre A B a d xw (HX.out.up hI) hxa (by rw [HPRE.out]; exact (HCS.out.up hI).take t) (by omega) SX.out (by omega) (fun cl hcl => HOK.out cl (by rw [HPRE.out] at hcl; exact List.mem_of_mem_take hcl)))
          rw [HTP.out] at HCA
          go_wp2_with fail
          refine HCA.out.mono ?_
          rintro e wx ⟨rfl, hb9⟩
          go_wp2
          exact ⟨rfl, rfl, hb9, bthen hI hb9⟩
        · intro vals xw n hn hI hF
          simp only [saysD, List.getD_cons_zero, List.getD_cons_succ, and_true] at hF
          have e70 := hF
          dsimp only [owes, bare]
          simp only [putsD, Act.put, List.setIfInBounds_toArray, List.set_cons_zero, List.set_cons_succ]
          simp only [e70]
          go_wp2
          exact ⟨rfl, rfl, Below.refl _ _, hI⟩
        · intro vals xw n hn hI hF
          simp only [saysD, List.getD_cons_zero, List.getD_cons_succ, and_true] at hF
          have e71 := hF
          dsimp only [owes, bare]
          refine ⟨fun _ => ?_, fun h => absurd e71 h⟩
          simp only [putsD, Act.put, List.setIfInBounds_toArray, List.set_cons_zero, List.set_cons_succ]
          simp only [e71]
          have c90 : xw.cell? _ = _ := kk0 ⟨xw, hI⟩
          have c91 : xw.cell? _ = _ := kk1 ⟨xw, hI⟩
          go_wp2
          exact ⟨rfl, rfl, Below.refl _ _, hI⟩
        · intro vals xw n hn hI hF
          simp only [saysD, List.getD_cons_zero, List.getD_cons_succ, and_true] at hF
          obtain ⟨e71, e72⟩ := hF
          dsimp only [owes, bare]
          refine ⟨fun _ => ?_, fun h => absurd e71 h⟩
          simp only [putsD, Act.put, List.setIfInBounds_toArray, List.set_cons_zero, List.set_cons_succ]
          simp only [e71, e72]
          have HCA := Lib.hid (implProofOk_any x [] A none a 0 xw (HX.out.up hI) hxa (Lay.Sl.nil _ _ _ _) (by simp) SX.out (by simp) (by simp))
          rw [HNI.out] at HCA
          go_wp2_with fail
          refine HCA.out.mono ?_
          rintro e wx ⟨rfl, hb9⟩
          go_wp2
          exact ⟨rfl, rfl, hb9, bthen hI hb9⟩
        · intro vals xw n hn hI hF
          simp only [saysD, List.getD_cons_zero, List.getD_cons_succ, and_true] at hF
          obtain ⟨e71, e73⟩ := hF
          dsimp only [owes, bare]
          simp only [putsD, Act.put, List.setIfInBounds_toArray, List.set_cons_zero, List.set_cons_succ]
          simp only [e71, e73]
          go_wp2
          exact ⟨rfl, rfl, Below.refl _ _, hI⟩
        · intro vals xw n hn hI hF
          simp only [saysD, List.getD_cons_zero, List.getD_cons_succ, and_true] at hF
          have e74 := hF
          dsimp only [owes, bare]
          simp only [putsD, Act.put, List.setIfInBounds_toArray, List.set_cons_zero, List.set_cons_succ]
          simp only [e74]
          go_wp2
          exact ⟨rfl, rfl, Below.refl _ _, hI⟩
        · intro vals xw n hn hI hF
          rw [show List.range _ = [0, 1, 2, 3, 4, 5, 6, 7, 8, 9] from rfl] at hF
          simp only [says, List.getD_cons_zero, List.getD_cons_succ, and_true] at hF
          have e74 := hF.2.2.2.2.2.2.2.2.2
          simp only [putsD, Act.put, List.setIfInBounds_toArray, List.set_cons_zero, List.set_cons_succ]
          simp only [e74]
          clear hF e74 kk0 kk1 hsp
          have hb9 := bthen hb hI
          go_wp2
          go_ret
          exact ⟨rfl, hb9⟩

set_option maxRecDepth 100000 in
theorem fnProof_lifted (os : Os) (started : os.Started) (H : Type) (enc : TypeId × Value → H) :
    ReturnsInHanded {} Try.checked os 4 .any (Rows.fnProofSpec.pre6 enc Try.prog Try.f4 Rows.fnProofRow.domain false) (Rows.fnProofSpec.post enc Try.prog Try.f4 false true false false) := by
  refine returnsInHanded_of_change (C := Try.checked) (by kernel_rfl) started (by kernel_rfl) Try.func4
    (ChangeSpec.witness6 (enc := enc) (C := Try.checked) false ⟨#[], #[.slice none 0 0, .slice none 0 0], []⟩ 16 (by kernel_rfl) (by kernel_rfl) (by kernel_rfl) (by kernel_rfl)) ?_
  intro W base args ds gs before hval0 hW hcnd _
  have hval : ∀ (j : Nat) t v, Try.f4.params[j]? = some t → args[j]? = some v → Value.okWide Try.prog W .any base t v := hval0
  have hW' := hW
  obtain ⟨p, q, hA0, hV, rfl, hfz, hnd⟩ := hW
  have hA : DataW.TrodAll enc Try.prog W 0 (fun _ => true) true Try.f4.params.toList args.toList ds p := hA0
  rw [Try.params4] at hA hval
  obtain ⟨v0, vs0, d0, ds0, p0, q0, hargs, rfl, rfl, h0, r0⟩ := trodAll_cons hA
  obtain ⟨v1, vs1, d1, ds1, p1, q1, rfl, rfl, rfl, h1, r1⟩ := trodAll_cons r0
  obtain ⟨rfl, rfl, rfl⟩ := trodAll_nil r1
  obtain rfl : args = #[v0, v1] := by cases args; simp_all
  obtain ⟨rfl, rfl⟩ := trodVars_none hV
  have k0 := h0
  have lt0 : ∀ x ∈ p0, x.block < W.heap.size := by obtain ⟨m, hm⟩ := k0; exact DataW.trod_lt m _ _ _ hm
  have k1 := h1
  have lt1 : ∀ x ∈ p1, x.block < W.heap.size := by obtain ⟨m, hm⟩ := k1; exact DataW.trod_lt m _ _ _ hm
  obtain ⟨A0, c0, x0, rfl, hc0, ok0, rd0⟩ := open_arg Try.underlying22 opens_bytes (hval 0 22 v0 rfl rfl) h0
  obtain ⟨A1, c1, x1, rfl, hc1, ok1, rd1⟩ := open_arg Try.underlying22 opens_bytes (hval 1 22 v1 rfl rfl) h1
  clear hA0 hval0
  refine (fnProof_walk W hc0 ok0 rd0 hc1 ok1 rd1).mono fun e W' ⟨he, bel⟩ => ?_
  subst he
  exact ⟨_, rfl, _, _, _, [], _, [], hW', trodAll_mk1 (shut_bool Try.underlying4 _), (trodAll_cons_mk (Below.trod (by kernel_rfl) (by kernel_rfl) (of_decide_eq_true (by kernel_rfl)) k0 bel lt0) (trodAll_cons_mk (Below.trod (by kernel_rfl) (by kernel_rfl) (of_decide_eq_true (by kernel_rfl)) k1 bel lt1) trodAll_mk0)), rfl, bel.frame _, fun h => by cases h⟩

/-- The given statement. -/
theorem fnProof_holds : Rows.FnProofSaid :=
  OpenClaim.holds_of_wide 4 Try.f4 rfl rfl rfl rfl rfl rfl rfl ⟨rfl, rfl, rfl, rfl, rfl⟩ rfl rfl rfl rfl rfl (by kernel_rfl) Try.func4 (by kernel_rfl)
    (of_decide_eq_true (by kernel_rfl)) (by unfold Func.isWrapper; first | (rw [if_pos (by decide +kernel)]; kernel_rfl) | (rw [if_neg (by decide +kernel)]; exact ⟨rfl, rfl⟩))
    (fun os started H enc _ => fnProof_lifted os started H enc)
#print axioms fnProof_holds
end Go.Proofs.Ytbljfhmcebgdaaa
