/- The reference's draws of searches: l5State. -/
import Derived.Test.YtbljfhmcebgdaaaJFnSatBent17
/-! The reference's draws of searches: l5State. -/
namespace Go.Proofs.Ytbljfhmcebgdaaa
open Go Go.RowKit

set_option maxRecDepth 100000 in
set_option maxHeartbeats 32000000 in
theorem l5State_any (S0 : Nat → Prop) (r : Nat) (p : Int) (x : C) (A : Option Addr) (a : Nat) (w : World) (h : Rdr w r p) (hx : Lay.int.slice.Sl w (Ab S0 w) A x.list) (hSr : S0 r) (hsh : shortC x) (p0 : 0 ≤ p) (p1 : p ≤ 900000000) :
    Calls Try.prog 39 #[.pointer (some ⟨r, 0, none⟩), .agg #[.int .i64 x.many, .slice A x.list.length a]] w (RetDS r p 10 w) := by
  have hrl := h.lt
  obtain ⟨hw, hB0, hB1, hWS⟩ := two_boxes w (.cells #[.int .i64 x.many, .slice A x.list.length a] 25) (.cells #[.slice none 0 0, .slice none 0 0, .slice none 0 0, .int .i64 0] 35)
  have c0 := (cell_of_block hB0 0).1
  have c1 := (cell_of_block hB0 1).1
  simp at c0 c1
  obtain ⟨W, hW⟩ : ∃ W, W = (w.alloc (.cells #[.int .i64 x.many, .slice A x.list.length a] 25)).alloc (.cells #[.slice none 0 0, .slice none 0 0, .slice none 0 0, .int .i64 0] 35) := ⟨_, rfl⟩
  rw [← hW] at hw hB0 hB1 hWS
  obtain ⟨F, hF⟩ : ∃ F : Nat → Prop, ∀ k, F k ↔ k < w.heap.size ∧ ¬ S0 k := ⟨fun k => k < w.heap.size ∧ ¬ S0 k, fun _ => Iff.rfl⟩
  have HFS := Lib.hid hF
  have HX : Hid (Lay.int.slice.Sl W F A x.list) := Lib.hid ((hx.keep fun k hk => hw.block k hk.1).mono fun k hk => (hF k).2 hk)
  have HR := Lib.hid (h.up hw)
  have HFr : Hid (∀ k, F k → k < w.heap.size ∧ k ≠ r) := Lib.hid fun k hk => ⟨((hF k).1 hk).1, fun e => ((hF k).1 hk).2 (by rw [e]; exact hSr)⟩
  have HB0 := Lib.hid hB0
  have HB1 := Lib.hid hB1
  have HBW := Lib.hid hw
  have HW := Lib.hid hW
  clear h hx hw hB0 hB1 hW hF
  go_enter Try.func39, Try.ntmps39
  go_wp2_with fail
  clear c0 c1
  rw [← HW.out]
  obtain ⟨b, hbe⟩ : ∃ b, b = w.heap.size := ⟨_, rfl⟩
  rw [← hbe] at HB0 HB1 hrl hWS ⊢
  have HBE := Lib.hid hbe
  clear hbe HW
  refine (specCnfOk_any A a x F W HX.out (fun k hk => by have := (HFr.out k hk).1; have := HBE.out; omega) hsh).mono ?_
  rintro e w3 ⟨rfl, hb3⟩
  have HB0 := Lib.hid ((hb3.block _ (lt_of_block HB0.out)).trans HB0.out)
  have HB1 := Lib.hid ((hb3.block _ (lt_of_block HB1.out)).trans HB1.out)
  have HX := Lib.hid (HX.out.keep fun k hk => hb3.block k (by have := (HFr.out k hk).1; have := HBE.out; omega))
  have HR := Lib.hid (HR.out.up hb3)
  have HBW := Lib.hid (bthen HBW.out hb3)
  have hW3 : b + 1 < w3.heap.size := lt_of_block HB1.out
  clear hb3 hWS
  cases hok : cnfOk x
  · clear hok
    obtain ⟨o0, o0'⟩ := cell_of_block HB1.out 0
    obtain ⟨o1, o1'⟩ := cell_of_block HB1.out 1
    obtain ⟨o2, o2'⟩ := cell_of_block HB1.out 2
    obtain ⟨o3, o3'⟩ := cell_of_block HB1.out 3
    have hst := cp_store (u0 := .slice none 0 0) (u1 := .slice none 0 0) (u2 := .slice none 0 0) (u3 := .int .i64 0) HB1.out
    have HST := Lib.hid hst
    clear hst
    go_wp2
    have hst := HST.out
    generalize ((((w3.setCell ⟨b + 1, 0, none⟩ (.slice none 0 0)).setCell ⟨b + 1, 1, none⟩ (.slice none 0 0)).setCell ⟨b + 1, 2, none⟩ (.slice none 0 0)).setCell ⟨b + 1, 3, none⟩ (.int .i64 0)) = w9 at *
    obtain ⟨hbx, hgr⟩ := hst
    have HGR := Lib.hid hgr
    clear HST hgr
    have e0 := (cell_of_block hbx 0).1
    have e1 := (cell_of_block hbx 1).1
    have e2 := (cell_of_block hbx 2).1
    have e3 := (cell_of_block hbx 3).1
    simp at e0 e1 e2 e3
    refine bodyPost_ret (v := .agg #[.slice none 0 0, .slice none 0 0, .slice none 0 0, .int .i64 0]) (by simp [results, Try.results39, go_sem, e0, e1, e2, e3]) rfl ?_
    refine ⟨⟨[], [], [], 0⟩, none, none, none, 0, 0, 0, b, fun _ => False, rfl, okS.new 3, ⟨own_none _ _, own_none _ _, OwnL.nil _ _ _ _ _, fun k e => by simp [Value.ownBlock] at e, fun k (hk : False) => hk.elim, ?_, Nat.lt_trans (Nat.lt_succ_self b) (lt_of_block hbx)⟩, p, by omega, by omega, HR.out.gr HGR.out (fun k hk => by have hk : k = b + 1 := hk; omega), (Gr.below HBW.out).then HGR.out (fun k hk => .inr (by have hk : k = b + 1 := hk; have := HBE.out; omega))⟩
    rw [← HBE.out]; exact Nat.le_refl _
  have HOK := Lib.hid hok
  obtain ⟨M, hM⟩ := Int.eq_ofNat_of_zero_le ((cnfOk_iff x).1 hok).1
  have HMM := Lib.hid hM
  clear hok hM
  have hrw3 : r < w3.heap.size := by omega
  go_wp2
  refine wp_region_rel6 [[], [], [], [(1, 12), (2, 13)], [(0, 11), (3, 14)], [(4, 15)], [], [(6, 5), (5, 16)]]
    (fun _ _ => True)
    []
    (fun v9 f9 x9 => RuI b w3 r p (b + 1) x [2, 5, 9, 14, 20, 30, 50, 1, 0] (v9 2) (v9 3) (v9 4) (v9 5) (v9 6) (f9 2) (f9 3) (f9 4) (f9 5) (f9 6) (f9 7) x9)
    [fun vs9 _ => vs9 0 = (.agg #[.int .i64 x.many, .slice A x.list.length a]),
    fun vs9 _ => vs9 1 = (.pointer (some ⟨r, 0, none⟩)),
    fun _ _ => True,
    fun _ _ => True,
    fun _ _ => True,
    fun _ _ => True,
    fun _ _ => True,
    fun _ _ => True]
    [(0, 11), (1, 12), (2, 13), (3, 14), (4, 15), (5, 16), (6, 5)] (by kernel_rfl) (by kernel_rfl) (by kernel_rfl) (by kernel_rfl)
    (fun _ => trivial) trivial
    ⟨⟨.inr (fun _ _ _ h _ => h), trivial⟩,
    ⟨.inr (fun _ _ _ h _ => h), trivial⟩,
    ⟨.inr (fun _ _ _ h _ => h), trivial⟩,
    ⟨.inr (fun _ _ _ h _ => h), trivial⟩,
    ⟨.inr (fun _ _ _ h _ => h), trivial⟩,
    ⟨.inr (fun _ _ _ h _ => h), trivial⟩,
    ⟨.inr (fun _ _ _ h _ => h), trivial⟩,
    ⟨.inr (fun _ _ _ h _ => h), trivial⟩, trivial⟩ ⟨fun vs vs' x h _ hv => (by dsimp only at hv ⊢; first | (rw [← h]; exact hv) | exact hv),
    fun vs vs' x h _ hv => (by dsimp only at hv ⊢; first | (rw [← h]; exact hv) | exact hv),
    fun _ _ _ _ _ _ => trivial,
    fun _ _ _ _ _ _ => trivial,
    fun _ _ _ _ _ _ => trivial,
    fun _ _ _ _ _ _ => trivial,
    fun _ _ _ _ _ _ => trivial,
    fun _ _ _ _ _ _ => trivial, trivial⟩ (RuI.start (Gr.refl _ _) HR.out) ⟨?_, ?_, ?_, ?_, ?_, ?_, ?_, ?_, trivial⟩ ?_
  · intro vals xw f hf1 hf2 hf3 hI hF
    clear hf2 hf3
    dsimp only [owes6, bare]
    simp only [putsD, Act.put, List.setIfInBounds_toArray, List.set_cons_zero, List.set_cons_succ]
    have bx9 := hI.1.heap (by show ¬ _ = r; omega) HB0.out
    obtain ⟨c0, _⟩ := cell_of_block bx9 0
    obtain ⟨c1, _⟩ := cell_of_block bx9 1
    clear bx9
    go_wp2
    exact ⟨rfl, rfl, trivial, hI⟩
  · intro vals xw f hf1 hf2 hf3 hI hF
    clear hf2 hf3
    dsimp only [owes6, bare]
    simp only [putsD, Act.put, List.setIfInBounds_toArray, List.set_cons_zero, List.set_cons_succ]
    go_wp2
    exact ⟨rfl, rfl, trivial, hI⟩
  · intro vals xw f hf1 hf2 hf3 hI hF
    have k3 : f 3 = false := hf3 3 (by kernel_rfl)
    clear hf2 hf3
    dsimp only [owes6, bare]
    simp only [putsD, Act.put, List.setIfInBounds_toArray, List.set_cons_zero, List.set_cons_succ]
    have hrx := Nat.lt_of_lt_of_le hrw3 hI.1.size
    have HI9 := Lib.hid hI
    clear hI
    go_wp2
    exact ⟨rfl, trivial, trivial, HI9.out.made rfl hrx⟩
  · intro vals xw f hf1 hf2 hf3 hI hF
    have k2 : f 2 = true := hf2 2 (by kernel_rfl)
    have k4 : f 4 = false := hf3 4 (by kernel_rfl)
    have k5 : f 5 = false := hf3 5 (by kernel_rfl)
    have k7 : f 7 = false := hf3 7 (by kernel_rfl)
    clear hf2 hf3
    simp only [saysD, List.getD_cons_zero, List.getD_cons_succ, and_true] at hF
    have e12 := hF
    obtain ⟨b2, e13, hs13⟩ := hI.2.2.2.1 k2 hf1
    dsimp only [owes6, bare]
    simp only [putsD, Act.put, List.setIfInBounds_toArray, List.set_cons_zero, List.set_cons_succ]
    simp only [e12, e13]
    have HS9 := Lib.hid hs13
    have HI9 := Lib.hid hI
    clear hI
    clear hs13
    go_wp2_with fail
    refine (num_any r p (some ⟨b2, 0, none⟩) 9 [2, 5, 9, 14, 20, 30, 50, 1, 0] xw (HI9.out.2.1 hf1) HS9.out (by simp) (by simp) (by omega) (by omega)).mono ?_
    rintro e wx ⟨y, hy, rfl, hR9, hg9⟩
    have hy2 : 0 ≤ y ∧ y ≤ 50 := by simp at hy; omega
    obtain ⟨n, rfl⟩ := Int.eq_ofNat_of_zero_le hy2.1
    have HN9 := Lib.hid (HI9.out.num (n := n) hf1 k4 k5 k7 hrw3 (by omega) hR9 hg9)
    clear hy hy2 hR9 hg9
    go_wp2
    exact ⟨rfl, trivial, trivial, HN9.out⟩
  · intro vals xw f hf1 hf2 hf3 hI hF
    have k3 : f 3 = true := hf2 3 (by kernel_rfl)
    clear hf2 hf3
    simp only [saysD, List.getD_cons_zero, List.getD_cons_succ, and_true] at hF
    have e11 := hF
    obtain ⟨n, e14, hn⟩ := (hI.2.2.1 k3).2
    dsimp only [owes6, bare]
    simp only [putsD, Act.put, List.setIfInBounds_toArray, List.set_cons_zero, List.set_cons_succ]
    simp only [e11, e14]
    have HRX := Lib.hid (l5Run_any x A a M n F xw HMM.out (HX.out.keep fun k hk => hI.1.block k (by have := (HFr.out k hk).1; have := HBE.out; omega) (fun e => (HFr.out k hk).2 e)) (fun k hk => by have := (HFr.out k hk).1; have := HBE.out; have := hI.1.size; omega) HOK.out (by omega))
    have HI9 := Lib.hid hI
    clear hI
    go_wp2_with fail
    refine HRX.out.mono ?_
    clear HRX
    rintro e wx ⟨P1, Q1, D1, p1', q1', d1', lo1, FL1, rfl, hlo1, hso, hbl⟩
    have hs9 := run_ok HMM.out n _ (sat_new HOK.out)
    obtain ⟨s1, hs1⟩ : ∃ s1, s1 = runP M x n ⟨[], [], [], 0⟩ := ⟨_, rfl⟩
    rw [← hs1] at hs9 hso ⊢
    have HN9 := Lib.hid (HI9.out.run (p' := p1') (q' := q1') (d' := d1') hbl hs9 hso.rd.put hso.rd.why hso.rd.lrn)
    clear hs9 hso hbl hs1
    go_wp2
    exact ⟨rfl, trivial, trivial, HN9.out⟩
  · intro vals xw f hf1 hf2 hf3 hI hF
    have k4 : f 4 = true := hf2 4 (by kernel_rfl)
    have k7 : f 7 = false := hf3 7 (by kernel_rfl)
    clear hf2 hf3
    simp only [saysD, List.getD_cons_zero, List.getD_cons_succ, and_true] at hF
    obtain ⟨s1, P1, Q1, D1, p1', q1', d1', e15, hs9, hP9, hQ9, hD9⟩ := hI.2.2.2.2.1 k4 hf1
    dsimp only [owes6, bare]
    simp only [putsD, Act.put, List.setIfInBounds_toArray, List.set_cons_zero, List.set_cons_succ]
    simp only [e15]
    have hos := hs9.okS
    have b1 := hos.put
    have b2 := hos.why
    have b3 := hos.lrn
    have HCP := Lib.hid (l5Copy_any s1 P1 Q1 D1 p1' q1' d1' xw hP9 hQ9 hD9 (by omega) (by omega) (by omega) (fun cl hcl => by have := (hos.cls cl hcl).1; omega))
    have HS9 := Lib.hid hs9
    have HI9 := Lib.hid hI
    clear hI
    clear hs9 hP9 hQ9 hD9 hos b1 b2 b3
    go_wp2_with fail
    refine HCP.out.mono ?_
    clear HCP
    rintro e wx ⟨P2, Q2, D2, p2', q2', d2', lim, rfl, o1, o2, o3, o4, o5, o6, hbl⟩
    have HN9 := Lib.hid (HI9.out.copy k7 ⟨Nat.le_succ b, hW3⟩ HS9.out o1 o2 o3 o4 o5 o6 hbl)
    clear o1 o2 o3 o4 o5 o6 hbl
    go_wp2
    exact ⟨rfl, trivial, trivial, HN9.out⟩
  · intro vals xw f hf1 hf2 hf3 hI hF
    have k7 : f 7 = false := hf3 7 (by kernel_rfl)
    clear hf2 hf3
    dsimp only [owes6, bare]
    simp only [putsD, Act.put, List.setIfInBounds_toArray, List.set_cons_zero, List.set_cons_succ]
    have HI9 := Lib.hid hI
    clear hI
    go_wp2
    exact ⟨rfl, trivial, trivial, HI9.out.box hf1 k7⟩
  · intro vals xw f hf1 hf2 hf3 hI hF
    have k3 : f 3 = true := hf2 3 (by kernel_rfl)
    have k5 : f 5 = true := hf2 5 (by kernel_rfl)
    have k6 : f 6 = true := hf2 6 (by kernel_rfl)
    clear hf2 hf3
    simp only [saysD, List.getD_cons_zero, List.getD_cons_succ, and_true] at hF
    obtain ⟨g, e5, hg1, hg2, hg3, _⟩ := hI.2.2.2.2.2.2 k6
    obtain ⟨s1, P1, Q1, D1, p1', q1', d1', FL1, e16, _⟩ := hI.2.2.2.2.2.1 k5
    have hbx := hg3 hf1
    dsimp only [owes6, bare]
    simp only [putsD, Act.put, List.setIfInBounds_toArray, List.set_cons_zero, List.set_cons_succ]
    simp only [e5, e16]
    obtain ⟨o0, o0'⟩ := cell_of_block hbx 0
    obtain ⟨o1, o1'⟩ := cell_of_block hbx 1
    obtain ⟨o2, o2'⟩ := cell_of_block hbx 2
    obtain ⟨o3, o3'⟩ := cell_of_block hbx 3
    have HE9 := Lib.hid (And.intro e5 e16)
    have HI9 := Lib.hid hI
    clear hI
    clear hbx hg3 hg1 hg2 e5 e16
    go_wp2
    exact ⟨rfl, trivial, trivial, HI9.out.store k3 k5 k6 hf1 hrw3 HE9.out.1 HE9.out.2⟩
  · intro vals xw f hall hI hF
    rw [show List.range _ = [0, 1, 2, 3, 4, 5, 6, 7] from rfl] at hF
    simp only [says, List.getD_cons_zero, List.getD_cons_succ, and_true] at hF
    obtain ⟨g, e5, hgw, s, P, Q, D, p', q', d', FL, hs, hso, hfl, hbx, hrd, hgr⟩ := RuI.fin hI (hall 3 (by decide)) (hall 5 (by decide)) (hall 6 (by decide)) (hall 7 (by decide)) (by omega)
    have bc9 := hgr.heap (by show ¬ _ = r; omega) HB0.out
    have bd9 := hgr.heap (by show ¬ _ = r; omega) HB1.out
    have HA : Hid (StA w b r (p + 1) #[.int .i64 x.many, .slice A x.list.length a] g FL s P Q D p' q' d' xw) := Lib.hid ⟨hso, hbx, bd9, bc9, fun k hk => by have := hfl k hk; omega, hrd, (Gr.below HBW.out).trans hgr, by omega, by omega, HBE.out⟩
    have HS := Lib.hid hs
    have HOS := Lib.hid hs.okS
    simp only [putsD, Act.put, List.setIfInBounds_toArray, List.set_cons_zero, List.set_cons_succ]
    simp only [e5]
    clear e5 hs hso hfl hbx hrd hgr bc9 bd9 hI hall hF HX HB0 HB1 HBW HR HFr HFS HOK
    have hlp := HOS.out.put
    have hlq := HOS.out.why
    have hll := HOS.out.lrn
    have HLN := Lib.hid HS.out.len
    obtain ⟨m0, m0'⟩ := cell_of_block HA.out.bx 0
    go_wp2_with fail
    clear m0 m0'
    refine (pick_any r (p + 1) 64 xw HA.out.rd (by omega) (by omega) (by omega) (by omega)).mono ?_
    rintro e w4 ⟨k, rfl, k0, k1, _, hR4, hg4⟩
    have HA := Lib.hid (HA.out.draw hR4 (Gr.one (S := IsR r) hg4 rfl))
    clear hR4 hg4 k1
    have hrb := HA.out.rb
    have hgb := HA.out.gb
    by_cases hk0 : k = 0
    · subst hk0
      have hal : Below w4.heap.size w4 (w4.alloc (.cells #[.int .i64 (-1), .int .i64 1, .int .i64 3, .int .i64 4, .int .i64 2] 3)) := (Below.refl _ _).alloc (Nat.le_refl _) _
      have hrl4 := HA.out.rd.lt
      have hsl := lit_sl (S := IsR r) w4 [-1, 1, 3, 4, 2] _ 3 rfl (by show ¬ _ = r; omega)
      have HN := Lib.hid (num_any r (p + 1 + 1) _ 5 _ _ (HA.out.rd.up hal) hsl (by simp) (by simp) (by omega) (by omega))
      have HA5 := Lib.hid (HA.out.up hal)
      clear hal hsl
      go_wp2_with fail
      refine HN.out.mono ?_
      clear HN
      rintro e w5 ⟨y, hy, rfl, hR5, hg5⟩
      have HA6 := Lib.hid ((HA5.out.draw hR5 hg5).setCode y)
      have HOK6 : Hid (okS 3 ⟨s.put, s.why, s.learned, y⟩) := Lib.hid ⟨by show s.put.length ≤ 703; omega, by show s.why.length ≤ 703; omega, by show s.learned.length ≤ 303; omega, HOS.out.puts, HOS.out.whys, HOS.out.cls, mem_lit hy (by intro z hz; simp at hz; unfold okInt; omega)⟩
      have HA5 := Lib.hid (HA5.out.draw hR5 hg5)
      clear hy hR5 hg5
      obtain ⟨m0, m0'⟩ := cell_of_block HA5.out.bx 0
      obtain ⟨m1, m1'⟩ := cell_of_block HA5.out.bx 1
      obtain ⟨m2, m2'⟩ := cell_of_block HA5.out.bx 2
      obtain ⟨m3, m3'⟩ := cell_of_block HA5.out.bx 3
      obtain ⟨o0, o0'⟩ := cell_of_block HA5.out.b4 0
      obtain ⟨o1, o1'⟩ := cell_of_block HA5.out.b4 1
      obtain ⟨o2, o2'⟩ := cell_of_block HA5.out.b4 2
      obtain ⟨o3, o3'⟩ := cell_of_block HA5.out.b4 3
      go_wp2
      have hfin := HA6.out.fin (p := p) HOK6.out (by omega) (by omega)
      try dsimp only at hfin
      generalize (((((w5.setCell ⟨g, 3, none⟩ (.int .i64 y)).setCell ⟨b + 1, 0, none⟩ (.slice P s.put.length p')).setCell ⟨b + 1, 1, none⟩ (.slice Q s.why.length q')).setCell ⟨b + 1, 2, none⟩ (.slice D s.learned.length d')).setCell ⟨b + 1, 3, none⟩ (.int .i64 y)) = w9 at *
      obtain ⟨hbx, hres⟩ := hfin
      have HRES := Lib.hid hres
      clear hres
      have e0 := (cell_of_block hbx 0).1
      have e1 := (cell_of_block hbx 1).1
      have e2 := (cell_of_block hbx 2).1
      have e3 := (cell_of_block hbx 3).1
      simp at e0 e1 e2 e3
      refine bodyPost_ret (v := .agg #[.slice P s.put.length p', .slice Q s.why.length q', .slice D s.learned.length d', .int .i64 y]) (by simp [results, Try.results39, go_sem, e0, e1, e2, e3]) rfl ?_
      exact HRES.out
    have hkb0 : (k == 0) = false := by simpa using hk0
    clear hk0
    by_cases hk1 : k = 1
    · subst hk1
      go_wp2
      refine wp_region_rel6 [[], [(0, 30)], [], [], [(2, 32), (3, 33)], [(4, 34)], [(1, 31), (5, 35)], [], [(7, 37), (6, 36)]]
        (fun _ _ => True)
        []
        (fun v9 f9 x9 => ApI w r (p + 1 + 1) g 0 #[.slice P s.put.length p', .slice Q s.why.length q', .slice D s.learned.length d', .int .i64 s.code] (KPut b g #[.int .i64 x.many, .slice A x.list.length a] FL s Q D q' d') P p' s.put [0, 9, 1, -1, -9223372036854775808] (v9 3) (v9 4) (v9 5) (v9 6) (f9 3) (f9 4) (f9 5) (f9 6) (f9 8) x9)
        [fun vs9 _ => vs9 0 = (.pointer (some ⟨g, 0, none⟩)),
      fun vs9 _ => vs9 1 = (.slice P s.put.length p'),
      fun vs9 _ => vs9 2 = (.pointer (some ⟨r, 0, none⟩)),
      fun _ _ => True,
      fun _ _ => True,
      fun _ _ => True,
      fun _ _ => True,
      fun vs9 _ => vs9 7 = (.pointer (some ⟨g, 0, none⟩)),
      fun _ _ => True]
        [(0, 30), (1, 31), (2, 32), (3, 33), (4, 34), (5, 35), (6, 36), (7, 37)] (by kernel_rfl) (by kernel_rfl) (by kernel_rfl) (by kernel_rfl)
        (fun _ => trivial) trivial
        ⟨⟨.inr (fun _ _ _ h _ => h), trivial⟩,
      ⟨.inr (fun _ _ _ h _ => h), trivial⟩,
      ⟨.inr (fun _ _ _ h _ => h), trivial⟩,
      ⟨.inr (fun _ _ _ h _ => h), trivial⟩,
      ⟨.inr (fun _ _ _ h _ => h), trivial⟩,
      ⟨.inr (fun _ _ _ h _ => h), trivial⟩,
      ⟨.inr (fun _ _ _ h _ => h), trivial⟩,
      ⟨.inr (fun _ _ _ h _ => h), trivial⟩,
      ⟨.inr (fun _ _ _ h _ => h), trivial⟩, trivial⟩ ⟨fun vs vs' x h _ hv => (by dsimp only at hv ⊢; first | (rw [← h]; exact hv) | exact hv),
      fun vs vs' x h _ hv => (by dsimp only at hv ⊢; first | (rw [← h]; exact hv) | exact hv),
      fun vs vs' x h _ hv => (by dsimp only at hv ⊢; first | (rw [← h]; exact hv) | exact hv),
      fun _ _ _ _ _ _ => trivial,
      fun _ _ _ _ _ _ => trivial,
      fun _ _ _ _ _ _ => trivial,
      fun _ _ _ _ _ _ => trivial,
      fun vs vs' x h _ hv => (by dsimp only at hv ⊢; first | (rw [← h]; exact hv) | exact hv),
      fun _ _ _ _ _ _ => trivial, trivial⟩ (HA.out.startPut) ⟨?_, ?_, ?_, ?_, ?_, ?_, ?_, ?_, ?_, trivial⟩ ?_
      · intro vals yw f hf1 hf2 hf3 hI hF
        clear hf2 hf3
        dsimp only [owes6, bare]
        simp only [putsD, Act.put, List.setIfInBounds_toArray, List.set_cons_zero, List.set_cons_succ]
        go_wp2
        exact ⟨rfl, rfl, trivial, hI⟩
      · intro vals yw f hf1 hf2 hf3 hI hF
        have k8 : f 8 = false := hf3 8 (by kernel_rfl)
        clear hf2 hf3
        simp only [saysD, List.getD_cons_zero, List.getD_cons_succ, and_true] at hF
        have e30 := hF
        dsimp only [owes6, bare]
        simp only [putsD, Act.put, List.setIfInBounds_toArray, List.set_cons_zero, List.set_cons_succ]
        simp only [e30]
        have bx9 := hI.2.2.2.2.2.2.2.1 k8
        obtain ⟨c0, _⟩ := cell_of_block bx9 0
        clear bx9
        go_wp2
        exact ⟨rfl, rfl, trivial, hI⟩
      · intro vals yw f hf1 hf2 hf3 hI hF
        clear hf2 hf3
        dsimp only [owes6, bare]
        simp only [putsD, Act.put, List.setIfInBounds_toArray, List.set_cons_zero, List.set_cons_succ]
        go_wp2
        exact ⟨rfl, rfl, trivial, hI⟩
      · intro vals yw f hf1 hf2 hf3 hI hF
        have k4 : f 4 = false := hf3 4 (by kernel_rfl)
        clear hf2 hf3
        dsimp only [owes6, bare]
        simp only [putsD, Act.put, List.setIfInBounds_toArray, List.set_cons_zero, List.set_cons_succ]
        have hrx := (hI.2.1 k4).lt
        have HI9 := Lib.hid hI
        clear hI
        go_wp2
        exact ⟨rfl, trivial, trivial, HI9.out.made (kPutB HA.out.gb) rfl hrx⟩
      · intro vals yw f hf1 hf2 hf3 hI hF
        have k3 : f 3 = true := hf2 3 (by kernel_rfl)
        have k5 : f 5 = false := hf3 5 (by kernel_rfl)
        have k6 : f 6 = false := hf3 6 (by kernel_rfl)
        have k8 : f 8 = false := hf3 8 (by kernel_rfl)
        clear hf2 hf3
        simp only [saysD, List.getD_cons_zero, List.getD_cons_succ, and_true] at hF
        have e32 := hF
        obtain ⟨b2, e33, hs13⟩ := hI.2.2.2.1 k3 hf1
        dsimp only [owes6, bare]
        simp only [putsD, Act.put, List.setIfInBounds_toArray, List.set_cons_zero, List.set_cons_succ]
        simp only [e32, e33]
        have HS9 := Lib.hid hs13
        have HI9 := Lib.hid hI
        clear hI
        clear hs13
        go_wp2_with fail
        refine (num_any r (p + 1 + 1) (some ⟨b2, 0, none⟩) 5 [0, 9, 1, -1, -9223372036854775808] yw (HI9.out.2.1 hf1) HS9.out (by simp) (by simp) (by omega) (by omega)).mono ?_
        rintro e wx ⟨y, hy, rfl, hR9, hg9⟩
        have HN9 := Lib.hid (HI9.out.num (kPutB HA.out.gb) hf1 k5 k6 k8 hrb (mem_lit hy (by intro z hz; simp at hz; unfold okInt; omega)) hR9 hg9)
        clear hy hR9 hg9
        go_wp2
        exact ⟨rfl, trivial, trivial, HN9.out⟩
      · intro vals yw f hf1 hf2 hf3 hI hF
        have k4 : f 4 = true := hf2 4 (by kernel_rfl)
        clear hf2 hf3
        simp only [saysD, List.getD_cons_zero, List.getD_cons_succ, and_true] at hF
        obtain ⟨y, e34, hy⟩ := (hI.2.2.1 k4).2
        dsimp only [owes6, bare]
        simp only [putsD, Act.put, List.setIfInBounds_toArray, List.set_cons_zero, List.set_cons_succ]
        simp only [e34]
        have HI9 := Lib.hid hI
        clear hI
        go_wp2
        exact ⟨rfl, trivial, trivial, HI9.out.one (kPutB HA.out.gb) hy⟩
      · intro vals yw f hf1 hf2 hf3 hI hF
        have k4 : f 4 = true := hf2 4 (by kernel_rfl)
        have k5 : f 5 = true := hf2 5 (by kernel_rfl)
        have k8 : f 8 = false := hf3 8 (by kernel_rfl)
        clear hf2 hf3
        simp only [saysD, List.getD_cons_zero, List.getD_cons_succ, and_true] at hF
        have e31 := hF
        obtain ⟨b2, y, hy, e35, hrd9⟩ := hI.2.2.2.2.1 k5 hf1
        dsimp only [owes6, bare]
        simp only [putsD, Act.put, List.setIfInBounds_toArray, List.set_cons_zero, List.set_cons_succ]
        simp only [e31, e35]
        have hk9 := (kPutB HA.out.gb).own (hI.2.2.2.2.2.1 hf1)
        have hlo9 := ((kPutB HA.out.gb).glo (hI.2.2.2.2.2.1 hf1))
        have hbl9 := HBE.out
        have HI9 := Lib.hid hI
        clear hI
        obtain ⟨ys, hys⟩ : ∃ ys, ys = s.put ++ [y] := ⟨_, rfl⟩
        refine wpList_append_intsD (zs := ys) (ys := [y]) (by rfl) (.tmp 31) (.tmp 35) (by rfl) (by rfl) (by rfl) hk9 hrd9 (by simp; omega) (by omega) hys ?_
        intro A9 c9 w9 hown hgn hbk
        exact ⟨rfl, trivial, trivial, HI9.out.app hys (kPutB HA.out.gb) k4 hf1 k8 hrb (by omega) hy hown hgn hbk⟩
      · intro vals yw f hf1 hf2 hf3 hI hF
        clear hf2 hf3
        dsimp only [owes6, bare]
        simp only [putsD, Act.put, List.setIfInBounds_toArray, List.set_cons_zero, List.set_cons_succ]
        go_wp2
        exact ⟨rfl, rfl, trivial, hI⟩
      · intro vals yw f hf1 hf2 hf3 hI hF
        have k4 : f 4 = true := hf2 4 (by kernel_rfl)
        have k6 : f 6 = true := hf2 6 (by kernel_rfl)
        clear hf2 hf3
        simp only [saysD, List.getD_cons_zero, List.getD_cons_succ, and_true] at hF
        have e37 := hF
        obtain ⟨A9, c9, y, e36, hy, hk9⟩ := hI.2.2.2.2.2.2.1 k6
        have hbx := hI.2.2.2.2.2.2.2.1 hf1
        dsimp only [owes6, bare]
        simp only [putsD, Act.put, List.setIfInBounds_toArray, List.set_cons_zero, List.set_cons_succ]
        simp only [e37, e36]
        obtain ⟨o0, o0'⟩ := cell_of_block hbx 0
        have HE9 := Lib.hid e36
        have hbl9 := HBE.out
        have HI9 := Lib.hid hI
        clear hI
        clear hbx hk9 e36
        go_wp2
        refine ⟨rfl, trivial, trivial, ?_⟩
        have h8 := HI9.out.store (kPutB HA.out.gb) k4 k6 hf1 hrb (by omega)
        have h7 : ∀ z, z = vals 6 → ApI w r (p + 1 + 1) g 0 #[.slice P s.put.length p', .slice Q s.why.length q', .slice D s.learned.length d', .int .i64 s.code] (KPut b g #[.int .i64 x.many, .slice A x.list.length a] FL s Q D q' d') P p' s.put [0, 9, 1, -1, -9223372036854775808] (vals 3) (vals 4) (vals 5) (vals 6) (f 3) (f 4) (f 5) (f 6) true (yw.setCell ⟨g, 0, none⟩ z) := fun z hz => by rw [hz]; exact h8
        exact h7 _ (by rw [HE9.out]; simp)
      · intro vals yw f hall hI hF
        rw [show List.range _ = [0, 1, 2, 3, 4, 5, 6, 7, 8] from rfl] at hF
        simp only [says, List.getD_cons_zero, List.getD_cons_succ, and_true] at hF
        obtain ⟨A7, cA7, y9, hy9, hA9⟩ := HA.out.endPut hI (hall 4 (by decide)) (hall 6 (by decide)) (hall 8 (by decide))
        obtain ⟨s2, hs2, hA9⟩ : ∃ s2 : S, s2 = ⟨s.put ++ [y9], s.why, s.learned, s.code⟩ ∧ StA w b r (p + 1 + 1 + 1) #[.int .i64 x.many, .slice A x.list.length a] g FL s2 A7 Q D cA7 q' d' yw := ⟨_, rfl, hA9⟩
        have HA7 := Lib.hid hA9
        have OKs2 : Hid (okS 1 s2) := Lib.hid (by rw [hs2]; exact HOS.out.addPut hy9)
        have hls2 := OKs2.out.put
        have hms2 := OKs2.out.why
        simp only [putsD, Act.put, List.setIfInBounds_toArray, List.set_cons_zero, List.set_cons_succ]
        clear hI hF hall hA9 hs2 hy9
        go_wp2
        refine wp_region_rel6 [[], [(0, 38)], [], [], [(2, 40), (3, 41)], [(4, 42)], [(1, 39), (5, 43)], [], [(7, 45), (6, 44)]]
          (fun _ _ => True)
          []
          (fun v9 f9 x9 => ApI w r (p + 1 + 1 + 1) g 1 #[.slice A7 s2.put.length cA7, .slice Q s2.why.length q', .slice D s2.learned.length d', .int .i64 s2.code] (KWhy b g #[.int .i64 x.many, .slice A x.list.length a] FL s2 A7 D cA7 d') Q q' s2.why [-1, 0, -2, 99] (v9 3) (v9 4) (v9 5) (v9 6) (f9 3) (f9 4) (f9 5) (f9 6) (f9 8) x9)
          [fun vs9 _ => vs9 0 = (.pointer (some ⟨g, 1, none⟩)),
      fun vs9 _ => vs9 1 = (.slice Q s2.why.length q'),
      fun vs9 _ => vs9 2 = (.pointer (some ⟨r, 0, none⟩)),
      fun _ _ => True,
      fun _ _ => True,
      fun _ _ => True,
      fun _ _ => True,
      fun vs9 _ => vs9 7 = (.pointer (some ⟨g, 1, none⟩)),
      fun _ _ => True]
          [(0, 38), (1, 39), (2, 40), (3, 41), (4, 42), (5, 43), (6, 44), (7, 45)] (by kernel_rfl) (by kernel_rfl) (by kernel_rfl) (by kernel_rfl)
          (fun _ => trivial) trivial
          ⟨⟨.inr (fun _ _ _ h _ => h), trivial⟩,
      ⟨.inr (fun _ _ _ h _ => h), trivial⟩,
      ⟨.inr (fun _ _ _ h _ => h), trivial⟩,
      ⟨.inr (fun _ _ _ h _ => h), trivial⟩,
      ⟨.inr (fun _ _ _ h _ => h), trivial⟩,
      ⟨.inr (fun _ _ _ h _ => h), trivial⟩,
      ⟨.inr (fun _ _ _ h _ => h), trivial⟩,
      ⟨.inr (fun _ _ _ h _ => h), trivial⟩,
      ⟨.inr (fun _ _ _ h _ => h), trivial⟩, trivial⟩ ⟨fun vs vs' x h _ hv => (by dsimp only at hv ⊢; first | (rw [← h]; exact hv) | exact hv),
      fun vs vs' x h _ hv => (by dsimp only at hv ⊢; first | (rw [← h]; exact hv) | exact hv),
      fun vs vs' x h _ hv => (by dsimp only at hv ⊢; first | (rw [← h]; exact hv) | exact hv),
      fun _ _ _ _ _ _ => trivial,
      fun _ _ _ _ _ _ => trivial,
      fun _ _ _ _ _ _ => trivial,
      fun _ _ _ _ _ _ => trivial,
      fun vs vs' x h _ hv => (by dsimp only at hv ⊢; first | (rw [← h]; exact hv) | exact hv),
      fun _ _ _ _ _ _ => trivial, trivial⟩ (HA7.out.startWhy) ⟨?_, ?_, ?_, ?_, ?_, ?_, ?_, ?_, ?_, trivial⟩ ?_
        · intro vals zw f hf1 hf2 hf3 hI hF
          clear hf2 hf3
          dsimp only [owes6, bare]
          simp only [putsD, Act.put, List.setIfInBounds_toArray, List.set_cons_zero, List.set_cons_succ]
          go_wp2
          exact ⟨rfl, rfl, trivial, hI⟩
        · intro vals zw f hf1 hf2 hf3 hI hF
          have k8 : f 8 = false := hf3 8 (by kernel_rfl)
          clear hf2 hf3
          simp only [saysD, List.getD_cons_zero, List.getD_cons_succ, and_true] at hF
          have e38 := hF
          dsimp only [owes6, bare]
          simp only [putsD, Act.put, List.setIfInBounds_toArray, List.set_cons_zero, List.set_cons_succ]
          simp only [e38]
          have bx9 := hI.2.2.2.2.2.2.2.1 k8
          obtain ⟨c0, _⟩ := cell_of_block bx9 1
          clear bx9
          go_wp2
          exact ⟨rfl, rfl, trivial, hI⟩
        · intro vals zw f hf1 hf2 hf3 hI hF
          clear hf2 hf3
          dsimp only [owes6, bare]
          simp only [putsD, Act.put, List.setIfInBounds_toArray, List.set_cons_zero, List.set_cons_succ]
          go_wp2
          exact ⟨rfl, rfl, trivial, hI⟩
        · intro vals zw f hf1 hf2 hf3 hI hF
          have k4 : f 4 = false := hf3 4 (by kernel_rfl)
          clear hf2 hf3
          dsimp only [owes6, bare]
          simp only [putsD, Act.put, List.setIfInBounds_toArray, List.set_cons_zero, List.set_cons_succ]
          have hrx := (hI.2.1 k4).lt
          have HI9 := Lib.hid hI
          clear hI
          go_wp2
          exact ⟨rfl, trivial, trivial, HI9.out.made (kWhyB HA7.out.gb) rfl hrx⟩
        · intro vals zw f hf1 hf2 hf3 hI hF
          have k3 : f 3 = true := hf2 3 (by kernel_rfl)
          have k5 : f 5 = false := hf3 5 (by kernel_rfl)
          have k6 : f 6 = false := hf3 6 (by kernel_rfl)
          have k8 : f 8 = false := hf3 8 (by kernel_rfl)
          clear hf2 hf3
          simp only [saysD, List.getD_cons_zero, List.getD_cons_succ, and_true] at hF
          have e40 := hF
          obtain ⟨b2, e41, hs13⟩ := hI.2.2.2.1 k3 hf1
          dsimp only [owes6, bare]
          simp only [putsD, Act.put, List.setIfInBounds_toArray, List.set_cons_zero, List.set_cons_succ]
          simp only [e40, e41]
          have HS9 := Lib.hid hs13
          have HI9 := Lib.hid hI
          clear hI
          clear hs13
          go_wp2_with fail
          refine (num_any r (p + 1 + 1 + 1) (some ⟨b2, 0, none⟩) 4 [-1, 0, -2, 99] zw (HI9.out.2.1 hf1) HS9.out (by simp) (by simp) (by omega) (by omega)).mono ?_
          rintro e wx ⟨y, hy, rfl, hR9, hg9⟩
          have HN9 := Lib.hid (HI9.out.num (kWhyB HA7.out.gb) hf1 k5 k6 k8 hrb (mem_lit hy (by intro z hz; simp at hz; unfold okInt; omega)) hR9 hg9)
          clear hy hR9 hg9
          go_wp2
          exact ⟨rfl, trivial, trivial, HN9.out⟩
        · intro vals zw f hf1 hf2 hf3 hI hF
          have k4 : f 4 = true := hf2 4 (by kernel_rfl)
          clear hf2 hf3
          simp only [saysD, List.getD_cons_zero, List.getD_cons_succ, and_true] at hF
          obtain ⟨y, e42, hy⟩ := (hI.2.2.1 k4).2
          dsimp only [owes6, bare]
          simp only [putsD, Act.put, List.setIfInBounds_toArray, List.set_cons_zero, List.set_cons_succ]
          simp only [e42]
          have HI9 := Lib.hid hI
          clear hI
          go_wp2
          exact ⟨rfl, trivial, trivial, HI9.out.one (kWhyB HA7.out.gb) hy⟩
        · intro vals zw f hf1 hf2 hf3 hI hF
          have k4 : f 4 = true := hf2 4 (by kernel_rfl)
          have k5 : f 5 = true := hf2 5 (by kernel_rfl)
          have k8 : f 8 = false := hf3 8 (by kernel_rfl)
          clear hf2 hf3
          simp only [saysD, List.getD_cons_zero, List.getD_cons_succ, and_true] at hF
          have e39 := hF
          obtain ⟨b2, y, hy, e43, hrd9⟩ := hI.2.2.2.2.1 k5 hf1
          dsimp only [owes6, bare]
          simp only [putsD, Act.put, List.setIfInBounds_toArray, List.set_cons_zero, List.set_cons_succ]
          simp only [e39, e43]
          have hk9 := (kWhyB HA7.out.gb).own (hI.2.2.2.2.2.1 hf1)
          have hlo9 := ((kWhyB HA7.out.gb).glo (hI.2.2.2.2.2.1 hf1))
          have hbl9 := HBE.out
          have HI9 := Lib.hid hI
          clear hI
          obtain ⟨ys, hys⟩ : ∃ ys, ys = s2.why ++ [y] := ⟨_, rfl⟩
          refine wpList_append_intsD (zs := ys) (ys := [y]) (by rfl) (.tmp 39) (.tmp 43) (by rfl) (by rfl) (by rfl) hk9 hrd9 (by simp; omega) (by omega) hys ?_
          intro A9 c9 w9 hown hgn hbk
          exact ⟨rfl, trivial, trivial, HI9.out.app hys (kWhyB HA7.out.gb) k4 hf1 k8 hrb (by omega) hy hown hgn hbk⟩
        · intro vals zw f hf1 hf2 hf3 hI hF
          clear hf2 hf3
          dsimp only [owes6, bare]
          simp only [putsD, Act.put, List.setIfInBounds_toArray, List.set_cons_zero, List.set_cons_succ]
          go_wp2
          exact ⟨rfl, rfl, trivial, hI⟩
        · intro vals zw f hf1 hf2 hf3 hI hF
          have k4 : f 4 = true := hf2 4 (by kernel_rfl)
          have k6 : f 6 = true := hf2 6 (by kernel_rfl)
          clear hf2 hf3
          simp only [saysD, List.getD_cons_zero, List.getD_cons_succ, and_true] at hF
          have e45 := hF
          obtain ⟨A9, c9, y, e44, hy, hk9⟩ := hI.2.2.2.2.2.2.1 k6
          have hbx := hI.2.2.2.2.2.2.2.1 hf1
          dsimp only [owes6, bare]
          simp only [putsD, Act.put, List.setIfInBounds_toArray, List.set_cons_zero, List.set_cons_succ]
          simp only [e45, e44]
          obtain ⟨o0, o0'⟩ := cell_of_block hbx 1
          have HE9 := Lib.hid e44
          have hbl9 := HBE.out
          have HI9 := Lib.hid hI
          clear hI
          clear hbx hk9 e44
          go_wp2
          refine ⟨rfl, trivial, trivial, ?_⟩
          have h8 := HI9.out.store (kWhyB HA7.out.gb) k4 k6 hf1 hrb (by omega)
          have h7 : ∀ z, z = vals 6 → ApI w r (p + 1 + 1 + 1) g 1 #[.slice A7 s2.put.length cA7, .slice Q s2.why.length q', .slice D s2.learned.length d', .int .i64 s2.code] (KWhy b g #[.int .i64 x.many, .slice A x.list.length a] FL s2 A7 D cA7 d') Q q' s2.why [-1, 0, -2, 99] (vals 3) (vals 4) (vals 5) (vals 6) (f 3) (f 4) (f 5) (f 6) true (zw.setCell ⟨g, 1, none⟩ z) := fun z hz => by rw [hz]; exact h8
          exact h7 _ (by rw [HE9.out]; simp)
        · intro vals zw f hall hI hF
          rw [show List.range _ = [0, 1, 2, 3, 4, 5, 6, 7, 8] from rfl] at hF
          simp only [says, List.getD_cons_zero, List.getD_cons_succ, and_true] at hF
          obtain ⟨B8, cB8, y9, hy9, hA9⟩ := HA7.out.endWhy hI (hall 4 (by decide)) (hall 6 (by decide)) (hall 8 (by decide))
          obtain ⟨s3, hs2, hA9⟩ : ∃ s3 : S, s3 = ⟨s2.put, s2.why ++ [y9], s2.learned, s2.code⟩ ∧ StA w b r (p + 1 + 1 + 1 + 1) #[.int .i64 x.many, .slice A x.list.length a] g FL s3 A7 B8 D cA7 cB8 d' zw := ⟨_, rfl, hA9⟩
          have HA8 := Lib.hid hA9
          have OKs3 : Hid (okS 2 s3) := Lib.hid (by rw [hs2]; exact OKs2.out.addWhy hy9)
          have hls3 := OKs3.out.put
          have hms3 := OKs3.out.why
          simp only [putsD, Act.put, List.setIfInBounds_toArray, List.set_cons_zero, List.set_cons_succ]
          clear hI hF hall hA9 hs2 hy9
          obtain ⟨m0, m0'⟩ := cell_of_block HA8.out.bx 0
          obtain ⟨m1, m1'⟩ := cell_of_block HA8.out.bx 1
          obtain ⟨m2, m2'⟩ := cell_of_block HA8.out.bx 2
          obtain ⟨m3, m3'⟩ := cell_of_block HA8.out.bx 3
          obtain ⟨o0, o0'⟩ := cell_of_block HA8.out.b4 0
          obtain ⟨o1, o1'⟩ := cell_of_block HA8.out.b4 1
          obtain ⟨o2, o2'⟩ := cell_of_block HA8.out.b4 2
          obtain ⟨o3, o3'⟩ := cell_of_block HA8.out.b4 3
          go_wp2
          have hfin := HA8.out.fin (p := p) (OKs3.out.mono (by omega)) (by omega) (by omega)
          try dsimp only at hfin
          generalize ((((zw.setCell ⟨b + 1, 0, none⟩ (.slice A7 s3.put.length cA7)).setCell ⟨b + 1, 1, none⟩ (.slice B8 s3.why.length cB8)).setCell ⟨b + 1, 2, none⟩ (.slice D s3.learned.length d')).setCell ⟨b + 1, 3, none⟩ (.int .i64 s3.code)) = w9 at *
          obtain ⟨hbx, hres⟩ := hfin
          have HRES := Lib.hid hres
          clear hres
          have e0 := (cell_of_block hbx 0).1
          have e1 := (cell_of_block hbx 1).1
          have e2 := (cell_of_block hbx 2).1
          have e3 := (cell_of_block hbx 3).1
          simp at e0 e1 e2 e3
          refine bodyPost_ret (v := .agg #[.slice A7 s3.put.length cA7, .slice B8 s3.why.length cB8, .slice D s3.learned.length d', .int .i64 s3.code]) (by simp [results, Try.results39, go_sem, e0, e1, e2, e3]) rfl ?_
          exact HRES.out
    have hkb1 : (k == 1) = false := by simpa using hk1
    clear hk1
    by_cases hk2 : k = 2
    · subst hk2
      obtain ⟨ys, hys⟩ : ∃ ys, ys = s.why ++ [-1] := ⟨_, rfl⟩
      have HYS := Lib.hid hys
      have HOK6 : Hid (okS 1 ⟨s.put, ys, s.learned, s.code⟩) := Lib.hid (by rw [hys]; exact HOS.out.addWhy (by unfold okInt; omega))
      clear hys
      obtain ⟨m1, m1'⟩ := cell_of_block HA.out.bx 1
      have hbw := HA.out.so.glo.1
      have hbl : b ≤ w4.heap.size := by have := HA.out.so.glo; omega
      go_wp2_with (at_builtin; refine wpList_append_int8 (ys := ys) (by rfl) (.tmp 49) (.tmp 50) (by rfl) (by rfl) (by rfl) HA.out.so.why (by omega) hbl HYS.out ?_; intro A7 c7 w7 hown7 hg7 hbk7; obtain ⟨hz7, hA7⟩ := HA.out.addWhy hown7 hg7 hbk7; have HA7 := Lib.hid hA7; have HZ7 := Lib.hid (hz7.1.trans HA.out.bx); have HY7 := Lib.hid (hz7.2.2.trans HA.out.b4); clear hown7 hg7 hbk7 hz7 hA7 m1 m1'; obtain ⟨x0, x0'⟩ := cell_of_block HZ7.out 0; obtain ⟨x1, x1'⟩ := cell_of_block HZ7.out 1; obtain ⟨x2, x2'⟩ := cell_of_block HZ7.out 2; obtain ⟨x3, x3'⟩ := cell_of_block HZ7.out 3; obtain ⟨o0, o0'⟩ := cell_of_block HY7.out 0; obtain ⟨o1, o1'⟩ := cell_of_block HY7.out 1; obtain ⟨o2, o2'⟩ := cell_of_block HY7.out 2; obtain ⟨o3, o3'⟩ := cell_of_block HY7.out 3)
      have hfin := HA7.out.fin (p := p) (HOK6.out.mono (by omega)) (by omega) (by omega)
      try dsimp only at hfin
      generalize (((((w7.setCell ⟨g, 1, none⟩ (.slice A7 ys.length c7)).setCell ⟨b + 1, 0, none⟩ (.slice P s.put.length p')).setCell ⟨b + 1, 1, none⟩ (.slice A7 ys.length c7)).setCell ⟨b + 1, 2, none⟩ (.slice D s.learned.length d')).setCell ⟨b + 1, 3, none⟩ (.int .i64 s.code)) = w9 at *
      obtain ⟨hbx, hres⟩ := hfin
      have HRES := Lib.hid hres
      clear hres
      have e0 := (cell_of_block hbx 0).1
      have e1 := (cell_of_block hbx 1).1
      have e2 := (cell_of_block hbx 2).1
      have e3 := (cell_of_block hbx 3).1
      simp at e0 e1 e2 e3
      refine bodyPost_ret (v := .agg #[.slice P s.put.length p', .slice A7 ys.length c7, .slice D s.learned.length d', .int .i64 s.code]) (by simp [results, Try.results39, go_sem, e0, e1, e2, e3]) rfl ?_
      exact HRES.out
    have hkb2 : (k == 2) = false := by simpa using hk2
    clear hk2
    by_cases hk3 : k = 3
    · subst hk3
      go_wp2
      refine wp_region_rel6 [[], [(0, 55)], [], [(2, 57)], [(3, 58)], [(4, 59)], [(5, 60)], [(1, 56), (6, 61)], [], [(8, 63), (7, 62)]]
        (fun _ _ => True)
        []
        (fun v9 f9 x9 => LrI w b r (p + 1 + 1) #[.int .i64 x.many, .slice A x.list.length a] g FL s P Q D p' q' d' (v9 3) (v9 4) (v9 5) (v9 6) (v9 7) (f9 3) (f9 4) (f9 5) (f9 6) (f9 7) (f9 9) x9)
        [fun vs9 _ => vs9 0 = (.pointer (some ⟨g, 2, none⟩)),
      fun vs9 _ => vs9 1 = (.slice D s.learned.length d'),
      fun vs9 _ => vs9 2 = (.pointer (some ⟨r, 0, none⟩)),
      fun _ _ => True,
      fun _ _ => True,
      fun _ _ => True,
      fun _ _ => True,
      fun _ _ => True,
      fun vs9 _ => vs9 8 = (.pointer (some ⟨g, 2, none⟩)),
      fun _ _ => True]
        [(0, 55), (1, 56), (2, 57), (3, 58), (4, 59), (5, 60), (6, 61), (7, 62), (8, 63)] (by kernel_rfl) (by kernel_rfl) (by kernel_rfl) (by kernel_rfl)
        (fun _ => trivial) trivial
        ⟨⟨.inr (fun _ _ _ h _ => h), trivial⟩,
      ⟨.inr (fun _ _ _ h _ => h), trivial⟩,
      ⟨.inr (fun _ _ _ h _ => h), trivial⟩,
      ⟨.inr (fun _ _ _ h _ => h), trivial⟩,
      ⟨.inr (fun _ _ _ h _ => h), trivial⟩,
      ⟨.inr (fun _ _ _ h _ => h), trivial⟩,
      ⟨.inr (fun _ _ _ h _ => h), trivial⟩,
      ⟨.inr (fun _ _ _ h _ => h), trivial⟩,
      ⟨.inr (fun _ _ _ h _ => h), trivial⟩,
      ⟨.inr (fun _ _ _ h _ => h), trivial⟩, trivial⟩ ⟨fun vs vs' x h _ hv => (by dsimp only at hv ⊢; first | (rw [← h]; exact hv) | exact hv),
      fun vs vs' x h _ hv => (by dsimp only at hv ⊢; first | (rw [← h]; exact hv) | exact hv),
      fun vs vs' x h _ hv => (by dsimp only at hv ⊢; first | (rw [← h]; exact hv) | exact hv),
      fun _ _ _ _ _ _ => trivial,
      fun _ _ _ _ _ _ => trivial,
      fun _ _ _ _ _ _ => trivial,
      fun _ _ _ _ _ _ => trivial,
      fun _ _ _ _ _ _ => trivial,
      fun vs vs' x h _ hv => (by dsimp only at hv ⊢; first | (rw [← h]; exact hv) | exact hv),
      fun _ _ _ _ _ _ => trivial, trivial⟩ (LrI.start HA.out) ⟨?_, ?_, ?_, ?_, ?_, ?_, ?_, ?_, ?_, ?_, trivial⟩ ?_
      · intro vals yw f hf1 hf2 hf3 hI hF
        clear hf2 hf3
        dsimp only [owes6, bare]
        simp only [putsD, Act.put, List.setIfInBounds_toArray, List.set_cons_zero, List.set_cons_succ]
        go_wp2
        exact ⟨rfl, rfl, trivial, hI⟩
      · intro vals yw f hf1 hf2 hf3 hI hF
        have k9 : f 9 = false := hf3 9 (by kernel_rfl)
        clear hf2 hf3
        simp only [saysD, List.getD_cons_zero, List.getD_cons_succ, and_true] at hF
        have e55 := hF
        dsimp only [owes6, bare]
        simp only [putsD, Act.put, List.setIfInBounds_toArray, List.set_cons_zero, List.set_cons_succ]
        simp only [e55]
        have bx9 := hI.2.2.2.2.2.2.2.2.1 k9
        obtain ⟨c0, _⟩ := cell_of_block bx9 2
        clear bx9
        go_wp2
        exact ⟨rfl, rfl, trivial, hI⟩
      · intro vals yw f hf1 hf2 hf3 hI hF
        clear hf2 hf3
        dsimp only [owes6, bare]
        simp only [putsD, Act.put, List.setIfInBounds_toArray, List.set_cons_zero, List.set_cons_succ]
        go_wp2
        exact ⟨rfl, rfl, trivial, hI⟩
      · intro vals yw f hf1 hf2 hf3 hI hF
        have k5 : f 5 = false := hf3 5 (by kernel_rfl)
        have k6 : f 6 = false := hf3 6 (by kernel_rfl)
        have k7 : f 7 = false := hf3 7 (by kernel_rfl)
        have k9 : f 9 = false := hf3 9 (by kernel_rfl)
        clear hf2 hf3
        simp only [saysD, List.getD_cons_zero, List.getD_cons_succ, and_true] at hF
        have e57 := hF
        dsimp only [owes6, bare]
        simp only [putsD, Act.put, List.setIfInBounds_toArray, List.set_cons_zero, List.set_cons_succ]
        simp only [e57]
        have HI9 := Lib.hid hI
        clear hI
        go_wp2_with fail
        refine (pick_any r (p + 1 + 1) 9 yw (HI9.out.2.1 hf1) (by omega) (by omega) (by omega) (by omega)).mono ?_
        rintro e wx ⟨k, rfl, k0, k1, _, hR9, hg9⟩
        have k1 := k1 (by omega)
        have HN9 := Lib.hid (HI9.out.pick hf1 k5 k6 k7 k9 hrb k0 k1 hR9 (Gr.one (S := IsR r) hg9 rfl))
        clear hR9 hg9
        go_wp2
        exact ⟨rfl, trivial, trivial, HN9.out⟩
      · intro vals yw f hf1 hf2 hf3 hI hF
        have k3 : f 3 = true := hf2 3 (by kernel_rfl)
        clear hf2 hf3
        simp only [saysD, List.getD_cons_zero, List.getD_cons_succ, and_true] at hF
        obtain ⟨y, e58, y0, y1⟩ := (hI.2.2.1 k3).2
        dsimp only [owes6, bare]
        simp only [putsD, Act.put, List.setIfInBounds_toArray, List.set_cons_zero, List.set_cons_succ]
        simp only [e58]
        have e1 : IntKind.i64.wrap (y - 1) = y - 1 := IntWalk.i64_in _ (by omega)
        have HI9 := Lib.hid hI
        clear hI
        go_wp2
        exact ⟨rfl, trivial, trivial, HI9.out.sub (y := y - 1) (by unfold okInt; omega)⟩
      · intro vals yw f hf1 hf2 hf3 hI hF
        have k4 : f 4 = true := hf2 4 (by kernel_rfl)
        have k6 : f 6 = false := hf3 6 (by kernel_rfl)
        have k7 : f 7 = false := hf3 7 (by kernel_rfl)
        clear hf2 hf3
        simp only [saysD, List.getD_cons_zero, List.getD_cons_succ, and_true] at hF
        obtain ⟨y, e59, hy⟩ := hI.2.2.2.1 k4
        dsimp only [owes6, bare]
        simp only [putsD, Act.put, List.setIfInBounds_toArray, List.set_cons_zero, List.set_cons_succ]
        simp only [e59]
        have HI9 := Lib.hid hI
        clear hI
        go_wp2
        exact ⟨rfl, trivial, trivial, HI9.out.row k6 k7 hy⟩
      · intro vals yw f hf1 hf2 hf3 hI hF
        have k5 : f 5 = true := hf2 5 (by kernel_rfl)
        have k7 : f 7 = false := hf3 7 (by kernel_rfl)
        clear hf2 hf3
        simp only [saysD, List.getD_cons_zero, List.getD_cons_succ, and_true] at hF
        obtain ⟨b5, y, e60, _⟩ := hI.2.2.2.2.1 k5 k7
        dsimp only [owes6, bare]
        simp only [putsD, Act.put, List.setIfInBounds_toArray, List.set_cons_zero, List.set_cons_succ]
        simp only [e60]
        have HE9 := Lib.hid e60
        have HI9 := Lib.hid hI
        clear hI
        clear e60
        go_wp2
        exact ⟨rfl, trivial, trivial, HI9.out.list HE9.out⟩
      · intro vals yw f hf1 hf2 hf3 hI hF
        have k3 : f 3 = true := hf2 3 (by kernel_rfl)
        have k5 : f 5 = true := hf2 5 (by kernel_rfl)
        have k6 : f 6 = true := hf2 6 (by kernel_rfl)
        have k9 : f 9 = false := hf3 9 (by kernel_rfl)
        clear hf2 hf3
        simp only [saysD, List.getD_cons_zero, List.getD_cons_succ, and_true] at hF
        have e56 := hF
        obtain ⟨b6, e61, hb6⟩ := hI.2.2.2.2.2.1 k6 hf1
        obtain ⟨b5, y, e5, hy, hs5, h5⟩ := hI.2.2.2.2.1 k5 hf1
        have hso := hI.2.2.2.2.2.2.1 hf1
        have e5 : vals 5 = .slice (some ⟨b5, 0, none⟩) 1 1 := e5
        rw [e5] at hb6
        dsimp only [owes6, bare]
        simp only [putsD, Act.put, List.setIfInBounds_toArray, List.set_cons_zero, List.set_cons_succ]
        simp only [e56, e61]
        have HI9 := Lib.hid hI
        clear hI
        obtain ⟨ys, hys⟩ : ∃ ys, ys = s.learned ++ [[y]] := ⟨_, rfl⟩
        refine wpList_append_lrn (ys := ys) (by rfl) (.tmp 56) (.tmp 61) (by rfl) (by rfl) (by rfl) hso hb6 hs5 ⟨by omega, h5.2⟩ (by omega) hys ?_
        intro D9 d9 z9 hso9 hg9
        exact ⟨rfl, trivial, trivial, HI9.out.app HBE.out k3 hf1 k9 hrb HA.out.fl h5.1 hy hys hso9 hg9⟩
      · intro vals yw f hf1 hf2 hf3 hI hF
        clear hf2 hf3
        dsimp only [owes6, bare]
        simp only [putsD, Act.put, List.setIfInBounds_toArray, List.set_cons_zero, List.set_cons_succ]
        go_wp2
        exact ⟨rfl, rfl, trivial, hI⟩
      · intro vals yw f hf1 hf2 hf3 hI hF
        have k3 : f 3 = true := hf2 3 (by kernel_rfl)
        have k7 : f 7 = true := hf2 7 (by kernel_rfl)
        clear hf2 hf3
        simp only [saysD, List.getD_cons_zero, List.getD_cons_succ, and_true] at hF
        have e63 := hF
        obtain ⟨D9, d9, y, FL9, ys, hyy, e62, hyz⟩ := hI.2.2.2.2.2.2.2.1 k7
        have hbx := hI.2.2.2.2.2.2.2.2.1 hf1
        dsimp only [owes6, bare]
        simp only [putsD, Act.put, List.setIfInBounds_toArray, List.set_cons_zero, List.set_cons_succ]
        simp only [e63, e62]
        obtain ⟨o0, o0'⟩ := cell_of_block hbx 2
        have HE9 := Lib.hid e62
        have HI9 := Lib.hid hI
        clear hI
        clear hbx e62 hyy hyz
        go_wp2
        refine ⟨rfl, trivial, trivial, ?_⟩
        have h8 := HI9.out.store HBE.out hgb k3 k7 hf1 hrb
        have h7 : ∀ z, z = vals 7 → LrI w b r (p + 1 + 1) #[.int .i64 x.many, .slice A x.list.length a] g FL s P Q D p' q' d' (vals 3) (vals 4) (vals 5) (vals 6) (vals 7) (f 3) (f 4) (f 5) (f 6) (f 7) true (yw.setCell ⟨g, 2, none⟩ z) := fun z hz => by rw [hz]; exact h8
        exact h7 _ (by rw [HE9.out])
      · intro vals yw f hall hI hF
        rw [show List.range _ = [0, 1, 2, 3, 4, 5, 6, 7, 8, 9] from rfl] at hF
        simp only [says, List.getD_cons_zero, List.getD_cons_succ, and_true] at hF
        obtain ⟨D7, d7, y9, FL9, hy9, hA9⟩ := LrI.fin hI HA.out (hall 3 (by decide)) (hall 7 (by decide)) (hall 9 (by decide))
        obtain ⟨s2, hs2, hA9⟩ : ∃ s2 : S, s2 = ⟨s.put, s.why, s.learned ++ [[y9]], s.code⟩ ∧ StA w b r (p + 1 + 1 + 1) #[.int .i64 x.many, .slice A x.list.length a] g FL9 s2 P Q D7 p' q' d7 yw := ⟨_, rfl, hA9⟩
        have HA7 := Lib.hid hA9
        have OKs2 : Hid (okS 1 s2) := Lib.hid (by rw [hs2]; exact HOS.out.addLrn (by simp) (by intro l hl; rw [List.mem_singleton.1 hl]; exact hy9))
        simp only [putsD, Act.put, List.setIfInBounds_toArray, List.set_cons_zero, List.set_cons_succ]
        clear hI hF hall hA9 hs2 hy9
        obtain ⟨m0, m0'⟩ := cell_of_block HA7.out.bx 0
        obtain ⟨m1, m1'⟩ := cell_of_block HA7.out.bx 1
        obtain ⟨m2, m2'⟩ := cell_of_block HA7.out.bx 2
        obtain ⟨m3, m3'⟩ := cell_of_block HA7.out.bx 3
        obtain ⟨o0, o0'⟩ := cell_of_block HA7.out.b4 0
        obtain ⟨o1, o1'⟩ := cell_of_block HA7.out.b4 1
        obtain ⟨o2, o2'⟩ := cell_of_block HA7.out.b4 2
        obtain ⟨o3, o3'⟩ := cell_of_block HA7.out.b4 3
        go_wp2
        have hfin := HA7.out.fin (p := p) (OKs2.out.mono (by omega)) (by omega) (by omega)
        try dsimp only at hfin
        generalize ((((yw.setCell ⟨b + 1, 0, none⟩ (.slice P s2.put.length p')).setCell ⟨b + 1, 1, none⟩ (.slice Q s2.why.length q')).setCell ⟨b + 1, 2, none⟩ (.slice D7 s2.learned.length d7)).setCell ⟨b + 1, 3, none⟩ (.int .i64 s2.code)) = w9 at *
        obtain ⟨hbx, hres⟩ := hfin
        have HRES := Lib.hid hres
        clear hres
        have e0 := (cell_of_block hbx 0).1
        have e1 := (cell_of_block hbx 1).1
        have e2 := (cell_of_block hbx 2).1
        have e3 := (cell_of_block hbx 3).1
        simp at e0 e1 e2 e3
        refine bodyPost_ret (v := .agg #[.slice P s2.put.length p', .slice Q s2.why.length q', .slice D7 s2.learned.length d7, .int .i64 s2.code]) (by simp [results, Try.results39, go_sem, e0, e1, e2, e3]) rfl ?_
        exact HRES.out
    have hkb3 : (k == 3) = false := by simpa using hk3
    clear hk3
    by_cases hk4 : k = 4
    · subst hk4
      by_cases hn9 : 0 < s.put.length
      · have hn1 : (s.put.length : Int) > 0 := by omega
        obtain ⟨gp, hgp⟩ := ownI_first HA.out.so.put (by have := HLN.out; omega)
        subst hgp
        go_wp2
        refine wp_region_rel6 [[], [(0, 68)], [], [], [(2, 70), (3, 71)], [], [], [(5, 73), (6, 74)], [(1, 69), (4, 72)], [(8, 76), (7, 75)]]
          (fun _ _ => True)
          []
          (fun v9 f9 x9 => ElI w r (p + 1 + 1) g gp #[.slice (some ⟨gp, 0, none⟩) s.put.length p', .slice Q s.why.length q', .slice D s.learned.length d', .int .i64 s.code] (KPut b g #[.int .i64 x.many, .slice A x.list.length a] FL s Q D q' d') p' s.put [1, -1, 2] (v9 4) (v9 6) (v9 7) (v9 8) (f9 4) (f9 6) (f9 7) (f9 8) (f9 9) x9)
          [fun vs9 _ => vs9 0 = (.pointer (some ⟨g, 0, none⟩)),
      fun vs9 _ => vs9 1 = (.slice (some ⟨gp, 0, none⟩) s.put.length p'),
      fun vs9 _ => vs9 2 = (.pointer (some ⟨r, 0, none⟩)),
      fun vs9 _ => vs9 3 = (.int .i64 (s.put.length : Int)),
      fun _ _ => True,
      fun vs9 _ => vs9 5 = (.pointer (some ⟨r, 0, none⟩)),
      fun _ _ => True,
      fun _ _ => True,
      fun _ _ => True,
      fun _ _ => True]
          [(0, 68), (1, 69), (2, 70), (3, 71), (4, 72), (5, 73), (6, 74), (7, 75), (8, 76)] (by kernel_rfl) (by kernel_rfl) (by kernel_rfl) (by kernel_rfl)
          (fun _ => trivial) trivial
          ⟨⟨.inr (fun _ _ _ h _ => h), trivial⟩,
      ⟨.inr (fun _ _ _ h _ => h), trivial⟩,
      ⟨.inr (fun _ _ _ h _ => h), trivial⟩,
      ⟨.inr (fun _ _ _ h _ => h), trivial⟩,
      ⟨.inr (fun _ _ _ h _ => h), trivial⟩,
      ⟨.inr (fun _ _ _ h _ => h), trivial⟩,
      ⟨.inr (fun _ _ _ h _ => h), trivial⟩,
      ⟨.inr (fun _ _ _ h _ => h), trivial⟩,
      ⟨.inr (fun _ _ _ h _ => h), trivial⟩,
      ⟨.inr (fun _ _ _ h _ => h), trivial⟩, trivial⟩ ⟨fun vs vs' x h _ hv => (by dsimp only at hv ⊢; first | (rw [← h]; exact hv) | exact hv),
      fun vs vs' x h _ hv => (by dsimp only at hv ⊢; first | (rw [← h]; exact hv) | exact hv),
      fun vs vs' x h _ hv => (by dsimp only at hv ⊢; first | (rw [← h]; exact hv) | exact hv),
      fun vs vs' x h _ hv => (by dsimp only at hv ⊢; first | (rw [← h]; exact hv) | exact hv),
      fun _ _ _ _ _ _ => trivial,
      fun vs vs' x h _ hv => (by dsimp only at hv ⊢; first | (rw [← h]; exact hv) | exact hv),
      fun _ _ _ _ _ _ => trivial,
      fun _ _ _ _ _ _ => trivial,
      fun _ _ _ _ _ _ => trivial,
      fun _ _ _ _ _ _ => trivial, trivial⟩ (HA.out.beginPut) ⟨?_, ?_, ?_, ?_, ?_, ?_, ?_, ?_, ?_, ?_, trivial⟩ ?_
        · intro vals yw f hf1 hf2 hf3 hI hF
          clear hf2 hf3
          dsimp only [owes6, bare]
          simp only [putsD, Act.put, List.setIfInBounds_toArray, List.set_cons_zero, List.set_cons_succ]
          go_wp2
          exact ⟨rfl, rfl, trivial, hI⟩
        · intro vals yw f hf1 hf2 hf3 hI hF
          clear hf2 hf3
          simp only [saysD, List.getD_cons_zero, List.getD_cons_succ, and_true] at hF
          have e68 := hF
          dsimp only [owes6, bare]
          simp only [putsD, Act.put, List.setIfInBounds_toArray, List.set_cons_zero, List.set_cons_succ]
          simp only [e68]
          have bx9 := hI.2.2.2.2.2.2.2.2
          obtain ⟨c0, _⟩ := cell_of_block bx9 0
          clear bx9
          go_wp2
          exact ⟨rfl, rfl, trivial, hI⟩
        · intro vals yw f hf1 hf2 hf3 hI hF
          clear hf2 hf3
          dsimp only [owes6, bare]
          simp only [putsD, Act.put, List.setIfInBounds_toArray, List.set_cons_zero, List.set_cons_succ]
          go_wp2
          exact ⟨rfl, rfl, trivial, hI⟩
        · intro vals yw f hf1 hf2 hf3 hI hF
          clear hf2 hf3
          dsimp only [owes6, bare]
          simp only [putsD, Act.put, List.setIfInBounds_toArray, List.set_cons_zero, List.set_cons_succ]
          go_wp2
          exact ⟨rfl, rfl, trivial, hI⟩
        · intro vals yw f hf1 hf2 hf3 hI hF
          have k7 : f 7 = false := hf3 7 (by kernel_rfl)
          have k8 : f 8 = false := hf3 8 (by kernel_rfl)
          have k9 : f 9 = false := hf3 9 (by kernel_rfl)
          clear hf2 hf3
          simp only [saysD, List.getD_cons_zero, List.getD_cons_succ, and_true] at hF
          obtain ⟨e70, e71⟩ := hF
          dsimp only [owes6, bare]
          simp only [putsD, Act.put, List.setIfInBounds_toArray, List.set_cons_zero, List.set_cons_succ]
          simp only [e70, e71]
          have HI9 := Lib.hid hI
          clear hI
          go_wp2_with fail
          refine (pick_any r (p + 1 + 1) s.put.length yw (HI9.out.2.1 hf1) (by omega) (by omega) (by omega) (by omega)).mono ?_
          rintro e wx ⟨k, rfl, k0, k1, _, hR9, hg9⟩
          have k1 := k1 (by omega)
          obtain ⟨kn, rfl⟩ := Int.eq_ofNat_of_zero_le k0
          have HN9 := Lib.hid (HI9.out.pick (k := kn) (kPutB HA.out.gb) hf1 k7 k8 k9 hrb (by omega) hR9 (Gr.one (S := IsR r) hg9 rfl))
          clear hR9 hg9
          go_wp2
          exact ⟨rfl, trivial, trivial, HN9.out⟩
        · intro vals yw f hf1 hf2 hf3 hI hF
          clear hf2 hf3
          dsimp only [owes6, bare]
          simp only [putsD, Act.put, List.setIfInBounds_toArray, List.set_cons_zero, List.set_cons_succ]
          go_wp2
          exact ⟨rfl, rfl, trivial, hI⟩
        · intro vals yw f hf1 hf2 hf3 hI hF
          have k7 : f 7 = false := hf3 7 (by kernel_rfl)
          clear hf2 hf3
          dsimp only [owes6, bare]
          simp only [putsD, Act.put, List.setIfInBounds_toArray, List.set_cons_zero, List.set_cons_succ]
          have hrx : r < yw.heap.size := by
              cases h4 : f 4 with
              | false => exact (hI.2.1 h4).lt
              | true => exact (hI.2.2.2.1 h4 k7).lt
          have HI9 := Lib.hid hI
          clear hI
          go_wp2
          exact ⟨rfl, trivial, trivial, HI9.out.made (kPutB HA.out.gb) rfl hrx⟩
        · intro vals yw f hf1 hf2 hf3 hI hF
          have k4 : f 4 = true := hf2 4 (by kernel_rfl)
          have k6 : f 6 = true := hf2 6 (by kernel_rfl)
          have k9 : f 9 = false := hf3 9 (by kernel_rfl)
          clear hf2 hf3
          simp only [saysD, List.getD_cons_zero, List.getD_cons_succ, and_true] at hF
          have e73 := hF
          obtain ⟨b2, e74, hs13⟩ := hI.2.2.2.2.2.1 k6 hf1
          dsimp only [owes6, bare]
          simp only [putsD, Act.put, List.setIfInBounds_toArray, List.set_cons_zero, List.set_cons_succ]
          simp only [e73, e74]
          have HS9 := Lib.hid hs13
          have HI9 := Lib.hid hI
          clear hI
          clear hs13
          go_wp2_with fail
          refine (num_any r (p + 1 + 1 + 1) (some ⟨b2, 0, none⟩) 3 [1, -1, 2] yw (HI9.out.2.2.2.1 k4 hf1) HS9.out (by simp) (by simp) (by omega) (by omega)).mono ?_
          rintro e wx ⟨y, hy, rfl, hR9, hg9⟩
          have HN9 := Lib.hid (HI9.out.num (kPutB HA.out.gb) k4 hf1 k9 hrb (mem_lit hy (by intro z hz; simp at hz; unfold okInt; omega)) hR9 hg9)
          clear hy hR9 hg9
          go_wp2
          exact ⟨rfl, trivial, trivial, HN9.out⟩
        · intro vals yw f hf1 hf2 hf3 hI hF
          have k4 : f 4 = true := hf2 4 (by kernel_rfl)
          clear hf2 hf3
          simp only [saysD, List.getD_cons_zero, List.getD_cons_succ, and_true] at hF
          have e69 := hF
          obtain ⟨kn, e72, hkn, _⟩ := hI.2.2.1 k4
          dsimp only [owes6, bare]
          simp only [putsD, Act.put, List.setIfInBounds_toArray, List.set_cons_zero, List.set_cons_succ]
          simp only [e69, e72]
          have HE9 := Lib.hid e72
          have hkn1 : (kn : Int) < (s.put.length : Int) := by omega
          have HI9 := Lib.hid hI
          clear hI
          clear e72
          go_wp2
          exact ⟨rfl, trivial, trivial, HI9.out.ptr HE9.out⟩
        · intro vals yw f hf1 hf2 hf3 hI hF
          have k4 : f 4 = true := hf2 4 (by kernel_rfl)
          have k7 : f 7 = true := hf2 7 (by kernel_rfl)
          have k8 : f 8 = true := hf2 8 (by kernel_rfl)
          clear hf2 hf3
          simp only [saysD, List.getD_cons_zero, List.getD_cons_succ, and_true] at hF
          obtain ⟨kn, _, hkn, e76⟩ := hI.2.2.1 k4
          have e76 := e76 k8
          obtain ⟨y, e75, hy⟩ := (hI.2.2.2.2.1 k7).2
          have hk9 := (kPutB HA.out.gb).own (hI.2.2.2.2.2.2.1 hf1)
          dsimp only [owes6, bare]
          simp only [putsD, Act.put, List.setIfInBounds_toArray, List.set_cons_zero, List.set_cons_succ]
          simp only [e76, e75]
          obtain ⟨x9, x9'⟩ := ownI_cell hk9 hkn
          have hbl9 := HBE.out
          generalize s.put[kn] = z9 at *
          have HI9 := Lib.hid hI
          clear hI
          clear hk9
          go_wp2
          exact ⟨rfl, trivial, trivial, HI9.out.store (kPutB HA.out.gb) k4 k7 hf1 hrb (by omega) hy⟩
        · intro vals yw f hall hI hF
          rw [show List.range _ = [0, 1, 2, 3, 4, 5, 6, 7, 8, 9] from rfl] at hF
          simp only [says, List.getD_cons_zero, List.getD_cons_succ, and_true] at hF
          obtain ⟨k9, y9, hy9, hA9⟩ := HA.out.closePut hI (hall 7 (by decide)) (hall 9 (by decide))
          obtain ⟨s2, hs2, hA9⟩ : ∃ s2 : S, s2 = ⟨s.put.set k9 y9, s.why, s.learned, s.code⟩ ∧ StA w b r (p + 1 + 1 + 1 + 1) #[.int .i64 x.many, .slice A x.list.length a] g FL s2 (some ⟨gp, 0, none⟩) Q D p' q' d' yw := ⟨_, rfl, hA9⟩
          have HA7 := Lib.hid hA9
          have OKs2 : Hid (okS 0 s2) := Lib.hid (by rw [hs2]; exact HOS.out.setPut hy9)
          simp only [putsD, Act.put, List.setIfInBounds_toArray, List.set_cons_zero, List.set_cons_succ]
          clear hI hF hall hA9 hs2 hy9
          obtain ⟨m0, m0'⟩ := cell_of_block HA7.out.bx 0
          obtain ⟨m1, m1'⟩ := cell_of_block HA7.out.bx 1
          obtain ⟨m2, m2'⟩ := cell_of_block HA7.out.bx 2
          obtain ⟨m3, m3'⟩ := cell_of_block HA7.out.bx 3
          obtain ⟨o0, o0'⟩ := cell_of_block HA7.out.b4 0
          obtain ⟨o1, o1'⟩ := cell_of_block HA7.out.b4 1
          obtain ⟨o2, o2'⟩ := cell_of_block HA7.out.b4 2
          obtain ⟨o3, o3'⟩ := cell_of_block HA7.out.b4 3
          go_wp2
          have hfin := HA7.out.fin (p := p) (OKs2.out.mono (by omega)) (by omega) (by omega)
          try dsimp only at hfin
          generalize ((((yw.setCell ⟨b + 1, 0, none⟩ (.slice (some ⟨gp, 0, none⟩) s2.put.length p')).setCell ⟨b + 1, 1, none⟩ (.slice Q s2.why.length q')).setCell ⟨b + 1, 2, none⟩ (.slice D s2.learned.length d')).setCell ⟨b + 1, 3, none⟩ (.int .i64 s2.code)) = w9 at *
          obtain ⟨hbx, hres⟩ := hfin
          have HRES := Lib.hid hres
          clear hres
          have e0 := (cell_of_block hbx 0).1
          have e1 := (cell_of_block hbx 1).1
          have e2 := (cell_of_block hbx 2).1
          have e3 := (cell_of_block hbx 3).1
          simp at e0 e1 e2 e3
          refine bodyPost_ret (v := .agg #[.slice (some ⟨gp, 0, none⟩) s2.put.length p', .slice Q s2.why.length q', .slice D s2.learned.length d', .int .i64 s2.code]) (by simp [results, Try.results39, go_sem, e0, e1, e2, e3]) rfl ?_
          exact HRES.out
      · have hn1 : ¬ (s.put.length : Int) > 0 := by omega
        have hn2 : decide ((s.put.length : Int) > 0) = false := decide_eq_false hn1
        obtain ⟨m0, m0'⟩ := cell_of_block HA.out.bx 0
        obtain ⟨m1, m1'⟩ := cell_of_block HA.out.bx 1
        obtain ⟨m2, m2'⟩ := cell_of_block HA.out.bx 2
        obtain ⟨m3, m3'⟩ := cell_of_block HA.out.bx 3
        obtain ⟨o0, o0'⟩ := cell_of_block HA.out.b4 0
        obtain ⟨o1, o1'⟩ := cell_of_block HA.out.b4 1
        obtain ⟨o2, o2'⟩ := cell_of_block HA.out.b4 2
        obtain ⟨o3, o3'⟩ := cell_of_block HA.out.b4 3
        go_wp2
        have hfin := HA.out.fin (p := p) (HOS.out.mono (by omega)) (by omega) (by omega)
        try dsimp only at hfin
        generalize ((((w4.setCell ⟨b + 1, 0, none⟩ (.slice P s.put.length p')).setCell ⟨b + 1, 1, none⟩ (.slice Q s.why.length q')).setCell ⟨b + 1, 2, none⟩ (.slice D s.learned.length d')).setCell ⟨b + 1, 3, none⟩ (.int .i64 s.code)) = w9 at *
        obtain ⟨hbx, hres⟩ := hfin
        have HRES := Lib.hid hres
        clear hres
        have e0 := (cell_of_block hbx 0).1
        have e1 := (cell_of_block hbx 1).1
        have e2 := (cell_of_block hbx 2).1
        have e3 := (cell_of_block hbx 3).1
        simp at e0 e1 e2 e3
        refine bodyPost_ret (v := .agg #[.slice P s.put.length p', .slice Q s.why.length q', .slice D s.learned.length d', .int .i64 s.code]) (by simp [results, Try.results39, go_sem, e0, e1, e2, e3]) rfl ?_
        exact HRES.out
    have hkb4 : (k == 4) = false := by simpa using hk4
    clear hk4
    by_cases hk5 : k = 5
    · subst hk5
      by_cases hn9 : 0 < s.put.length
      · have hn1 : (s.put.length : Int) > 0 := by omega
        obtain ⟨gp, hgp⟩ := ownI_first HA.out.so.why (by have := HLN.out; omega)
        subst hgp
        go_wp2
        refine wp_region_rel6 [[], [(0, 81)], [], [], [(2, 83), (3, 84)], [], [], [(5, 86), (6, 87)], [(1, 82), (4, 85)], [(8, 89), (7, 88)]]
          (fun _ _ => True)
          []
          (fun v9 f9 x9 => ElI w r (p + 1 + 1) g gp #[.slice P s.put.length p', .slice (some ⟨gp, 0, none⟩) s.why.length q', .slice D s.learned.length d', .int .i64 s.code] (KWhy b g #[.int .i64 x.many, .slice A x.list.length a] FL s P D p' d') q' s.why [-1, 0, 1, -2] (v9 4) (v9 6) (v9 7) (v9 8) (f9 4) (f9 6) (f9 7) (f9 8) (f9 9) x9)
          [fun vs9 _ => vs9 0 = (.pointer (some ⟨g, 1, none⟩)),
      fun vs9 _ => vs9 1 = (.slice (some ⟨gp, 0, none⟩) s.why.length q'),
      fun vs9 _ => vs9 2 = (.pointer (some ⟨r, 0, none⟩)),
      fun vs9 _ => vs9 3 = (.int .i64 (s.put.length : Int)),
      fun _ _ => True,
      fun vs9 _ => vs9 5 = (.pointer (some ⟨r, 0, none⟩)),
      fun _ _ => True,
      fun _ _ => True,
      fun _ _ => True,
      fun _ _ => True]
          [(0, 81), (1, 82), (2, 83), (3, 84), (4, 85), (5, 86), (6, 87), (7, 88), (8, 89)] (by kernel_rfl) (by kernel_rfl) (by kernel_rfl) (by kernel_rfl)
          (fun _ => trivial) trivial
          ⟨⟨.inr (fun _ _ _ h _ => h), trivial⟩,
      ⟨.inr (fun _ _ _ h _ => h), trivial⟩,
      ⟨.inr (fun _ _ _ h _ => h), trivial⟩,
      ⟨.inr (fun _ _ _ h _ => h), trivial⟩,
      ⟨.inr (fun _ _ _ h _ => h), trivial⟩,
      ⟨.inr (fun _ _ _ h _ => h), trivial⟩,
      ⟨.inr (fun _ _ _ h _ => h), trivial⟩,
      ⟨.inr (fun _ _ _ h _ => h), trivial⟩,
      ⟨.inr (fun _ _ _ h _ => h), trivial⟩,
      ⟨.inr (fun _ _ _ h _ => h), trivial⟩, trivial⟩ ⟨fun vs vs' x h _ hv => (by dsimp only at hv ⊢; first | (rw [← h]; exact hv) | exact hv),
      fun vs vs' x h _ hv => (by dsimp only at hv ⊢; first | (rw [← h]; exact hv) | exact hv),
      fun vs vs' x h _ hv => (by dsimp only at hv ⊢; first | (rw [← h]; exact hv) | exact hv),
      fun vs vs' x h _ hv => (by dsimp only at hv ⊢; first | (rw [← h]; exact hv) | exact hv),
      fun _ _ _ _ _ _ => trivial,
      fun vs vs' x h _ hv => (by dsimp only at hv ⊢; first | (rw [← h]; exact hv) | exact hv),
      fun _ _ _ _ _ _ => trivial,
      fun _ _ _ _ _ _ => trivial,
      fun _ _ _ _ _ _ => trivial,
      fun _ _ _ _ _ _ => trivial, trivial⟩ (HA.out.beginWhy) ⟨?_, ?_, ?_, ?_, ?_, ?_, ?_, ?_, ?_, ?_, trivial⟩ ?_
        · intro vals yw f hf1 hf2 hf3 hI hF
          clear hf2 hf3
          dsimp only [owes6, bare]
          simp only [putsD, Act.put, List.setIfInBounds_toArray, List.set_cons_zero, List.set_cons_succ]
          go_wp2
          exact ⟨rfl, rfl, trivial, hI⟩
        · intro vals yw f hf1 hf2 hf3 hI hF
          clear hf2 hf3
          simp only [saysD, List.getD_cons_zero, List.getD_cons_succ, and_true] at hF
          have e81 := hF
          dsimp only [owes6, bare]
          simp only [putsD, Act.put, List.setIfInBounds_toArray, List.set_cons_zero, List.set_cons_succ]
          simp only [e81]
          have bx9 := hI.2.2.2.2.2.2.2.2
          obtain ⟨c0, _⟩ := cell_of_block bx9 1
          clear bx9
          go_wp2
          exact ⟨rfl, rfl, trivial, hI⟩
        · intro vals yw f hf1 hf2 hf3 hI hF
          clear hf2 hf3
          dsimp only [owes6, bare]
          simp only [putsD, Act.put, List.setIfInBounds_toArray, List.set_cons_zero, List.set_cons_succ]
          go_wp2
          exact ⟨rfl, rfl, trivial, hI⟩
        · intro vals yw f hf1 hf2 hf3 hI hF
          clear hf2 hf3
          dsimp only [owes6, bare]
          simp only [putsD, Act.put, List.setIfInBounds_toArray, List.set_cons_zero, List.set_cons_succ]
          go_wp2
          exact ⟨rfl, rfl, trivial, hI⟩
        · intro vals yw f hf1 hf2 hf3 hI hF
          have k7 : f 7 = false := hf3 7 (by kernel_rfl)
          have k8 : f 8 = false := hf3 8 (by kernel_rfl)
          have k9 : f 9 = false := hf3 9 (by kernel_rfl)
          clear hf2 hf3
          simp only [saysD, List.getD_cons_zero, List.getD_cons_succ, and_true] at hF
          obtain ⟨e83, e84⟩ := hF
          dsimp only [owes6, bare]
          simp only [putsD, Act.put, List.setIfInBounds_toArray, List.set_cons_zero, List.set_cons_succ]
          simp only [e83, e84]
          have HI9 := Lib.hid hI
          clear hI
          go_wp2_with fail
          refine (pick_any r (p + 1 + 1) s.put.length yw (HI9.out.2.1 hf1) (by omega) (by omega) (by omega) (by omega)).mono ?_
          rintro e wx ⟨k, rfl, k0, k1, _, hR9, hg9⟩
          have k1 := k1 (by omega)
          obtain ⟨kn, rfl⟩ := Int.eq_ofNat_of_zero_le k0
          have HN9 := Lib.hid (HI9.out.pick (k := kn) (kWhyB HA.out.gb) hf1 k7 k8 k9 hrb (by have := HLN.out; omega) hR9 (Gr.one (S := IsR r) hg9 rfl))
          clear hR9 hg9
          go_wp2
          exact ⟨rfl, trivial, trivial, HN9.out⟩
        · intro vals yw f hf1 hf2 hf3 hI hF
          clear hf2 hf3
          dsimp only [owes6, bare]
          simp only [putsD, Act.put, List.setIfInBounds_toArray, List.set_cons_zero, List.set_cons_succ]
          go_wp2
          exact ⟨rfl, rfl, trivial, hI⟩
        · intro vals yw f hf1 hf2 hf3 hI hF
          have k7 : f 7 = false := hf3 7 (by kernel_rfl)
          clear hf2 hf3
          dsimp only [owes6, bare]
          simp only [putsD, Act.put, List.setIfInBounds_toArray, List.set_cons_zero, List.set_cons_succ]
          have hrx : r < yw.heap.size := by
              cases h4 : f 4 with
              | false => exact (hI.2.1 h4).lt
              | true => exact (hI.2.2.2.1 h4 k7).lt
          have HI9 := Lib.hid hI
          clear hI
          go_wp2
          exact ⟨rfl, trivial, trivial, HI9.out.made (kWhyB HA.out.gb) rfl hrx⟩
        · intro vals yw f hf1 hf2 hf3 hI hF
          have k4 : f 4 = true := hf2 4 (by kernel_rfl)
          have k6 : f 6 = true := hf2 6 (by kernel_rfl)
          have k9 : f 9 = false := hf3 9 (by kernel_rfl)
          clear hf2 hf3
          simp only [saysD, List.getD_cons_zero, List.getD_cons_succ, and_true] at hF
          have e86 := hF
          obtain ⟨b2, e87, hs13⟩ := hI.2.2.2.2.2.1 k6 hf1
          dsimp only [owes6, bare]
          simp only [putsD, Act.put, List.setIfInBounds_toArray, List.set_cons_zero, List.set_cons_succ]
          simp only [e86, e87]
          have HS9 := Lib.hid hs13
          have HI9 := Lib.hid hI
          clear hI
          clear hs13
          go_wp2_with fail
          refine (num_any r (p + 1 + 1 + 1) (some ⟨b2, 0, none⟩) 4 [-1, 0, 1, -2] yw (HI9.out.2.2.2.1 k4 hf1) HS9.out (by simp) (by simp) (by omega) (by omega)).mono ?_
          rintro e wx ⟨y, hy, rfl, hR9, hg9⟩
          have HN9 := Lib.hid (HI9.out.num (kWhyB HA.out.gb) k4 hf1 k9 hrb (mem_lit hy (by intro z hz; simp at hz; unfold okInt; omega)) hR9 hg9)
          clear hy hR9 hg9
          go_wp2
          exact ⟨rfl, trivial, trivial, HN9.out⟩
        · intro vals yw f hf1 hf2 hf3 hI hF
          have k4 : f 4 = true := hf2 4 (by kernel_rfl)
          clear hf2 hf3
          simp only [saysD, List.getD_cons_zero, List.getD_cons_succ, and_true] at hF
          have e82 := hF
          obtain ⟨kn, e85, hkn, _⟩ := hI.2.2.1 k4
          dsimp only [owes6, bare]
          simp only [putsD, Act.put, List.setIfInBounds_toArray, List.set_cons_zero, List.set_cons_succ]
          simp only [e82, e85]
          have HE9 := Lib.hid e85
          have hkn1 : (kn : Int) < (s.why.length : Int) := by omega
          have HI9 := Lib.hid hI
          clear hI
          clear e85
          go_wp2
          exact ⟨rfl, trivial, trivial, HI9.out.ptr HE9.out⟩
        · intro vals yw f hf1 hf2 hf3 hI hF
          have k4 : f 4 = true := hf2 4 (by kernel_rfl)
          have k7 : f 7 = true := hf2 7 (by kernel_rfl)
          have k8 : f 8 = true := hf2 8 (by kernel_rfl)
          clear hf2 hf3
          simp only [saysD, List.getD_cons_zero, List.getD_cons_succ, and_true] at hF
          obtain ⟨kn, _, hkn, e89⟩ := hI.2.2.1 k4
          have e89 := e89 k8
          obtain ⟨y, e88, hy⟩ := (hI.2.2.2.2.1 k7).2
          have hk9 := (kWhyB HA.out.gb).own (hI.2.2.2.2.2.2.1 hf1)
          dsimp only [owes6, bare]
          simp only [putsD, Act.put, List.setIfInBounds_toArray, List.set_cons_zero, List.set_cons_succ]
          simp only [e89, e88]
          obtain ⟨x9, x9'⟩ := ownI_cell hk9 hkn
          have hbl9 := HBE.out
          generalize s.why[kn] = z9 at *
          have HI9 := Lib.hid hI
          clear hI
          clear hk9
          go_wp2
          exact ⟨rfl, trivial, trivial, HI9.out.store (kWhyB HA.out.gb) k4 k7 hf1 hrb (by omega) hy⟩
        · intro vals yw f hall hI hF
          rw [show List.range _ = [0, 1, 2, 3, 4, 5, 6, 7, 8, 9] from rfl] at hF
          simp only [says, List.getD_cons_zero, List.getD_cons_succ, and_true] at hF
          obtain ⟨k9, y9, hy9, hA9⟩ := HA.out.closeWhy hI (hall 7 (by decide)) (hall 9 (by decide))
          obtain ⟨s2, hs2, hA9⟩ : ∃ s2 : S, s2 = ⟨s.put, s.why.set k9 y9, s.learned, s.code⟩ ∧ StA w b r (p + 1 + 1 + 1 + 1) #[.int .i64 x.many, .slice A x.list.length a] g FL s2 P (some ⟨gp, 0, none⟩) D p' q' d' yw := ⟨_, rfl, hA9⟩
          have HA7 := Lib.hid hA9
          have OKs2 : Hid (okS 0 s2) := Lib.hid (by rw [hs2]; exact HOS.out.setWhy hy9)
          simp only [putsD, Act.put, List.setIfInBounds_toArray, List.set_cons_zero, List.set_cons_succ]
          clear hI hF hall hA9 hs2 hy9
          obtain ⟨m0, m0'⟩ := cell_of_block HA7.out.bx 0
          obtain ⟨m1, m1'⟩ := cell_of_block HA7.out.bx 1
          obtain ⟨m2, m2'⟩ := cell_of_block HA7.out.bx 2
          obtain ⟨m3, m3'⟩ := cell_of_block HA7.out.bx 3
          obtain ⟨o0, o0'⟩ := cell_of_block HA7.out.b4 0
          obtain ⟨o1, o1'⟩ := cell_of_block HA7.out.b4 1
          obtain ⟨o2, o2'⟩ := cell_of_block HA7.out.b4 2
          obtain ⟨o3, o3'⟩ := cell_of_block HA7.out.b4 3
          go_wp2
          have hfin := HA7.out.fin (p := p) (OKs2.out.mono (by omega)) (by omega) (by omega)
          try dsimp only at hfin
          generalize ((((yw.setCell ⟨b + 1, 0, none⟩ (.slice P s2.put.length p')).setCell ⟨b + 1, 1, none⟩ (.slice (some ⟨gp, 0, none⟩) s2.why.length q')).setCell ⟨b + 1, 2, none⟩ (.slice D s2.learned.length d')).setCell ⟨b + 1, 3, none⟩ (.int .i64 s2.code)) = w9 at *
          obtain ⟨hbx, hres⟩ := hfin
          have HRES := Lib.hid hres
          clear hres
          have e0 := (cell_of_block hbx 0).1
          have e1 := (cell_of_block hbx 1).1
          have e2 := (cell_of_block hbx 2).1
          have e3 := (cell_of_block hbx 3).1
          simp at e0 e1 e2 e3
          refine bodyPost_ret (v := .agg #[.slice P s2.put.length p', .slice (some ⟨gp, 0, none⟩) s2.why.length q', .slice D s2.learned.length d', .int .i64 s2.code]) (by simp [results, Try.results39, go_sem, e0, e1, e2, e3]) rfl ?_
          exact HRES.out
      · have hn1 : ¬ (s.put.length : Int) > 0 := by omega
        have hn2 : decide ((s.put.length : Int) > 0) = false := decide_eq_false hn1
        obtain ⟨m0, m0'⟩ := cell_of_block HA.out.bx 0
        obtain ⟨m1, m1'⟩ := cell_of_block HA.out.bx 1
        obtain ⟨m2, m2'⟩ := cell_of_block HA.out.bx 2
        obtain ⟨m3, m3'⟩ := cell_of_block HA.out.bx 3
        obtain ⟨o0, o0'⟩ := cell_of_block HA.out.b4 0
        obtain ⟨o1, o1'⟩ := cell_of_block HA.out.b4 1
        obtain ⟨o2, o2'⟩ := cell_of_block HA.out.b4 2
        obtain ⟨o3, o3'⟩ := cell_of_block HA.out.b4 3
        go_wp2
        have hfin := HA.out.fin (p := p) (HOS.out.mono (by omega)) (by omega) (by omega)
        try dsimp only at hfin
        generalize ((((w4.setCell ⟨b + 1, 0, none⟩ (.slice P s.put.length p')).setCell ⟨b + 1, 1, none⟩ (.slice Q s.why.length q')).setCell ⟨b + 1, 2, none⟩ (.slice D s.learned.length d')).setCell ⟨b + 1, 3, none⟩ (.int .i64 s.code)) = w9 at *
        obtain ⟨hbx, hres⟩ := hfin
        have HRES := Lib.hid hres
        clear hres
        have e0 := (cell_of_block hbx 0).1
        have e1 := (cell_of_block hbx 1).1
        have e2 := (cell_of_block hbx 2).1
        have e3 := (cell_of_block hbx 3).1
        simp at e0 e1 e2 e3
        refine bodyPost_ret (v := .agg #[.slice P s.put.length p', .slice Q s.why.length q', .slice D s.learned.length d', .int .i64 s.code]) (by simp [results, Try.results39, go_sem, e0, e1, e2, e3]) rfl ?_
        exact HRES.out
    have hkb5 : (k == 5) = false := by simpa using hk5
    clear hk5
    by_cases hk6 : k = 6
    · subst hk6
      by_cases hn9 : 0 < s.put.length
      · have hn1 : (s.put.length : Int) > 0 := by omega
        obtain ⟨m, hm⟩ : ∃ m, m = s.put.length - 1 := ⟨_, rfl⟩
        have hcp := (OwnI.cap HA.out.so.put)
        have hcq := (OwnI.cap HA.out.so.why)
        have hsp := slice_hI HA.out.so.put.rd m (by omega) hcp
        have hsq := slice_hI HA.out.so.why.rd m (by have := HLN.out; omega) hcq
        have em : ((m : Nat) : Int) = (s.put.length : Int) - 1 := by omega
        have e1 : IntKind.i64.wrap ((s.put.length : Int) - 1) = (s.put.length : Int) - 1 := IntWalk.i64_in _ (by omega)
        rw [em] at hsp hsq
        have HA7 := Lib.hid (HA.out.shortPut (n := m) (by omega))
        have HA8 := Lib.hid (HA7.out.shortWhy (n := m) (by have := HLN.out; show m ≤ s.why.length; omega))
        have HOK6 : Hid (okS 3 ⟨s.put.take m, s.why.take m, s.learned, s.code⟩) := Lib.hid ((HOS.out.mono (by omega)).short)
        obtain ⟨ps, hps⟩ : ∃ ps, ps = s.put.take m := ⟨_, rfl⟩
        obtain ⟨qs, hqs⟩ : ∃ qs, qs = s.why.take m := ⟨_, rfl⟩
        rw [← hps] at hsp HA7 HA8 HOK6
        rw [← hqs] at hsq HA8 HOK6
        clear hps hqs em hm hcp hcq
        obtain ⟨m0, m0'⟩ := cell_of_block HA.out.bx 0
        obtain ⟨m1, m1'⟩ := cell_of_block HA.out.bx 1
        obtain ⟨m2, m2'⟩ := cell_of_block HA.out.bx 2
        obtain ⟨m3, m3'⟩ := cell_of_block HA.out.bx 3
        obtain ⟨o0, o0'⟩ := cell_of_block HA.out.b4 0
        obtain ⟨o1, o1'⟩ := cell_of_block HA.out.b4 1
        obtain ⟨o2, o2'⟩ := cell_of_block HA.out.b4 2
        obtain ⟨o3, o3'⟩ := cell_of_block HA.out.b4 3
        go_wp2
        have hfin := HA8.out.fin (p := p) HOK6.out (by omega) (by omega)
        try dsimp only at hfin
        generalize ((((((w4.setCell ⟨g, 0, none⟩ (.slice P ps.length p')).setCell ⟨g, 1, none⟩ (.slice Q qs.length q')).setCell ⟨b + 1, 0, none⟩ (.slice P ps.length p')).setCell ⟨b + 1, 1, none⟩ (.slice Q qs.length q')).setCell ⟨b + 1, 2, none⟩ (.slice D s.learned.length d')).setCell ⟨b + 1, 3, none⟩ (.int .i64 s.code)) = w9 at *
        obtain ⟨hbx, hres⟩ := hfin
        have HRES := Lib.hid hres
        clear hres
        have e0 := (cell_of_block hbx 0).1
        have e1 := (cell_of_block hbx 1).1
        have e2 := (cell_of_block hbx 2).1
        have e3 := (cell_of_block hbx 3).1
        simp at e0 e1 e2 e3
        refine bodyPost_ret (v := .agg #[.slice P ps.length p', .slice Q qs.length q', .slice D s.learned.length d', .int .i64 s.code]) (by simp [results, Try.results39, go_sem, e0, e1, e2, e3]) rfl ?_
        exact HRES.out
      · have hn1 : ¬ (s.put.length : Int) > 0 := by omega
        have hn2 : decide ((s.put.length : Int) > 0) = false := decide_eq_false hn1
        obtain ⟨m0, m0'⟩ := cell_of_block HA.out.bx 0
        obtain ⟨m1, m1'⟩ := cell_of_block HA.out.bx 1
        obtain ⟨m2, m2'⟩ := cell_of_block HA.out.bx 2
        obtain ⟨m3, m3'⟩ := cell_of_block HA.out.bx 3
        obtain ⟨o0, o0'⟩ := cell_of_block HA.out.b4 0
        obtain ⟨o1, o1'⟩ := cell_of_block HA.out.b4 1
        obtain ⟨o2, o2'⟩ := cell_of_block HA.out.b4 2
        obtain ⟨o3, o3'⟩ := cell_of_block HA.out.b4 3
        go_wp2
        have hfin := HA.out.fin (p := p) (HOS.out.mono (by omega)) (by omega) (by omega)
        try dsimp only at hfin
        generalize ((((w4.setCell ⟨b + 1, 0, none⟩ (.slice P s.put.length p')).setCell ⟨b + 1, 1, none⟩ (.slice Q s.why.length q')).setCell ⟨b + 1, 2, none⟩ (.slice D s.learned.length d')).setCell ⟨b + 1, 3, none⟩ (.int .i64 s.code)) = w9 at *
        obtain ⟨hbx, hres⟩ := hfin
        have HRES := Lib.hid hres
        clear hres
        have e0 := (cell_of_block hbx 0).1
        have e1 := (cell_of_block hbx 1).1
        have e2 := (cell_of_block hbx 2).1
        have e3 := (cell_of_block hbx 3).1
        simp at e0 e1 e2 e3
        refine bodyPost_ret (v := .agg #[.slice P s.put.length p', .slice Q s.why.length q', .slice D s.learned.length d', .int .i64 s.code]) (by simp [results, Try.results39, go_sem, e0, e1, e2, e3]) rfl ?_
        exact HRES.out
    have hkb6 : (k == 6) = false := by simpa using hk6
    clear hk6
    by_cases hk7 : k = 7
    · subst hk7
      obtain ⟨ps, hps⟩ : ∃ ps, ps = s.put ++ [x.many] := ⟨_, rfl⟩
      obtain ⟨qs, hqs⟩ : ∃ qs, qs = s.why ++ [-1] := ⟨_, rfl⟩
      have HPS := Lib.hid hps
      have HQS := Lib.hid hqs
      have HOK6 : Hid (okS 2 ⟨ps, qs, s.learned, s.code⟩) := Lib.hid (by rw [hps, hqs]; exact (HOS.out.addPut (y := x.many) (by have := ((cnfOk_iff x).1 HS.out.cnf); unfold okInt; omega)).addWhy (y := -1) (by unfold okInt; omega))
      clear hps hqs
      obtain ⟨m0, m0'⟩ := cell_of_block HA.out.bx 0
      obtain ⟨n0, n0'⟩ := cell_of_block HA.out.b3 0
      have hbl : b ≤ w4.heap.size := by have := HA.out.so.glo; omega
      go_wp2_with (at_builtin; first
        | (refine wpList_append_int8 (ys := ps) (by rfl) (.tmp 109) (.tmp 112) (by rfl) (by rfl) (by rfl) HA.out.so.put (by omega) hbl HPS.out ?_; intro A7 c7 w7 hown7 hg7 hbk7; obtain ⟨hz7, hA7⟩ := HA.out.addPut hown7 hg7 hbk7; have HA7 := Lib.hid hA7; have HZ7 := Lib.hid (hz7.1.trans HA.out.bx); have hbl7 : b ≤ (w7.setCell ⟨g, 0, none⟩ (.slice A7 ps.length c7)).heap.size := (by have := hA7.so.glo; omega); have hw7 : (w7.setCell ⟨g, 0, none⟩ (.slice A7 ps.length c7)).heap.size = w7.heap.size := (by simp [World.setCell]); clear hown7 hg7 hbk7 hz7 hA7 m0 m0' n0 n0'; obtain ⟨x0, x0'⟩ := cell_of_block HZ7.out 0; obtain ⟨x1, x1'⟩ := cell_of_block HZ7.out 1)
        | (refine wpList_append_intB (b := w7.heap.size) (ys := qs) (by rfl) (.tmp 116) (.tmp 117) (by rfl) (by rfl) (by rfl) hw7.symm HA7.out.so.why (by show s.why.length ≤ 2000000; omega) hbl7 HQS.out ?_; intro A8 c8 w8 hown8 hg8 hbk8; obtain ⟨hz8, hA8⟩ := HA7.out.addWhy hown8 hg8 hbk8; have HA8 := Lib.hid hA8; have HZ8 := Lib.hid (hz8.1.trans HA7.out.bx); have HY8 := Lib.hid (hz8.2.2.trans HA7.out.b4); clear hown8 hg8 hbk8 hz8 hA8 x0 x0' x1 x1' hw7 hbl7; obtain ⟨x0, x0'⟩ := cell_of_block HZ8.out 0; obtain ⟨x1, x1'⟩ := cell_of_block HZ8.out 1; obtain ⟨x2, x2'⟩ := cell_of_block HZ8.out 2; obtain ⟨x3, x3'⟩ := cell_of_block HZ8.out 3; obtain ⟨o0, o0'⟩ := cell_of_block HY8.out 0; obtain ⟨o1, o1'⟩ := cell_of_block HY8.out 1; obtain ⟨o2, o2'⟩ := cell_of_block HY8.out 2; obtain ⟨o3, o3'⟩ := cell_of_block HY8.out 3))
      have hfin := HA8.out.fin (p := p) (HOK6.out.mono (by omega)) (by omega) (by omega)
      try dsimp only at hfin
      generalize (((((w8.setCell ⟨g, 1, none⟩ (.slice A8 qs.length c8)).setCell ⟨b + 1, 0, none⟩ (.slice A7 ps.length c7)).setCell ⟨b + 1, 1, none⟩ (.slice A8 qs.length c8)).setCell ⟨b + 1, 2, none⟩ (.slice D s.learned.length d')).setCell ⟨b + 1, 3, none⟩ (.int .i64 s.code)) = w9 at *
      obtain ⟨hbx, hres⟩ := hfin
      have HRES := Lib.hid hres
      clear hres
      have e0 := (cell_of_block hbx 0).1
      have e1 := (cell_of_block hbx 1).1
      have e2 := (cell_of_block hbx 2).1
      have e3 := (cell_of_block hbx 3).1
      simp at e0 e1 e2 e3
      refine bodyPost_ret (v := .agg #[.slice A7 ps.length c7, .slice A8 qs.length c8, .slice D s.learned.length d', .int .i64 s.code]) (by simp [results, Try.results39, go_sem, e0, e1, e2, e3]) rfl ?_
      exact HRES.out
    have hkb7 : (k == 7) = false := by simpa using hk7
    clear hk7
    obtain ⟨m0, m0'⟩ := cell_of_block HA.out.bx 0
    obtain ⟨m1, m1'⟩ := cell_of_block HA.out.bx 1
    obtain ⟨m2, m2'⟩ := cell_of_block HA.out.bx 2
    obtain ⟨m3, m3'⟩ := cell_of_block HA.out.bx 3
    obtain ⟨o0, o0'⟩ := cell_of_block HA.out.b4 0
    obtain ⟨o1, o1'⟩ := cell_of_block HA.out.b4 1
    obtain ⟨o2, o2'⟩ := cell_of_block HA.out.b4 2
    obtain ⟨o3, o3'⟩ := cell_of_block HA.out.b4 3
    go_wp2
    have hfin := HA.out.fin (p := p) (HOS.out.mono (by omega)) (by omega) (by omega)
    try dsimp only at hfin
    generalize ((((w4.setCell ⟨b + 1, 0, none⟩ (.slice P s.put.length p')).setCell ⟨b + 1, 1, none⟩ (.slice Q s.why.length q')).setCell ⟨b + 1, 2, none⟩ (.slice D s.learned.length d')).setCell ⟨b + 1, 3, none⟩ (.int .i64 s.code)) = w9 at *
    obtain ⟨hbx, hres⟩ := hfin
    have HRES := Lib.hid hres
    clear hres
    have e0 := (cell_of_block hbx 0).1
    have e1 := (cell_of_block hbx 1).1
    have e2 := (cell_of_block hbx 2).1
    have e3 := (cell_of_block hbx 3).1
    simp at e0 e1 e2 e3
    refine bodyPost_ret (v := .agg #[.slice P s.put.length p', .slice Q s.why.length q', .slice D s.learned.length d', .int .i64 s.code]) (by simp [results, Try.results39, go_sem, e0, e1, e2, e3]) rfl ?_
    exact HRES.out
end Go.Proofs.Ytbljfhmcebgdaaa
