/- The reference's CtxAssert. -/
import Derived.Test.YtiahmfpfimmbgaaGreatDoorJFnCtx14
import Derived.Test.YtiahmfpfimmbgaaGreatDoorJFnCtx15
/-! The reference's CtxAssert. -/
namespace Go.Proofs.YtiahmfpfimmbgaaGreatDoor
open Go Go.RowKit Go.ChangeShapes Go.WideShapes Go.ChangeAt Go.Deep

set_option maxRecDepth 100000 in
set_option maxHeartbeats 16000000 in
theorem specCtxAssert_c (c : List Ly) (t : T) (A : Option Addr) (q : Nat) (A0 : Option Addr) (c0 : Nat) (w : World) (h : Lay.layer.Rd w A c) (hq : c.length ≤ q) (hs : okC c) (h0 : Lay.term.Rd w A0 t.kids) (hc0 : t.kids.length ≤ c0) (ht : T.All okT3 t) :
    Calls Tryz.prog 31 #[.slice A c.length q, .agg #[.int .i64 t.op, .int .i64 t.a, .int .i64 t.b, .string t.name, .slice A0 t.kids.length c0]] w (RetRd2 (ctxAssert c t) w) := by
  have hc := hs
  have hal0 : Below w.heap.size w (w.alloc (.cells #[.int .i64 t.op, .int .i64 t.a, .int .i64 t.b, .string t.name, .slice A0 t.kids.length c0] 48)) := (Below.refl _ _).alloc (Nat.le_refl _) _
  have hbx0 := heap_alloc_new w (.cells #[.int .i64 t.op, .int .i64 t.a, .int .i64 t.b, .string t.name, .slice A0 t.kids.length c0] 48)
  have HO := Lib.hid (specCtxOk_any A q c (w.alloc (.cells #[.int .i64 t.op, .int .i64 t.a, .int .i64 t.b, .string t.name, .slice A0 t.kids.length c0] 48)) (h.up hal0) hq hc)
  have HCP := Lib.hid (fun (z : World) (hz : Lay.layer.Rd z A c) => l10Copy_any A q c z hz hc.len (okC_l2 hs))
  have HL3 := Lib.hid (fun (z : World) (hz : Lay.term.Sl z (fun b => b < w.heap.size) A0 t.kids) (hsz : w.heap.size ≤ z.heap.size) => l3Copy_any t (ht.imp fun _ h => h.1) A0 c0 (fun b => b < w.heap.size) z hz (fun b hb => Nat.lt_of_lt_of_le hb hsz))
  obtain ⟨r, hr⟩ : ∃ r, r = ctxOk c := ⟨_, rfl⟩
  rw [← hr] at HO
  obtain ⟨x, hx⟩ : ∃ x, x = addT c t := ⟨_, rfl⟩
  have HXX := Lib.hid hx
  have HX : Hid (ctxAssert c t = if r = true then (if ctxOk x = true then (x, true) else (c, false)) else ([], false)) := Lib.hid (by rw [hr, hx]; rfl)
  have HLS : Hid (r = true → ∃ xs l, c = xs ++ [l] ∧ x = xs ++ [⟨l.ds, l.ts ++ [t]⟩] ∧ l.ds.length ≤ 4 ∧ l.ts.length ≤ 8 ∧ xs.length ≤ 6) := Lib.hid (fun e => by
    have hk : ctxOk c = true := by rw [← hr]; exact e
    have h4 := declOk_len (ctxOk_parts hk).2.2.1
    have h6 := (ctxOk_parts hk).2.1
    have h8 := (ctxOk_parts hk).2.2.2.1
    obtain ⟨xs, l, rfl⟩ := last_of (ctxOk_parts hk).1
    rw [dsAll_app, dsAll_one, List.length_append] at h4
    rw [tsAll_app, tsAll_one, List.length_append] at h8
    rw [List.length_append] at h6
    exact ⟨xs, l, rfl, by rw [hx, addT_app], by omega, by omega, by omega⟩)
  have HXK : Hid (r = true → ctxOk x = (sort0 (dsAll c) t && decide ((tsAll c).length < 8))) := Lib.hid (fun e => by
    have hk : ctxOk c = true := by rw [← hr]; exact e
    rw [hx]
    obtain ⟨xs, l, rfl⟩ := last_of (ctxOk_parts hk).1
    rw [addT_app]
    exact ctxOk_addT t hk)
  have HDC := Lib.hid (fun (z : World) (hz : Lay.layer.Rd z A c) => l10Decls_any A q c z hz hc.len hc.ds)
  have HTC := Lib.hid (fun (z : World) (hz : Lay.layer.Rd z A c) => l10Terms_any A q c z hz hc.len hc.ts)
  have HNM := Lib.hid hc.names
  have hdl := hc.ds
  have htl9 := hc.ts
  have HSC := Lib.hid (fun (z : World) (A7 : Option Addr) (c7 : Nat) (hz : Lay.term.Rd z A0 t.kids) (hd : Lay.decl.Rd z A7 (dsAll c)) (hc7 : (dsAll c).length ≤ c7) => specTermSort_any (dsAll c) t (ht.imp fun _ h => h.1) HNM.out (by omega) A0 A7 c0 c7 _ z hz hd (fun _ h => h) hc7)
  have HW := Lib.hid h
  have HK := Lib.hid h0
  have HAL0 := Lib.hid hal0
  have HBX0 := Lib.hid hbx0
  obtain ⟨z, hz⟩ : ∃ z, z = tsort (dsAll c) t := ⟨_, rfl⟩
  rw [← hz] at HSC
  have HZ := Lib.hid hz
  obtain ⟨ds, hds⟩ : ∃ ds, ds = dsAll c := ⟨_, rfl⟩
  obtain ⟨ts0, hts0⟩ : ∃ ts0, ts0 = tsAll c := ⟨_, rfl⟩
  rw [← hds] at HXK HDC HSC HZ hdl
  rw [← hts0] at HXK HTC htl9
  clear hc hr hs h hx hal0 hbx0 hq h0 hz hds hts0 ht HNM
  go_enter Tryz.func31, Tryz.ntmps31
  go_wp2_with fail
  generalize w.alloc (.cells #[.int .i64 t.op, .int .i64 t.a, .int .i64 t.b, .string t.name, .slice A0 t.kids.length c0] 48) = W0 at *
  obtain ⟨bd, hbd⟩ : ∃ bd, bd = w.heap.size := ⟨_, rfl⟩
  have HBD := Lib.hid hbd
  rw [← hbd] at HBX0 ⊢
  clear hbd
  refine HO.out.mono ?_
  rintro e w2 ⟨rfl, hb2⟩
  have HB2 := Lib.hid (bthen HAL0.out hb2)
  have HBX2 := Lib.hid ((hb2.block _ (lt_of_block HBX0.out)).trans HBX0.out)
  clear HO
  cases r
  · have hal := HB2.out.alloc HB2.out.size (.cells #[] 58)
    have HAL := Lib.hid hal
    clear hal hb2
    go_wp2
    refine bodyPost_ret (v := .tuple #[.slice (some ⟨w2.heap.size, 0, none⟩) 0 0, .bool false]) (by simp [results, Tryz.results31, go_sem]) rfl ?_
    rw [show ctxAssert c t = ([], false) from by rw [HX.out]; rfl]
    exact ⟨_, _, rfl, Nat.zero_le _, RdO.nil _ _ _, HAL.out⟩
  have HXT : Hid (ctxAssert c t = if ctxOk x = true then (x, true) else (c, false)) := Lib.hid (by rw [HX.out]; rfl)
  clear HX hb2
  have kk0 := Later.cell (cell_of_block HBX2.out 0).1
  have kk1 := Later.cell (cell_of_block HBX2.out 1).1
  have kk2 := Later.cell (cell_of_block HBX2.out 2).1
  have kk3 := Later.cell (cell_of_block HBX2.out 3).1
  have kk4 := Later.cell (cell_of_block HBX2.out 4).1
  by_cases hz0 : z = 0
  rotate_left
  · have gz : (z != 0) = true := by simpa using hz0
    have HNO : Hid (ctxOk x = false) := Lib.hid (by rw [HXK.out (by trivial), sort0_no (by rw [← HZ.out]; exact hz0)]; rfl)
    go_wp2
    refine wp_region_rel4 [[], [(0, 12)], [], [(1, 13), (2, 14)], [(3, 15)], [(4, 16)], [(5, 17)], [(5, 17), (6, 18)], [(5, 17), (7, 19)], [(5, 17), (8, 20)], [(5, 17), (9, 21)]]
      (fun y y' => Below y.heap.size y y')
      []
      (fun _ yy => Below w2.heap.size w2 yy)
      [fun vs9 _ => vs9 0 = (.slice A c.length q),
    fun vs9 y9 => (fun v y => ∃ A7 c7, v = .slice A7 ds.length c7 ∧ ds.length ≤ c7 ∧ Lay.decl.Rd y A7 ds) (vs9 1) y9,
    fun vs9 _ => vs9 2 = (.agg #[.int .i64 t.op, .int .i64 t.a, .int .i64 t.b, .string t.name, .slice A0 t.kids.length c0]),
    fun vs9 _ => vs9 3 = (.int .i64 z),
    fun vs9 _ => vs9 4 = (.bool true),
    fun vs9 _ => vs9 5 = (.bool true),
    fun vs9 _ => vs9 6 = undef,
    fun vs9 _ => vs9 7 = undef,
    fun vs9 _ => vs9 8 = undef,
    fun vs9 _ => vs9 9 = undef,
    fun vs9 _ => vs9 10 = (.bool true)]
      [(0, 12), (1, 13), (2, 14), (3, 15), (4, 16), (5, 17), (6, 18), (7, 19), (8, 20), (9, 21), (10, 22)] (by kernel_rfl) (by kernel_rfl) (by kernel_rfl) (by kernel_rfl)
      (fun _ => Below.refl _ _) trivial
      ⟨⟨.inr (fun _ _ _ h _ => h), trivial⟩,
    ⟨.inr (fun vs9 x9 y9 h9 hR9 => (show ∀ v9 y8 y7, (fun v y => ∃ A7 c7, v = .slice A7 ds.length c7 ∧ ds.length ≤ c7 ∧ Lay.decl.Rd y A7 ds) v9 y8 → (fun y y' => Below y.heap.size y y') y8 y7 → (fun v y => ∃ A7 c7, v = .slice A7 ds.length c7 ∧ ds.length ≤ c7 ∧ Lay.decl.Rd y A7 ds) v9 y7 from fun _ _ _ ⟨A7, c7, h1, h2, h3⟩ hR => ⟨A7, c7, h1, h2, h3.up hR⟩) (vs9 1) x9 y9 h9 hR9), trivial⟩,
    ⟨.inr (fun _ _ _ h _ => h), trivial⟩,
    ⟨.inr (fun _ _ _ h _ => h), trivial⟩,
    ⟨.inr (fun _ _ _ h _ => h), trivial⟩,
    ⟨.inr (fun _ _ _ h _ => h), trivial⟩,
    ⟨.inr (fun _ _ _ h _ => h), trivial⟩,
    ⟨.inr (fun _ _ _ h _ => h), trivial⟩,
    ⟨.inr (fun _ _ _ h _ => h), trivial⟩,
    ⟨.inr (fun _ _ _ h _ => h), trivial⟩,
    ⟨.inr (fun _ _ _ h _ => h), trivial⟩, trivial⟩ ⟨fun vs vs' x h _ hv => (by dsimp only at hv ⊢; first | (rw [← h]; exact hv) | exact hv),
    fun vs vs' x h _ hv => (by dsimp only at hv ⊢; first | (rw [← h]; exact hv) | exact hv),
    fun vs vs' x h _ hv => (by dsimp only at hv ⊢; first | (rw [← h]; exact hv) | exact hv),
    fun vs vs' x h _ hv => (by dsimp only at hv ⊢; first | (rw [← h]; exact hv) | exact hv),
    fun vs vs' x h _ hv => (by dsimp only at hv ⊢; first | (rw [← h]; exact hv) | exact hv),
    fun vs vs' x h _ hv => (by dsimp only at hv ⊢; first | (rw [← h]; exact hv) | exact hv),
    fun vs vs' x h _ hv => (by dsimp only at hv ⊢; first | (rw [← h]; exact hv) | exact hv),
    fun vs vs' x h _ hv => (by dsimp only at hv ⊢; first | (rw [← h]; exact hv) | exact hv),
    fun vs vs' x h _ hv => (by dsimp only at hv ⊢; first | (rw [← h]; exact hv) | exact hv),
    fun vs vs' x h _ hv => (by dsimp only at hv ⊢; first | (rw [← h]; exact hv) | exact hv),
    fun vs vs' x h _ hv => (by dsimp only at hv ⊢; first | (rw [← h]; exact hv) | exact hv), trivial⟩ (below_drewN (Below.refl _ _) 1) ⟨?_, ?_, ?_, ?_, ?_, ?_, ?_, ?_, ?_, ?_, ?_, trivial⟩ ?_
    · intro vals xw f hf1 hf2 hf3 hI hF
      clear hf2 hf3
      dsimp only [owes4, bare]
      simp only [putsD, Act.put, List.setIfInBounds_toArray, List.set_cons_zero, List.set_cons_succ]
      go_wp2
      exact ⟨rfl, rfl, Below.refl _ _, hI⟩
    · intro vals xw f hf1 hf2 hf3 hI hF
      clear hf2 hf3
      simp only [saysD, List.getD_cons_zero, List.getD_cons_succ, and_true] at hF
      have e12 := hF
      dsimp only [owes4, bare]
      simp only [putsD, Act.put, List.setIfInBounds_toArray, List.set_cons_zero, List.set_cons_succ]
      simp only [e12]
      have HC9 := Lib.hid (HDC.out xw (HW.out.up (bthen HB2.out hI)))
      have HII := Lib.hid hI
      go_wp2_with fail
      refine HC9.out.mono ?_
      rintro e w9 ⟨A7, c7, rfl, ho, hb9⟩
      have HR7 := Lib.hid (And.intro (OwnDs.cap ho).2 ho.rd)
      have HB9 := Lib.hid hb9
      clear ho hb9
      go_wp2
      exact ⟨rfl, ⟨A7, c7, rfl, HR7.out⟩, HB9.out, bthen HII.out HB9.out⟩
    · intro vals xw f hf1 hf2 hf3 hI hF
      clear hf2 hf3
      dsimp only [owes4, bare]
      simp only [putsD, Act.put, List.setIfInBounds_toArray, List.set_cons_zero, List.set_cons_succ]
      have c90 : xw.cell? _ = _ := kk0 ⟨xw, hI⟩
      have c91 : xw.cell? _ = _ := kk1 ⟨xw, hI⟩
      have c92 : xw.cell? _ = _ := kk2 ⟨xw, hI⟩
      have c93 : xw.cell? _ = _ := kk3 ⟨xw, hI⟩
      have c94 : xw.cell? _ = _ := kk4 ⟨xw, hI⟩
      go_wp2
      exact ⟨rfl, rfl, Below.refl _ _, hI⟩
    · intro vals xw f hf1 hf2 hf3 hI hF
      clear hf2 hf3
      simp only [saysD, List.getD_cons_zero, List.getD_cons_succ, and_true] at hF
      obtain ⟨⟨A7, c7, e13, hc7, hd7⟩, e14⟩ := hF
      dsimp only [owes4, bare]
      simp only [putsD, Act.put, List.setIfInBounds_toArray, List.set_cons_zero, List.set_cons_succ]
      simp only [e13, e14]
      have HC9 := Lib.hid (HSC.out xw A7 c7 (HK.out.up (bthen HB2.out hI)) hd7 hc7)
      have HII := Lib.hid hI
      clear hd7
      go_wp2_with fail
      refine HC9.out.mono ?_
      rintro e w9 ⟨rfl, hb9⟩
      have HB9 := Lib.hid hb9
      clear hb9
      go_wp2
      exact ⟨rfl, rfl, HB9.out, bthen HII.out HB9.out⟩
    · intro vals xw f hf1 hf2 hf3 hI hF
      clear hf2 hf3
      simp only [saysD, List.getD_cons_zero, List.getD_cons_succ, and_true] at hF
      have e15 := hF
      dsimp only [owes4, bare]
      simp only [putsD, Act.put, List.setIfInBounds_toArray, List.set_cons_zero, List.set_cons_succ]
      simp only [e15]
      go_wp2
      exact ⟨rfl, rfl, Below.refl _ _, hI⟩
    · intro vals xw f hf1 hf2 hf3 hI hF
      clear hf2 hf3
      simp only [saysD, List.getD_cons_zero, List.getD_cons_succ, and_true] at hF
      have e16 := hF
      dsimp only [owes4, bare]
      simp only [putsD, Act.put, List.setIfInBounds_toArray, List.set_cons_zero, List.set_cons_succ]
      simp only [e16]
      go_wp2
      exact ⟨rfl, rfl, Below.refl _ _, hI⟩
    · intro vals xw f hf1 hf2 hf3 hI hF
      clear hf2 hf3
      simp only [saysD, List.getD_cons_zero, List.getD_cons_succ, and_true] at hF
      have e17 := hF
      dsimp only [owes4, bare]
      exact ⟨fun h => absurd (e17.symm.trans h) (by simp), fun _ => ⟨rfl, hI⟩⟩
    · intro vals xw f hf1 hf2 hf3 hI hF
      clear hf2 hf3
      simp only [saysD, List.getD_cons_zero, List.getD_cons_succ, and_true] at hF
      obtain ⟨e17, e18⟩ := hF
      dsimp only [owes4, bare]
      exact ⟨fun h => absurd (e17.symm.trans h) (by simp), fun _ => ⟨rfl, hI⟩⟩
    · intro vals xw f hf1 hf2 hf3 hI hF
      clear hf2 hf3
      simp only [saysD, List.getD_cons_zero, List.getD_cons_succ, and_true] at hF
      obtain ⟨e17, e19⟩ := hF
      dsimp only [owes4, bare]
      exact ⟨fun h => absurd (e17.symm.trans h) (by simp), fun _ => ⟨rfl, hI⟩⟩
    · intro vals xw f hf1 hf2 hf3 hI hF
      clear hf2 hf3
      simp only [saysD, List.getD_cons_zero, List.getD_cons_succ, and_true] at hF
      obtain ⟨e17, e20⟩ := hF
      dsimp only [owes4, bare]
      exact ⟨fun h => absurd (e17.symm.trans h) (by simp), fun _ => ⟨rfl, hI⟩⟩
    · intro vals xw f hf1 hf2 hf3 hI hF
      clear hf2 hf3
      simp only [saysD, List.getD_cons_zero, List.getD_cons_succ, and_true] at hF
      obtain ⟨e17, e21⟩ := hF
      dsimp only [owes4, bare]
      simp only [putsD, Act.put, List.setIfInBounds_toArray, List.set_cons_zero, List.set_cons_succ]
      simp only [e17, e21]
      go_wp2
      exact ⟨rfl, rfl, Below.refl _ _, hI⟩
    · intro vals xw f hall hI hF
      rw [show List.range _ = [0, 1, 2, 3, 4, 5, 6, 7, 8, 9, 10] from rfl] at hF
      simp only [says, List.getD_cons_zero, List.getD_cons_succ, and_true] at hF
      have e22 := hF.2.2.2.2.2.2.2.2.2.2
      have HB7 := Lib.hid (bthen HB2.out hI)
      simp only [putsD, Act.put, List.setIfInBounds_toArray, List.set_cons_zero, List.set_cons_succ]
      simp only [e22]
      clear hF e22 kk0 kk1 kk2 kk3 kk4
      go_wp2_with fail
      refine (HCP.out xw (HW.out.up HB7.out)).mono ?_
      rintro e w3 ⟨A3, c3, rfl, ho, hb3⟩
      have HB3 := Lib.hid (bthen HB7.out hb3)
      have HO3 := Lib.hid ho
      clear ho hb3
      go_wp2
      refine bodyPost_ret (v := .tuple #[.slice A3 c.length c3, .bool false]) (by simp [results, Tryz.results31, go_sem]) rfl ?_
      rw [show ctxAssert c t = (c, false) from by rw [HXT.out, HNO.out]; rfl]
      exact ⟨A3, c3, rfl, HO3.out.cap.2, HO3.out.rdR, HB3.out⟩
  subst hz0
  by_cases h8 : 8 ≤ ts0.length
  · have h8i : (8 : Int) ≤ (ts0.length : Int) := by omega
    have HNO : Hid (ctxOk x = false) := Lib.hid (by rw [HXK.out (by trivial), decide_eq_false (by omega : ¬ ts0.length < 8), Bool.and_false])
    go_wp2
    refine wp_region_rel4 [[], [(0, 12)], [], [(1, 13), (2, 14)], [(3, 15)], [(4, 16)], [(5, 17)], [(5, 17), (6, 18)], [(5, 17), (7, 19)], [(5, 17), (8, 20)], [(5, 17), (9, 21)]]
      (fun y y' => Below y.heap.size y y')
      []
      (fun _ yy => Below w2.heap.size w2 yy)
      [fun vs9 _ => vs9 0 = (.slice A c.length q),
    fun vs9 y9 => (fun v y => ∃ A7 c7, v = .slice A7 ds.length c7 ∧ ds.length ≤ c7 ∧ Lay.decl.Rd y A7 ds) (vs9 1) y9,
    fun vs9 _ => vs9 2 = (.agg #[.int .i64 t.op, .int .i64 t.a, .int .i64 t.b, .string t.name, .slice A0 t.kids.length c0]),
    fun vs9 _ => vs9 3 = (.int .i64 0),
    fun vs9 _ => vs9 4 = (.bool false),
    fun vs9 _ => vs9 5 = (.bool false),
    fun vs9 _ => vs9 6 = (.slice A c.length q),
    fun vs9 y9 => (fun v y => ∃ A7 c7, v = .slice A7 ts0.length c7) (vs9 7) y9,
    fun vs9 _ => vs9 8 = (.int .i64 (ts0.length : Int)),
    fun vs9 _ => vs9 9 = (.bool true),
    fun vs9 _ => vs9 10 = (.bool true)]
      [(0, 12), (1, 13), (2, 14), (3, 15), (4, 16), (5, 17), (6, 18), (7, 19), (8, 20), (9, 21), (10, 22)] (by kernel_rfl) (by kernel_rfl) (by kernel_rfl) (by kernel_rfl)
      (fun _ => Below.refl _ _) trivial
      ⟨⟨.inr (fun _ _ _ h _ => h), trivial⟩,
    ⟨.inr (fun vs9 x9 y9 h9 hR9 => (show ∀ v9 y8 y7, (fun v y => ∃ A7 c7, v = .slice A7 ds.length c7 ∧ ds.length ≤ c7 ∧ Lay.decl.Rd y A7 ds) v9 y8 → (fun y y' => Below y.heap.size y y') y8 y7 → (fun v y => ∃ A7 c7, v = .slice A7 ds.length c7 ∧ ds.length ≤ c7 ∧ Lay.decl.Rd y A7 ds) v9 y7 from fun _ _ _ ⟨A7, c7, h1, h2, h3⟩ hR => ⟨A7, c7, h1, h2, h3.up hR⟩) (vs9 1) x9 y9 h9 hR9), trivial⟩,
    ⟨.inr (fun _ _ _ h _ => h), trivial⟩,
    ⟨.inr (fun _ _ _ h _ => h), trivial⟩,
    ⟨.inr (fun _ _ _ h _ => h), trivial⟩,
    ⟨.inr (fun _ _ _ h _ => h), trivial⟩,
    ⟨.inr (fun _ _ _ h _ => h), trivial⟩,
    ⟨.inr (fun vs9 x9 y9 h9 hR9 => (show ∀ v9 y8 y7, (fun v y => ∃ A7 c7, v = .slice A7 ts0.length c7) v9 y8 → (fun y y' => Below y.heap.size y y') y8 y7 → (fun v y => ∃ A7 c7, v = .slice A7 ts0.length c7) v9 y7 from fun _ _ _ h _ => h) (vs9 7) x9 y9 h9 hR9), trivial⟩,
    ⟨.inr (fun _ _ _ h _ => h), trivial⟩,
    ⟨.inr (fun _ _ _ h _ => h), trivial⟩,
    ⟨.inr (fun _ _ _ h _ => h), trivial⟩, trivial⟩ ⟨fun vs vs' x h _ hv => (by dsimp only at hv ⊢; first | (rw [← h]; exact hv) | exact hv),
    fun vs vs' x h _ hv => (by dsimp only at hv ⊢; first | (rw [← h]; exact hv) | exact hv),
    fun vs vs' x h _ hv => (by dsimp only at hv ⊢; first | (rw [← h]; exact hv) | exact hv),
    fun vs vs' x h _ hv => (by dsimp only at hv ⊢; first | (rw [← h]; exact hv) | exact hv),
    fun vs vs' x h _ hv => (by dsimp only at hv ⊢; first | (rw [← h]; exact hv) | exact hv),
    fun vs vs' x h _ hv => (by dsimp only at hv ⊢; first | (rw [← h]; exact hv) | exact hv),
    fun vs vs' x h _ hv => (by dsimp only at hv ⊢; first | (rw [← h]; exact hv) | exact hv),
    fun vs vs' x h _ hv => (by dsimp only at hv ⊢; first | (rw [← h]; exact hv) | exact hv),
    fun vs vs' x h _ hv => (by dsimp only at hv ⊢; first | (rw [← h]; exact hv) | exact hv),
    fun vs vs' x h _ hv => (by dsimp only at hv ⊢; first | (rw [← h]; exact hv) | exact hv),
    fun vs vs' x h _ hv => (by dsimp only at hv ⊢; first | (rw [← h]; exact hv) | exact hv), trivial⟩ (below_drewN (Below.refl _ _) 1) ⟨?_, ?_, ?_, ?_, ?_, ?_, ?_, ?_, ?_, ?_, ?_, trivial⟩ ?_
    · intro vals xw f hf1 hf2 hf3 hI hF
      clear hf2 hf3
      dsimp only [owes4, bare]
      simp only [putsD, Act.put, List.setIfInBounds_toArray, List.set_cons_zero, List.set_cons_succ]
      go_wp2
      exact ⟨rfl, rfl, Below.refl _ _, hI⟩
    · intro vals xw f hf1 hf2 hf3 hI hF
      clear hf2 hf3
      simp only [saysD, List.getD_cons_zero, List.getD_cons_succ, and_true] at hF
      have e12 := hF
      dsimp only [owes4, bare]
      simp only [putsD, Act.put, List.setIfInBounds_toArray, List.set_cons_zero, List.set_cons_succ]
      simp only [e12]
      have HC9 := Lib.hid (HDC.out xw (HW.out.up (bthen HB2.out hI)))
      have HII := Lib.hid hI
      go_wp2_with fail
      refine HC9.out.mono ?_
      rintro e w9 ⟨A7, c7, rfl, ho, hb9⟩
      have HR7 := Lib.hid (And.intro (OwnDs.cap ho).2 ho.rd)
      have HB9 := Lib.hid hb9
      clear ho hb9
      go_wp2
      exact ⟨rfl, ⟨A7, c7, rfl, HR7.out⟩, HB9.out, bthen HII.out HB9.out⟩
    · intro vals xw f hf1 hf2 hf3 hI hF
      clear hf2 hf3
      dsimp only [owes4, bare]
      simp only [putsD, Act.put, List.setIfInBounds_toArray, List.set_cons_zero, List.set_cons_succ]
      have c90 : xw.cell? _ = _ := kk0 ⟨xw, hI⟩
      have c91 : xw.cell? _ = _ := kk1 ⟨xw, hI⟩
      have c92 : xw.cell? _ = _ := kk2 ⟨xw, hI⟩
      have c93 : xw.cell? _ = _ := kk3 ⟨xw, hI⟩
      have c94 : xw.cell? _ = _ := kk4 ⟨xw, hI⟩
      go_wp2
      exact ⟨rfl, rfl, Below.refl _ _, hI⟩
    · intro vals xw f hf1 hf2 hf3 hI hF
      clear hf2 hf3
      simp only [saysD, List.getD_cons_zero, List.getD_cons_succ, and_true] at hF
      obtain ⟨⟨A7, c7, e13, hc7, hd7⟩, e14⟩ := hF
      dsimp only [owes4, bare]
      simp only [putsD, Act.put, List.setIfInBounds_toArray, List.set_cons_zero, List.set_cons_succ]
      simp only [e13, e14]
      have HC9 := Lib.hid (HSC.out xw A7 c7 (HK.out.up (bthen HB2.out hI)) hd7 hc7)
      have HII := Lib.hid hI
      clear hd7
      go_wp2_with fail
      refine HC9.out.mono ?_
      rintro e w9 ⟨rfl, hb9⟩
      have HB9 := Lib.hid hb9
      clear hb9
      go_wp2
      exact ⟨rfl, rfl, HB9.out, bthen HII.out HB9.out⟩
    · intro vals xw f hf1 hf2 hf3 hI hF
      clear hf2 hf3
      simp only [saysD, List.getD_cons_zero, List.getD_cons_succ, and_true] at hF
      have e15 := hF
      dsimp only [owes4, bare]
      simp only [putsD, Act.put, List.setIfInBounds_toArray, List.set_cons_zero, List.set_cons_succ]
      simp only [e15]
      go_wp2
      exact ⟨rfl, rfl, Below.refl _ _, hI⟩
    · intro vals xw f hf1 hf2 hf3 hI hF
      clear hf2 hf3
      simp only [saysD, List.getD_cons_zero, List.getD_cons_succ, and_true] at hF
      have e16 := hF
      dsimp only [owes4, bare]
      simp only [putsD, Act.put, List.setIfInBounds_toArray, List.set_cons_zero, List.set_cons_succ]
      simp only [e16]
      go_wp2
      exact ⟨rfl, rfl, Below.refl _ _, hI⟩
    · intro vals xw f hf1 hf2 hf3 hI hF
      clear hf2 hf3
      simp only [saysD, List.getD_cons_zero, List.getD_cons_succ, and_true] at hF
      have e17 := hF
      dsimp only [owes4, bare]
      refine ⟨fun _ => ?_, fun h => absurd e17 h⟩
      simp only [putsD, Act.put, List.setIfInBounds_toArray, List.set_cons_zero, List.set_cons_succ]
      simp only [e17]
      go_wp2
      exact ⟨rfl, rfl, Below.refl _ _, hI⟩
    · intro vals xw f hf1 hf2 hf3 hI hF
      clear hf2 hf3
      simp only [saysD, List.getD_cons_zero, List.getD_cons_succ, and_true] at hF
      obtain ⟨e17, e18⟩ := hF
      dsimp only [owes4, bare]
      refine ⟨fun _ => ?_, fun h => absurd e17 h⟩
      simp only [putsD, Act.put, List.setIfInBounds_toArray, List.set_cons_zero, List.set_cons_succ]
      simp only [e17, e18]
      have HC9 := Lib.hid (HTC.out xw (HW.out.up (bthen HB2.out hI)))
      have HII := Lib.hid hI
      go_wp2_with fail
      refine HC9.out.mono ?_
      rintro e w9 ⟨A7, c7, rfl, _, hb9⟩
      have HB9 := Lib.hid hb9
      clear hb9
      go_wp2
      exact ⟨rfl, ⟨A7, c7, rfl⟩, HB9.out, bthen HII.out HB9.out⟩
    · intro vals xw f hf1 hf2 hf3 hI hF
      clear hf2 hf3
      simp only [saysD, List.getD_cons_zero, List.getD_cons_succ, and_true] at hF
      obtain ⟨e17, A7, c7, e19⟩ := hF
      dsimp only [owes4, bare]
      refine ⟨fun _ => ?_, fun h => absurd e17 h⟩
      simp only [putsD, Act.put, List.setIfInBounds_toArray, List.set_cons_zero, List.set_cons_succ]
      simp only [e17, e19]
      go_wp2
      exact ⟨rfl, rfl, Below.refl _ _, hI⟩
    · intro vals xw f hf1 hf2 hf3 hI hF
      clear hf2 hf3
      simp only [saysD, List.getD_cons_zero, List.getD_cons_succ, and_true] at hF
      obtain ⟨e17, e20⟩ := hF
      dsimp only [owes4, bare]
      refine ⟨fun _ => ?_, fun h => absurd e17 h⟩
      simp only [putsD, Act.put, List.setIfInBounds_toArray, List.set_cons_zero, List.set_cons_succ]
      simp only [e17, e20]
      go_wp2
      exact ⟨rfl, rfl, Below.refl _ _, hI⟩
    · intro vals xw f hf1 hf2 hf3 hI hF
      clear hf2 hf3
      simp only [saysD, List.getD_cons_zero, List.getD_cons_succ, and_true] at hF
      obtain ⟨e17, e21⟩ := hF
      dsimp only [owes4, bare]
      simp only [putsD, Act.put, List.setIfInBounds_toArray, List.set_cons_zero, List.set_cons_succ]
      simp only [e17, e21]
      go_wp2
      exact ⟨rfl, rfl, Below.refl _ _, hI⟩
    · intro vals xw f hall hI hF
      rw [show List.range _ = [0, 1, 2, 3, 4, 5, 6, 7, 8, 9, 10] from rfl] at hF
      simp only [says, List.getD_cons_zero, List.getD_cons_succ, and_true] at hF
      have e22 := hF.2.2.2.2.2.2.2.2.2.2
      have HB7 := Lib.hid (bthen HB2.out hI)
      simp only [putsD, Act.put, List.setIfInBounds_toArray, List.set_cons_zero, List.set_cons_succ]
      simp only [e22]
      clear hF e22 kk0 kk1 kk2 kk3 kk4
      go_wp2_with fail
      refine (HCP.out xw (HW.out.up HB7.out)).mono ?_
      rintro e w3 ⟨A3, c3, rfl, ho, hb3⟩
      have HB3 := Lib.hid (bthen HB7.out hb3)
      have HO3 := Lib.hid ho
      clear ho hb3
      go_wp2
      refine bodyPost_ret (v := .tuple #[.slice A3 c.length c3, .bool false]) (by simp [results, Tryz.results31, go_sem]) rfl ?_
      rw [show ctxAssert c t = (c, false) from by rw [HXT.out, HNO.out]; rfl]
      exact ⟨A3, c3, rfl, HO3.out.cap.2, HO3.out.rdR, HB3.out⟩
  have h8i : ¬ (8 : Int) ≤ (ts0.length : Int) := by omega
  have h8j : decide ((8 : Int) ≤ (ts0.length : Int)) = false := decide_eq_false h8i
  have h8k : (ts0.length : Int) < 8 := by omega
  have HYES : Hid (ctxOk x = true) := Lib.hid (by rw [HXK.out (by trivial), sort0_yes HZ.out.symm, decide_eq_true (by omega : ts0.length < 8)]; rfl)
  go_wp2
  refine wp_region_rel4 [[], [(0, 12)], [], [(1, 13), (2, 14)], [(3, 15)], [(4, 16)], [(5, 17)], [(5, 17), (6, 18)], [(5, 17), (7, 19)], [(5, 17), (8, 20)], [(5, 17), (9, 21)]]
    (fun y y' => Below y.heap.size y y')
    []
    (fun _ yy => Below w2.heap.size w2 yy)
    [fun vs9 _ => vs9 0 = (.slice A c.length q),
    fun vs9 y9 => (fun v y => ∃ A7 c7, v = .slice A7 ds.length c7 ∧ ds.length ≤ c7 ∧ Lay.decl.Rd y A7 ds) (vs9 1) y9,
    fun vs9 _ => vs9 2 = (.agg #[.int .i64 t.op, .int .i64 t.a, .int .i64 t.b, .string t.name, .slice A0 t.kids.length c0]),
    fun vs9 _ => vs9 3 = (.int .i64 0),
    fun vs9 _ => vs9 4 = (.bool false),
    fun vs9 _ => vs9 5 = (.bool false),
    fun vs9 _ => vs9 6 = (.slice A c.length q),
    fun vs9 y9 => (fun v y => ∃ A7 c7, v = .slice A7 ts0.length c7) (vs9 7) y9,
    fun vs9 _ => vs9 8 = (.int .i64 (ts0.length : Int)),
    fun vs9 _ => vs9 9 = (.bool false),
    fun vs9 _ => vs9 10 = (.bool false)]
    [(0, 12), (1, 13), (2, 14), (3, 15), (4, 16), (5, 17), (6, 18), (7, 19), (8, 20), (9, 21), (10, 22)] (by kernel_rfl) (by kernel_rfl) (by kernel_rfl) (by kernel_rfl)
    (fun _ => Below.refl _ _) trivial
    ⟨⟨.inr (fun _ _ _ h _ => h), trivial⟩,
    ⟨.inr (fun vs9 x9 y9 h9 hR9 => (show ∀ v9 y8 y7, (fun v y => ∃ A7 c7, v = .slice A7 ds.length c7 ∧ ds.length ≤ c7 ∧ Lay.decl.Rd y A7 ds) v9 y8 → (fun y y' => Below y.heap.size y y') y8 y7 → (fun v y => ∃ A7 c7, v = .slice A7 ds.length c7 ∧ ds.length ≤ c7 ∧ Lay.decl.Rd y A7 ds) v9 y7 from fun _ _ _ ⟨A7, c7, h1, h2, h3⟩ hR => ⟨A7, c7, h1, h2, h3.up hR⟩) (vs9 1) x9 y9 h9 hR9), trivial⟩,
    ⟨.inr (fun _ _ _ h _ => h), trivial⟩,
    ⟨.inr (fun _ _ _ h _ => h), trivial⟩,
    ⟨.inr (fun _ _ _ h _ => h), trivial⟩,
    ⟨.inr (fun _ _ _ h _ => h), trivial⟩,
    ⟨.inr (fun _ _ _ h _ => h), trivial⟩,
    ⟨.inr (fun vs9 x9 y9 h9 hR9 => (show ∀ v9 y8 y7, (fun v y => ∃ A7 c7, v = .slice A7 ts0.length c7) v9 y8 → (fun y y' => Below y.heap.size y y') y8 y7 → (fun v y => ∃ A7 c7, v = .slice A7 ts0.length c7) v9 y7 from fun _ _ _ h _ => h) (vs9 7) x9 y9 h9 hR9), trivial⟩,
    ⟨.inr (fun _ _ _ h _ => h), trivial⟩,
    ⟨.inr (fun _ _ _ h _ => h), trivial⟩,
    ⟨.inr (fun _ _ _ h _ => h), trivial⟩, trivial⟩ ⟨fun vs vs' x h _ hv => (by dsimp only at hv ⊢; first | (rw [← h]; exact hv) | exact hv),
    fun vs vs' x h _ hv => (by dsimp only at hv ⊢; first | (rw [← h]; exact hv) | exact hv),
    fun vs vs' x h _ hv => (by dsimp only at hv ⊢; first | (rw [← h]; exact hv) | exact hv),
    fun vs vs' x h _ hv => (by dsimp only at hv ⊢; first | (rw [← h]; exact hv) | exact hv),
    fun vs vs' x h _ hv => (by dsimp only at hv ⊢; first | (rw [← h]; exact hv) | exact hv),
    fun vs vs' x h _ hv => (by dsimp only at hv ⊢; first | (rw [← h]; exact hv) | exact hv),
    fun vs vs' x h _ hv => (by dsimp only at hv ⊢; first | (rw [← h]; exact hv) | exact hv),
    fun vs vs' x h _ hv => (by dsimp only at hv ⊢; first | (rw [← h]; exact hv) | exact hv),
    fun vs vs' x h _ hv => (by dsimp only at hv ⊢; first | (rw [← h]; exact hv) | exact hv),
    fun vs vs' x h _ hv => (by dsimp only at hv ⊢; first | (rw [← h]; exact hv) | exact hv),
    fun vs vs' x h _ hv => (by dsimp only at hv ⊢; first | (rw [← h]; exact hv) | exact hv), trivial⟩ (below_drewN (Below.refl _ _) 1) ⟨?_, ?_, ?_, ?_, ?_, ?_, ?_, ?_, ?_, ?_, ?_, trivial⟩ ?_
  · intro vals xw f hf1 hf2 hf3 hI hF
    clear hf2 hf3
    dsimp only [owes4, bare]
    simp only [putsD, Act.put, List.setIfInBounds_toArray, List.set_cons_zero, List.set_cons_succ]
    go_wp2
    exact ⟨rfl, rfl, Below.refl _ _, hI⟩
  · intro vals xw f hf1 hf2 hf3 hI hF
    clear hf2 hf3
    simp only [saysD, List.getD_cons_zero, List.getD_cons_succ, and_true] at hF
    have e12 := hF
    dsimp only [owes4, bare]
    simp only [putsD, Act.put, List.setIfInBounds_toArray, List.set_cons_zero, List.set_cons_succ]
    simp only [e12]
    have HC9 := Lib.hid (HDC.out xw (HW.out.up (bthen HB2.out hI)))
    have HII := Lib.hid hI
    go_wp2_with fail
    refine HC9.out.mono ?_
    rintro e w9 ⟨A7, c7, rfl, ho, hb9⟩
    have HR7 := Lib.hid (And.intro (OwnDs.cap ho).2 ho.rd)
    have HB9 := Lib.hid hb9
    clear ho hb9
    go_wp2
    exact ⟨rfl, ⟨A7, c7, rfl, HR7.out⟩, HB9.out, bthen HII.out HB9.out⟩
  · intro vals xw f hf1 hf2 hf3 hI hF
    clear hf2 hf3
    dsimp only [owes4, bare]
    simp only [putsD, Act.put, List.setIfInBounds_toArray, List.set_cons_zero, List.set_cons_succ]
    have c90 : xw.cell? _ = _ := kk0 ⟨xw, hI⟩
    have c91 : xw.cell? _ = _ := kk1 ⟨xw, hI⟩
    have c92 : xw.cell? _ = _ := kk2 ⟨xw, hI⟩
    have c93 : xw.cell? _ = _ := kk3 ⟨xw, hI⟩
    have c94 : xw.cell? _ = _ := kk4 ⟨xw, hI⟩
    go_wp2
    exact ⟨rfl, rfl, Below.refl _ _, hI⟩
  · intro vals xw f hf1 hf2 hf3 hI hF
    clear hf2 hf3
    simp only [saysD, List.getD_cons_zero, List.getD_cons_succ, and_true] at hF
    obtain ⟨⟨A7, c7, e13, hc7, hd7⟩, e14⟩ := hF
    dsimp only [owes4, bare]
    simp only [putsD, Act.put, List.setIfInBounds_toArray, List.set_cons_zero, List.set_cons_succ]
    simp only [e13, e14]
    have HC9 := Lib.hid (HSC.out xw A7 c7 (HK.out.up (bthen HB2.out hI)) hd7 hc7)
    have HII := Lib.hid hI
    clear hd7
    go_wp2_with fail
    refine HC9.out.mono ?_
    rintro e w9 ⟨rfl, hb9⟩
    have HB9 := Lib.hid hb9
    clear hb9
    go_wp2
    exact ⟨rfl, rfl, HB9.out, bthen HII.out HB9.out⟩
  · intro vals xw f hf1 hf2 hf3 hI hF
    clear hf2 hf3
    simp only [saysD, List.getD_cons_zero, List.getD_cons_succ, and_true] at hF
    have e15 := hF
    dsimp only [owes4, bare]
    simp only [putsD, Act.put, List.setIfInBounds_toArray, List.set_cons_zero, List.set_cons_succ]
    simp only [e15]
    go_wp2
    exact ⟨rfl, rfl, Below.refl _ _, hI⟩
  · intro vals xw f hf1 hf2 hf3 hI hF
    clear hf2 hf3
    simp only [saysD, List.getD_cons_zero, List.getD_cons_succ, and_true] at hF
    have e16 := hF
    dsimp only [owes4, bare]
    simp only [putsD, Act.put, List.setIfInBounds_toArray, List.set_cons_zero, List.set_cons_succ]
    simp only [e16]
    go_wp2
    exact ⟨rfl, rfl, Below.refl _ _, hI⟩
  · intro vals xw f hf1 hf2 hf3 hI hF
    clear hf2 hf3
    simp only [saysD, List.getD_cons_zero, List.getD_cons_succ, and_true] at hF
    have e17 := hF
    dsimp only [owes4, bare]
    refine ⟨fun _ => ?_, fun h => absurd e17 h⟩
    simp only [putsD, Act.put, List.setIfInBounds_toArray, List.set_cons_zero, List.set_cons_succ]
    simp only [e17]
    go_wp2
    exact ⟨rfl, rfl, Below.refl _ _, hI⟩
  · intro vals xw f hf1 hf2 hf3 hI hF
    clear hf2 hf3
    simp only [saysD, List.getD_cons_zero, List.getD_cons_succ, and_true] at hF
    obtain ⟨e17, e18⟩ := hF
    dsimp only [owes4, bare]
    refine ⟨fun _ => ?_, fun h => absurd e17 h⟩
    simp only [putsD, Act.put, List.setIfInBounds_toArray, List.set_cons_zero, List.set_cons_succ]
    simp only [e17, e18]
    have HC9 := Lib.hid (HTC.out xw (HW.out.up (bthen HB2.out hI)))
    have HII := Lib.hid hI
    go_wp2_with fail
    refine HC9.out.mono ?_
    rintro e w9 ⟨A7, c7, rfl, _, hb9⟩
    have HB9 := Lib.hid hb9
    clear hb9
    go_wp2
    exact ⟨rfl, ⟨A7, c7, rfl⟩, HB9.out, bthen HII.out HB9.out⟩
  · intro vals xw f hf1 hf2 hf3 hI hF
    clear hf2 hf3
    simp only [saysD, List.getD_cons_zero, List.getD_cons_succ, and_true] at hF
    obtain ⟨e17, A7, c7, e19⟩ := hF
    dsimp only [owes4, bare]
    refine ⟨fun _ => ?_, fun h => absurd e17 h⟩
    simp only [putsD, Act.put, List.setIfInBounds_toArray, List.set_cons_zero, List.set_cons_succ]
    simp only [e17, e19]
    go_wp2
    exact ⟨rfl, rfl, Below.refl _ _, hI⟩
  · intro vals xw f hf1 hf2 hf3 hI hF
    clear hf2 hf3
    simp only [saysD, List.getD_cons_zero, List.getD_cons_succ, and_true] at hF
    obtain ⟨e17, e20⟩ := hF
    dsimp only [owes4, bare]
    refine ⟨fun _ => ?_, fun h => absurd e17 h⟩
    simp only [putsD, Act.put, List.setIfInBounds_toArray, List.set_cons_zero, List.set_cons_succ]
    simp only [e17, e20]
    go_wp2
    exact ⟨rfl, rfl, Below.refl _ _, hI⟩
  · intro vals xw f hf1 hf2 hf3 hI hF
    clear hf2 hf3
    simp only [saysD, List.getD_cons_zero, List.getD_cons_succ, and_true] at hF
    obtain ⟨e17, e21⟩ := hF
    dsimp only [owes4, bare]
    simp only [putsD, Act.put, List.setIfInBounds_toArray, List.set_cons_zero, List.set_cons_succ]
    simp only [e17, e21]
    go_wp2
    exact ⟨rfl, rfl, Below.refl _ _, hI⟩
  · intro vals xw f hall hI hF
    rw [show List.range _ = [0, 1, 2, 3, 4, 5, 6, 7, 8, 9, 10] from rfl] at hF
    simp only [says, List.getD_cons_zero, List.getD_cons_succ, and_true] at hF
    have e22 := hF.2.2.2.2.2.2.2.2.2.2
    have HB7 := Lib.hid (bthen HB2.out hI)
    simp only [putsD, Act.put, List.setIfInBounds_toArray, List.set_cons_zero, List.set_cons_succ]
    simp only [e22]
    clear hF e22 kk0 kk1 kk2 kk3 kk4
    go_wp2_with fail
    refine (HCP.out xw (HW.out.up HB7.out)).mono ?_
    rintro e w3 ⟨A3, c3, rfl, ho, hb3⟩
    obtain ⟨xs, l, hcx, hxx, hl4, hl8, hx6⟩ := HLS.out (by trivial)
    have HB3 := Lib.hid (bthen HB7.out hb3)
    have HBX7 := (hI.block _ (lt_of_block HBX2.out)).trans HBX2.out
    have HBX3 := Lib.hid ((hb3.block _ (lt_of_block HBX7)).trans HBX7)
    have HOC0 := ho.cap.2
    have hcl : c.length = xs.length + 1 := by rw [hcx]; simp
    have hwx := HB7.out.size
    have ho : RowP PR xw.heap.size w3 (.slice A3 (xs ++ [l]).length c3) (xs ++ [l]) := by rw [← hcx]; exact ho
    obtain ⟨g, S, M, E, Ad, cd, At, ct, rfl, ⟨hg1, hg2⟩, e0, e1, hfz, hgl, ⟨s1, s2, s3, s4, s5⟩, hdm, hod, hru, hfin⟩ := ho.lastPR
    have HFIN := Lib.hid hfin
    have HGL := Lib.hid hgl
    have HRU := Lib.hid hru
    have HOD := Lib.hid hod
    have HDM := Lib.hid hdm
    have HE0 := Lib.hid e0
    have HE1 := Lib.hid e1
    have HFZ := Lib.hid hfz
    have HS5 := Lib.hid s5
    have HOC := Lib.hid HOC0
    have HXE := Lib.hid hxx
    have HLW := Lib.hid HB3.out.size
    have HGW := Lib.hid (Nat.le_trans hwx hg1)
    have HMG : Hid (¬ (M ≤ g ∧ g < E)) := Lib.hid (fun h => s5 ⟨by omega, h.2⟩)
    have HXL : Hid (x.length = c.length) := Lib.hid (by rw [hxx, hcl]; simp)
    have hnk : ((c.length : Nat) : Int) - 1 = (xs.length : Int) := by omega
    have hk1 : (xs.length : Int) < (c.length : Int) := by omega
    have hl8 : l.ts.length ≤ 1048576 := by omega
    have hMw : w.heap.size ≤ M := by omega
    clear hfin hgl hru hod hdm e0 e1 hfz s5 HOC0 hxx hcx hcl ho hb3 hI HBX7 HCP HLS hl4
    go_wp2
    refine wp_region_rel6 [[], [], [(0, 30), (1, 31)], [(2, 32)], [(3, 33)], [], [(5, 35)], [(4, 34)], [], [(4, 34), (8, 38)], [(9, 39), (7, 37)], [(10, 40), (6, 36)], [(0, 30), (1, 31)], [(12, 41)], [(13, 42), (9, 39)]]
      (fun _ _ => True)
      []
      (fun v9 f9 x9 => AsI w.heap.size w3 g xs.length M E At ct l.ts t (v9 6) (v9 8) (v9 9) (v9 10) (f9 6) (f9 8) (f9 9) (f9 10) (f9 11) (f9 14) x9)
      [fun vs9 _ => vs9 0 = (.slice (some ⟨g, 0, none⟩) c.length c3),
    fun vs9 _ => vs9 1 = (.int .i64 (xs.length : Int)),
    fun vs9 _ => vs9 2 = (.pointer (some ⟨g, xs.length * 2, none⟩)),
    fun vs9 _ => vs9 3 = (.pointer (some ⟨g, xs.length * 2 + 1, none⟩)),
    fun vs9 _ => vs9 4 = (.slice At l.ts.length ct),
    fun vs9 _ => vs9 5 = (.agg #[.int .i64 t.op, .int .i64 t.a, .int .i64 t.b, .string t.name, .slice A0 t.kids.length c0]),
    fun _ _ => True,
    fun vs9 _ => vs9 7 = (.int .i64 (l.ts.length : Int)),
    fun _ _ => True,
    fun _ _ => True,
    fun _ _ => True,
    fun _ _ => True,
    fun vs9 _ => vs9 12 = (.pointer (some ⟨g, xs.length * 2, none⟩)),
    fun vs9 _ => vs9 13 = (.pointer (some ⟨g, xs.length * 2 + 1, none⟩)),
    fun _ _ => True]
      [(0, 30), (1, 31), (2, 32), (3, 33), (4, 34), (5, 35), (6, 36), (7, 37), (8, 38), (9, 39), (10, 40), (12, 41), (13, 42)] (by kernel_rfl) (by kernel_rfl) (by kernel_rfl) (by kernel_rfl)
      (fun _ => trivial) trivial
      ⟨⟨.inr (fun _ _ _ h _ => h), trivial⟩,
    ⟨.inr (fun _ _ _ h _ => h), trivial⟩,
    ⟨.inr (fun _ _ _ h _ => h), trivial⟩,
    ⟨.inr (fun _ _ _ h _ => h), trivial⟩,
    ⟨.inr (fun _ _ _ h _ => h), trivial⟩,
    ⟨.inr (fun _ _ _ h _ => h), trivial⟩,
    ⟨.inr (fun _ _ _ h _ => h), trivial⟩,
    ⟨.inr (fun _ _ _ h _ => h), trivial⟩,
    ⟨.inr (fun _ _ _ h _ => h), trivial⟩,
    ⟨.inr (fun _ _ _ h _ => h), trivial⟩,
    ⟨.inr (fun _ _ _ h _ => h), trivial⟩,
    ⟨.inr (fun _ _ _ h _ => h), trivial⟩,
    ⟨.inr (fun _ _ _ h _ => h), trivial⟩,
    ⟨.inr (fun _ _ _ h _ => h), trivial⟩,
    ⟨.inr (fun _ _ _ h _ => h), trivial⟩, trivial⟩ ⟨fun vs vs' x h _ hv => (by dsimp only at hv ⊢; first | (rw [← h]; exact hv) | exact hv),
    fun vs vs' x h _ hv => (by dsimp only at hv ⊢; first | (rw [← h]; exact hv) | exact hv),
    fun vs vs' x h _ hv => (by dsimp only at hv ⊢; first | (rw [← h]; exact hv) | exact hv),
    fun vs vs' x h _ hv => (by dsimp only at hv ⊢; first | (rw [← h]; exact hv) | exact hv),
    fun vs vs' x h _ hv => (by dsimp only at hv ⊢; first | (rw [← h]; exact hv) | exact hv),
    fun vs vs' x h _ hv => (by dsimp only at hv ⊢; first | (rw [← h]; exact hv) | exact hv),
    fun _ _ _ _ _ _ => trivial,
    fun vs vs' x h _ hv => (by dsimp only at hv ⊢; first | (rw [← h]; exact hv) | exact hv),
    fun _ _ _ _ _ _ => trivial,
    fun _ _ _ _ _ _ => trivial,
    fun _ _ _ _ _ _ => trivial,
    fun _ _ _ _ _ _ => trivial,
    fun vs vs' x h _ hv => (by dsimp only at hv ⊢; first | (rw [← h]; exact hv) | exact hv),
    fun vs vs' x h _ hv => (by dsimp only at hv ⊢; first | (rw [← h]; exact hv) | exact hv),
    fun _ _ _ _ _ _ => trivial, trivial⟩ (⟨below_drewN (Below.refl _ _) 1, fun _ => below_drewN (Below.refl _ _) 1, fun e => absurd e (by simp), fun e => absurd e (by simp), fun e => absurd e (by simp)⟩) ⟨?_, ?_, ?_, ?_, ?_, ?_, ?_, ?_, ?_, ?_, ?_, ?_, ?_, ?_, ?_, trivial⟩ ?_
    · intro vals xw f hf1 hf2 hf3 hI hF
      clear hf2 hf3
      dsimp only [owes6, bare]
      simp only [putsD, Act.put, List.setIfInBounds_toArray, List.set_cons_zero, List.set_cons_succ]
      go_wp2
      exact ⟨rfl, rfl, trivial, hI⟩
    · intro vals xw f hf1 hf2 hf3 hI hF
      clear hf2 hf3
      dsimp only [owes6, bare]
      simp only [putsD, Act.put, List.setIfInBounds_toArray, List.set_cons_zero, List.set_cons_succ]
      go_wp2
      exact ⟨rfl, rfl, trivial, hI⟩
    · intro vals xw f hf1 hf2 hf3 hI hF
      clear hf2 hf3
      simp only [saysD, List.getD_cons_zero, List.getD_cons_succ, and_true] at hF
      obtain ⟨e30, e31⟩ := hF
      dsimp only [owes6, bare]
      simp only [putsD, Act.put, List.setIfInBounds_toArray, List.set_cons_zero, List.set_cons_succ]
      simp only [e30, e31]
      go_wp2
      exact ⟨rfl, rfl, trivial, hI⟩
    · intro vals xw f hf1 hf2 hf3 hI hF
      clear hf2 hf3
      simp only [saysD, List.getD_cons_zero, List.getD_cons_succ, and_true] at hF
      have e32 := hF
      dsimp only [owes6, bare]
      simp only [putsD, Act.put, List.setIfInBounds_toArray, List.set_cons_zero, List.set_cons_succ]
      simp only [e32]
      go_wp2
      exact ⟨rfl, rfl, trivial, hI⟩
    · intro vals xw f hf1 hf2 hf3 hI hF
      have k9 : f 9 = false := hf3 9 (by kernel_rfl)
      clear hf2 hf3
      simp only [saysD, List.getD_cons_zero, List.getD_cons_succ, and_true] at hF
      have e33 := hF
      dsimp only [owes6, bare]
      simp only [putsD, Act.put, List.setIfInBounds_toArray, List.set_cons_zero, List.set_cons_succ]
      simp only [e33]
      have d9 := ((hI.2.1 k9).cell (p := ⟨g, xs.length * 2 + 1, none⟩) hg2).trans HE1.out
      go_wp2
      exact ⟨rfl, rfl, trivial, hI⟩
    · intro vals xw f hf1 hf2 hf3 hI hF
      have k9 : f 9 = false := hf3 9 (by kernel_rfl)
      clear hf2 hf3
      dsimp only [owes6, bare]
      simp only [putsD, Act.put, List.setIfInBounds_toArray, List.set_cons_zero, List.set_cons_succ]
      have hbt9 := ((hI.2.1 k9).block _ (lt_of_block HBX3.out)).trans HBX3.out
      have q0 := (cell_of_block hbt9 0).1
      have q1 := (cell_of_block hbt9 1).1
      have q2 := (cell_of_block hbt9 2).1
      have q3 := (cell_of_block hbt9 3).1
      have q4 := (cell_of_block hbt9 4).1
      go_wp2
      exact ⟨rfl, rfl, trivial, hI⟩
    · intro vals xw f hf1 hf2 hf3 hI hF
      have k9 : f 9 = false := hf3 9 (by kernel_rfl)
      clear hf2 hf3
      simp only [saysD, List.getD_cons_zero, List.getD_cons_succ, and_true] at hF
      have e35 := hF
      dsimp only [owes6, bare]
      simp only [putsD, Act.put, List.setIfInBounds_toArray, List.set_cons_zero, List.set_cons_succ]
      simp only [e35]
      have hII := hI.2.1 k9
      have HC9 := Lib.hid (HL3.out xw (HK.out.keep fun b hb => (bthen HB3.out hII).block b hb) (bthen HB3.out hII).size)
      have HI9 := Lib.hid hI
      have HXI := Lib.hid hII
      clear hI hII
      go_wp2_with fail
      refine HC9.out.mono ?_
      rintro e w9 ⟨A9, c9, rfl, hc9, ht9, hb9⟩
      have HT9 := Lib.hid (TrT.sl ht9)
      have HB9 := Lib.hid hb9
      have HH := Lib.hid hc9
      clear ht9 hb9 hc9
      go_wp2
      refine ⟨rfl, trivial, trivial, ?_⟩
      obtain ⟨i1, i2, i3, i4, i5⟩ := HI9.out.up HLW.out HB9.out
      exact ⟨i1, i2, fun _ _ => ⟨A9, c9, rfl, HH.out, HT9.out.mono fun b hb => ⟨Nat.le_trans HXI.out.size hb.1, hb.2.1⟩⟩, i4, fun e => absurd (k9.symm.trans e) (by simp)⟩
    · intro vals xw f hf1 hf2 hf3 hI hF
      clear hf2 hf3
      simp only [saysD, List.getD_cons_zero, List.getD_cons_succ, and_true] at hF
      have e34 := hF
      dsimp only [owes6, bare]
      simp only [putsD, Act.put, List.setIfInBounds_toArray, List.set_cons_zero, List.set_cons_succ]
      simp only [e34]
      go_wp2
      exact ⟨rfl, rfl, trivial, hI⟩
    · intro vals xw f hf1 hf2 hf3 hI hF
      have k9 : f 9 = false := hf3 9 (by kernel_rfl)
      clear hf2 hf3
      dsimp only [owes6, bare]
      simp only [putsD, Act.put, List.setIfInBounds_toArray, List.set_cons_zero, List.set_cons_succ]
      have HI9 := Lib.hid hI
      clear hI
      have hal9 : Below xw.heap.size xw (xw.alloc (.cells #[.int .i64 0, .int .i64 0, .int .i64 0, .string ⟨#[]⟩, .slice none 0 0] 48)) := (Below.refl _ _).alloc (Nat.le_refl _) _
      have HA9 := Lib.hid hal9
      clear hal9
      go_wp2
      refine ⟨rfl, trivial, trivial, ?_⟩
      obtain ⟨i1, i2, i3, i4, i5⟩ := HI9.out.up HLW.out HA9.out
      exact ⟨i1, i2, i3, fun _ _ => ⟨_, rfl, heap_alloc_new _ _⟩, fun e => absurd (k9.symm.trans e) (by simp)⟩
    · intro vals xw f hf1 hf2 hf3 hI hF
      have k6 : f 6 = true := hf2 6 (by kernel_rfl)
      have k8 : f 8 = true := hf2 8 (by kernel_rfl)
      have k10 : f 10 = false := hf3 10 (by kernel_rfl)
      have k11 : f 11 = false := hf3 11 (by kernel_rfl)
      have k14 : f 14 = false := hf3 14 (by kernel_rfl)
      clear hf2 hf3
      simp only [saysD, List.getD_cons_zero, List.getD_cons_succ, and_true] at hF
      have e34 := hF
      obtain ⟨A9, c9, e6, hc9, hk9⟩ := hI.2.2.1 k6 hf1
      obtain ⟨b9, e8, hz9⟩ := hI.2.2.2.1 k8 hf1
      have hbx := hI.2.1 hf1
      dsimp only [owes6, bare]
      simp only [putsD, Act.put, List.setIfInBounds_toArray, List.set_cons_zero, List.set_cons_succ]
      simp only [e34, e8]
      refine wpList_append_zero (t := t) (c9 := c9) (k := xs.length) (by rfl) (.tmp 34) (.tmp 38) (by rfl) (by rfl) (by rfl) HRU.out hl8 s3 s4 hg2 HMG.out HGL.out HE1.out HFZ.out hbx hz9 hk9 ?_
      intro nb c8 w9 haft hnb hg9
      refine ⟨rfl, trivial, trivial, ?_⟩
      refine ⟨hI.1.grown hg9 (Nat.le_trans HLW.out hI.1.size) (fun b e => by have := (HRU.out.row.lt b e).1; omega), fun e => absurd (show true = false from e) (by simp), fun _ e => absurd (show true = false from e) (by simp), fun _ e => absurd (show true = false from e) (by simp), fun _ => ⟨nb, c8, A9, c9, rfl, e6, hc9, hnb, fun e => absurd (k10.symm.trans e) (by simp), ?_⟩⟩
      rw [show did f 9 11 = f 11 from rfl, show did f 9 14 = f 14 from rfl, k11, k14]
      exact haft
    · intro vals xw f hf1 hf2 hf3 hI hF
      have k9 : f 9 = true := hf2 9 (by kernel_rfl)
      have k11 : f 11 = false := hf3 11 (by kernel_rfl)
      clear hf2 hf3
      simp only [saysD, List.getD_cons_zero, List.getD_cons_succ, and_true] at hF
      obtain ⟨_, e37⟩ := hF
      obtain ⟨nb, c8, A9, c9, e9, e6, hc9, hnb, h10, haft⟩ := hI.2.2.2.2 k9
      dsimp only [owes6, bare]
      simp only [putsD, Act.put, List.setIfInBounds_toArray, List.set_cons_zero, List.set_cons_succ]
      simp only [e9, e37]
      have hlt9 : (l.ts.length : Int) < ((l.ts.length + 1 : Nat) : Int) := by omega
      have HH := Lib.hid (And.intro hc9 (And.intro hnb haft))
      have HE9 := Lib.hid (And.intro e9 e6)
      have HI1 := Lib.hid hI.1
      clear haft hnb hc9 h10 hI
      go_wp2
      refine ⟨rfl, trivial, trivial, HI1.out, fun e => absurd (k9.symm.trans e) (by simp), fun _ e => absurd (k9.symm.trans e) (by simp), fun _ e => absurd (k9.symm.trans e) (by simp), fun _ => ⟨nb, c8, A9, c9, HE9.out.1, HE9.out.2, HH.out.1, HH.out.2.1, fun _ => ?_, HH.out.2.2⟩⟩
      rfl
    · intro vals xw f hf1 hf2 hf3 hI hF
      have k9 : f 9 = true := hf2 9 (by kernel_rfl)
      have k10 : f 10 = true := hf2 10 (by kernel_rfl)
      clear hf2 hf3
      simp only [saysD, List.getD_cons_zero, List.getD_cons_succ, and_true] at hF
      obtain ⟨nb, c8, A9, c9, e9, e6, hc9, hnb, h10, haft⟩ := hI.2.2.2.2 k9
      have e10 := h10 k10
      rw [hf1] at haft
      have e6 : vals 6 = .agg #[.int .i64 t.op, .int .i64 t.a, .int .i64 t.b, .string t.name, .slice A9 t.kids.length c9] := e6
      dsimp only [owes6, bare]
      simp only [putsD, Act.put, List.setIfInBounds_toArray, List.set_cons_zero, List.set_cons_succ]
      simp only [e10, e6]
      obtain ⟨u0, y0⟩ := haft.cells 0 (by omega)
      obtain ⟨u1, y1⟩ := haft.cells 1 (by omega)
      obtain ⟨u2, y2⟩ := haft.cells 2 (by omega)
      obtain ⟨u3, y3⟩ := haft.cells 3 (by omega)
      obtain ⟨u4, y4⟩ := haft.cells 4 (by omega)
      rw [Nat.add_zero] at y0
      have f0 := haft.nfrz (l.ts.length * 5)
      have f1 := haft.nfrz (l.ts.length * 5 + 1)
      have f2 := haft.nfrz (l.ts.length * 5 + 2)
      have f3 := haft.nfrz (l.ts.length * 5 + 3)
      have f4 := haft.nfrz (l.ts.length * 5 + 4)
      have HN9 := Lib.hid (haft.elem (fun _ _ _ => trivial) hnb)
      have hlb9 : w.heap.size ≤ nb := by have := haft.lo; omega
      have HB9 := Lib.hid (below_set9 (p := ⟨nb, l.ts.length * 5 + 4, none⟩) (below_set9 (p := ⟨nb, l.ts.length * 5 + 3, none⟩) (below_set9 (p := ⟨nb, l.ts.length * 5 + 2, none⟩) (below_set9 (p := ⟨nb, l.ts.length * 5 + 1, none⟩) (below_set9 (p := ⟨nb, l.ts.length * 5, none⟩) hI.1 hlb9 (.int .i64 t.op)) hlb9 (.int .i64 t.a)) hlb9 (.int .i64 t.b)) hlb9 (.string t.name)) hlb9 (.slice A9 t.kids.length c9))
      have HE9 := Lib.hid (And.intro e9 (And.intro e6 (And.intro hc9 (And.intro hnb h10))))
      clear haft hI hnb h10 e9 hlb9
      go_wp2
      exact ⟨rfl, trivial, trivial, HB9.out, fun e => absurd (k9.symm.trans e) (by simp), fun _ e => absurd (k9.symm.trans e) (by simp), fun _ e => absurd (k9.symm.trans e) (by simp), fun _ => ⟨nb, c8, A9, c9, HE9.out.1, HE9.out.2.1, HE9.out.2.2.1, HE9.out.2.2.2.1, HE9.out.2.2.2.2, HN9.out⟩⟩
    · intro vals xw f hf1 hf2 hf3 hI hF
      clear hf2 hf3
      simp only [saysD, List.getD_cons_zero, List.getD_cons_succ, and_true] at hF
      obtain ⟨e30, e31⟩ := hF
      dsimp only [owes6, bare]
      simp only [putsD, Act.put, List.setIfInBounds_toArray, List.set_cons_zero, List.set_cons_succ]
      simp only [e30, e31]
      go_wp2
      exact ⟨rfl, rfl, trivial, hI⟩
    · intro vals xw f hf1 hf2 hf3 hI hF
      clear hf2 hf3
      simp only [saysD, List.getD_cons_zero, List.getD_cons_succ, and_true] at hF
      have e41 := hF
      dsimp only [owes6, bare]
      simp only [putsD, Act.put, List.setIfInBounds_toArray, List.set_cons_zero, List.set_cons_succ]
      simp only [e41]
      go_wp2
      exact ⟨rfl, rfl, trivial, hI⟩
    · intro vals xw f hf1 hf2 hf3 hI hF
      have k9 : f 9 = true := hf2 9 (by kernel_rfl)
      clear hf2 hf3
      simp only [saysD, List.getD_cons_zero, List.getD_cons_succ, and_true] at hF
      have e42 := hF
      obtain ⟨nb, c8, A9, c9, e9, e6, hc9, hnb, h10, haft⟩ := hI.2.2.2.2 k9
      rw [hf1] at haft
      dsimp only [owes6, bare]
      simp only [putsD, Act.put, List.setIfInBounds_toArray, List.set_cons_zero, List.set_cons_succ]
      simp only [e42, e9]
      have x1 := haft.cell
      have x2 := haft.frz (xs.length * 2 + 1)
      have HN9 := Lib.hid haft.outer
      have HB9 := Lib.hid (below_set9 (p := ⟨g, xs.length * 2 + 1, none⟩) hI.1 HGW.out (.slice (some ⟨nb, 0, none⟩) (l.ts.length + 1) c8))
      have HE9 := Lib.hid (And.intro e9 (And.intro e6 (And.intro hc9 (And.intro hnb h10))))
      clear haft hI hnb h10 e6
      go_wp2
      exact ⟨rfl, trivial, trivial, HB9.out, fun e => absurd (k9.symm.trans e) (by simp), fun _ e => absurd (k9.symm.trans e) (by simp), fun _ e => absurd (k9.symm.trans e) (by simp), fun _ => ⟨nb, c8, A9, c9, HE9.out.1, HE9.out.2.1, HE9.out.2.2.1, HE9.out.2.2.2.1, HE9.out.2.2.2.2, HN9.out⟩⟩
    · intro vals xw f hall hI hF
      rw [show List.range _ = [0, 1, 2, 3, 4, 5, 6, 7, 8, 9, 10, 11, 12, 13, 14] from rfl] at hF
      simp only [says, List.getD_cons_zero, List.getD_cons_succ, and_true] at hF
      obtain ⟨nb, c8, A9, c9, _, _, hc9, hnb, _, haft⟩ := hI.2.2.2.2 (hall 9 (by decide))
      rw [hall 11 (by decide), hall 14 (by decide)] at haft
      have HB9 := Lib.hid (HB3.out.trans hI.1)
      simp only [putsD, Act.put, List.setIfInBounds_toArray, List.set_cons_zero, List.set_cons_succ]
      have HRD : Hid (Lay.layer.Rd xw (some ⟨g, 0, none⟩) x) := Lib.hid (by
        rw [HXE.out]
        have hlen : (l.ts ++ [t]).length = l.ts.length + 1 := by simp
        have hce := haft.cell
        refine HFIN.out xw ⟨l.ds, l.ts ++ [t]⟩ (.slice Ad l.ds.length cd) (.slice (some ⟨nb, 0, none⟩) (l.ts.length + 1) c8) haft.size (fun b h1 h2 h3 => haft.far b h1 h2 (fun h4 => h3 ⟨by omega, h4.2⟩)) (fun o ho => haft.others o (by omega)) ((haft.others _ (by omega)).trans HE0.out) haft.cell ?_
        refine ⟨Ad, cd, some ⟨nb, 0, none⟩, c8, by rw [hlen], (OwnDs.cap HOD.out).2, by rw [hlen]; exact haft.cap, ?_, haft.rd hc9⟩
        refine (HOD.out.at1.keep fun b hb => haft.far b hb.2 (fun e => ?_) (fun h4 => by have := HDM.out b hb.1; omega)).mono fun b hb => Nat.lt_of_lt_of_le hb.2 haft.size
        have h5 := HDM.out b hb.1
        have h6 := (HOD.out.lt b hb.1).1
        exact HS5.out ⟨by rw [← e]; omega, by rw [← e]; omega⟩)
      clear hI haft hF hall hnb hc9
      go_wp2
      refine bodyPost_ret (v := .tuple #[.slice (some ⟨g, 0, none⟩) x.length c3, .bool true]) (by simp [results, Tryz.results31, go_sem, HXL.out]) rfl ?_
      rw [show ctxAssert c t = (x, true) from by rw [HXT.out, HYES.out]; rfl]
      exact ⟨_, c3, rfl, by show x.length ≤ c3; rw [HXL.out]; exact HOC.out, HRD.out, HB9.out⟩
end Go.Proofs.YtiahmfpfimmbgaaGreatDoor
