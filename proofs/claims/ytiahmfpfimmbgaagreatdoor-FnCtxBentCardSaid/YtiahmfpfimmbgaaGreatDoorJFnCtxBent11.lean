/- The reference's CtxName. A term appended to the last of copied layers, as the reference does it: the states on the way. One layer of copied layers stands open: its terms may grow, as the draw of bent layers does it. A drawn region whose operations write old memory: each operation once, in whatever world its turn comes; a relation that all keep, and an invariant. No program is named here. A drawn region, each operation once, what memory does told of each. No program is named here. -/
import Derived.Test.YtiahmfpfimmbgaaGreatDoorJFnCtxBent6
import Derived.Test.YtiahmfpfimmbgaaGreatDoorJFnCtxBent10
/-! The reference's CtxName. -/
namespace Go.Proofs.YtiahmfpfimmbgaaGreatDoor
open Go Go.RowKit Go.ChangeShapes Go.WideShapes Go.ChangeAt Go.Deep

/-- The last layer of copied layers, and what is so once its two rows have turned. -/
theorem RowP.lastPR {lo c' : Nat} {w : World} {A : Option Addr} {xs : List Ly} {l : Ly} (h : RowP PR lo w (.slice A (xs ++ [l]).length c') (xs ++ [l])) :
    ∃ g S M E Ad cd At ct, A = some ⟨g, 0, none⟩ ∧ (lo ≤ g ∧ g < w.heap.size) ∧ w.cell? ⟨g, xs.length * 2, none⟩ = some (.slice Ad l.ds.length cd) ∧ w.cell? ⟨g, xs.length * 2 + 1, none⟩ = some (.slice At l.ts.length ct) ∧ (∀ o, w.frozen? ⟨g, o, none⟩ = false) ∧ (∃ cs9, w.heap[g]? = some (.cells cs9 58 (0, 0))) ∧
      (lo ≤ S ∧ S ≤ M ∧ M ≤ E ∧ E ≤ w.heap.size ∧ ¬ (S ≤ g ∧ g < E)) ∧ (∀ b, (Value.slice Ad l.ds.length cd).ownBlock = some b → b < M) ∧ OwnDs w S (.slice Ad l.ds.length cd) l.ds ∧ RowU M E w (.slice At l.ts.length ct) l.ts ∧
      ∀ (w' : World) (l' : Ly) (u0 u1 : Value), w.heap.size ≤ w'.heap.size → (∀ b, b < w.heap.size → b ≠ g → ¬ (S ≤ b ∧ b < E) → w'.heap[b]? = w.heap[b]?) → (∀ o, o < xs.length * 2 → w'.cell? ⟨g, o, none⟩ = w.cell? ⟨g, o, none⟩) →
        w'.cell? ⟨g, xs.length * 2, none⟩ = some u0 → w'.cell? ⟨g, xs.length * 2 + 1, none⟩ = some u1 → Lay.layer.R w' (fun b => b < w'.heap.size) l' [u0, u1] → Lay.layer.Rd w' (some ⟨g, 0, none⟩) (xs ++ [l']) := by
  have hn : (xs ++ [l]).length = xs.length + 1 := by simp
  have hlt := h.lt
  obtain ⟨cs, h1, S, E, Vd, Vt, h2, h3⟩ := h
  have hcl : cs.length = (xs ++ [l]).length * 2 := h1.1
  rw [hn] at hcl
  have hA : ∃ g, A = some ⟨g, 0, none⟩ := by
    rcases h1.2 with ⟨_, e2⟩ | ⟨g, cap, cur, e1, _⟩
    · omega
    · injection e1 with e1; exact ⟨g, e1⟩
  obtain ⟨g, rfl⟩ := hA
  have hgl : ∃ cs9, w.heap[g]? = some (.cells cs9 58 (0, 0)) := by
    rcases h1.2 with ⟨e1, _⟩ | ⟨g9, cap, cur, e1, _, hg9, _⟩
    · cases e1
    · injection e1 with e1; injection e1 with e1; injection e1 with e1; subst e1; exact ⟨cur, hg9⟩
  have hcell : ∀ j u, cs[j]? = some u → w.cell? ⟨g, j, none⟩ = some u := fun j u hu => by
    have hj : j < cs.length := (List.getElem?_eq_some_iff.1 hu).1
    rw [World.ownsRow.cellAt h1 j (by rw [hn]; omega)]
    exact hu
  have hlast : (xs ++ [l])[xs.length]? = some l := by rw [List.getElem?_append_right (Nat.le_refl _)]; simp
  obtain ⟨g1, g2, ⟨g3, g4, g5⟩, g6, g7⟩ := h2 xs.length l hlast
  obtain ⟨M, Ad, cd, At, ct, e1, e2, k1, k2, k3, k4, k5⟩ := g7
  rw [e1] at g1 k3
  rw [e2] at g2
  refine ⟨g, S xs.length, M, E xs.length, Ad, cd, At, ct, rfl, hlt g rfl, hcell _ _ g1, hcell _ _ g2, fun o => World.ownsRow.frozenAt h1 o, hgl, ⟨g3, k1, k2, g5, g6 g rfl⟩, k3, k4, k5, fun w' l' u0 u1 hs hb hc c0 c1 hr => sl_two fun _ => ⟨_, rfl, ?_, fun k l9 hl9 => ?_⟩⟩
  · have := hlt g rfl; show g < _; omega
  · rw [add_zero9, add_zero9]
    by_cases hk : k = xs.length
    · subst hk
      rw [List.getElem?_append_right (Nat.le_refl _), Nat.sub_self] at hl9
      simp at hl9
      subst hl9
      exact ⟨u0, u1, hr, c0, c1⟩
    · have hkl : k < xs.length := by
        have := (List.getElem?_eq_some_iff.1 hl9).1
        rw [List.length_append, List.length_singleton] at this
        omega
      rw [List.getElem?_append_left hkl] at hl9
      obtain ⟨q1, q2, ⟨q3, q4, q5⟩, q6, q7⟩ := h2 k l9 (by rw [List.getElem?_append_left hkl]; exact hl9)
      have hkE := h3 k xs.length hkl (by rw [hn]; omega)
      have hP := stay_PR _ _ _ _ _ _ _ q7 hs fun b h8 h9 => hb b (by omega) (fun e => q6 g rfl ⟨by omega, by omega⟩) (by omega)
      exact ⟨Vd k, Vt k, Lay.layer.mono (fun b h9 => h9.lt) (hP.pp.layer (lo := 0) (Nat.zero_le _) (Nat.le_trans q5 hs) (Nat.le_refl _)), (hc _ (by omega)).trans (hcell _ _ q1), (hc _ (by omega)).trans (hcell _ _ q2)⟩
theorem OwnDs.at1 {w : World} {base c : Nat} {A : Option Addr} {xs : List D} (h : OwnDs w base (.slice A xs.length c) xs) : Lay.decl.Sl w (fun b => (Value.slice A xs.length c).ownBlock = some b ∧ b < w.heap.size) A xs := fun h0 => by
  obtain ⟨ad, e, hf, hc⟩ := h.rd h0
  subst e
  exact ⟨ad, rfl, ⟨rfl, hf⟩, fun k x hx => by
    obtain ⟨vs, hr, hcell⟩ := hc k x hx
    exact ⟨vs, hr, hcell⟩⟩
theorem OwnDs.blk {w : World} {base : Nat} {v : Value} {xs : List D} (h : OwnDs w base v xs) {b : Nat} (hb : v.ownBlock = some b) : ∃ cs, w.heap[b]? = some (.cells cs 39 (0, 0)) := by
  rcases h.2 with ⟨e1, _⟩ | ⟨g, cap, cur, e1, _, hg, _⟩
  · rw [e1] at hb; cases hb
  · rw [e1] at hb
    have : g = b := by simpa [Value.ownBlock] using hb
    subst this
    exact ⟨_, hg⟩
/-- Layers that may be read. -/
def Fact.rdL (lo : Nat) (W : World) (A : Option Addr) (ys : List Ly) : Fact := .of (fun _ z => Lay.layer.Rd z A ys ∧ Below lo W z ∧ lo ≤ z.heap.size) fun _ z z' ⟨h1, h2, h3⟩ hb => ⟨h1.up hb, h2.trans (hb.mono h3), Nat.le_trans h3 hb.size⟩
/-- A row of declarations has grown. -/
def Fact.rowD (S : Nat) (W : World) (v0 : Value) (ys : List D) : Fact := .of (fun v z => ∃ A c, v = .slice A ys.length c ∧ OwnDs z S (.slice A ys.length c) ys ∧ W.grownBy z v0.ownBlock) fun _ _ _ ⟨A, c, h1, h2, h3⟩ hb => ⟨A, c, h1, h2.up hb, grown_below h3 hb⟩
set_option maxRecDepth 100000 in
set_option maxHeartbeats 8000000 in
theorem specCtxName_c (c : List Ly) (d : D) (A : Option Addr) (q : Nat) (w : World) (h : Lay.layer.Rd w A c) (hq : c.length ≤ q) (hs : okC c) (hd : smD d) :
    Calls Tryz.prog 25 #[.slice A c.length q, .agg #[.string d.name, .int .i64 d.wide]] w (RetRd2 (ctxName c d) w) := by
  have hc := hs
  have hal0 : Below w.heap.size w (w.alloc (.cells #[.string d.name, .int .i64 d.wide] 39)) := (Below.refl _ _).alloc (Nat.le_refl _) _
  have hbx0 := heap_alloc_new w (.cells #[.string d.name, .int .i64 d.wide] 39)
  have HO := Lib.hid (specCtxOk_any A q c (w.alloc (.cells #[.string d.name, .int .i64 d.wide] 39)) (h.up hal0) hq hc)
  have HCP := Lib.hid (fun (z : World) (hz : Lay.layer.Rd z A c) => l10Copy_any A q c z hz hc.len (okC_l2 hs))
  obtain ⟨r, hr⟩ : ∃ r, r = ctxOk c := ⟨_, rfl⟩
  rw [← hr] at HO
  obtain ⟨x, hx⟩ : ∃ x, x = addD c d := ⟨_, rfl⟩
  have HXX := Lib.hid hx
  have HX : Hid (ctxName c d = if r = true then (if ctxOk x = true then (x, true) else (c, false)) else ([], false)) := Lib.hid (by rw [hr, hx]; rfl)
  have HOX : Hid (r = true → okC x) := Lib.hid (fun e => by rw [hx]; exact okC_addD9 hc (by rw [← hr]; exact e) hd)
  have HN := Lib.hid (fun (B : Option Addr) (b : Nat) (z : World) (hz : Lay.layer.Rd z A c) (hz' : Lay.layer.Rd z B x) (hb : x.length ≤ b) (hr : r = true) => l10Now_any c x A B q b z hz hz' hb hc.len (okC_l2 hs) (HOX.out hr))
  have HLS : Hid (r = true → ∃ xs l, c = xs ++ [l] ∧ x = xs ++ [⟨l.ds ++ [d], l.ts⟩] ∧ l.ds.length ≤ 4 ∧ xs.length ≤ 6) := Lib.hid (fun e => by
    have hk : ctxOk c = true := by rw [← hr]; exact e
    have h4 := declOk_len (ctxOk_parts hk).2.2.1
    have h6 := (ctxOk_parts hk).2.1
    obtain ⟨xs, l, rfl⟩ := last_of (ctxOk_parts hk).1
    rw [dsAll_app, dsAll_one, List.length_append] at h4
    rw [List.length_append] at h6
    exact ⟨xs, l, rfl, by rw [hx, addD_app], by omega, by omega⟩)
  have H := Lib.hid (h.up hal0)
  have H0 := Lib.hid h
  have HAL0 := Lib.hid hal0
  have HBX0 := Lib.hid hbx0
  clear hc hr hs h hx hal0 hbx0 hd hq
  go_enter Tryz.func25, Tryz.ntmps25
  go_wp2_with fail
  generalize w.alloc (.cells #[.string d.name, .int .i64 d.wide] 39) = W0 at *
  obtain ⟨bd, hbd⟩ : ∃ bd, bd = w.heap.size := ⟨_, rfl⟩
  have HBD := Lib.hid hbd
  rw [← hbd] at HBX0 ⊢
  clear hbd
  refine HO.out.mono ?_
  rintro e w2 ⟨rfl, hb2⟩
  have HB2 := Lib.hid (bthen HAL0.out hb2)
  have HBX2 := Lib.hid ((hb2.block _ (lt_of_block HBX0.out)).trans HBX0.out)
  have H2 := Lib.hid (H.out.up hb2)
  clear H HO
  cases r
  · have hal := HB2.out.alloc HB2.out.size (.cells #[] 58)
    have HAL := Lib.hid hal
    clear hal hb2
    go_wp2
    refine bodyPost_ret (v := .tuple #[.slice (some ⟨w2.heap.size, 0, none⟩) 0 0, .bool false]) (by simp [results, Tryz.results25, go_sem]) rfl ?_
    rw [show ctxName c d = ([], false) from by rw [HX.out]; rfl]
    exact ⟨_, _, rfl, Nat.zero_le _, RdO.nil _ _ _, HAL.out⟩
  · have HLC := Lib.hid (HCP.out w2 H2.out)
    clear hb2 HCP
    go_wp2_with fail
    refine HLC.out.mono ?_
    rintro e w3 ⟨A3, c3, rfl, ho, hb3⟩
    obtain ⟨xs, l, hcx, hxx, hl4, hx6⟩ := HLS.out trivial
    have HB3 := Lib.hid (bthen HB2.out hb3)
    have HBX3 := Lib.hid ((hb3.block _ (lt_of_block HBX2.out)).trans HBX2.out)
    have H3 := Lib.hid (H2.out.up hb3)
    have hoc := ho.cap.2
    have hcl : c.length = xs.length + 1 := by rw [hcx]; simp
    have ho : RowP PR w2.heap.size w3 (.slice A3 (xs ++ [l]).length c3) (xs ++ [l]) := by rw [← hcx]; exact ho
    obtain ⟨g, S, M, E, Ad, cd, At, ct, rfl, ⟨hg1, hg2⟩, e0, e1, hfz, hgl, ⟨s1, s2, s3, s4, s5⟩, hdm, hod, hru, hfin⟩ := ho.lastPR
    have HFIN := Lib.hid hfin
    have HGL := Lib.hid hgl
    have HRU := Lib.hid hru
    have HOD := Lib.hid hod
    have HDM := Lib.hid hdm
    have HE0 := Lib.hid e0
    have HE1 := Lib.hid e1
    have HFZ := Lib.hid hfz
    have HCX := Lib.hid hcx
    have HXE := Lib.hid hxx
    have HCL := Lib.hid hcl
    have HS5 := Lib.hid s5
    have HWZ := Lib.hid HB2.out.size
    have HZ3 := Lib.hid hb3.size
    obtain ⟨ys, hys⟩ : ∃ ys, ys = l.ds ++ [d] := ⟨_, rfl⟩
    have HYS := Lib.hid hys
    obtain ⟨i0, hi0, hz0, hz1, hz2⟩ := info_parts decl_info
    have HI := Lib.hid (And.intro hi0 (And.intro hz0 (And.intro hz1 hz2)))
    have hnk : ((c.length : Nat) : Int) - 1 = (xs.length : Int) := by omega
    have hk1 : (xs.length : Int) < (c.length : Int) := by omega
    have d0 := Later.cell HE0.out
    have q0 := Later.cell (cell_of_block HBX3.out 0).1
    have q1 := Later.cell (cell_of_block HBX3.out 1).1
    have hcb : c.length ≤ 1048576 := by omega
    clear hys hi0 hz0 hz1 hz2 hgl hfin hru hod hdm e0 e1 hfz hcx hxx hcl s5 ho hb3 HLC HLS
    go_wp2
    refine wp_region_shares [[], [], [], [], [(2, 19), (3, 20)], [(4, 21)], [(5, 22)], [], [(7, 24)], [(6, 23), (8, 25)], [(0, 17), (1, 18)], [(10, 27)], [(11, 28), (9, 26)]]
      [.eq (.slice (some ⟨g, 0, none⟩) c.length c3), .eq (.int .i64 (xs.length : Int)), .eq (.slice (some ⟨g, 0, none⟩) c.length c3), .eq (.int .i64 (xs.length : Int)), .eq (.pointer (some ⟨g, xs.length * 2, none⟩)), .eq (.pointer (some ⟨g, xs.length * 2, none⟩)), .eq (.slice Ad l.ds.length cd), .eq (.agg #[.string d.name, .int .i64 d.wide]), .lit 39 1 #[.string d.name, .int .i64 d.wide], Fact.rowD S w3 (.slice Ad l.ds.length cd) ys, .eq (.pointer (some ⟨g, xs.length * 2, none⟩)), .eq (.pointer (some ⟨g, xs.length * 2, none⟩)), Fact.rdL w.heap.size w3 (some ⟨g, 0, none⟩) x]
      [9, 12] [9, 12] [0, 1, 10, 11, 12] [12] [(0, 17), (1, 18), (2, 19), (3, 20), (4, 21), (5, 22), (6, 23), (7, 24), (8, 25), (9, 26), (10, 27), (11, 28)] (by kernel_rfl) (by kernel_rfl) (by kernel_rfl) (by kernel_rfl)
      ⟨?_, ?_, ?_, ?_, ?_, ?_, ?_, ?_, ?_, ?_, ?_, ?_, ?_, trivial⟩ ?_
    · intro vals z hC hF
      simp only [putsD, Act.put, List.setIfInBounds_toArray, List.set_cons_zero, List.set_cons_succ]
      go_wp2
      exact ⟨rfl, rfl, .inr (Below.refl _ _), .inr (.inl (by simp))⟩
    · intro vals z hC hF
      simp only [putsD, Act.put, List.setIfInBounds_toArray, List.set_cons_zero, List.set_cons_succ]
      go_wp2
      exact ⟨rfl, rfl, .inr (Below.refl _ _), .inr (.inl (by simp))⟩
    · intro vals z hC hF
      simp only [putsD, Act.put, List.setIfInBounds_toArray, List.set_cons_zero, List.set_cons_succ]
      go_wp2
      exact ⟨rfl, rfl, .inr (Below.refl _ _), .inr (.inl (by simp))⟩
    · intro vals z hC hF
      simp only [putsD, Act.put, List.setIfInBounds_toArray, List.set_cons_zero, List.set_cons_succ]
      go_wp2
      exact ⟨rfl, rfl, .inr (Below.refl _ _), .inr (.inl (by simp))⟩
    · intro vals z hC hF
      simp only [factsD, List.getD_cons_zero, List.getD_cons_succ, Fact.eq, Fact.row, Fact.lit, Fact.lit0, Fact.of, and_true, Fact.rowD, Fact.rdL] at hF
      obtain ⟨e1, e2⟩ := hF
      simp only [putsD, Act.put, List.setIfInBounds_toArray, List.set_cons_zero, List.set_cons_succ]
      simp only [e1, e2]
      go_wp2
      exact ⟨rfl, rfl, .inr (Below.refl _ _), .inr (.inl (by simp))⟩
    · intro vals z hC hF
      simp only [factsD, List.getD_cons_zero, List.getD_cons_succ, Fact.eq, Fact.row, Fact.lit, Fact.lit0, Fact.of, and_true, Fact.rowD, Fact.rdL] at hF
      simp only [putsD, Act.put, List.setIfInBounds_toArray, List.set_cons_zero, List.set_cons_succ]
      simp only [hF]
      go_wp2
      exact ⟨rfl, rfl, .inr (Below.refl _ _), .inr (.inl (by simp))⟩
    · intro vals z hC hF
      have hC := hC.resolve_left (by simp)
      have hsz := hC.size
      have e1 : z.cell? _ = _ := d0 ⟨z, hC⟩
      simp only [factsD, List.getD_cons_zero, List.getD_cons_succ, Fact.eq, Fact.row, Fact.lit, Fact.lit0, Fact.of, and_true, Fact.rowD, Fact.rdL] at hF
      simp only [putsD, Act.put, List.setIfInBounds_toArray, List.set_cons_zero, List.set_cons_succ]
      simp only [hF]
      go_wp2
      exact ⟨rfl, rfl, .inr (Below.refl _ _), .inr (.inl (by simp))⟩
    · intro vals z hC hF
      have hC := hC.resolve_left (by simp)
      have hsz := hC.size
      have e1 : z.cell? _ = _ := q0 ⟨z, hC⟩
      have e2 : z.cell? _ = _ := q1 ⟨z, hC⟩
      simp only [putsD, Act.put, List.setIfInBounds_toArray, List.set_cons_zero, List.set_cons_succ]
      go_wp2
      exact ⟨rfl, rfl, .inr (Below.refl _ _), .inr (.inl (by simp))⟩
    · intro vals z hC hF
      have hC := hC.resolve_left (by simp)
      have hsz := hC.size
      simp only [factsD, List.getD_cons_zero, List.getD_cons_succ, Fact.eq, Fact.row, Fact.lit, Fact.lit0, Fact.of, and_true, Fact.rowD, Fact.rdL] at hF
      simp only [putsD, Act.put, List.setIfInBounds_toArray, List.set_cons_zero, List.set_cons_succ]
      simp only [hF]
      go_wp2
      exact ⟨rfl, ⟨_, rfl, by simp, _, heap_alloc_new _ _⟩, .inr ((Below.refl _ _).alloc (Nat.le_refl _) _), .inr (.inl (by simp))⟩
    · intro vals z hC hF
      have hC := hC.resolve_left (by simp)
      have hsz := hC.size
      simp only [factsD, List.getD_cons_zero, List.getD_cons_succ, Fact.eq, Fact.row, Fact.lit, Fact.lit0, Fact.of, and_true, Fact.rowD, Fact.rdL] at hF
      obtain ⟨e5, b5, e7, hlt5, fr5, hb5⟩ := hF
      have HS9 := HOD.out.up hC
      have hsr := decl_src hb5
      simp only [putsD, Act.put, List.setIfInBounds_toArray, List.set_cons_zero, List.set_cons_succ]
      simp only [e5, e7]
      refine wpList_append_decls (xs := l.ds) (ys := ys) (zs := [d]) (by rfl) (.tmp 23) (.tmp 25) (by rfl) (by rfl) (by rfl) HS9 hsr (fun e => by cases e) (by omega) (by show 1 ≤ 2000000; omega) (by omega) HYS.out ?_
      intro A9 c9 w9 hown9 hb9 hg9
      exact ⟨rfl, ⟨A9, c9, rfl, hown9, below_grown hC hg9⟩, .inl (by simp), .inl (by simp)⟩
    · intro vals z hC hF
      simp only [factsD, List.getD_cons_zero, List.getD_cons_succ, Fact.eq, Fact.row, Fact.lit, Fact.lit0, Fact.of, and_true, Fact.rowD, Fact.rdL] at hF
      obtain ⟨e1, e2⟩ := hF
      simp only [putsD, Act.put, List.setIfInBounds_toArray, List.set_cons_zero, List.set_cons_succ]
      simp only [e1, e2]
      go_wp2
      exact ⟨rfl, rfl, .inr (Below.refl _ _), .inr (.inl (by simp))⟩
    · intro vals z hC hF
      simp only [factsD, List.getD_cons_zero, List.getD_cons_succ, Fact.eq, Fact.row, Fact.lit, Fact.lit0, Fact.of, and_true, Fact.rowD, Fact.rdL] at hF
      simp only [putsD, Act.put, List.setIfInBounds_toArray, List.set_cons_zero, List.set_cons_succ]
      simp only [hF]
      go_wp2
      exact ⟨rfl, rfl, .inr (Below.refl _ _), .inr (.inl (by simp))⟩
    · intro vals z hC hF
      simp only [factsD, List.getD_cons_zero, List.getD_cons_succ, Fact.eq, Fact.row, Fact.lit, Fact.lit0, Fact.of, and_true, Fact.rowD, Fact.rdL] at hF
      obtain ⟨e11, A9, c9, e8, hown9, hg9⟩ := hF
      have hgn : (Value.slice Ad l.ds.length cd).ownBlock ≠ some g := fun e => HS5.out ⟨(HOD.out.lt g e).1, by have := HDM.out g e; omega⟩
      have hgz : z.heap[g]? = w3.heap[g]? := hg9.block g hg2 (fun e => hgn e.symm)
      have x1 : z.cell? ⟨g, xs.length * 2, none⟩ = _ := (World.cell?_of_block (a := ⟨g, xs.length * 2, none⟩) hgz).trans HE0.out
      have x2 : z.frozen? ⟨g, xs.length * 2, none⟩ = false := (World.frozen?_of_block (a := ⟨g, xs.length * 2, none⟩) hgz).trans (HFZ.out _)
      have HRD : Hid (Lay.layer.Rd (z.setCell ⟨g, xs.length * 2, none⟩ (.slice A9 ys.length c9)) (some ⟨g, 0, none⟩) x) := Lib.hid (by
          rw [HXE.out, ← HYS.out]
          have hsz9 := hg9.size
          have hfar : ∀ b, b ≠ g → (z.setCell ⟨g, xs.length * 2, none⟩ (.slice A9 ys.length c9)).heap[b]? = z.heap[b]? := fun b hb => Below.heap_setCell z ⟨g, _, none⟩ _ b hb
          refine HFIN.out _ ⟨ys, l.ts⟩ (.slice A9 ys.length c9) (.slice At l.ts.length ct) (by rw [size_setCell]; exact hsz9) (fun b hb hne hn9 => (hfar b hne).trans (hg9.block b hb (fun e => hn9 ⟨(HOD.out.lt b e.symm).1, by have := HDM.out b e.symm; omega⟩))) (fun o ho9 => (World.cell?_setCell_other _ _ _ _ (fun e => by injection e with _ e _; omega)).trans (World.cell?_of_block (a := ⟨g, o, none⟩) hgz)) (World.cell?_setCell_same _ _ _ x1) ((World.cell?_setCell_other _ _ _ _ (fun e => by injection e with _ e _; omega)).trans ((World.cell?_of_block (a := ⟨g, xs.length * 2 + 1, none⟩) hgz).trans HE1.out)) ?_
          refine ⟨A9, c9, At, ct, rfl, (OwnDs.cap hown9).2, ?_, ?_, ?_⟩
          · obtain ⟨A8, c8, e8, h8⟩ := HRU.out.row.form
            injection e8 with _ _ e8
            show l.ts.length ≤ ct
            omega
          · have h8 := hown9.rd
            refine ((hown9.at1.keep fun b hb => hfar b (fun e => ?_)).mono fun b hb => by rw [size_setCell]; exact hb.2)
            obtain ⟨cs8, h7⟩ := hown9.blk hb.1
            obtain ⟨cs9, h6⟩ := HGL.out
            rw [e, hgz, h6] at h7
            injection h7 with h7
            injection h7 with _ h7 _
            exact absurd h7 neLD
          · refine ((TrT.sl HRU.out.tree).keep fun b hb => (hfar b (fun e => HS5.out ⟨by rw [← e]; have := hb.1; omega, by rw [← e]; exact hb.2.1⟩)).trans (hg9.block b (by have := hb.2.1; omega) (fun e => by have := HDM.out b e.symm; have := hb.1; omega))).mono fun b hb => by rw [size_setCell]; have := hb.2.1; omega)
      have HBL : Hid (Below w.heap.size w3 (z.setCell ⟨g, xs.length * 2, none⟩ (.slice A9 ys.length c9))) := Lib.hid (below_set9 (p := ⟨g, xs.length * 2, none⟩) ((Below.refl w.heap.size w3).grown hg9 (Nat.le_trans HWZ.out HZ3.out) (fun b e => by have := (HOD.out.lt b e).1; have := HWZ.out; omega)) (by show w.heap.size ≤ g; have := HWZ.out; omega) _)
      have HSZ := Lib.hid hg9.size
      simp only [putsD, Act.put, List.setIfInBounds_toArray, List.set_cons_zero, List.set_cons_succ]
      simp only [e11, e8]
      go_wp2
      exact ⟨rfl, ⟨HRD.out, HBL.out, by rw [size_setCell]; have := HSZ.out; have := HWZ.out; have := HZ3.out; omega⟩, .inl (by simp), .inl (by simp)⟩
    · intro vals z hF
      simp only [facts, List.getD_cons_zero, List.getD_cons_succ, Fact.eq, Fact.row, Fact.lit, Fact.lit0, Fact.of, and_true, Fact.rowD, Fact.rdL] at hF
      obtain ⟨hR9, hB9, _⟩ := hF
      simp only [putsD, Act.put, List.setIfInBounds_toArray, List.set_cons_zero, List.set_cons_succ]
      have hB8 := HB3.out.trans hB9
      have hxl : x.length ≤ c3 := by rw [HXE.out]; have := HCL.out; simp; omega
      have hxc : x.length = c.length := by rw [HXE.out]; have := HCL.out; simp; omega
      have HNN := Lib.hid (HN.out (some ⟨g, 0, none⟩) c3 z ((H0.out.keep fun b hb => hB8.block b hb).mono fun b hb => Nat.lt_of_lt_of_le hb hB8.size) hR9 hxl trivial)
      have HB8 := Lib.hid hB8
      rw [hxc] at HNN
      clear d0 q0 q1 hR9 hB9 hB8 hxl hxc
      go_wp2_with fail
      refine HNN.out.mono ?_
      rintro e w9 ⟨A9, c9, rfl, hc9, hr9, hb9⟩
      have HRR := Lib.hid (And.intro hc9 (And.intro hr9 (bthen HB8.out hb9)))
      clear hc9 hr9 hb9
      have HXF : Hid (ctxName c d = if ctxOk x = true then (x, true) else (c, false)) := Lib.hid (by rw [HX.out]; rfl)
      clear HX
      generalize (if ctxOk x = true then (x, true) else (c, false)) = s9 at *
      go_wp2
      refine bodyPost_ret (v := .tuple #[.slice A9 s9.1.length c9, .bool s9.2]) (by simp [results, Tryz.results25, go_sem]) rfl ?_
      rw [HXF.out]
      exact ⟨A9, c9, rfl, HRR.out.1, HRR.out.2.1, HRR.out.2.2⟩
end Go.Proofs.YtiahmfpfimmbgaaGreatDoor

/-! A term appended to the last of copied layers, as the reference does it: the states on the way. -/
namespace Go.Proofs.YtiahmfpfimmbgaaGreatDoor
open Go Go.RowKit

def zcells : List Value := [.int .i64 0, .int .i64 0, .int .i64 0, .string ⟨#[]⟩, .slice none 0 0]
theorem RowU.ownL {lo hi : Nat} {w : World} {v : Value} {ts : List T} (h : RowU lo hi w v ts) : OwnL Lay.term (fun _ b => lo ≤ b ∧ b < hi) 48 w lo v ts := by
  obtain ⟨h1, w0, rfl, ⟨cs, r1, Ak, ck, Fk, r2, r3, r4⟩, h3⟩ := h
  refine ⟨cs, own_of_heap r1 fun g hg => h3 g (r1.lt g hg).1 (r1.lt g hg).2, fun i x hx => ?_⟩
  obtain ⟨q1, q2, q3⟩ := r2 i x hx
  have hi : i < ts.length := (List.getElem?_eq_some_iff.1 hx).1
  refine ⟨tcells x (Ak i) (ck i), TermR.of q2 (((TrT.sl q3).keep fun b hb => ?_).mono fun b hb => ?_), fun j u hu => q1 j u hu⟩
  · obtain ⟨o1, _⟩ := r3 i b hi hb
    exact h3 b o1.1 o1.2.1
  · obtain ⟨o1, o2⟩ := r3 i b hi hb
    exact ⟨Nat.lt_of_lt_of_le o1.2.1 h1, o2, o1.1, o1.2.1⟩
/-- Behind the append: the row's block nb, of ts and one more; the outer cell. -/
structure AftA (X : World) (g k M E : Nat) (At : Option Addr) (ct : Nat) (ts : List T) (t : T) (fa fb : Bool) (x : World) (nb c8 : Nat) (A9 : Option Addr) (c9 : Nat) : Prop where
  ne : nb ≠ g
  lo : M ≤ nb
  row : ∃ cs, x.ownsRow M 48 5 (.slice (some ⟨nb, 0, none⟩) (ts.length + 1) c8) (ts.length + 1) (cs ++ (if fa then tcells t A9 c9 else zcells)) ∧ cs.length = ts.length * 5 ∧
    ∀ i y, ts[i]? = some y → ∃ vs, Lay.term.R x (fun b => b < x.heap.size ∧ b ≠ nb ∧ b ≠ g) y vs ∧ ∀ j u, vs[j]? = some u → cs[i * 5 + j]? = some u
  kids : Lay.term.Sl x (fun b => b < x.heap.size ∧ b ≠ nb ∧ b ≠ g) A9 t.kids
  cell : x.cell? ⟨g, k * 2 + 1, none⟩ = some (if fb then .slice (some ⟨nb, 0, none⟩) (ts.length + 1) c8 else .slice At ts.length ct)
  others : ∀ o, o ≠ k * 2 + 1 → x.cell? ⟨g, o, none⟩ = X.cell? ⟨g, o, none⟩
  frz : ∀ o, x.frozen? ⟨g, o, none⟩ = false
  size : X.heap.size ≤ x.heap.size
  far : ∀ b, b < X.heap.size → b ≠ g → ¬ (M ≤ b ∧ b < E) → x.heap[b]? = X.heap[b]?
  glt : g < x.heap.size
section
variable {X : World} {g k M E : Nat} {At : Option Addr} {ct : Nat} {ts : List T} {t : T} {fa fb : Bool} {x x' : World} {nb c8 : Nat} {A9 : Option Addr} {c9 : Nat}
theorem AftA.up (h : AftA X g k M E At ct ts t fa fb x nb c8 A9 c9) (hb : Below x.heap.size x x') : AftA X g k M E At ct ts t fa fb x' nb c8 A9 c9 := by
  obtain ⟨cs, h1, h2, h3⟩ := h.row
  refine ⟨h.ne, h.lo, ⟨cs, own_below h1 hb (Nat.le_refl _), h2, fun i y hy => ?_⟩, (h.kids.keep fun b hb9 => hb.block b hb9.1).mono fun b hb9 => ⟨Nat.lt_of_lt_of_le hb9.1 hb.size, hb9.2⟩, (hb.cell (p := ⟨g, _, none⟩) h.glt).trans h.cell, fun o ho => (hb.cell (p := ⟨g, _, none⟩) h.glt).trans (h.others o ho), fun o => (hb.frozen (p := ⟨g, o, none⟩) h.glt).trans (h.frz o), Nat.le_trans h.size hb.size, fun b h8 h9 h10 => (hb.block b (Nat.lt_of_lt_of_le h8 h.size)).trans (h.far b h8 h9 h10), Nat.lt_of_lt_of_le h.glt hb.size⟩
  obtain ⟨vs, hr, hu⟩ := h3 i y hy
  exact ⟨vs, Lay.term.mono (fun b hb9 => ⟨Nat.lt_of_lt_of_le hb9.1 hb.size, hb9.2⟩) (Lay.term.keep (fun b hb9 => hb.block b hb9.1) hr), hu⟩
/-- The outer cell is stored. -/
theorem AftA.outer (h : AftA X g k M E At ct ts t fa fb x nb c8 A9 c9) : AftA X g k M E At ct ts t fa true (x.setCell ⟨g, k * 2 + 1, none⟩ (.slice (some ⟨nb, 0, none⟩) (ts.length + 1) c8)) nb c8 A9 c9 := by
  obtain ⟨cs, h1, h2, h3⟩ := h.row
  have hfar : ∀ b, b ≠ g → (x.setCell ⟨g, k * 2 + 1, none⟩ (.slice (some ⟨nb, 0, none⟩) (ts.length + 1) c8)).heap[b]? = x.heap[b]? := fun b hb => Below.heap_setCell x ⟨g, _, none⟩ _ b hb
  have hc := h.cell
  refine ⟨h.ne, h.lo, ⟨cs, own_of_heap h1 fun b hb => hfar b (by have hb : some nb = some b := hb; injection hb with hb; rw [← hb]; exact h.ne), h2, fun i y hy => ?_⟩, (h.kids.keep fun b hb9 => hfar b hb9.2.2).mono fun b hb9 => by rw [size_setCell]; exact hb9, World.cell?_setCell_same _ _ _ hc, fun o ho => (World.cell?_setCell_other _ _ _ _ (fun e => by injection e with _ e _; omega)).trans (h.others o ho), fun o => (World.frozen?_setCell _ _ _ _).trans (h.frz o), by rw [size_setCell]; exact h.size, fun b h8 h9 h10 => (hfar b h9).trans (h.far b h8 h9 h10), by rw [size_setCell]; exact h.glt⟩
  obtain ⟨vs, hr, hu⟩ := h3 i y hy
  exact ⟨vs, Lay.term.mono (fun b hb9 => by rw [size_setCell]; exact hb9) (Lay.term.keep (fun b hb9 => hfar b hb9.2.2) hr), hu⟩
theorem AftA.cells (h : AftA X g k M E At ct ts t fa fb x nb c8 A9 c9) : ∀ j, j < 5 → ∃ u, x.cell? ⟨nb, ts.length * 5 + j, none⟩ = some u := fun j hj => by
  obtain ⟨cs, h1, h2, _⟩ := h.row
  have hl : (cs ++ (if fa then tcells t A9 c9 else zcells)).length = ts.length * 5 + 5 := by
    rw [List.length_append, h2]; cases fa <;> rfl
  have := h1.cellAt (ts.length * 5 + j) (by show _ < (ts.length + 1) * 5; omega)
  rw [List.getElem?_eq_getElem (by omega)] at this
  exact ⟨_, this⟩
theorem AftA.nfrz (h : AftA X g k M E At ct ts t fa fb x nb c8 A9 c9) : ∀ o, x.frozen? ⟨nb, o, none⟩ = false := fun o => by
  obtain ⟨cs, h1, _⟩ := h.row
  exact h1.frozenAt o
/-- The term's cells are stored. -/
theorem AftA.elem (h : AftA X g k M E At ct ts t false fb x nb c8 A9 c9) (hM : ∀ b, M ≤ b → b < E → True) (hnb : nb < X.heap.size → M ≤ nb ∧ nb < E) :
    AftA X g k M E At ct ts t true fb (((((x.setCell ⟨nb, ts.length * 5, none⟩ (.int .i64 t.op)).setCell ⟨nb, ts.length * 5 + 1, none⟩ (.int .i64 t.a)).setCell ⟨nb, ts.length * 5 + 2, none⟩ (.int .i64 t.b)).setCell ⟨nb, ts.length * 5 + 3, none⟩ (.string t.name)).setCell ⟨nb, ts.length * 5 + 4, none⟩ (.slice A9 t.kids.length c9)) nb c8 A9 c9 := by
  obtain ⟨cs, h1, h2, h3⟩ := h.row
  have hfar : ∀ b, b ≠ nb → (((((x.setCell ⟨nb, ts.length * 5, none⟩ (.int .i64 t.op)).setCell ⟨nb, ts.length * 5 + 1, none⟩ (.int .i64 t.a)).setCell ⟨nb, ts.length * 5 + 2, none⟩ (.int .i64 t.b)).setCell ⟨nb, ts.length * 5 + 3, none⟩ (.string t.name)).setCell ⟨nb, ts.length * 5 + 4, none⟩ (.slice A9 t.kids.length c9)).heap[b]? = x.heap[b]? := fun b hb =>
    (Below.heap_setCell _ ⟨nb, _, none⟩ _ b hb).trans ((Below.heap_setCell _ ⟨nb, _, none⟩ _ b hb).trans ((Below.heap_setCell _ ⟨nb, _, none⟩ _ b hb).trans ((Below.heap_setCell _ ⟨nb, _, none⟩ _ b hb).trans (Below.heap_setCell _ ⟨nb, _, none⟩ _ b hb))))
  have hst1 := (h1.stored (ts.length * 5) (.int .i64 t.op)).1
  have hst2 := (hst1.stored (ts.length * 5 + 1) (.int .i64 t.a)).1
  have hst3 := (hst2.stored (ts.length * 5 + 2) (.int .i64 t.b)).1
  have hst4 := (hst3.stored (ts.length * 5 + 3) (.string t.name)).1
  have hst5 := (hst4.stored (ts.length * 5 + 4) (.slice A9 t.kids.length c9)).1
  have hcs : ((((((cs ++ (if false = true then tcells t A9 c9 else zcells)).set (ts.length * 5) (.int .i64 t.op)).set (ts.length * 5 + 1) (.int .i64 t.a)).set (ts.length * 5 + 2) (.int .i64 t.b)).set (ts.length * 5 + 3) (.string t.name)).set (ts.length * 5 + 4) (.slice A9 t.kids.length c9)) = cs ++ tcells t A9 c9 := by
    rw [List.set_append_right _ _ (by omega), List.set_append_right _ _ (by omega), List.set_append_right _ _ (by omega), List.set_append_right _ _ (by omega), List.set_append_right _ _ (by omega), h2,
      show ts.length * 5 - ts.length * 5 = 0 by omega, show ts.length * 5 + 1 - ts.length * 5 = 1 by omega, show ts.length * 5 + 2 - ts.length * 5 = 2 by omega, show ts.length * 5 + 3 - ts.length * 5 = 3 by omega, show ts.length * 5 + 4 - ts.length * 5 = 4 by omega]
    rfl
  rw [hcs] at hst5
  have hgx := hfar g h.ne.symm
  refine ⟨h.ne, h.lo, ⟨cs, hst5, h2, fun i y hy => ?_⟩, (h.kids.keep fun b hb9 => hfar b hb9.2.1).mono fun b hb9 => by simp only [size_setCell]; exact hb9, (World.cell?_of_block (a := ⟨g, _, none⟩) hgx).trans h.cell, fun o ho => (World.cell?_of_block (a := ⟨g, _, none⟩) hgx).trans (h.others o ho), fun o => (World.frozen?_of_block (a := ⟨g, o, none⟩) hgx).trans (h.frz o), by simp only [size_setCell]; exact h.size, fun b h8 h9 h10 => (hfar b (fun e => by rw [e] at h8 h10; exact h10 (hnb h8))).trans (h.far b h8 h9 h10), by simp only [size_setCell]; exact h.glt⟩
  obtain ⟨vs, hr, hu⟩ := h3 i y hy
  exact ⟨vs, Lay.term.mono (fun b hb9 => by simp only [size_setCell]; exact hb9) (Lay.term.keep (fun b hb9 => hfar b hb9.2.1) hr), hu⟩
/-- The terms, read. -/
theorem AftA.rd (h : AftA X g k M E At ct ts t true fb x nb c8 A9 c9) (hc9 : t.kids.length ≤ c9) : Lay.term.Rd x (some ⟨nb, 0, none⟩) (ts ++ [t]) := fun _ => by
  obtain ⟨cs, h1, h2, h3⟩ := h.row
  refine ⟨_, rfl, (h1.lt nb rfl).2, fun i y hy => ?_⟩
  have hcell : ∀ j u, (cs ++ tcells t A9 c9)[j]? = some u → x.cell? ((⟨nb, 0, none⟩ : Addr).add j) = some u := fun j u hu => by
    have hj : j < (cs ++ tcells t A9 c9).length := (List.getElem?_eq_some_iff.1 hu).1
    rw [List.length_append, h2, show (tcells t A9 c9).length = 5 from rfl] at hj
    rw [add_zero9]
    have := h1.cellAt j (by show _ < (ts.length + 1) * 5; omega)
    rw [this]
    exact hu
  by_cases hi : i < ts.length
  · rw [List.getElem?_append_left hi] at hy
    obtain ⟨vs, hr, hu⟩ := h3 i y hy
    refine ⟨vs, Lay.term.mono (fun b hb => hb.1) hr, fun j u hj => hcell _ _ ?_⟩
    have h9 := hu j u hj
    show (cs ++ tcells t A9 c9)[i * 5 + j]? = some u
    rw [List.getElem?_append_left (List.getElem?_eq_some_iff.1 h9).1]
    exact h9
  · have hil : i = ts.length := by have := (List.getElem?_eq_some_iff.1 hy).1; simp at this; omega
    subst hil
    rw [List.getElem?_append_right (Nat.le_refl _), Nat.sub_self] at hy
    simp at hy
    subst hy
    refine ⟨tcells t A9 c9, TermR.of hc9 (h.kids.mono fun b hb => hb.1), fun j u hj => hcell _ _ ?_⟩
    show (cs ++ tcells t A9 c9)[ts.length * 5 + j]? = some u
    rw [List.getElem?_append_right (by omega), h2, show ts.length * 5 + j - ts.length * 5 = j by omega]
    exact hj
end
/-- append of a zero term onto the terms of the last of copied layers. -/
theorem run_append_zero {X x : World} {g k M E b : Nat} {At : Option Addr} {ct d : Nat} {ts : List T} {t : T} {ty : TypeId} {A9 : Option Addr} {c9 : Nat} (hru : RowU M E X (.slice At ts.length ct) ts) (hn : ts.length ≤ 1048576) (hME : M ≤ E) (hE : E ≤ X.heap.size) (hg : g < X.heap.size) (hge : ¬ (M ≤ g ∧ g < E)) (hgl : ∃ cs9, X.heap[g]? = some (.cells cs9 58 (0, 0)))
    (hcell : X.cell? ⟨g, k * 2 + 1, none⟩ = some (.slice At ts.length ct)) (hfz : ∀ o, X.frozen? ⟨g, o, none⟩ = false) (hb : Below X.heap.size X x) (hzb : x.heap[b]? = some (.cells #[.int .i64 0, .int .i64 0, .int .i64 0, .string ⟨#[]⟩, .slice none 0 0] 48 (0, 0))) (hk : Lay.term.Sl x (fun b => X.heap.size ≤ b ∧ b < x.heap.size) A9 t.kids) :
    ∃ nb c' w', (Builtin.append_ #[24, 24] ty #[.slice At ts.length ct, .slice (some ⟨b, 0, none⟩) 1 d]).run Tryz.prog x = .ok (.slice (some ⟨nb, 0, none⟩) (ts.length + 1) c') w' ∧ AftA X g k M E At ct ts t false false w' nb c' A9 c9 ∧ (nb < X.heap.size → M ≤ nb ∧ nb < E) ∧ x.grownBy w' (Value.slice At ts.length ct).ownBlock := by
  obtain ⟨i0, hi0, hz0, hz1, hz2⟩ := info_parts term_info
  have hlt : ∀ b9, (Value.slice At ts.length ct).ownBlock = some b9 → M ≤ b9 ∧ b9 < E := fun b9 hb9 => by
    obtain ⟨_, w0, rfl, h2, _⟩ := hru
    exact h2.lt b9 hb9
  obtain ⟨cs, h1, h2⟩ := hru.ownL
  have h1x : x.ownsRow M 48 5 (.slice At ts.length ct) ts.length cs := own_below h1 hb (Nat.le_refl _)
  have hsrc : Src x 5 (some ⟨b, 0, none⟩) 1 [.int .i64 0, .int .i64 0, .int .i64 0, .string ⟨#[]⟩, .slice none 0 0] := by
    have := src_block (m := 1) (size := 5) hzb rfl
    simpa using this
  have hsx := hb.size
  obtain ⟨A', c', w', hrun, ho', hg', hbk⟩ := run_append_src_at (P := Tryz.prog) x M 24 ty 48 i0 _ 5 64 Tryz.underlying24 hi0 hz0 hz1 hz2 rfl (by omega) _ ts.length cs h1x (some ⟨b, 0, none⟩) 1 d _ hsrc (by intro u hu; simp at hu; rcases hu with rfl | rfl | rfl | rfl | rfl <;> rfl) (ts.length + 1) rfl (by unfold maxLen; omega) (by omega) (by omega) (fun e => by cases e)
  have hA : ∃ nb, A' = some ⟨nb, 0, none⟩ := by
    rcases ho'.2 with ⟨_, e2⟩ | ⟨g9, cap, cur, e1, _⟩
    · omega
    · injection e1 with e1; exact ⟨g9, e1⟩
  obtain ⟨nb, rfl⟩ := hA
  have hgn : (Value.slice At ts.length ct).ownBlock ≠ some g := fun e => hge (hlt g e)
  have hgx : w'.heap[g]? = X.heap[g]? := (hg'.block g (by omega) (fun e => hgn e.symm)).trans (hb.block g hg)
  have hng : nb ≠ g := fun e => by
    obtain ⟨cs9, h9⟩ := hgl
    rcases ho'.2 with ⟨e1, _⟩ | ⟨g9, cap, cur, e1, _, h8, _⟩
    · cases e1
    · injection e1 with e1; injection e1 with e1; injection e1 with e1
      rw [← e1, e, hgx, h9] at h8
      injection h8 with h8
      injection h8 with _ h8 _
      exact neLT h8
  have hnb : ∀ b9, b9 < x.heap.size → (Value.slice At ts.length ct).ownBlock ≠ some b9 → b9 ≠ nb := fun b9 h8 h9 e => by
    rcases hbk with e9 | ⟨g2, e9, h7⟩
    · exact h9 (by rw [← e9, e]; rfl)
    · have e9 : some nb = some g2 := e9
      injection e9 with e9
      omega
  refine ⟨nb, c', w', hrun, ⟨hng, (ho'.lt nb rfl).1, ⟨cs, ho', h1.1, fun i y hy => ?_⟩, ?_, (World.cell?_of_block (a := ⟨g, _, none⟩) hgx).trans hcell, fun o _ => World.cell?_of_block (a := ⟨g, _, none⟩) hgx, fun o => (World.frozen?_of_block (a := ⟨g, o, none⟩) hgx).trans (hfz o), Nat.le_trans hsx hg'.size, fun b9 h8 _ h10 => (hg'.block b9 (by omega) (fun e => h10 (hlt b9 e.symm))).trans (hb.block b9 h8), by have := hg'.size; omega⟩, fun h9 => ?_, hg'⟩
  · obtain ⟨vs, hr, hu⟩ := h2 i y hy
    refine ⟨vs, Lay.term.mono (fun b9 h9 => ⟨by have := hg'.size; omega, hnb b9 (by omega) h9.2.1, fun e => hge (by rw [← e]; exact h9.2.2)⟩) (Lay.term.keep (fun b9 h9 => (hg'.block b9 (by omega) (fun e => h9.2.1 e.symm)).trans (hb.block b9 h9.1)) hr), hu⟩
  · exact (hk.keep fun b9 h9 => hg'.block b9 h9.2 (fun e => by have := (hlt b9 e.symm).2; omega)).mono fun b9 h9 => ⟨by have := hg'.size; omega, hnb b9 h9.2 (fun e => by have := (hlt b9 e).2; omega), by omega⟩
  · rcases hbk with e9 | ⟨g2, e9, h7⟩
    · exact hlt nb (by rw [← e9]; rfl)
    · have e9 : some nb = some g2 := e9
      injection e9 with e9
      omega
theorem AftA.cap {X : World} {g k M E : Nat} {At : Option Addr} {ct : Nat} {ts : List T} {t : T} {fa fb : Bool} {x : World} {nb c8 : Nat} {A9 : Option Addr} {c9 : Nat} (h : AftA X g k M E At ct ts t fa fb x nb c8 A9 c9) : ts.length + 1 ≤ c8 := by
  obtain ⟨cs, h1, _⟩ := h.row
  rcases h1.2 with ⟨e1, _⟩ | ⟨g9, cap, cur, e1, _, _, h3, _⟩
  · cases e1
  · injection e1 with _ _ e1; omega
theorem wpList_append_zero {Q' : Exit → Act → World → Prop} {ops : Array Oper} {rest : List Oper} {o : Oper} {a : Act} {X x : World} {g k M E b : Nat} {At : Option Addr} {ct d : Nat} {ts : List T} {t : T} {A9 : Option Addr} {c9 : Nat} (hgd : o.guard = none) (s y : Operand)
    (ho : o.op = .call { callee := .builtin .append, args := #[s, y], argTypes := #[24, 24] }) (hs : a.eval s = .slice At ts.length ct) (hyv : a.eval y = .slice (some ⟨b, 0, none⟩) 1 d)
    (hru : RowU M E X (.slice At ts.length ct) ts) (hn : ts.length ≤ 1048576) (hME : M ≤ E) (hE : E ≤ X.heap.size) (hg : g < X.heap.size) (hge : ¬ (M ≤ g ∧ g < E)) (hgl : ∃ cs9, X.heap[g]? = some (.cells cs9 58 (0, 0)))
    (hcell : X.cell? ⟨g, k * 2 + 1, none⟩ = some (.slice At ts.length ct)) (hfz : ∀ o, X.frozen? ⟨g, o, none⟩ = false) (hb : Below X.heap.size X x) (hzb : x.heap[b]? = some (.cells #[.int .i64 0, .int .i64 0, .int .i64 0, .string ⟨#[]⟩, .slice none 0 0] 48 (0, 0))) (hk : Lay.term.Sl x (fun b => X.heap.size ≤ b ∧ b < x.heap.size) A9 t.kids)
    (h : ∀ nb c' w', AftA X g k M E At ct ts t false false w' nb c' A9 c9 → (nb < X.heap.size → M ≤ nb ∧ nb < E) → x.grownBy w' (Value.slice At ts.length ct).ownBlock → wpList Tryz.prog ops Q' rest (a.put o.dst (.slice (some ⟨nb, 0, none⟩) (ts.length + 1) c')) w') : wpList Tryz.prog ops Q' (o :: rest) a x := by
  obtain ⟨nb, c', w', hrun, h1, h2, h3⟩ := run_append_zero (d := d) (ty := o.type) (c9 := c9) hru hn hME hE hg hge hgl hcell hfz hb hzb hk
  refine wpList_plain hgd fun _ hK => ?_
  unfold Oper.wp execOp
  simp only [ho, resolve, invoke, builtin, Sem.run_bind, Sem.run_pure, Result.andThen_ok, List.map_toArray, List.map_cons, List.map_nil, hs, hyv, hrun]
  exact hK _ _ (h nb c' w' h1 h2 h3)
/-- The states of the drawn statement; which operations are done. -/
def AsI (lo : Nat) (X : World) (g k M E : Nat) (At : Option Addr) (ct : Nat) (ts : List T) (t : T) (v6 v8 v9 v10 : Value) (f6 f8 f9 f10 f11 f14 : Bool) (x : World) : Prop :=
  Below lo X x ∧ (f9 = false → Below X.heap.size X x) ∧
  (f6 = true → f9 = false → ∃ A9 c9, v6 = .agg (tcells t A9 c9).toArray ∧ t.kids.length ≤ c9 ∧ Lay.term.Sl x (fun b => X.heap.size ≤ b ∧ b < x.heap.size) A9 t.kids) ∧
  (f8 = true → f9 = false → ∃ b, v8 = .slice (some ⟨b, 0, none⟩) 1 1 ∧ x.heap[b]? = some (.cells #[.int .i64 0, .int .i64 0, .int .i64 0, .string ⟨#[]⟩, .slice none 0 0] 48 (0, 0))) ∧
  (f9 = true → ∃ nb c8 A9 c9, v9 = .slice (some ⟨nb, 0, none⟩) (ts.length + 1) c8 ∧ v6 = .agg (tcells t A9 c9).toArray ∧ t.kids.length ≤ c9 ∧ (nb < X.heap.size → M ≤ nb ∧ nb < E) ∧ (f10 = true → v10 = .pointer (some ⟨nb, ts.length * 5, none⟩)) ∧ AftA X g k M E At ct ts t f11 f14 x nb c8 A9 c9)
theorem AsI.up {lo : Nat} {X : World} {g k M E : Nat} {At : Option Addr} {ct : Nat} {ts : List T} {t : T} {v6 v8 v9 v10 : Value} {f6 f8 f9 f10 f11 f14 : Bool} {x x' : World} (h : AsI lo X g k M E At ct ts t v6 v8 v9 v10 f6 f8 f9 f10 f11 f14 x) (hl : lo ≤ X.heap.size) (hb : Below x.heap.size x x') : AsI lo X g k M E At ct ts t v6 v8 v9 v10 f6 f8 f9 f10 f11 f14 x' := by
  obtain ⟨h1, h2, h3, h4, h5⟩ := h
  refine ⟨h1.trans (hb.mono (Nat.le_trans hl h1.size)), fun e => bthen (h2 e) hb, fun e e' => ?_, fun e e' => ?_, fun e => ?_⟩
  · obtain ⟨A9, c9, q1, q2, q3⟩ := h3 e e'
    exact ⟨A9, c9, q1, q2, (q3.keep fun b h9 => hb.block b h9.2).mono fun b h9 => ⟨h9.1, Nat.lt_of_lt_of_le h9.2 hb.size⟩⟩
  · obtain ⟨b, q1, q2⟩ := h4 e e'
    exact ⟨b, q1, (hb.block b (lt_of_block q2)).trans q2⟩
  · obtain ⟨nb, c8, A9, c9, q1, q2, q3, q4, q5, q6⟩ := h5 e
    exact ⟨nb, c8, A9, c9, q1, q2, q3, q4, q5, q6.up hb⟩
end Go.Proofs.YtiahmfpfimmbgaaGreatDoor

/-! One layer of copied layers stands open: its terms may grow, as the draw of bent layers does it. -/
namespace Go.Proofs.YtiahmfpfimmbgaaGreatDoor
open Go Go.RowKit

theorem own_cap9 {w : World} {base n c : Nat} {e : TypeId} {size : Nat} {A : Option Addr} {cs : List Value} (h : w.ownsRow base e size (.slice A n c) n cs) : n ≤ c := by
  rcases h.2 with ⟨e1, e2⟩ | ⟨g9, cap, cur, e1, _, _, h3, _⟩
  · omega
  · injection e1 with _ _ e1; omega
/-- Layers in one block, each read. -/
theorem layers_rd {w : World} {g : Nat} {c : List Ly} (hg : g < w.heap.size) (h : ∀ i l9, c[i]? = some l9 → ∃ u0 u1, Lay.layer.R w (fun b => b < w.heap.size) l9 [u0, u1] ∧ w.cell? ⟨g, i * 2, none⟩ = some u0 ∧ w.cell? ⟨g, i * 2 + 1, none⟩ = some u1) : Lay.layer.Rd w (some ⟨g, 0, none⟩) c :=
  sl_two fun _ => ⟨_, rfl, hg, fun k l9 hl9 => by rw [add_zero9, add_zero9]; exact h k l9 hl9⟩
/-- What is not the row of terms, nor the layers' block. -/
def FarB (w : World) (v : Value) (g : Nat) (b : Nat) : Prop := b < w.heap.size ∧ v.ownBlock ≠ some b ∧ b ≠ g
/-- Layer k of the layers in block g stands open. -/
structure BentS (lo : Nat) (X : World) (g : Nat) (c : List Ly) (k : Nat) (l : Ly) (At : Option Addr) (ct : Nat) : Prop where
  at_k : c[k]? = some l
  glo : lo ≤ g
  glt : g < X.heap.size
  gne : (Value.slice At l.ts.length ct).ownBlock ≠ some g
  frz : ∀ o, X.frozen? ⟨g, o, none⟩ = false
  gty : ∃ cs9, X.heap[g]? = some (.cells cs9 58 (0, 0))
  ds : ∃ Ad cd, X.cell? ⟨g, k * 2, none⟩ = some (.slice Ad l.ds.length cd) ∧ l.ds.length ≤ cd ∧ Lay.decl.Sl X (FarB X (.slice At l.ts.length ct) g) Ad l.ds
  ts : X.cell? ⟨g, k * 2 + 1, none⟩ = some (.slice At l.ts.length ct)
  row : ∃ cs, X.ownsRow lo 48 5 (.slice At l.ts.length ct) l.ts.length cs ∧ ∀ i y, l.ts[i]? = some y → ∃ vs, Lay.term.R X (FarB X (.slice At l.ts.length ct) g) y vs ∧ ∀ j u, vs[j]? = some u → cs[i * 5 + j]? = some u
  others : ∀ i l9, i ≠ k → c[i]? = some l9 → ∃ u0 u1, Lay.layer.R X (FarB X (.slice At l.ts.length ct) g) l9 [u0, u1] ∧ X.cell? ⟨g, i * 2, none⟩ = some u0 ∧ X.cell? ⟨g, i * 2 + 1, none⟩ = some u1
theorem FarB.up {w w' : World} {v : Value} {g b : Nat} (h : FarB w v g b) (hs : w.heap.size ≤ w'.heap.size) : FarB w' v g b := ⟨Nat.lt_of_lt_of_le h.1 hs, h.2⟩
/-- Any layer of copied layers. -/
theorem RowP.atPR {lo c' : Nat} {w : World} {A : Option Addr} {c : List Ly} (h : RowP PR lo w (.slice A c.length c') c) {k : Nat} {l : Ly} (hk : c[k]? = some l) :
    ∃ g S M E Ad cd At ct, A = some ⟨g, 0, none⟩ ∧ (lo ≤ g ∧ g < w.heap.size) ∧ w.cell? ⟨g, k * 2, none⟩ = some (.slice Ad l.ds.length cd) ∧ w.cell? ⟨g, k * 2 + 1, none⟩ = some (.slice At l.ts.length ct) ∧ (∀ o, w.frozen? ⟨g, o, none⟩ = false) ∧ (∃ cs9, w.heap[g]? = some (.cells cs9 58 (0, 0))) ∧
      (lo ≤ S ∧ S ≤ M ∧ M ≤ E ∧ E ≤ w.heap.size ∧ ¬ (S ≤ g ∧ g < E)) ∧ (∀ b, (Value.slice Ad l.ds.length cd).ownBlock = some b → b < M) ∧ OwnDs w S (.slice Ad l.ds.length cd) l.ds ∧ RowU M E w (.slice At l.ts.length ct) l.ts ∧
      ∀ i l9, i ≠ k → c[i]? = some l9 → ∃ u0 u1, Lay.layer.R w (fun b => b < w.heap.size ∧ b ≠ g ∧ ¬ (S ≤ b ∧ b < E)) l9 [u0, u1] ∧ w.cell? ⟨g, i * 2, none⟩ = some u0 ∧ w.cell? ⟨g, i * 2 + 1, none⟩ = some u1 := by
  have hlt := h.lt
  obtain ⟨cs, h1, S, E, Vd, Vt, h2, h3⟩ := h
  have hcl : cs.length = c.length * 2 := h1.1
  have hkl : k < c.length := (List.getElem?_eq_some_iff.1 hk).1
  have hA : ∃ g, A = some ⟨g, 0, none⟩ := by
    rcases h1.2 with ⟨_, e2⟩ | ⟨g, cap, cur, e1, _⟩
    · omega
    · injection e1 with e1; exact ⟨g, e1⟩
  obtain ⟨g, rfl⟩ := hA
  have hgl : ∃ cs9, w.heap[g]? = some (.cells cs9 58 (0, 0)) := by
    rcases h1.2 with ⟨e1, _⟩ | ⟨g9, cap, cur, e1, _, hg9, _⟩
    · cases e1
    · injection e1 with e1; injection e1 with e1; injection e1 with e1; subst e1; exact ⟨cur, hg9⟩
  have hcell : ∀ j u, cs[j]? = some u → w.cell? ⟨g, j, none⟩ = some u := fun j u hu => by
    have hj : j < cs.length := (List.getElem?_eq_some_iff.1 hu).1
    rw [World.ownsRow.cellAt h1 j (by omega)]
    exact hu
  obtain ⟨g1, g2, ⟨g3, g4, g5⟩, g6, g7⟩ := h2 k l hk
  obtain ⟨M, Ad, cd, At, ct, e1, e2, k1, k2, k3, k4, k5⟩ := g7
  rw [e1] at g1 k3
  rw [e2] at g2
  refine ⟨g, S k, M, E k, Ad, cd, At, ct, rfl, hlt g rfl, hcell _ _ g1, hcell _ _ g2, fun o => World.ownsRow.frozenAt h1 o, hgl, ⟨g3, k1, k2, g5, g6 g rfl⟩, k3, k4, k5, fun i l9 hi hl9 => ?_⟩
  have hil : i < c.length := (List.getElem?_eq_some_iff.1 hl9).1
  obtain ⟨q1, q2, ⟨q3, q4, q5⟩, q6, q7⟩ := h2 i l9 hl9
  have hdis : E i ≤ S k ∨ E k ≤ S i := by
    rcases Nat.lt_or_gt_of_ne hi with h | h
    · exact .inl (h3 i k h hkl)
    · exact .inr (h3 k i h hil)
  refine ⟨Vd i, Vt i, Lay.layer.mono (fun b h9 => ⟨h9.lt, fun e => q6 g rfl (by rw [← e]; exact ⟨h9.1, h9.2.1⟩), fun h8 => ?_⟩) (q7.pp.layer (lo := S i) (Nat.le_refl _) (Nat.le_refl _) q5), hcell _ _ q1, hcell _ _ q2⟩
  have := h9.1
  have := h9.2.1
  omega
theorem RowP.bent {lo c' : Nat} {w : World} {A : Option Addr} {c : List Ly} (h : RowP PR lo w (.slice A c.length c') c) {k : Nat} {l : Ly} (hk : c[k]? = some l) : ∃ g At ct, A = some ⟨g, 0, none⟩ ∧ BentS lo w g c k l At ct := by
  obtain ⟨g, S, M, E, Ad, cd, At, ct, rfl, ⟨hg1, hg2⟩, e0, e1, hfz, hgl, ⟨s1, s2, s3, s4, s5⟩, hdm, hod, hru, hoth⟩ := h.atPR hk
  have hown : ∀ b, (Value.slice At l.ts.length ct).ownBlock = some b → M ≤ b ∧ b < E := fun b hb => by
    obtain ⟨_, w0, rfl, h2, _⟩ := hru
    exact h2.lt b hb
  obtain ⟨cs, r1, r2⟩ := hru.ownL
  refine ⟨g, At, ct, rfl, hk, hg1, hg2, fun e => s5 (by have := hown g e; omega), hfz, hgl, ⟨Ad, cd, e0, (OwnDs.cap hod).2, fun h0 => ?_⟩, e1, ⟨cs, own_mono r1 (by omega), fun i y hy => ?_⟩, fun i l9 hi hl9 => ?_⟩
  · obtain ⟨ad, e, hf, hc⟩ := (Lay.Sl.decl_own hod) h0
    have hm := hdm ad.block (by rw [e]; rfl)
    refine ⟨ad, e, ⟨by omega, fun e9 => by have := (hown _ e9).1; omega, fun e9 => s5 (by have := hf.1; omega)⟩, fun k x hx => ?_⟩
    obtain ⟨vs, hr, hcell⟩ := hc k x hx
    exact ⟨vs, hr, hcell⟩
  · obtain ⟨vs, hr, hu⟩ := r2 i y hy
    exact ⟨vs, Lay.term.mono (fun b hb => ⟨hb.1, hb.2.1, fun e => s5 (by have := hb.2.2; omega)⟩) hr, hu⟩
  · obtain ⟨u0, u1, hr, c0, c1⟩ := hoth i l9 hi hl9
    exact ⟨u0, u1, Lay.layer.mono (fun b hb => ⟨hb.1, fun e9 => hb.2.2 (by have := hown b e9; omega), hb.2.1⟩) hr, c0, c1⟩
/-- Read. -/
theorem BentS.rd {lo : Nat} {X : World} {g : Nat} {c : List Ly} {k : Nat} {l : Ly} {At : Option Addr} {ct : Nat} (h : BentS lo X g c k l At ct) : Lay.layer.Rd X (some ⟨g, 0, none⟩) c := layers_rd h.glt fun i l9 hl9 => by
  by_cases hi : i = k
  · subst hi
    have e := h.at_k.symm.trans hl9
    injection e with e
    subst e
    obtain ⟨Ad, cd, d1, d2, d3⟩ := h.ds
    obtain ⟨cs, r1, r2⟩ := h.row
    refine ⟨_, _, ⟨Ad, cd, At, ct, rfl, d2, own_cap9 r1, d3.mono fun b hb => hb.1, fun h0 => ?_⟩, d1, h.ts⟩
    obtain ⟨g9, eg⟩ : ∃ g9, At = some ⟨g9, 0, none⟩ := by
      rcases r1.2 with ⟨e1, e2⟩ | ⟨g9, cap, cur, e1, _⟩
      · omega
      · injection e1 with e1; exact ⟨g9, e1⟩
    subst eg
    refine ⟨_, rfl, (r1.lt g9 rfl).2, fun i y hy => ?_⟩
    obtain ⟨vs, hr, hu⟩ := r2 i y hy
    have hil : i < l.ts.length := (List.getElem?_eq_some_iff.1 hy).1
    refine ⟨vs, Lay.term.mono (fun b hb => hb.1) hr, fun j u hj => ?_⟩
    have h9 := hu j u hj
    have hj9 : i * 5 + j < cs.length := (List.getElem?_eq_some_iff.1 h9).1
    rw [show i * Lay.term.size + j = i * 5 + j from rfl, add_zero9, r1.cellAt _ (by have := r1.1; omega)]
    exact h9
  · obtain ⟨u0, u1, hr, c0, c1⟩ := h.others i l9 hi hl9
    exact ⟨u0, u1, Lay.layer.mono (fun b hb => hb.1) hr, c0, c1⟩
end Go.Proofs.YtiahmfpfimmbgaaGreatDoor

/-! A drawn region whose operations write old memory: each operation once, in whatever world its turn comes; a relation that all keep, and an invariant. No program is named here. -/
namespace Go.Proofs.YtiahmfpfimmbgaaGreatDoor
open Go Go.RowKit

/-- The operation without its guard. -/
def bare (o : Oper) : Oper := { o with guard := none }
abbrev Say := (Nat → Value) → World → Prop
def says (L : List Say) (vals : Nat → Value) (x : World) : List Nat → Prop
  | [] => True
  | i :: l => L.getD i (fun _ _ => True) vals x ∧ says L vals x l
/-- It waits for all others. -/
def isLast (ops : List Oper) (k : Nat) : Bool := (List.range ops.length).all fun r => r == k || reach ops ops.length k r
/-- Each stays over the relation, or is the last. -/
def Stabs (ops : List Oper) (R : World → World → Prop) : Nat → List Say → Prop
  | _, [] => True
  | k, V :: l => (isLast ops k = true ∨ ∀ vs x x', V vs x → R x x' → V vs x') ∧ Stabs ops R (k + 1) l
theorem Stabs.get {ops : List Oper} {R : World → World → Prop} : ∀ {L : List Say} {k : Nat}, Stabs ops R k L → ∀ i vs x x', isLast ops (k + i) = false → L.getD i (fun _ _ => True) vs x → R x x' → L.getD i (fun _ _ => True) vs x'
  | [], _, _, i, vs, x, x', _, _, _ => by simp
  | V :: l, k, h, 0, vs, x, x', hl, hv, hr => by
    rcases h.1 with h1 | h1
    · rw [Nat.add_zero] at hl; rw [hl] at h1; cases h1
    · simpa using h1 vs x x' (by simpa using hv) hr
  | V :: l, k, h, i + 1, vs, x, x', hl, hv, hr => by simpa using Stabs.get h.2 i vs x x' (by rw [← hl]; congr 1; omega) (by simpa using hv) hr
/-- Each looks at its own value and those of the ones that it looks at. -/
def Locals (D : List (List Nat)) : Nat → List Say → Prop
  | _, [] => True
  | k, V :: l => (∀ vs vs' x, vs k = vs' k → (∀ i ∈ D.getD k [], vs i = vs' i) → V vs x → V vs' x) ∧ Locals D (k + 1) l
theorem Locals.get {D : List (List Nat)} : ∀ {L : List Say} {k : Nat}, Locals D k L → ∀ i vs vs' x, vs (k + i) = vs' (k + i) → (∀ m ∈ D.getD (k + i) [], vs m = vs' m) → L.getD i (fun _ _ => True) vs x → L.getD i (fun _ _ => True) vs' x
  | [], _, _, i, vs, vs', x, _, _, _ => by simp
  | V :: l, k, h, 0, vs, vs', x, h1, h2, hv => by simpa using h.1 vs vs' x (by simpa using h1) (by simpa using h2) (by simpa using hv)
  | V :: l, k, h, i + 1, vs, vs', x, h1, h2, hv => by
    have e : k + (i + 1) = k + 1 + i := by omega
    rw [e] at h1 h2
    simpa using Locals.get h.2 i vs vs' x h1 h2 (by simpa using hv)
def upd (vs : Nat → Value) (k : Nat) (v : Value) : Nat → Value := fun j => if j = k then v else vs j
variable {P : Program} {Q : Exit → Act → World → Prop}
theorem says_iff {L : List Say} {vals : Nat → Value} {x : World} : ∀ {l : List Nat}, says L vals x l ↔ ∀ i ∈ l, L.getD i (fun _ _ => True) vals x
  | [] => by simp [says]
  | i :: l => by simp [says, says_iff (l := l)]
def idxs (D : List (List (Nat × Tmp))) : List (List Nat) := D.map fun l => l.map fun p => p.1
def saysD (L : List Say) (vals : Nat → Value) (x : World) : List (Nat × Tmp) → Prop
  | [] => True
  | (i, _) :: l => L.getD i (fun _ _ => True) vals x ∧ saysD L vals x l
theorem says_saysD {L : List Say} {vals : Nat → Value} {x : World} : ∀ {l : List (Nat × Tmp)}, says L vals x (l.map (·.1)) = saysD L vals x l
  | [] => rfl
  | (i, t) :: l => by simp only [List.map_cons, says, saysD, says_saysD (l := l)]
theorem bare_wp (o : Oper) (a : Act) (w : World) (K : Act → World → Prop) : Oper.wp P (bare o) a w K Q = Oper.wp P o a w K Q := by cases o; rfl
theorem wpList_bare {o : Oper} {a : Act} {w : World} (h : wpList P #[] Q [bare o] a w) : Oper.wp P o a w (Q .normal) Q ∨ LetsOut Q := by
  have hg : (bare o).guard = none := rfl
  unfold wpList at h
  rw [if_pos (by unfold Region.wanted; rw [hg])] at h
  rcases h with h | ⟨_, h⟩
  · rw [← bare_wp]; exact .inl h
  · exact .inr h
end Go.Proofs.YtiahmfpfimmbgaaGreatDoor

/-! A drawn region, each operation once, what memory does told of each. No program is named here. -/
namespace Go.Proofs.YtiahmfpfimmbgaaGreatDoor
open Go Go.RowKit
variable {P : Program} {Q : Exit → Act → World → Prop}

/-- What the operation does to memory: R0, or what is told of it. -/
def relOf (R0 : World → World → Prop) : List (Nat × (World → World → Prop)) → Nat → World → World → Prop
  | [], _ => R0
  | p :: l, k => fun x x' => (k = p.1 → p.2 x x') ∧ (k ≠ p.1 → relOf R0 l k x x')
def Refls : List (Nat × (World → World → Prop)) → Prop
  | [] => True
  | p :: l => (∀ x, p.2 x x) ∧ Refls l
theorem relOf_refl {R0 : World → World → Prop} (h0 : ∀ x, R0 x x) : ∀ {l : List (Nat × (World → World → Prop))}, Refls l → ∀ k x, relOf R0 l k x x
  | [], _, _, x => h0 x
  | _ :: _, h, k, x => ⟨fun _ => h.1 x, fun _ => relOf_refl h0 h.2 k x⟩
def StabS (ops : List Oper) (V : Say) (i : Nat) : List (Nat × (World → World → Prop)) → Prop
  | [] => True
  | p :: l => (reach ops ops.length i p.1 = true ∨ i = p.1 ∨ ∀ vs x x', V vs x → p.2 x x' → V vs x') ∧ StabS ops V i l
def Stabs3 (ops : List Oper) (R0 : World → World → Prop) (Rs : List (Nat × (World → World → Prop))) : Nat → List Say → Prop
  | _, [] => True
  | i, V :: l => ((isLast ops i = true ∨ ∀ vs x x', V vs x → R0 x x' → V vs x') ∧ StabS ops V i Rs) ∧ Stabs3 ops R0 Rs (i + 1) l
theorem relOf_stab {ops : List Oper} {R0 : World → World → Prop} {V : Say} {i k : Nat} (hik : i ≠ k) (hr : reach ops ops.length i k = false) (h0 : ∀ vs x x', V vs x → R0 x x' → V vs x') : ∀ {l : List (Nat × (World → World → Prop))}, StabS ops V i l → ∀ vs x x', V vs x → relOf R0 l k x x' → V vs x'
  | [], _, vs, x, x', hv, h => h0 vs x x' hv h
  | p :: l, hs, vs, x, x', hv, h => by
    by_cases e : k = p.1
    · rcases hs.1 with h1 | h1 | h1
      · rw [e, h1] at hr; cases hr
      · exact absurd (h1.trans e.symm) hik
      · exact h1 vs x x' hv (h.1 e)
    · exact relOf_stab hik hr h0 hs.2 vs x x' hv (h.2 e)
theorem relOf_last {ops : List Oper} {R0 : World → World → Prop} {V : Say} {i k : Nat} (hik : i ≠ k) (hr : reach ops ops.length i k = false) (hk : k < ops.length) (hl : isLast ops i = true) : False := by
  unfold isLast at hl
  have h1 := List.all_eq_true.1 hl k (List.mem_range.2 hk)
  rw [Bool.or_eq_true, hr] at h1
  rcases h1 with h1 | h1
  · exact hik (by simpa using Eq.symm (by simpa using h1 : k = i))
  · cases h1
theorem Stabs3.get {ops : List Oper} {R0 : World → World → Prop} {Rs : List (Nat × (World → World → Prop))} {k : Nat} (hk : k < ops.length) : ∀ {L : List Say} {m : Nat}, Stabs3 ops R0 Rs m L → ∀ i, m + i ≠ k → reach ops ops.length (m + i) k = false → ∀ vs x x', L.getD i (fun _ _ => True) vs x → relOf R0 Rs k x x' → L.getD i (fun _ _ => True) vs x'
  | [], _, _, i, _, _, vs, x, x', _, _ => by simp
  | V :: l, m, h, 0, hik, hr, vs, x, x', hv, hR => by
    rcases h.1.1 with h1 | h1
    · exact (relOf_last (R0 := R0) (V := V) hik hr hk h1).elim
    · simpa using relOf_stab hik hr h1 h.1.2 vs x x' (by simpa using hv) hR
  | V :: l, m, h, i + 1, hik, hr, vs, x, x', hv, hR => by
    have e : m + (i + 1) = m + 1 + i := by omega
    rw [e] at hik hr
    simpa using Stabs3.get hk h.2 i hik hr vs x x' (by simpa using hv) hR
end Go.Proofs.YtiahmfpfimmbgaaGreatDoor
