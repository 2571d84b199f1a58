/- The reference's draws of contexts: l10Bent. The reference's draws of contexts: l10Ctx, l10Some, and the draws of the laws. -/
import Derived.Test.YtiahmfpfimmbgaaGreatDoorJFnCtx22
/-! The reference's draws of contexts: l10Bent. -/
namespace Go.Proofs.YtiahmfpfimmbgaaGreatDoor
open Go Go.RowKit Go.ChangeShapes Go.WideShapes Go.ChangeAt Go.Deep

set_option maxRecDepth 100000 in
set_option maxHeartbeats 16000000 in
theorem l10Bent_any (r : Nat) (p : Int) (A : Option Addr) (q : Nat) (c : List Ly) (w : World) (h : Rdr w r p) (hd : Lay.layer.Rd w A c) (hok : ctxOk c = true) (ho : okDC c) (p0 : 0 ≤ p) (p1 : p ≤ 900000000) :
    Calls Tryz.prog 83 #[.pointer (some ⟨r, 0, none⟩), .slice A c.length q] w (RetDC okDC r p 5 w) := by
  have hrl := h.lt
  have HCP := Lib.hid (l10Copy_any A q c w hd ho.1.len (okC_l2 ho.1))
  have HR := Lib.hid h
  have hc1 := (ctxOk_parts hok).1
  have hc6 := (ctxOk_parts hok).2.1
  have hts := (ctxOk_parts hok).2.2.2.1
  have hds := declOk_len (ctxOk_parts hok).2.2.1
  have HOK := Lib.hid ho
  clear h hd hok ho
  go_enter Tryz.func83, Tryz.ntmps83
  go_wp2_with fail
  refine HCP.out.mono ?_
  rintro e w3 ⟨A3, c3, rfl, ho3, hb3⟩
  have hcc := ho3.cap.2
  have HR3 := Lib.hid (HR.out.up hb3)
  have HG3 : Hid (Gr (IsR r) w w3) := Lib.hid (.below hb3)
  have HO3 := Lib.hid ho3
  have hw3 := hb3.size
  clear ho3 hb3
  go_wp2_with fail
  refine (pick_any r p c.length w3 HR3.out (by omega) (by omega) (by omega) (by omega)).mono ?_
  rintro e w4 ⟨k, rfl, k0, k1, _, hR4, hg4⟩
  have k1 := k1 (by omega)
  have hg4 := Gr.one (S := IsR r) hg4 rfl
  have HR4 := Lib.hid hR4
  have HG4 := Lib.hid (HG3.out.trans hg4)
  have HO4 := Lib.hid (HO3.out.keep stay_PR hg4.size fun b h8 h9 => hg4.block b h9 (by show ¬ _ = r; omega))
  have hw4 := hg4.size
  clear hR4 hg4
  obtain ⟨kn, rfl⟩ : ∃ kn : Nat, k = (kn : Int) := ⟨k.toNat, by omega⟩
  go_wp2_with fail
  refine (pick_any r (p + 1) 60 w4 HR4.out (by omega) (by omega) (by omega) (by omega)).mono ?_
  rintro e w5 ⟨y, rfl, y0, y1, _, hR5, hg5⟩
  have y1 := y1 (by omega)
  have hg5 := Gr.one (S := IsR r) hg5 rfl
  have HR5 := Lib.hid hR5
  have HG5 := Lib.hid (HG4.out.trans hg5)
  have HO5 := Lib.hid (HO4.out.keep stay_PR hg5.size fun b h8 h9 => hg5.block b h9 (by show ¬ _ = r; omega))
  have hw5 := hg5.size
  have HLO : Hid (w.heap.size ≤ w5.heap.size) := Lib.hid (by omega)
  clear hR5 hg5
  have hkl : kn < c.length := by omega
  obtain ⟨l, hl⟩ : ∃ l, c[kn]? = some l := ⟨_, List.getElem?_eq_getElem hkl⟩
  have HL := Lib.hid hl
  have hlt9 : l.ts.length ≤ 8 := by
    have h1 := tsAll_at c kn hkl
    rw [(List.getElem?_eq_some_iff.1 hl).2] at h1
    omega
  have hld9 : l.ds.length ≤ 4 := by
    have h1 := dsAll_at c kn hkl
    rw [(List.getElem?_eq_some_iff.1 hl).2] at h1
    omega
  clear hl HR3 HG3 HO3 HR4 HG4 HO4 hw3 hw4 hw5
  by_cases hy0 : y = 0
  · subst hy0
    go_wp2
    have hal9 : Below w5.heap.size w5 (w5.alloc (.cells #[] 58)) := (Below.refl _ _).alloc (Nat.le_refl _) _
    refine bodyPost_ret (v := .slice (some ⟨w5.heap.size, 0, none⟩) 0 0) (by simp [results, Tryz.results83, go_sem]) rfl ?_
    exact ⟨[], _, 0, rfl, Nat.le_refl _, RdO.nil _ _ _, okDC_nil, p + 1 + 1, by omega, by omega, HR5.out.up hal9, HG5.out.trans (.below hal9)⟩
  have gy0 : (y == 0) = false := by simpa using hy0
  clear hy0
  by_cases hy1 : y = 1
  · subst hy1
    go_wp2
    go_loopw [5] (fun x wr => ∃ (ys : List Ly) (A' : Option Addr) (c' : Nat), ys.length ≤ 7 ∧ x = .slice A' ys.length c' ∧ Hid (okDC ys) ∧ Hid (RowP PR w.heap.size wr (.slice A' ys.length c') ys) ∧ Hid (Rdr wr r (p + 1 + 1)) ∧ Hid (Gr (IsR r) w wr)) (fun x _ => match x with | .slice _ n _ => 8 - n | _ => 0)
    case atStart => exact ⟨c, A3, c3, by omega, rfl, HOK, HO5, HR5, HG5⟩
    case round =>
      obtain ⟨ys, A', c', hn, rfl, HOY, HRY, HRR, HGG⟩ := hrel
      by_cases hlt : ys.length ≤ 6
      · have hlt1 : (ys.length : Int) ≤ 6 := by omega
        have hal : Below wr.heap.size wr (wr.alloc (.cells #[.slice none 0 0, .slice none 0 0] 58)) := (Below.refl _ _).alloc (Nat.le_refl _) _
        have hnb := heap_alloc_new wr (.cells #[.slice none 0 0, .slice none 0 0] 58)
        have HPN : Hid (PR (wr.alloc (.cells #[.slice none 0 0, .slice none 0 0] 58)) wr.heap.size wr.heap.size (.slice none 0 0) (.slice none 0 0) ⟨[], []⟩) := Lib.hid (stay_PR _ _ _ _ _ _ _ (pr_none wr) hal.size fun g _ h9 => hal.block g h9)
        have HNB := Lib.hid hnb
        have HAL := Lib.hid hal
        have hsz := hal.size
        have hlo := HGG.out.size
        clear hal hnb
        have hn9 : ys.length ≤ 1048576 := by omega
        obtain ⟨zs, hzs⟩ : ∃ zs, zs = ys ++ [(⟨[], []⟩ : Ly)] := ⟨_, rfl⟩
        have HZS := Lib.hid hzs
        have hzl : zs.length = ys.length + 1 := by rw [hzs]; simp
        have HOZ : Hid (okDC zs) := Lib.hid (by rw [hzs]; exact okDC_push HOY.out (by omega))
        clear hzs
        go_wp2_with (at_builtin; refine wpList_append_layer stay_PR (ys := zs) (S0 := wr.heap.size) (E0 := wr.heap.size) (l := ⟨[], []⟩) (lo := w.heap.size) (vd := .slice none 0 0) (vt := .slice none 0 0) (by rfl) (.tmp 24) (.tmp 26) (by rfl) (by rfl) (by rfl) hlo hn9 HPN.out (Nat.le_refl _) hsz rfl rfl HNB.out ⟨wr, Nat.le_refl _, HAL.out, HRY.out⟩ HZS.out ?_; intro A8 c8 w8 hr8 hg8; have HR8 := Lib.hid hr8; have HG8 := Lib.hid hg8; clear hr8 hg8)
        have hg8 : Below w.heap.size wr w8 := (HAL.out.mono hlo).grown HG8.out (by have := HAL.out.size; omega) (fun b e => (HRY.out.lt b e).1)
        go_roundw
        case rel =>
          refine ⟨zs, A8, c8, by omega, by rw [hzl], HOZ, HR8, Lib.hid (HRR.out.keep fun b hb9 => hg8.block b (by omega)), Lib.hid ⟨hg8.os.trans HGG.out.os, hg8.tape.trans HGG.out.tape, hg8.output.trans HGG.out.output, Nat.le_trans HGG.out.size hg8.size, fun i hi hn => (hg8.block i hi).trans (HGG.out.block i hi hn)⟩⟩
        case measure => simp; omega
      · have hlt1 : ¬ (ys.length : Int) ≤ 6 := by omega
        have hlt2 : decide ((ys.length : Int) ≤ 6) = false := decide_eq_false hlt1
        go_wp2
        refine bodyPost_ret (v := .slice A' ys.length c') (by simp [results, Tryz.results83, go_sem]) rfl ?_
        exact ⟨ys, A', c', rfl, HRY.out.cap.2, HRY.out.rdR, HOY.out, p + 1 + 1, by omega, by omega, HRR.out, HGG.out⟩
  have gy1 : (y == 1) = false := by simpa using hy1
  clear hy1
  by_cases hy2 : y = 2
  · subst hy2
    obtain ⟨g, S, M, E, Ad, cd, At, ct, rfl, ⟨hg1, hg2⟩, e0, e1, hfz, hgl, ⟨s1, s2, s3, s4, s5⟩, hdm, hod, hru, hoth⟩ := HO5.out.atPR HL.out
    have hal : Below w5.heap.size w5 (w5.alloc (.cells #[.string ⟨#[120]⟩, .int .i64 2] 39)) := (Below.refl _ _).alloc (Nat.le_refl _) _
    have hnb := heap_alloc_new w5 (.cells #[.string ⟨#[120]⟩, .int .i64 2] 39)
    have hsr := decl_src (d := (⟨⟨#[120]⟩, 2⟩ : D)) hnb
    have HS9 := Lib.hid (hod.up hal)
    have HSR := Lib.hid hsr
    have HAL := Lib.hid hal
    have hsz := hal.size
    have HBD := Lib.hid (fun (z : World) (A9 : Option Addr) (c9 : Nat) (hown : OwnDs z S (.slice A9 (l.ds ++ [(⟨⟨#[120]⟩, 2⟩ : D)]).length c9) (l.ds ++ [(⟨⟨#[120]⟩, 2⟩ : D)])) (hgr : (w5.alloc (.cells #[.string ⟨#[120]⟩, .int .i64 2] 39)).grownBy z (Value.slice Ad l.ds.length cd).ownBlock) => bentD HL.out hg2 e0 e1 hfz hgl s2 s3 s4 s5 hdm hod hru hoth hal hown hgr)
    have HLT := Lib.hid (fun b e => (hod.lt b e).1)
    have HFZ := Lib.hid (hfz (kn * 2))
    have hSl : S ≤ (w5.alloc (.cells #[.string ⟨#[120]⟩, .int .i64 2] 39)).heap.size := by omega
    have HWS : Hid (w.heap.size ≤ S) := Lib.hid s1
    have HWG : Hid (w.heap.size ≤ g) := Lib.hid hg1
    obtain ⟨ys, hys⟩ : ∃ ys, ys = l.ds ++ [(⟨⟨#[120]⟩, 2⟩ : D)] := ⟨_, rfl⟩
    have HYS := Lib.hid hys
    rw [← hys] at HBD
    have hdl9 : l.ds.length ≤ 2000000 := by omega
    have HFD := Lib.hid (okDC_setD (d := ⟨⟨#[120]⟩, 2⟩) HOK.out HL.out ⟨by show (1 : Nat) ≤ 5; decide, by decide, by decide⟩ (by omega))
    rw [← hys] at HFD
    clear hal hnb hsr hod hru hoth hdm hgl hfz e1 hys s2 s3 s4 s5 s1 hg1
    have hkl1 : (kn : Int) < (c.length : Int) := by omega
    go_wp2_with (at_builtin; refine wpList_append_decls (xs := l.ds) (ys := ys) (zs := [(⟨⟨#[120]⟩, 2⟩ : D)]) (by rfl) (.tmp 36) (.tmp 38) (by rfl) (by rfl) (by rfl) HS9.out HSR.out (fun e => by cases e) hdl9 (by show 1 ≤ 2000000; omega) hSl HYS.out ?_; intro A9 c9 w9 hown9 hb9 hg9; obtain ⟨x0, x1, hrd9⟩ := HBD.out w9 A9 c9 hown9 hg9; have HRD := Lib.hid hrd9; have HGR := Lib.hid hg9; clear hown9 hb9 hg9 hrd9)
    have HBL : Hid (Below w.heap.size w5 (w9.setCell ⟨g, kn * 2, none⟩ (.slice A9 ys.length c9))) := Lib.hid (below_set9 (p := ⟨g, kn * 2, none⟩) ((HAL.out.mono HLO.out).grown HGR.out (by have := HAL.out.size; have := HLO.out; omega) (fun b e => Nat.le_trans HWS.out (HLT.out b e))) HWG.out _)
    refine bodyPost_ret (v := .slice (some ⟨g, 0, none⟩) (c.set kn ⟨ys, l.ts⟩).length c3) (by simp [results, Tryz.results83, go_sem]) rfl ?_
    exact ⟨c.set kn ⟨ys, l.ts⟩, _, c3, rfl, by rw [HFD.out.2]; exact hcc, HRD.out, HFD.out.1, drawn_low (show p ≤ p + 1 + 1 by omega) (by omega) HR5.out HG5.out HBL.out hrl⟩
  have gy2 : (y == 2) = false := by simpa using hy2
  clear hy2
  by_cases hy3 : y = 3
  · subst hy3
    obtain ⟨g, At, ct, rfl, hB⟩ := HO5.out.bent HL.out
    have HB := Lib.hid hB
    have HTS := Lib.hid hB.ts
    have HGT := Lib.hid hB.glt
    have HLG := Lib.hid hB.glo
    obtain ⟨cs9, hrow9, _⟩ := hB.row
    have HOWN := Lib.hid hrow9.lt
    have hl8 : l.ts.length ≤ 1048576 := by omega
    clear hB hrow9
    have hkl1 : (kn : Int) < (c.length : Int) := by omega
    go_wp2
    refine wp_region_rel6 [[], [], [(0, 44), (1, 45)], [(2, 46)], [(3, 47)], [], [(4, 48)], [], [(4, 48), (7, 51)], [(8, 52), (6, 50)], [(9, 53), (5, 49)], [(0, 44), (1, 45)], [(11, 54)], [(12, 55), (8, 52)]]
      (fun _ _ => True)
      []
      (fun v9 f9 x9 => AsB w.heap.size w5 g kn At ct l.ts (nmT 120) (.slice none 0 0) (v9 5) (v9 7) (v9 8) (v9 9) true (f9 5) (f9 7) (f9 8) (f9 9) (f9 10) (f9 13) x9)
      [fun vs9 _ => vs9 0 = (.slice (some ⟨g, 0, none⟩) c.length c3),
    fun vs9 _ => vs9 1 = (.int .i64 (kn : Int)),
    fun vs9 _ => vs9 2 = (.pointer (some ⟨g, kn * 2, none⟩)),
    fun vs9 _ => vs9 3 = (.pointer (some ⟨g, kn * 2 + 1, none⟩)),
    fun vs9 _ => vs9 4 = (.slice At l.ts.length ct),
    fun vs9 _ => vs9 5 = (.agg #[.int .i64 21, .int .i64 0, .int .i64 0, .string ⟨#[120]⟩, .slice none 0 0]),
    fun vs9 _ => vs9 6 = (.int .i64 (l.ts.length : Int)),
    fun _ _ => True,
    fun _ _ => True,
    fun _ _ => True,
    fun _ _ => True,
    fun vs9 _ => vs9 11 = (.pointer (some ⟨g, kn * 2, none⟩)),
    fun vs9 _ => vs9 12 = (.pointer (some ⟨g, kn * 2 + 1, none⟩)),
    fun _ _ => True]
      [(0, 44), (1, 45), (2, 46), (3, 47), (4, 48), (5, 49), (6, 50), (7, 51), (8, 52), (9, 53), (11, 54), (12, 55)] (by kernel_rfl) (by kernel_rfl) (by kernel_rfl) (by kernel_rfl)
      (fun _ => trivial) trivial
      ⟨⟨.inr (fun _ _ _ h _ => h), trivial⟩,
    ⟨.inr (fun _ _ _ h _ => h), trivial⟩,
    ⟨.inr (fun _ _ _ h _ => h), trivial⟩,
    ⟨.inr (fun _ _ _ h _ => h), trivial⟩,
    ⟨.inr (fun _ _ _ h _ => h), trivial⟩,
    ⟨.inr (fun _ _ _ h _ => h), trivial⟩,
    ⟨.inr (fun _ _ _ h _ => h), trivial⟩,
    ⟨.inr (fun _ _ _ h _ => h), trivial⟩,
    ⟨.inr (fun _ _ _ h _ => h), trivial⟩,
    ⟨.inr (fun _ _ _ h _ => h), trivial⟩,
    ⟨.inr (fun _ _ _ h _ => h), trivial⟩,
    ⟨.inr (fun _ _ _ h _ => h), trivial⟩,
    ⟨.inr (fun _ _ _ h _ => h), trivial⟩,
    ⟨.inr (fun _ _ _ h _ => h), trivial⟩, trivial⟩ ⟨fun vs vs' x h _ hv => (by dsimp only at hv ⊢; first | (rw [← h]; exact hv) | exact hv),
    fun vs vs' x h _ hv => (by dsimp only at hv ⊢; first | (rw [← h]; exact hv) | exact hv),
    fun vs vs' x h _ hv => (by dsimp only at hv ⊢; first | (rw [← h]; exact hv) | exact hv),
    fun vs vs' x h _ hv => (by dsimp only at hv ⊢; first | (rw [← h]; exact hv) | exact hv),
    fun vs vs' x h _ hv => (by dsimp only at hv ⊢; first | (rw [← h]; exact hv) | exact hv),
    fun vs vs' x h _ hv => (by dsimp only at hv ⊢; first | (rw [← h]; exact hv) | exact hv),
    fun vs vs' x h _ hv => (by dsimp only at hv ⊢; first | (rw [← h]; exact hv) | exact hv),
    fun _ _ _ _ _ _ => trivial,
    fun _ _ _ _ _ _ => trivial,
    fun _ _ _ _ _ _ => trivial,
    fun _ _ _ _ _ _ => trivial,
    fun vs vs' x h _ hv => (by dsimp only at hv ⊢; first | (rw [← h]; exact hv) | exact hv),
    fun vs vs' x h _ hv => (by dsimp only at hv ⊢; first | (rw [← h]; exact hv) | exact hv),
    fun _ _ _ _ _ _ => trivial, trivial⟩ (AsB.start' HLO.out (below_drewN (Below.refl _ _) 1) rfl rfl (fun _ => ⟨rfl, rfl, rfl⟩)) ⟨?_, ?_, ?_, ?_, ?_, ?_, ?_, ?_, ?_, ?_, ?_, ?_, ?_, ?_, trivial⟩ ?_
    · intro vals xw f hf1 hf2 hf3 hI hF
      clear hf2 hf3
      dsimp only [owes6, bare]
      simp only [putsD, Act.put, List.setIfInBounds_toArray, List.set_cons_zero, List.set_cons_succ]
      go_wp2
      exact ⟨rfl, rfl, trivial, hI⟩
    · intro vals xw f hf1 hf2 hf3 hI hF
      clear hf2 hf3
      dsimp only [owes6, bare]
      simp only [putsD, Act.put, List.setIfInBounds_toArray, List.set_cons_zero, List.set_cons_succ]
      go_wp2
      exact ⟨rfl, rfl, trivial, hI⟩
    · intro vals xw f hf1 hf2 hf3 hI hF
      clear hf2 hf3
      simp only [saysD, List.getD_cons_zero, List.getD_cons_succ, and_true] at hF
      obtain ⟨ex, ek⟩ := hF
      dsimp only [owes6, bare]
      simp only [putsD, Act.put, List.setIfInBounds_toArray, List.set_cons_zero, List.set_cons_succ]
      simp only [ex, ek]
      go_wp2
      exact ⟨rfl, rfl, trivial, hI⟩
    · intro vals xw f hf1 hf2 hf3 hI hF
      clear hf2 hf3
      simp only [saysD, List.getD_cons_zero, List.getD_cons_succ, and_true] at hF
      have eP0 := hF
      dsimp only [owes6, bare]
      simp only [putsD, Act.put, List.setIfInBounds_toArray, List.set_cons_zero, List.set_cons_succ]
      simp only [eP0]
      go_wp2
      exact ⟨rfl, rfl, trivial, hI⟩
    · intro vals xw f hf1 hf2 hf3 hI hF
      have k8 : f 8 = false := hf3 8 (by kernel_rfl)
      clear hf2 hf3
      simp only [saysD, List.getD_cons_zero, List.getD_cons_succ, and_true] at hF
      have eP1 := hF
      dsimp only [owes6, bare]
      simp only [putsD, Act.put, List.setIfInBounds_toArray, List.set_cons_zero, List.set_cons_succ]
      simp only [eP1]
      have d9 := ((hI.2.1 k8).cell (p := ⟨g, kn * 2 + 1, none⟩) HGT.out).trans HTS.out
      go_wp2
      exact ⟨rfl, rfl, trivial, hI⟩
    · intro vals xw f hf1 hf2 hf3 hI hF
      have k10 : f 10 = false := hf3 10 (by kernel_rfl)
      clear hf2 hf3
      dsimp only [owes6, bare]
      simp only [putsD, Act.put, List.setIfInBounds_toArray, List.set_cons_zero, List.set_cons_succ]
      have HI9 := Lib.hid hI
      clear hI
      go_wp2
      exact ⟨rfl, rfl, trivial, AsB.term HI9.out k10 (fun A8 c8 e9 => by
      injection e9 with e1 _ e2
      subst e1 e2
      rfl)⟩
    · intro vals xw f hf1 hf2 hf3 hI hF
      clear hf2 hf3
      simp only [saysD, List.getD_cons_zero, List.getD_cons_succ, and_true] at hF
      have ev0 := hF
      dsimp only [owes6, bare]
      simp only [putsD, Act.put, List.setIfInBounds_toArray, List.set_cons_zero, List.set_cons_succ]
      simp only [ev0]
      go_wp2
      exact ⟨rfl, rfl, trivial, hI⟩
    · intro vals xw f hf1 hf2 hf3 hI hF
      clear hf2 hf3
      dsimp only [owes6, bare]
      simp only [putsD, Act.put, List.setIfInBounds_toArray, List.set_cons_zero, List.set_cons_succ]
      have HI9 := Lib.hid hI
      clear hI
      go_wp2
      exact ⟨rfl, trivial, trivial, AsB.zero HI9.out HLO.out⟩
    · intro vals xw f hf1 hf2 hf3 hI hF
      have k7 : f 7 = true := hf2 7 (by kernel_rfl)
      have k9 : f 9 = false := hf3 9 (by kernel_rfl)
      have k10 : f 10 = false := hf3 10 (by kernel_rfl)
      have k13 : f 13 = false := hf3 13 (by kernel_rfl)
      clear hf2 hf3
      simp only [saysD, List.getD_cons_zero, List.getD_cons_succ, and_true] at hF
      have ev0 := hF
      obtain ⟨b9, ez, hz9⟩ := hI.2.2.1 k7 hf1
      have hbx := hI.2.1 hf1
      dsimp only [owes6, bare]
      simp only [putsD, Act.put, List.setIfInBounds_toArray, List.set_cons_zero, List.set_cons_succ]
      simp only [ev0, ez]
      refine wpList_append_zeroB ([] : List Value) (by rfl) (.tmp 48) (.tmp 51) (by rfl) (by rfl) (by rfl) HB.out HLO.out hl8 hbx hz9 ?_
      intro nb c8 w9 haft hnb hg9
      exact ⟨rfl, trivial, trivial, AsB.app hI HLO.out k9 k10 k13 haft hnb hg9 HOWN.out⟩
    · intro vals xw f hf1 hf2 hf3 hI hF
      have k8 : f 8 = true := hf2 8 (by kernel_rfl)
      clear hf2 hf3
      simp only [saysD, List.getD_cons_zero, List.getD_cons_succ, and_true] at hF
      obtain ⟨_, eln⟩ := hF
      obtain ⟨nb, c8, eap, _, ev, _, haft⟩ := hI.2.2.2.2 k8
      dsimp only [owes6, bare]
      simp only [putsD, Act.put, List.setIfInBounds_toArray, List.set_cons_zero, List.set_cons_succ]
      simp only [eap, eln]
      have hlt9 : (l.ts.length : Int) < ((l.ts.length + 1 : Nat) : Int) := by omega
      have HI9 := Lib.hid hI
      have HE9 := Lib.hid eap
      clear haft hI
      go_wp2
      exact ⟨rfl, trivial, trivial, HI9.out.ptr HE9.out⟩
    · intro vals xw f hf1 hf2 hf3 hI hF
      have k8 : f 8 = true := hf2 8 (by kernel_rfl)
      have k9 : f 9 = true := hf2 9 (by kernel_rfl)
      have k5 : f 5 = true := hf2 5 (by kernel_rfl)
      clear hf2 hf3
      simp only [saysD, List.getD_cons_zero, List.getD_cons_succ, and_true] at hF
      obtain ⟨_, etv⟩ := hF
      obtain ⟨nb, c8, eap, h10, ev, _, haft⟩ := hI.2.2.2.2 k8
      have epe := h10 k9
      rw [hf1] at haft
      dsimp only [owes6, bare]
      simp only [putsD, Act.put, List.setIfInBounds_toArray, List.set_cons_zero, List.set_cons_succ]
      simp only [epe, etv]
      obtain ⟨u0, y0⟩ := haft.cells 0 (by omega)
      obtain ⟨u1, y1⟩ := haft.cells 1 (by omega)
      obtain ⟨u2, y2⟩ := haft.cells 2 (by omega)
      obtain ⟨u3, y3⟩ := haft.cells 3 (by omega)
      obtain ⟨u4, y4⟩ := haft.cells 4 (by omega)
      rw [Nat.add_zero] at y0
      have f0 := haft.nfrz (l.ts.length * 5)
      have f1 := haft.nfrz (l.ts.length * 5 + 1)
      have f2 := haft.nfrz (l.ts.length * 5 + 2)
      have f3 := haft.nfrz (l.ts.length * 5 + 3)
      have f4 := haft.nfrz (l.ts.length * 5 + 4)
      have HI9 := Lib.hid hI
      have HE9 := Lib.hid eap
      have HV9 := Lib.hid etv
      clear haft hI h10 eap
      go_wp2
      exact ⟨rfl, trivial, trivial, HI9.out.elem k8 hf1 HE9.out HV9.out⟩
    · intro vals xw f hf1 hf2 hf3 hI hF
      clear hf2 hf3
      simp only [saysD, List.getD_cons_zero, List.getD_cons_succ, and_true] at hF
      obtain ⟨ex, ek⟩ := hF
      dsimp only [owes6, bare]
      simp only [putsD, Act.put, List.setIfInBounds_toArray, List.set_cons_zero, List.set_cons_succ]
      simp only [ex, ek]
      go_wp2
      exact ⟨rfl, rfl, trivial, hI⟩
    · intro vals xw f hf1 hf2 hf3 hI hF
      clear hf2 hf3
      simp only [saysD, List.getD_cons_zero, List.getD_cons_succ, and_true] at hF
      have eQ0 := hF
      dsimp only [owes6, bare]
      simp only [putsD, Act.put, List.setIfInBounds_toArray, List.set_cons_zero, List.set_cons_succ]
      simp only [eQ0]
      go_wp2
      exact ⟨rfl, rfl, trivial, hI⟩
    · intro vals xw f hf1 hf2 hf3 hI hF
      have k8 : f 8 = true := hf2 8 (by kernel_rfl)
      clear hf2 hf3
      simp only [saysD, List.getD_cons_zero, List.getD_cons_succ, and_true] at hF
      have eQ1 := hF
      obtain ⟨nb, c8, eap, _, ev, _, haft⟩ := hI.2.2.2.2 k8
      rw [hf1] at haft
      dsimp only [owes6, bare]
      simp only [putsD, Act.put, List.setIfInBounds_toArray, List.set_cons_zero, List.set_cons_succ]
      simp only [eQ1, eap]
      have x1 := haft.cell
      have x2 := haft.frz (kn * 2 + 1)
      have HI9 := Lib.hid hI
      have HE9 := Lib.hid eap
      clear haft hI
      go_wp2
      exact ⟨rfl, trivial, trivial, HI9.out.outer k8 HLG.out HGT.out HE9.out⟩
    · intro vals xw f hall hI hF
      rw [show List.range _ = [0, 1, 2, 3, 4, 5, 6, 7, 8, 9, 10, 11, 12, 13] from rfl] at hF
      simp only [says, List.getD_cons_zero, List.getD_cons_succ, and_true] at hF
      obtain ⟨At', ct', hB'⟩ := AsB.fin' HB.out hI rfl (hall 5 (by decide)) (hall 8 (by decide)) (hall 10 (by decide)) (hall 13 (by decide))
      have HB' := Lib.hid hB'
      have HBW := Lib.hid hI.1
      simp only [putsD, Act.put, List.setIfInBounds_toArray, List.set_cons_zero, List.set_cons_succ]
      clear hI hF hall hB'
      have HFT := Lib.hid (okDC_setT (t := nmT 120) HOK.out HL.out (nmT_ok 120) (by omega))
      have HRD := Lib.hid HB'.out.rd
      generalize c.set kn ⟨l.ds, l.ts ++ [nmT 120]⟩ = x8 at *
      have hx8 : x8.length = c.length := HFT.out.2.2.2
      go_wp2
      refine bodyPost_ret (v := .slice (some ⟨g, 0, none⟩) x8.length c3) (by simp [results, Tryz.results83, go_sem, hx8]) rfl ?_
      exact ⟨x8, _, c3, rfl, by rw [hx8]; exact hcc, HRD.out, HFT.out.1, drawn_low (show p ≤ p + 1 + 1 by omega) (by omega) HR5.out HG5.out HBW.out hrl⟩
  have gy3 : (y == 3) = false := by simpa using hy3
  clear hy3
  by_cases hy4 : y = 4
  · subst hy4
    obtain ⟨g, At, ct, rfl, hB⟩ := HO5.out.bent HL.out
    have HB := Lib.hid hB
    have HTS := Lib.hid hB.ts
    have HGT := Lib.hid hB.glt
    have HLG := Lib.hid hB.glo
    obtain ⟨cs9, hrow9, _⟩ := hB.row
    have HOWN := Lib.hid hrow9.lt
    have hl8 : l.ts.length ≤ 1048576 := by omega
    clear hB hrow9
    have hkl1 : (kn : Int) < (c.length : Int) := by omega
    go_wp2
    refine wp_region_rel6 [[], [], [(0, 58), (1, 59)], [(2, 60)], [(3, 61)], [], [], [(5, 63), (6, 64)], [(7, 65)], [(4, 62)], [], [(4, 62), (10, 68)], [(11, 69), (9, 67)], [(12, 70), (8, 66)], [(0, 58), (1, 59)], [(14, 71)], [(15, 72), (11, 69)]]
      (fun _ _ => True)
      []
      (fun v9 f9 x9 => AsB w.heap.size w5 g kn At ct l.ts twT (v9 7) (v9 8) (v9 10) (v9 11) (v9 12) (f9 7) (f9 8) (f9 10) (f9 11) (f9 12) (f9 13) (f9 16) x9)
      [fun vs9 _ => vs9 0 = (.slice (some ⟨g, 0, none⟩) c.length c3),
    fun vs9 _ => vs9 1 = (.int .i64 (kn : Int)),
    fun vs9 _ => vs9 2 = (.pointer (some ⟨g, kn * 2, none⟩)),
    fun vs9 _ => vs9 3 = (.pointer (some ⟨g, kn * 2 + 1, none⟩)),
    fun vs9 _ => vs9 4 = (.slice At l.ts.length ct),
    fun vs9 _ => vs9 5 = (.agg #[.int .i64 21, .int .i64 0, .int .i64 0, .string ⟨#[119]⟩, .slice none 0 0]),
    fun vs9 _ => vs9 6 = (.agg #[.int .i64 21, .int .i64 0, .int .i64 0, .string ⟨#[119]⟩, .slice none 0 0]),
    fun _ _ => True,
    fun _ _ => True,
    fun vs9 _ => vs9 9 = (.int .i64 (l.ts.length : Int)),
    fun _ _ => True,
    fun _ _ => True,
    fun _ _ => True,
    fun _ _ => True,
    fun vs9 _ => vs9 14 = (.pointer (some ⟨g, kn * 2, none⟩)),
    fun vs9 _ => vs9 15 = (.pointer (some ⟨g, kn * 2 + 1, none⟩)),
    fun _ _ => True]
      [(0, 58), (1, 59), (2, 60), (3, 61), (4, 62), (5, 63), (6, 64), (7, 65), (8, 66), (9, 67), (10, 68), (11, 69), (12, 70), (14, 71), (15, 72)] (by kernel_rfl) (by kernel_rfl) (by kernel_rfl) (by kernel_rfl)
      (fun _ => trivial) trivial
      ⟨⟨.inr (fun _ _ _ h _ => h), trivial⟩,
    ⟨.inr (fun _ _ _ h _ => h), trivial⟩,
    ⟨.inr (fun _ _ _ h _ => h), trivial⟩,
    ⟨.inr (fun _ _ _ h _ => h), trivial⟩,
    ⟨.inr (fun _ _ _ h _ => h), trivial⟩,
    ⟨.inr (fun _ _ _ h _ => h), trivial⟩,
    ⟨.inr (fun _ _ _ h _ => h), trivial⟩,
    ⟨.inr (fun _ _ _ h _ => h), trivial⟩,
    ⟨.inr (fun _ _ _ h _ => h), trivial⟩,
    ⟨.inr (fun _ _ _ h _ => h), trivial⟩,
    ⟨.inr (fun _ _ _ h _ => h), trivial⟩,
    ⟨.inr (fun _ _ _ h _ => h), trivial⟩,
    ⟨.inr (fun _ _ _ h _ => h), trivial⟩,
    ⟨.inr (fun _ _ _ h _ => h), trivial⟩,
    ⟨.inr (fun _ _ _ h _ => h), trivial⟩,
    ⟨.inr (fun _ _ _ h _ => h), trivial⟩,
    ⟨.inr (fun _ _ _ h _ => h), trivial⟩, trivial⟩ ⟨fun vs vs' x h _ hv => (by dsimp only at hv ⊢; first | (rw [← h]; exact hv) | exact hv),
    fun vs vs' x h _ hv => (by dsimp only at hv ⊢; first | (rw [← h]; exact hv) | exact hv),
    fun vs vs' x h _ hv => (by dsimp only at hv ⊢; first | (rw [← h]; exact hv) | exact hv),
    fun vs vs' x h _ hv => (by dsimp only at hv ⊢; first | (rw [← h]; exact hv) | exact hv),
    fun vs vs' x h _ hv => (by dsimp only at hv ⊢; first | (rw [← h]; exact hv) | exact hv),
    fun vs vs' x h _ hv => (by dsimp only at hv ⊢; first | (rw [← h]; exact hv) | exact hv),
    fun vs vs' x h _ hv => (by dsimp only at hv ⊢; first | (rw [← h]; exact hv) | exact hv),
    fun _ _ _ _ _ _ => trivial,
    fun _ _ _ _ _ _ => trivial,
    fun vs vs' x h _ hv => (by dsimp only at hv ⊢; first | (rw [← h]; exact hv) | exact hv),
    fun _ _ _ _ _ _ => trivial,
    fun _ _ _ _ _ _ => trivial,
    fun _ _ _ _ _ _ => trivial,
    fun _ _ _ _ _ _ => trivial,
    fun vs vs' x h _ hv => (by dsimp only at hv ⊢; first | (rw [← h]; exact hv) | exact hv),
    fun vs vs' x h _ hv => (by dsimp only at hv ⊢; first | (rw [← h]; exact hv) | exact hv),
    fun _ _ _ _ _ _ => trivial, trivial⟩ (AsB.start' HLO.out (below_drewN (Below.refl _ _) 1) rfl rfl (fun e => absurd e (by simp))) ⟨?_, ?_, ?_, ?_, ?_, ?_, ?_, ?_, ?_, ?_, ?_, ?_, ?_, ?_, ?_, ?_, ?_, trivial⟩ ?_
    · intro vals xw f hf1 hf2 hf3 hI hF
      clear hf2 hf3
      dsimp only [owes6, bare]
      simp only [putsD, Act.put, List.setIfInBounds_toArray, List.set_cons_zero, List.set_cons_succ]
      go_wp2
      exact ⟨rfl, rfl, trivial, hI⟩
    · intro vals xw f hf1 hf2 hf3 hI hF
      clear hf2 hf3
      dsimp only [owes6, bare]
      simp only [putsD, Act.put, List.setIfInBounds_toArray, List.set_cons_zero, List.set_cons_succ]
      go_wp2
      exact ⟨rfl, rfl, trivial, hI⟩
    · intro vals xw f hf1 hf2 hf3 hI hF
      clear hf2 hf3
      simp only [saysD, List.getD_cons_zero, List.getD_cons_succ, and_true] at hF
      obtain ⟨ex, ek⟩ := hF
      dsimp only [owes6, bare]
      simp only [putsD, Act.put, List.setIfInBounds_toArray, List.set_cons_zero, List.set_cons_succ]
      simp only [ex, ek]
      go_wp2
      exact ⟨rfl, rfl, trivial, hI⟩
    · intro vals xw f hf1 hf2 hf3 hI hF
      clear hf2 hf3
      simp only [saysD, List.getD_cons_zero, List.getD_cons_succ, and_true] at hF
      have eP0 := hF
      dsimp only [owes6, bare]
      simp only [putsD, Act.put, List.setIfInBounds_toArray, List.set_cons_zero, List.set_cons_succ]
      simp only [eP0]
      go_wp2
      exact ⟨rfl, rfl, trivial, hI⟩
    · intro vals xw f hf1 hf2 hf3 hI hF
      have k11 : f 11 = false := hf3 11 (by kernel_rfl)
      clear hf2 hf3
      simp only [saysD, List.getD_cons_zero, List.getD_cons_succ, and_true] at hF
      have eP1 := hF
      dsimp only [owes6, bare]
      simp only [putsD, Act.put, List.setIfInBounds_toArray, List.set_cons_zero, List.set_cons_succ]
      simp only [eP1]
      have d9 := ((hI.2.1 k11).cell (p := ⟨g, kn * 2 + 1, none⟩) HGT.out).trans HTS.out
      go_wp2
      exact ⟨rfl, rfl, trivial, hI⟩
    · intro vals xw f hf1 hf2 hf3 hI hF
      clear hf2 hf3
      dsimp only [owes6, bare]
      simp only [putsD, Act.put, List.setIfInBounds_toArray, List.set_cons_zero, List.set_cons_succ]
      go_wp2
      exact ⟨rfl, rfl, trivial, hI⟩
    · intro vals xw f hf1 hf2 hf3 hI hF
      clear hf2 hf3
      dsimp only [owes6, bare]
      simp only [putsD, Act.put, List.setIfInBounds_toArray, List.set_cons_zero, List.set_cons_succ]
      go_wp2
      exact ⟨rfl, rfl, trivial, hI⟩
    · intro vals xw f hf1 hf2 hf3 hI hF
      have k8 : f 8 = false := hf3 8 (by kernel_rfl)
      clear hf2 hf3
      simp only [saysD, List.getD_cons_zero, List.getD_cons_succ, and_true] at hF
      obtain ⟨en1, en2⟩ := hF
      dsimp only [owes6, bare]
      simp only [putsD, Act.put, List.setIfInBounds_toArray, List.set_cons_zero, List.set_cons_succ]
      simp only [en1, en2]
      have HI9 := Lib.hid hI
      clear hI
      go_wp2
      exact ⟨rfl, trivial, trivial, AsB.kid HI9.out HLO.out k8 twT_kids⟩
    · intro vals xw f hf1 hf2 hf3 hI hF
      have k7 : f 7 = true := hf2 7 (by kernel_rfl)
      have k13 : f 13 = false := hf3 13 (by kernel_rfl)
      clear hf2 hf3
      simp only [saysD, List.getD_cons_zero, List.getD_cons_succ, and_true] at hF
      obtain ⟨A9, c9, e65, _, _, _⟩ := hI.2.2.2.1 k7
      have e65 : vals 7 = .slice A9 2 c9 := e65
      dsimp only [owes6, bare]
      simp only [putsD, Act.put, List.setIfInBounds_toArray, List.set_cons_zero, List.set_cons_succ]
      simp only [e65]
      have HI9 := Lib.hid hI
      have HE9 := Lib.hid e65
      clear hI
      go_wp2
      exact ⟨rfl, trivial, trivial, AsB.term HI9.out k13 (fun A8 c8 e9 => by
      have e9 := HE9.out.symm.trans e9
      injection e9 with e1 _ e2
      subst e1 e2
      rfl)⟩
    · intro vals xw f hf1 hf2 hf3 hI hF
      clear hf2 hf3
      simp only [saysD, List.getD_cons_zero, List.getD_cons_succ, and_true] at hF
      have ev0 := hF
      dsimp only [owes6, bare]
      simp only [putsD, Act.put, List.setIfInBounds_toArray, List.set_cons_zero, List.set_cons_succ]
      simp only [ev0]
      go_wp2
      exact ⟨rfl, rfl, trivial, hI⟩
    · intro vals xw f hf1 hf2 hf3 hI hF
      clear hf2 hf3
      dsimp only [owes6, bare]
      simp only [putsD, Act.put, List.setIfInBounds_toArray, List.set_cons_zero, List.set_cons_succ]
      have HI9 := Lib.hid hI
      clear hI
      go_wp2
      exact ⟨rfl, trivial, trivial, AsB.zero HI9.out HLO.out⟩
    · intro vals xw f hf1 hf2 hf3 hI hF
      have k10 : f 10 = true := hf2 10 (by kernel_rfl)
      have k12 : f 12 = false := hf3 12 (by kernel_rfl)
      have k13 : f 13 = false := hf3 13 (by kernel_rfl)
      have k16 : f 16 = false := hf3 16 (by kernel_rfl)
      clear hf2 hf3
      simp only [saysD, List.getD_cons_zero, List.getD_cons_succ, and_true] at hF
      have ev0 := hF
      obtain ⟨b9, ez, hz9⟩ := hI.2.2.1 k10 hf1
      have hbx := hI.2.1 hf1
      dsimp only [owes6, bare]
      simp only [putsD, Act.put, List.setIfInBounds_toArray, List.set_cons_zero, List.set_cons_succ]
      simp only [ev0, ez]
      refine wpList_append_zeroB ([] : List Value) (by rfl) (.tmp 62) (.tmp 68) (by rfl) (by rfl) (by rfl) HB.out HLO.out hl8 hbx hz9 ?_
      intro nb c8 w9 haft hnb hg9
      exact ⟨rfl, trivial, trivial, AsB.app hI HLO.out k12 k13 k16 haft hnb hg9 HOWN.out⟩
    · intro vals xw f hf1 hf2 hf3 hI hF
      have k11 : f 11 = true := hf2 11 (by kernel_rfl)
      clear hf2 hf3
      simp only [saysD, List.getD_cons_zero, List.getD_cons_succ, and_true] at hF
      obtain ⟨_, eln⟩ := hF
      obtain ⟨nb, c8, eap, _, ev, _, haft⟩ := hI.2.2.2.2 k11
      dsimp only [owes6, bare]
      simp only [putsD, Act.put, List.setIfInBounds_toArray, List.set_cons_zero, List.set_cons_succ]
      simp only [eap, eln]
      have hlt9 : (l.ts.length : Int) < ((l.ts.length + 1 : Nat) : Int) := by omega
      have HI9 := Lib.hid hI
      have HE9 := Lib.hid eap
      clear haft hI
      go_wp2
      exact ⟨rfl, trivial, trivial, HI9.out.ptr HE9.out⟩
    · intro vals xw f hf1 hf2 hf3 hI hF
      have k11 : f 11 = true := hf2 11 (by kernel_rfl)
      have k12 : f 12 = true := hf2 12 (by kernel_rfl)
      have k8 : f 8 = true := hf2 8 (by kernel_rfl)
      have k7 : f 7 = true := hf2 7 (by kernel_rfl)
      clear hf2 hf3
      simp only [saysD, List.getD_cons_zero, List.getD_cons_succ, and_true] at hF
      obtain ⟨A9, c9, _, _, etv, _⟩ := hI.2.2.2.1 k7
      have etv : vals 8 = .agg #[.int .i64 15, .int .i64 0, .int .i64 0, .string ⟨#[]⟩, .slice A9 2 c9] := etv k8
      obtain ⟨nb, c8, eap, h10, ev, _, haft⟩ := hI.2.2.2.2 k11
      have epe := h10 k12
      rw [hf1] at haft
      dsimp only [owes6, bare]
      simp only [putsD, Act.put, List.setIfInBounds_toArray, List.set_cons_zero, List.set_cons_succ]
      simp only [epe, etv]
      obtain ⟨u0, y0⟩ := haft.cells 0 (by omega)
      obtain ⟨u1, y1⟩ := haft.cells 1 (by omega)
      obtain ⟨u2, y2⟩ := haft.cells 2 (by omega)
      obtain ⟨u3, y3⟩ := haft.cells 3 (by omega)
      obtain ⟨u4, y4⟩ := haft.cells 4 (by omega)
      rw [Nat.add_zero] at y0
      have f0 := haft.nfrz (l.ts.length * 5)
      have f1 := haft.nfrz (l.ts.length * 5 + 1)
      have f2 := haft.nfrz (l.ts.length * 5 + 2)
      have f3 := haft.nfrz (l.ts.length * 5 + 3)
      have f4 := haft.nfrz (l.ts.length * 5 + 4)
      have HI9 := Lib.hid hI
      have HE9 := Lib.hid eap
      have HV9 := Lib.hid etv
      clear haft hI h10 eap
      go_wp2
      exact ⟨rfl, trivial, trivial, HI9.out.elem k11 hf1 HE9.out HV9.out⟩
    · intro vals xw f hf1 hf2 hf3 hI hF
      clear hf2 hf3
      simp only [saysD, List.getD_cons_zero, List.getD_cons_succ, and_true] at hF
      obtain ⟨ex, ek⟩ := hF
      dsimp only [owes6, bare]
      simp only [putsD, Act.put, List.setIfInBounds_toArray, List.set_cons_zero, List.set_cons_succ]
      simp only [ex, ek]
      go_wp2
      exact ⟨rfl, rfl, trivial, hI⟩
    · intro vals xw f hf1 hf2 hf3 hI hF
      clear hf2 hf3
      simp only [saysD, List.getD_cons_zero, List.getD_cons_succ, and_true] at hF
      have eQ0 := hF
      dsimp only [owes6, bare]
      simp only [putsD, Act.put, List.setIfInBounds_toArray, List.set_cons_zero, List.set_cons_succ]
      simp only [eQ0]
      go_wp2
      exact ⟨rfl, rfl, trivial, hI⟩
    · intro vals xw f hf1 hf2 hf3 hI hF
      have k11 : f 11 = true := hf2 11 (by kernel_rfl)
      clear hf2 hf3
      simp only [saysD, List.getD_cons_zero, List.getD_cons_succ, and_true] at hF
      have eQ1 := hF
      obtain ⟨nb, c8, eap, _, ev, _, haft⟩ := hI.2.2.2.2 k11
      rw [hf1] at haft
      dsimp only [owes6, bare]
      simp only [putsD, Act.put, List.setIfInBounds_toArray, List.set_cons_zero, List.set_cons_succ]
      simp only [eQ1, eap]
      have x1 := haft.cell
      have x2 := haft.frz (kn * 2 + 1)
      have HI9 := Lib.hid hI
      have HE9 := Lib.hid eap
      clear haft hI
      go_wp2
      exact ⟨rfl, trivial, trivial, HI9.out.outer k11 HLG.out HGT.out HE9.out⟩
    · intro vals xw f hall hI hF
      rw [show List.range _ = [0, 1, 2, 3, 4, 5, 6, 7, 8, 9, 10, 11, 12, 13, 14, 15, 16] from rfl] at hF
      simp only [says, List.getD_cons_zero, List.getD_cons_succ, and_true] at hF
      obtain ⟨At', ct', hB'⟩ := AsB.fin' HB.out hI (hall 7 (by decide)) (hall 8 (by decide)) (hall 11 (by decide)) (hall 13 (by decide)) (hall 16 (by decide))
      have HB' := Lib.hid hB'
      have HBW := Lib.hid hI.1
      simp only [putsD, Act.put, List.setIfInBounds_toArray, List.set_cons_zero, List.set_cons_succ]
      clear hI hF hall hB'
      have HFT := Lib.hid (okDC_setT (t := twT) HOK.out HL.out twT_ok (by omega))
      have HRD := Lib.hid HB'.out.rd
      generalize c.set kn ⟨l.ds, l.ts ++ [twT]⟩ = x8 at *
      have hx8 : x8.length = c.length := HFT.out.2.2.2
      go_wp2
      refine bodyPost_ret (v := .slice (some ⟨g, 0, none⟩) x8.length c3) (by simp [results, Tryz.results83, go_sem, hx8]) rfl ?_
      exact ⟨x8, _, c3, rfl, by rw [hx8]; exact hcc, HRD.out, HFT.out.1, drawn_low (show p ≤ p + 1 + 1 by omega) (by omega) HR5.out HG5.out HBW.out hrl⟩
  have gy4 : (y == 4) = false := by simpa using hy4
  clear hy4
  by_cases hy5 : y = 5
  · subst hy5
    obtain ⟨g, At0, ct0, rfl, hB0⟩ := HO5.out.bent HL.out
    have HB0 := Lib.hid hB0
    clear hB0
    have hkl1 : (kn : Int) < (c.length : Int) := by omega
    go_wp2
    go_loopw [7] (fun i wr => ∃ (j : Nat) (cj : List Ly) (lj : Ly) (Aj : Option Addr) (nj : Nat), j ≤ 8 ∧ i = .int .i64 j ∧ cj.length = c.length ∧ (tsAll cj).length ≤ 8 + j ∧ Hid (okDC cj) ∧ Hid (BentS w.heap.size wr g cj kn lj Aj nj) ∧ Hid (Below w.heap.size w5 wr)) (fun i _ => 8 - (intOf i).toNat)
    case atStart => exact ⟨0, c, l, At0, ct0, by omega, rfl, rfl, by omega, HOK, HB0, Lib.hid (Below.refl _ _)⟩
    case round =>
      obtain ⟨j, cj, l, At, ct, hj, rfl, hcj, htj, HOJ, HB, HBJ⟩ := hrel
      clear HB0 HL hlt9 hld9
      by_cases hlt : j < 8
      · have hj1 : (j : Int) < 8 := by omega
        have HTS := Lib.hid HB.out.ts
        have HGT := Lib.hid HB.out.glt
        have HLG := Lib.hid HB.out.glo
        have HLO : Hid (w.heap.size ≤ wr.heap.size) := Lib.hid (Nat.le_trans HLO.out HBJ.out.size)
        obtain ⟨cs9, hrow9, _⟩ := HB.out.row
        have HOWN := Lib.hid hrow9.lt
        have hl8 : l.ts.length ≤ 1048576 := by
          have h1 := tsAll_at cj kn (by omega)
          rw [(List.getElem?_eq_some_iff.1 HB.out.at_k).2] at h1
          omega
        clear hrow9
        go_wp2
        refine wp_region_rel6 [[], [], [(0, 79), (1, 80)], [(2, 81)], [(3, 82)], [], [(4, 83)], [], [(4, 83), (7, 86)], [(8, 87), (6, 85)], [(9, 88), (5, 84)], [(0, 79), (1, 80)], [(11, 89)], [(12, 90), (8, 87)]]
          (fun _ _ => True)
          []
          (fun v9 f9 x9 => AsB w.heap.size wr g kn At ct l.ts trT (.slice none 0 0) (v9 5) (v9 7) (v9 8) (v9 9) true (f9 5) (f9 7) (f9 8) (f9 9) (f9 10) (f9 13) x9)
          [fun vs9 _ => vs9 0 = (.slice (some ⟨g, 0, none⟩) c.length c3),
    fun vs9 _ => vs9 1 = (.int .i64 (kn : Int)),
    fun vs9 _ => vs9 2 = (.pointer (some ⟨g, kn * 2, none⟩)),
    fun vs9 _ => vs9 3 = (.pointer (some ⟨g, kn * 2 + 1, none⟩)),
    fun vs9 _ => vs9 4 = (.slice At l.ts.length ct),
    fun vs9 _ => vs9 5 = (.agg #[.int .i64 24, .int .i64 0, .int .i64 0, .string ⟨#[]⟩, .slice none 0 0]),
    fun vs9 _ => vs9 6 = (.int .i64 (l.ts.length : Int)),
    fun _ _ => True,
    fun _ _ => True,
    fun _ _ => True,
    fun _ _ => True,
    fun vs9 _ => vs9 11 = (.pointer (some ⟨g, kn * 2, none⟩)),
    fun vs9 _ => vs9 12 = (.pointer (some ⟨g, kn * 2 + 1, none⟩)),
    fun _ _ => True]
          [(0, 79), (1, 80), (2, 81), (3, 82), (4, 83), (5, 84), (6, 85), (7, 86), (8, 87), (9, 88), (11, 89), (12, 90)] (by kernel_rfl) (by kernel_rfl) (by kernel_rfl) (by kernel_rfl)
          (fun _ => trivial) trivial
          ⟨⟨.inr (fun _ _ _ h _ => h), trivial⟩,
    ⟨.inr (fun _ _ _ h _ => h), trivial⟩,
    ⟨.inr (fun _ _ _ h _ => h), trivial⟩,
    ⟨.inr (fun _ _ _ h _ => h), trivial⟩,
    ⟨.inr (fun _ _ _ h _ => h), trivial⟩,
    ⟨.inr (fun _ _ _ h _ => h), trivial⟩,
    ⟨.inr (fun _ _ _ h _ => h), trivial⟩,
    ⟨.inr (fun _ _ _ h _ => h), trivial⟩,
    ⟨.inr (fun _ _ _ h _ => h), trivial⟩,
    ⟨.inr (fun _ _ _ h _ => h), trivial⟩,
    ⟨.inr (fun _ _ _ h _ => h), trivial⟩,
    ⟨.inr (fun _ _ _ h _ => h), trivial⟩,
    ⟨.inr (fun _ _ _ h _ => h), trivial⟩,
    ⟨.inr (fun _ _ _ h _ => h), trivial⟩, trivial⟩ ⟨fun vs vs' x h _ hv => (by dsimp only at hv ⊢; first | (rw [← h]; exact hv) | exact hv),
    fun vs vs' x h _ hv => (by dsimp only at hv ⊢; first | (rw [← h]; exact hv) | exact hv),
    fun vs vs' x h _ hv => (by dsimp only at hv ⊢; first | (rw [← h]; exact hv) | exact hv),
    fun vs vs' x h _ hv => (by dsimp only at hv ⊢; first | (rw [← h]; exact hv) | exact hv),
    fun vs vs' x h _ hv => (by dsimp only at hv ⊢; first | (rw [← h]; exact hv) | exact hv),
    fun vs vs' x h _ hv => (by dsimp only at hv ⊢; first | (rw [← h]; exact hv) | exact hv),
    fun vs vs' x h _ hv => (by dsimp only at hv ⊢; first | (rw [← h]; exact hv) | exact hv),
    fun _ _ _ _ _ _ => trivial,
    fun _ _ _ _ _ _ => trivial,
    fun _ _ _ _ _ _ => trivial,
    fun _ _ _ _ _ _ => trivial,
    fun vs vs' x h _ hv => (by dsimp only at hv ⊢; first | (rw [← h]; exact hv) | exact hv),
    fun vs vs' x h _ hv => (by dsimp only at hv ⊢; first | (rw [← h]; exact hv) | exact hv),
    fun _ _ _ _ _ _ => trivial, trivial⟩ (AsB.start' HLO.out (below_drewN (Below.refl _ _) 1) rfl rfl (fun _ => ⟨rfl, rfl, rfl⟩)) ⟨?_, ?_, ?_, ?_, ?_, ?_, ?_, ?_, ?_, ?_, ?_, ?_, ?_, ?_, trivial⟩ ?_
        · intro vals xw f hf1 hf2 hf3 hI hF
          clear hf2 hf3
          dsimp only [owes6, bare]
          simp only [putsD, Act.put, List.setIfInBounds_toArray, List.set_cons_zero, List.set_cons_succ]
          go_wp2
          exact ⟨rfl, rfl, trivial, hI⟩
        · intro vals xw f hf1 hf2 hf3 hI hF
          clear hf2 hf3
          dsimp only [owes6, bare]
          simp only [putsD, Act.put, List.setIfInBounds_toArray, List.set_cons_zero, List.set_cons_succ]
          go_wp2
          exact ⟨rfl, rfl, trivial, hI⟩
        · intro vals xw f hf1 hf2 hf3 hI hF
          clear hf2 hf3
          simp only [saysD, List.getD_cons_zero, List.getD_cons_succ, and_true] at hF
          obtain ⟨ex, ek⟩ := hF
          dsimp only [owes6, bare]
          simp only [putsD, Act.put, List.setIfInBounds_toArray, List.set_cons_zero, List.set_cons_succ]
          simp only [ex, ek]
          go_wp2
          exact ⟨rfl, rfl, trivial, hI⟩
        · intro vals xw f hf1 hf2 hf3 hI hF
          clear hf2 hf3
          simp only [saysD, List.getD_cons_zero, List.getD_cons_succ, and_true] at hF
          have eP0 := hF
          dsimp only [owes6, bare]
          simp only [putsD, Act.put, List.setIfInBounds_toArray, List.set_cons_zero, List.set_cons_succ]
          simp only [eP0]
          go_wp2
          exact ⟨rfl, rfl, trivial, hI⟩
        · intro vals xw f hf1 hf2 hf3 hI hF
          have k8 : f 8 = false := hf3 8 (by kernel_rfl)
          clear hf2 hf3
          simp only [saysD, List.getD_cons_zero, List.getD_cons_succ, and_true] at hF
          have eP1 := hF
          dsimp only [owes6, bare]
          simp only [putsD, Act.put, List.setIfInBounds_toArray, List.set_cons_zero, List.set_cons_succ]
          simp only [eP1]
          have d9 := ((hI.2.1 k8).cell (p := ⟨g, kn * 2 + 1, none⟩) HGT.out).trans HTS.out
          go_wp2
          exact ⟨rfl, rfl, trivial, hI⟩
        · intro vals xw f hf1 hf2 hf3 hI hF
          have k10 : f 10 = false := hf3 10 (by kernel_rfl)
          clear hf2 hf3
          dsimp only [owes6, bare]
          simp only [putsD, Act.put, List.setIfInBounds_toArray, List.set_cons_zero, List.set_cons_succ]
          have HI9 := Lib.hid hI
          clear hI
          go_wp2
          exact ⟨rfl, rfl, trivial, AsB.term HI9.out k10 (fun A8 c8 e9 => by
      injection e9 with e1 _ e2
      subst e1 e2
      rfl)⟩
        · intro vals xw f hf1 hf2 hf3 hI hF
          clear hf2 hf3
          simp only [saysD, List.getD_cons_zero, List.getD_cons_succ, and_true] at hF
          have ev0 := hF
          dsimp only [owes6, bare]
          simp only [putsD, Act.put, List.setIfInBounds_toArray, List.set_cons_zero, List.set_cons_succ]
          simp only [ev0]
          go_wp2
          exact ⟨rfl, rfl, trivial, hI⟩
        · intro vals xw f hf1 hf2 hf3 hI hF
          clear hf2 hf3
          dsimp only [owes6, bare]
          simp only [putsD, Act.put, List.setIfInBounds_toArray, List.set_cons_zero, List.set_cons_succ]
          have HI9 := Lib.hid hI
          clear hI
          go_wp2
          exact ⟨rfl, trivial, trivial, AsB.zero HI9.out HLO.out⟩
        · intro vals xw f hf1 hf2 hf3 hI hF
          have k7 : f 7 = true := hf2 7 (by kernel_rfl)
          have k9 : f 9 = false := hf3 9 (by kernel_rfl)
          have k10 : f 10 = false := hf3 10 (by kernel_rfl)
          have k13 : f 13 = false := hf3 13 (by kernel_rfl)
          clear hf2 hf3
          simp only [saysD, List.getD_cons_zero, List.getD_cons_succ, and_true] at hF
          have ev0 := hF
          obtain ⟨b9, ez, hz9⟩ := hI.2.2.1 k7 hf1
          have hbx := hI.2.1 hf1
          dsimp only [owes6, bare]
          simp only [putsD, Act.put, List.setIfInBounds_toArray, List.set_cons_zero, List.set_cons_succ]
          simp only [ev0, ez]
          refine wpList_append_zeroB ([] : List Value) (by rfl) (.tmp 83) (.tmp 86) (by rfl) (by rfl) (by rfl) HB.out HLO.out hl8 hbx hz9 ?_
          intro nb c8 w9 haft hnb hg9
          exact ⟨rfl, trivial, trivial, AsB.app hI HLO.out k9 k10 k13 haft hnb hg9 HOWN.out⟩
        · intro vals xw f hf1 hf2 hf3 hI hF
          have k8 : f 8 = true := hf2 8 (by kernel_rfl)
          clear hf2 hf3
          simp only [saysD, List.getD_cons_zero, List.getD_cons_succ, and_true] at hF
          obtain ⟨_, eln⟩ := hF
          obtain ⟨nb, c8, eap, _, ev, _, haft⟩ := hI.2.2.2.2 k8
          dsimp only [owes6, bare]
          simp only [putsD, Act.put, List.setIfInBounds_toArray, List.set_cons_zero, List.set_cons_succ]
          simp only [eap, eln]
          have hlt9 : (l.ts.length : Int) < ((l.ts.length + 1 : Nat) : Int) := by omega
          have HI9 := Lib.hid hI
          have HE9 := Lib.hid eap
          clear haft hI
          go_wp2
          exact ⟨rfl, trivial, trivial, HI9.out.ptr HE9.out⟩
        · intro vals xw f hf1 hf2 hf3 hI hF
          have k8 : f 8 = true := hf2 8 (by kernel_rfl)
          have k9 : f 9 = true := hf2 9 (by kernel_rfl)
          have k5 : f 5 = true := hf2 5 (by kernel_rfl)
          clear hf2 hf3
          simp only [saysD, List.getD_cons_zero, List.getD_cons_succ, and_true] at hF
          obtain ⟨_, etv⟩ := hF
          obtain ⟨nb, c8, eap, h10, ev, _, haft⟩ := hI.2.2.2.2 k8
          have epe := h10 k9
          rw [hf1] at haft
          dsimp only [owes6, bare]
          simp only [putsD, Act.put, List.setIfInBounds_toArray, List.set_cons_zero, List.set_cons_succ]
          simp only [epe, etv]
          obtain ⟨u0, y0⟩ := haft.cells 0 (by omega)
          obtain ⟨u1, y1⟩ := haft.cells 1 (by omega)
          obtain ⟨u2, y2⟩ := haft.cells 2 (by omega)
          obtain ⟨u3, y3⟩ := haft.cells 3 (by omega)
          obtain ⟨u4, y4⟩ := haft.cells 4 (by omega)
          rw [Nat.add_zero] at y0
          have f0 := haft.nfrz (l.ts.length * 5)
          have f1 := haft.nfrz (l.ts.length * 5 + 1)
          have f2 := haft.nfrz (l.ts.length * 5 + 2)
          have f3 := haft.nfrz (l.ts.length * 5 + 3)
          have f4 := haft.nfrz (l.ts.length * 5 + 4)
          have HI9 := Lib.hid hI
          have HE9 := Lib.hid eap
          have HV9 := Lib.hid etv
          clear haft hI h10 eap
          go_wp2
          exact ⟨rfl, trivial, trivial, HI9.out.elem k8 hf1 HE9.out HV9.out⟩
        · intro vals xw f hf1 hf2 hf3 hI hF
          clear hf2 hf3
          simp only [saysD, List.getD_cons_zero, List.getD_cons_succ, and_true] at hF
          obtain ⟨ex, ek⟩ := hF
          dsimp only [owes6, bare]
          simp only [putsD, Act.put, List.setIfInBounds_toArray, List.set_cons_zero, List.set_cons_succ]
          simp only [ex, ek]
          go_wp2
          exact ⟨rfl, rfl, trivial, hI⟩
        · intro vals xw f hf1 hf2 hf3 hI hF
          clear hf2 hf3
          simp only [saysD, List.getD_cons_zero, List.getD_cons_succ, and_true] at hF
          have eQ0 := hF
          dsimp only [owes6, bare]
          simp only [putsD, Act.put, List.setIfInBounds_toArray, List.set_cons_zero, List.set_cons_succ]
          simp only [eQ0]
          go_wp2
          exact ⟨rfl, rfl, trivial, hI⟩
        · intro vals xw f hf1 hf2 hf3 hI hF
          have k8 : f 8 = true := hf2 8 (by kernel_rfl)
          clear hf2 hf3
          simp only [saysD, List.getD_cons_zero, List.getD_cons_succ, and_true] at hF
          have eQ1 := hF
          obtain ⟨nb, c8, eap, _, ev, _, haft⟩ := hI.2.2.2.2 k8
          rw [hf1] at haft
          dsimp only [owes6, bare]
          simp only [putsD, Act.put, List.setIfInBounds_toArray, List.set_cons_zero, List.set_cons_succ]
          simp only [eQ1, eap]
          have x1 := haft.cell
          have x2 := haft.frz (kn * 2 + 1)
          have HI9 := Lib.hid hI
          have HE9 := Lib.hid eap
          clear haft hI
          go_wp2
          exact ⟨rfl, trivial, trivial, HI9.out.outer k8 HLG.out HGT.out HE9.out⟩
        · intro vals xw f hall hI hF
          rw [show List.range _ = [0, 1, 2, 3, 4, 5, 6, 7, 8, 9, 10, 11, 12, 13] from rfl] at hF
          simp only [says, List.getD_cons_zero, List.getD_cons_succ, and_true] at hF
          obtain ⟨At', ct', hB'⟩ := AsB.fin' HB.out hI rfl (hall 5 (by decide)) (hall 8 (by decide)) (hall 10 (by decide)) (hall 13 (by decide))
          have HB' := Lib.hid hB'
          have HBW := Lib.hid hI.1
          simp only [putsD, Act.put, List.setIfInBounds_toArray, List.set_cons_zero, List.set_cons_succ]
          clear hI hF hall hB'
          have HFT := Lib.hid (okDC_setT (t := trT) HOJ.out HB.out.at_k trT_ok (by omega))
          generalize cj.set kn ⟨l.ds, l.ts ++ [trT]⟩ = x8 at *
          have hx8 : x8.length = cj.length := HFT.out.2.2.2
          have ht8 := HFT.out.2.1
          have HBZ := Lib.hid (HBJ.out.trans HBW.out)
          go_wp2
          go_roundw
          case rel => exact ⟨j + 1, x8, _, At', ct', by omega, by go_num, by omega, by omega, Lib.hid HFT.out.1, HB', HBZ⟩
          case measure => simp [intOf]; omega
      · have hj1 : ¬ (j : Int) < 8 := by omega
        have hj2 : decide ((j : Int) < 8) = false := decide_eq_false hj1
        go_wp2
        refine bodyPost_ret (v := .slice (some ⟨g, 0, none⟩) cj.length c3) (by simp [results, Tryz.results83, go_sem, hcj]) rfl ?_
        exact ⟨cj, _, c3, rfl, by rw [hcj]; exact hcc, HB.out.rd, HOJ.out, drawn_low (show p ≤ p + 1 + 1 by omega) (by omega) HR5.out HG5.out HBJ.out hrl⟩
  have gy5 : (y == 5) = false := by simpa using hy5
  clear hy5
  go_wp2
  refine bodyPost_ret (v := .slice A3 c.length c3) (by simp [results, Tryz.results83, go_sem]) rfl ?_
  exact ⟨c, A3, c3, rfl, hcc, HO5.out.rdR, HOK.out, p + 1 + 1, by omega, by omega, HR5.out, HG5.out⟩
end Go.Proofs.YtiahmfpfimmbgaaGreatDoor

/-! The reference's draws of contexts: l10Ctx, l10Some, and the draws of the laws. -/
namespace Go.Proofs.YtiahmfpfimmbgaaGreatDoor
open Go Go.RowKit Go.ChangeShapes Go.WideShapes Go.ChangeAt Go.Deep

theorem empty_layer_rd {w : World} {g : Nat} (hb : w.heap[g]? = some (.cells #[.slice none 0 0, .slice none 0 0] 58 (0, 0))) : Lay.layer.Rd w (some ⟨g, 0, none⟩) [⟨[], []⟩] := layers_rd (lt_of_block hb) fun i l9 hl9 => by
  match i, hl9 with
  | 0, hl9 =>
    injection hl9 with hl9
    subst hl9
    exact ⟨_, _, ⟨none, 0, none, 0, rfl, Nat.le_refl _, Nat.le_refl _, Lay.Sl.nil _ _ _ _, Lay.Sl.nil _ _ _ _⟩, (cell_of_block hb 0).1, (cell_of_block hb 1).1⟩
  | i + 1, hl9 => simp at hl9
theorem specCtxNew_d (w : World) : Calls Tryz.prog 110 #[] w fun e w' => ∃ A, e = .returned (.slice A 1 1) ∧ Lay.layer.Rd w' A [⟨[], []⟩] ∧ Below w.heap.size w w' := by
  go_enter Tryz.func110, Tryz.ntmps110
  go_wp2
  go_ret
  exact ⟨_, rfl, empty_layer_rd (heap_alloc_new w _), (Below.refl _ _).alloc (Nat.le_refl _) _⟩
theorem okDC_new : okDC [⟨[], []⟩] := okDC_push okDC_nil (by simp)
theorem ctxOk_new : ctxOk [⟨[], []⟩] = true := by decide
set_option maxRecDepth 100000 in
set_option maxHeartbeats 4000000 in
theorem l10Ctx_any (r : Nat) (p : Int) (w : World) (h : Rdr w r p) (p0 : 0 ≤ p) (p1 : p ≤ 700000000) :
    Calls Tryz.prog 82 #[.pointer (some ⟨r, 0, none⟩)] w (RetDC (fun c => okDC c ∧ ctxOk c = true) r p 50000 w) := by
  have hrl := h.lt
  have HR := Lib.hid h
  have HN := Lib.hid (specCtxNew_d w)
  clear h
  go_enter Tryz.func82, Tryz.ntmps82
  go_wp2_with fail
  refine HN.out.mono ?_
  rintro e w2 ⟨A2, rfl, hd2, hb2⟩
  have HR2 := Lib.hid (HR.out.up hb2)
  have HD2 := Lib.hid hd2
  have HG2 : Hid (Gr (IsR r) w w2) := Lib.hid (.below hb2)
  clear hd2 hb2
  go_wp2_with fail
  refine (pick_any r p 4 w2 HR2.out (by omega) (by omega) (by omega) (by omega)).mono ?_
  rintro e w3 ⟨y, rfl, y0, y1, _, hR3, hg3⟩
  have y1 := y1 (by omega)
  have hg3 := Gr.one (S := IsR r) hg3 rfl
  have HR3 := Lib.hid hR3
  have HD3 := Lib.hid (layer_rdG HD2.out HR2.out hg3)
  have HG3 := Lib.hid (HG2.out.trans hg3)
  have HSD : Hid (smD ⟨⟨#[120]⟩, 1 + y⟩) := Lib.hid ⟨by show (1 : Nat) ≤ _; decide, by show -9223372036854775808 ≤ 1 + y ∧ 1 + y ≤ 9223372036854775807; omega⟩
  clear hR3 hg3
  go_wp2_with fail
  refine (specCtxName_c [⟨[], []⟩] ⟨⟨#[120]⟩, 1 + y⟩ A2 1 w3 HD3.out (Nat.le_refl _) okDC_new.1 HSD.out).mono ?_
  rintro e w4 ⟨A4, c4, rfl, h41, h42, h43⟩
  have HF := Lib.hid (ctxName_dc okDC_new HSD.out)
  generalize (ctxName [⟨[], []⟩] ⟨⟨#[120]⟩, 1 + y⟩).1 = x4 at *
  generalize (ctxName [⟨[], []⟩] ⟨⟨#[120]⟩, 1 + y⟩).2 = z4 at *
  have HO4 := Lib.hid HF.out.1
  have HK4 := Lib.hid (HF.out.2 ctxOk_new)
  have H41 := Lib.hid h41
  have H42 := Lib.hid h42
  have HR4 := Lib.hid (HR3.out.up h43)
  have HG4 := Lib.hid (HG3.out.trans (.below h43))
  clear h41 h42 h43 HF
  go_wp2_with fail
  refine (pick_any r (p + 1) 14 w4 HR4.out (by omega) (by omega) (by omega) (by omega)).mono ?_
  rintro e w5 ⟨n, rfl, n0, n1, _, hR5, hg5⟩
  have n1 := n1 (by omega)
  have hg5 := Gr.one (S := IsR r) hg5 rfl
  have HR5 := Lib.hid hR5
  have HD5 := Lib.hid (layer_rdG H42.out HR4.out hg5)
  have HG5 := Lib.hid (HG4.out.trans hg5)
  clear hR5 hg5
  obtain ⟨m, rfl⟩ : ∃ m : Nat, n = (m : Int) := ⟨n.toNat, by omega⟩
  go_wp2
  go_loopw [3, 5] (fun x i wr => ∃ (j : Nat) (c : List Ly) (A : Option Addr) (q : Nat) (s : Int), j ≤ 13 ∧ x = .slice A c.length q ∧ i = .int .i64 j ∧ p ≤ s ∧ s ≤ p + 2 + 3010 * (13 - j) ∧ Hid (c.length ≤ q) ∧ Hid (Lay.layer.Rd wr A c) ∧ Hid (okDC c) ∧ Hid (ctxOk c = true) ∧ Hid (Rdr wr r s) ∧ Hid (Gr (IsR r) w wr)) (fun _ i _ => (intOf i).toNat)
  case atStart => exact ⟨m, x4, A4, c4, p + 1 + 1, by omega, rfl, rfl, by omega, by omega, H41, HD5, HO4, HK4, HR5, HG5⟩
  case round =>
    obtain ⟨j, c, A, q, s, hj, rfl, rfl, s0, s1, HQ, HD, HO, HK, HRR, HGG⟩ := hrel
    by_cases hlt : 0 < j
    · have hj1 : (0 : Int) < j := by omega
      go_wp2_with fail
      refine (l10Act_any r s A q c wr HRR.out HD.out HQ.out HO.out (by omega) (by omega)).mono ?_
      rintro e w6 ⟨c6, A6, q6, rfl, h61, h62, ⟨h63, h64⟩, t6, t60, t61, hR6, hg6⟩
      have H61 := Lib.hid h61
      have H62 := Lib.hid h62
      have H63 := Lib.hid h63
      have H64 := Lib.hid (h64 HK.out)
      have HR6 := Lib.hid hR6
      have HG6 := Lib.hid (HGG.out.trans hg6)
      clear h61 h62 h63 h64 hR6 hg6
      go_wp2
      go_roundw
      case rel => exact ⟨j - 1, c6, A6, q6, t6, by omega, rfl, by rw [show ((j - 1 : Nat) : Int) = (j : Int) - 1 by omega], by omega, by omega, H61, H62, H63, H64, HR6, HG6⟩
      case measure => simp [intOf]; omega
    · have hj0 : j = 0 := by omega
      subst hj0
      go_wp2
      refine bodyPost_ret (v := .slice A c.length q) (by simp [results, Tryz.results82, go_sem]) rfl ?_
      exact ⟨c, A, q, rfl, HQ.out, HD.out, ⟨HO.out, HK.out⟩, s, by omega, by omega, HRR.out, HGG.out⟩
theorem l10Some_any (r : Nat) (p : Int) (w : World) (h : Rdr w r p) (p0 : 0 ≤ p) (p1 : p ≤ 700000000) :
    Calls Tryz.prog 73 #[.pointer (some ⟨r, 0, none⟩)] w (RetDC okDC r p 50010 w) := by
  have HC := Lib.hid (l10Ctx_any r p w h p0 p1)
  clear h
  go_enter Tryz.func73, Tryz.ntmps73
  go_wp2_with fail
  refine HC.out.mono ?_
  rintro e w2 ⟨c, A, q, rfl, h1, h2, ⟨h3, h4⟩, t, t0, t1, hR, hg⟩
  have HG := Lib.hid hg
  have HB := Lib.hid (l10Bent_any r t A q c w2 hR h2 h4 h3 (by omega) (by omega))
  clear h1 h2 h3 h4 hR hg
  go_wp2_with fail
  refine HB.out.mono ?_
  rintro e w3 ⟨c3, A3, q3, rfl, h1, h2, h3, s, s0, s1, hR3, hg3⟩
  have H1 := Lib.hid h1
  have H2 := Lib.hid h2
  have H3 := Lib.hid h3
  have HR3 := Lib.hid hR3
  have HG3 := Lib.hid (HG.out.trans hg3)
  clear h1 h2 h3 hR3 hg3
  go_wp2
  go_ret
  exact ⟨c3, A3, q3, rfl, H1.out, H2.out, H3.out, s, by omega, by omega, HR3.out, HG3.out⟩
end Go.Proofs.YtiahmfpfimmbgaaGreatDoor
