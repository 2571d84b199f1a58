/- FnCtxList: declarations and assertions are listed in order: for any bytes the law says true. -/
import Derived.Test.YtiahmfpfimmbgaaGreatDoorRows
import Derived.Test.YtiahmfpfimmbgaaGreatDoorJFnCtxList1
import Derived.Test.YtiahmfpfimmbgaaGreatDoorJFnCtxList3
import Derived.Test.YtiahmfpfimmbgaaGreatDoorJFnCtxList8
import Derived.Test.YtiahmfpfimmbgaaGreatDoorJFnCtxList9
import Derived.Test.YtiahmfpfimmbgaaGreatDoorJFnCtxList12
import Derived.Test.YtiahmfpfimmbgaaGreatDoorJFnCtxList20
/-! FnCtxList: declarations and assertions are listed in order: for any bytes the law says true. -/
namespace Go.Proofs.YtiahmfpfimmbgaaGreatDoor
open Go Go.RowKit Go.ChangeShapes Go.WideShapes Go.ChangeAt Go.Deep

theorem opens_bytes : Opens Tryz.prog 53 Lay.byte.slice (fun xs => xs.length ≤ maxLen ∧ ∀ x ∈ xs, True) := Opens.slice Tryz.underlying53 (by kernel_rfl) (by decide) (Opens.byte Tryz.underlying5)
/-- The program's CtxSame of layers and the like. -/
theorem ctxSame_one (A B : Option Addr) (l : Ly) (w : World) (h : Lay.layer.Rd w A [l]) (h' : Lay.layer.Rd w B [l]) (hs : okC [l]) :
    Calls Tryz.prog 38 #[.slice A 1 1, .slice B 1 1] w (RetB w true) :=
  (implCtxSame_any A B 1 1 [l] [l] _ _ w h h' (fun _ h => h) (fun _ h => h) hs.len hs.len (okC_l2 hs) (okC_l2 hs)).mono fun _ _ ⟨h, hb⟩ => ⟨by rw [h, allSame_self Ly.same_self], hb⟩
theorem layer_at {w : World} {A : Option Addr} {c : List Ly} {l : Ly} {n : Nat} (h : Lay.layer.Rd w A c) (hl : c[n]? = some l) :
    ∃ ad A1 c1 A2 c2, A = some ad ∧ w.cell? (ad.add (n * 2)) = some (.slice A1 l.ds.length c1) ∧ w.cell? ⟨(ad.add (n * 2)).block, (ad.add (n * 2)).off + 1, none⟩ = some (.slice A2 l.ts.length c2) ∧
      l.ds.length ≤ c1 ∧ l.ts.length ≤ c2 ∧ Lay.decl.Rd w A1 l.ds ∧ Lay.term.Rd w A2 l.ts := by
  obtain ⟨hn, rfl⟩ := List.getElem?_eq_some_iff.1 hl
  obtain ⟨ad, A1, c1, A2, c2, h1, _, h2, h3, h4, h5, h6, h7⟩ := h.at_layer hn
  exact ⟨ad, A1, c1, A2, c2, h1, h2, h3, h4, h5, h6, h7⟩
theorem decl_at {w : World} {A : Option Addr} {ds : List D} {d : D} {n : Nat} (h : Lay.decl.Rd w A ds) (hl : ds[n]? = some d) :
    ∃ ad, A = some ad ∧ w.cell? (ad.add (n * 2)) = some (.string d.name) ∧ w.cell? ⟨(ad.add (n * 2)).block, (ad.add (n * 2)).off + 1, none⟩ = some (.int .i64 d.wide) := by
  obtain ⟨hn, rfl⟩ := List.getElem?_eq_some_iff.1 hl
  obtain ⟨ad, h1, _, h2, h3⟩ := h.at_decl hn
  exact ⟨ad, h1, h2, h3⟩
theorem term_at {w : World} {A : Option Addr} {ts : List T} {t : T} {k : Nat} (h : Lay.term.Rd w A ts) (hl : ts[k]? = some t) :
    ∃ ad A' c', A = some ad ∧ w.cell? (ad.add (k * 5)) = some (.int .i64 t.op) ∧ w.cell? ⟨(ad.add (k * 5)).block, (ad.add (k * 5)).off + 1, none⟩ = some (.int .i64 t.a) ∧
      w.cell? ⟨(ad.add (k * 5)).block, (ad.add (k * 5)).off + 2, none⟩ = some (.int .i64 t.b) ∧ w.cell? ⟨(ad.add (k * 5)).block, (ad.add (k * 5)).off + 3, none⟩ = some (.string t.name) ∧
      w.cell? ⟨(ad.add (k * 5)).block, (ad.add (k * 5)).off + 4, none⟩ = some (.slice A' t.kids.length c') ∧ t.kids.length ≤ c' ∧ Lay.term.Rd w A' t.kids := by
  obtain ⟨hn, rfl⟩ := List.getElem?_eq_some_iff.1 hl
  obtain ⟨ad, A', c', h1, _, h2⟩ := h.at_term hn
  exact ⟨ad, A', c', h1, h2⟩
theorem termSame_yes (t : T) (A B : Option Addr) (c d : Nat) (w : World) (h : Lay.term.Rd w A t.kids) (h' : Lay.term.Rd w B t.kids) (ht : T.All okT2 t) :
    Calls Tryz.prog 41 #[.agg #[.int .i64 t.op, .int .i64 t.a, .int .i64 t.b, .string t.name, .slice A t.kids.length c], .agg #[.int .i64 t.op, .int .i64 t.a, .int .i64 t.b, .string t.name, .slice B t.kids.length d]] w (RetB w true) :=
  (implTermSame_any t ht t A B c d _ _ w h h' (fun _ h => h) (fun _ h => h) ht).mono fun _ _ ⟨h, hb⟩ => ⟨by rw [h, T.same_self], hb⟩
theorem one_layer_rd {w : World} {g : Nat} {A B : Option Addr} {l : Ly} {q r : Nat} (hb : w.heap[g]? = some (.cells #[.slice A l.ds.length q, .slice B l.ts.length r] 58 (0, 0))) (hq : l.ds.length ≤ q) (hr : l.ts.length ≤ r) (h1 : Lay.decl.Rd w A l.ds) (h2 : Lay.term.Rd w B l.ts) : Lay.layer.Rd w (some ⟨g, 0, none⟩) [l] := layers_rd (lt_of_block hb) fun i l9 hl9 => by
  match i, hl9 with
  | 0, hl9 =>
    injection hl9 with hl9
    subst hl9
    exact ⟨_, _, ⟨A, q, B, r, rfl, hq, hr, h1, h2⟩, (cell_of_block hb 0).1, (cell_of_block hb 1).1⟩
  | i + 1, hl9 => simp at hl9
theorem okC_one {c : List Ly} (h : okC c) : okC [⟨ctxDecls c, ctxTerms c⟩] := by
  unfold ctxDecls ctxTerms
  split
  · exact ⟨by simp, by rw [dsAll_one]; exact h.ds, by rw [tsAll_one]; exact h.ts, by rw [dsAll_one]; exact h.names, by rw [tsAll_one]; exact h.terms⟩
  · exact ⟨by simp, by rw [dsAll_one]; simp, by rw [tsAll_one]; simp, by rw [dsAll_one]; simp, by rw [tsAll_one]; simp⟩

set_option maxRecDepth 100000 in
set_option maxHeartbeats 8000000 in
theorem fnCtxList_walk (W : World) {A0 : Option Addr} {c0 : Nat} {x0 : List UInt8} (hc0 : x0.length ≤ c0) (hok0 : x0.length ≤ maxLen ∧ ∀ z ∈ x0, True) (h0 : Lay.byte.Rd W A0 x0) :
    Calls Tryz.prog 8 #[.slice A0 x0.length c0] W (LawC W) := by
  have hm0 : x0.length ≤ 9223372036854775807 := by have := hok0.1; unfold maxLen at this; omega
  clear hok0
  by_cases hbig0 : (1048576 : Int) < x0.length
  · go_enter Tryz.func8, Tryz.ntmps8
    go_wp2
    go_ret
    exact ⟨rfl, Below.refl _ _⟩
  have HD := Lib.hid (drawCtxDecls_any A0 c0 x0 W h0 hc0 hm0)
  clear h0 hc0 hm0
  go_enter Tryz.func8, Tryz.ntmps8
  go_wp2_with fail
  refine HD.out.mono ?_
  clear HD
  rintro e w1 ⟨c, A1, q1, rfl, hq1, hc1, hok, hb1⟩
  have HQ1 := Lib.hid hq1
  have HC1 := Lib.hid hc1
  have HK := Lib.hid hok
  have HB1 := Lib.hid hb1
  have hcl : c.length ≤ 1048576 := hok.1.len
  obtain ⟨ds, hds⟩ : ∃ ds, ds = ctxDecls c := ⟨_, rfl⟩
  obtain ⟨ts, hts⟩ : ∃ ts, ts = ctxTerms c := ⟨_, rfl⟩
  have ho1 := okC_one hok.1
  have hid := implCtxDecls_c c A1 q1 w1 hc1 hq1 hok.1
  have hit := fun (z : World) (hz : Lay.layer.Rd z A1 c) => implCtxTerms_c c A1 q1 z hz hq1 hok.1
  have hsd := fun (z : World) (hz : Lay.layer.Rd z A1 c) => specCtxDecls_c c A1 q1 z hz hq1 hok.1
  have hst := fun (z : World) (hz : Lay.layer.Rd z A1 c) => specCtxTerms_c c A1 q1 z hz hq1 hok.1
  have hso := fun (z : World) (hz : Lay.layer.Rd z A1 c) => specCtxOk_any A1 q1 c z hz hq1 hok.1
  rw [← hds] at hid hsd
  rw [← hts] at hit hst
  rw [← hds, ← hts] at ho1
  have HID := Lib.hid hid
  have HIT := Lib.hid hit
  have HSD := Lib.hid hsd
  have HST := Lib.hid hst
  have HSO := Lib.hid hso
  have HO1 := Lib.hid ho1
  have HDS := Lib.hid hds
  have HTS := Lib.hid hts
  clear hq1 hc1 hok hb1 hid hit hsd hst hso ho1 hds hts
  go_wp2_with fail
  refine HID.out.mono ?_
  clear HID
  rintro e w2 ⟨A2, q2, rfl, hq2, hd2, hb2⟩
  have HQ2 := Lib.hid hq2
  have HD2 := Lib.hid (show Lay.decl.Rd w2 A2 ds from hd2.mono fun _ h => h.2.1)
  have HC2 := Lib.hid (HC1.out.up hb2)
  have HB2 := Lib.hid (bthen HB1.out hb2)
  clear hq2 hd2 hb2 HC1 HB1
  go_wp2_with fail
  refine (HIT.out w2 HC2.out).mono ?_
  clear HIT
  rintro e w3 ⟨A3, q3, rfl, hq3, ht3, hb3⟩
  have HQ3 := Lib.hid hq3
  have HT3 := Lib.hid (show Lay.term.Rd w3 A3 ts from (TrT.sl ht3).mono fun _ h => h.2.1)
  have HD3 := Lib.hid (HD2.out.up hb3)
  have HC3 := Lib.hid (HC2.out.up hb3)
  have HB3 := Lib.hid (bthen HB2.out hb3)
  clear hq3 ht3 hb3 HC2 HB2 HD2
  have hal : Below w3.heap.size w3 (w3.alloc (.cells #[.slice A2 ds.length q2, .slice A3 ts.length q3] 58)) := (Below.refl _ _).alloc (Nat.le_refl _) _
  have HG4 := Lib.hid (heap_alloc_new w3 (.cells #[.slice A2 ds.length q2, .slice A3 ts.length q3] 58))
  have HD4 := Lib.hid (HD3.out.up hal)
  have HT4 := Lib.hid (HT3.out.up hal)
  have HC4 := Lib.hid (HC3.out.up hal)
  have HB4 := Lib.hid (bthen HB3.out hal)
  obtain ⟨w4, hw4⟩ : ∃ w4, w4 = w3.alloc (.cells #[.slice A2 ds.length q2, .slice A3 ts.length q3] 58) := ⟨_, rfl⟩
  rw [← hw4] at HG4 HD4 HT4 HC4 HB4
  clear hal HD3 HT3 HC3 HB3
  go_wp2_with fail
  rw [← hw4]
  clear hw4
  obtain ⟨g, hg⟩ : ∃ g, g = w3.heap.size := ⟨_, rfl⟩
  rw [← hg] at HG4 ⊢
  clear hg
  refine (HSD.out w4 HC4.out).mono ?_
  clear HSD
  rintro e w5 ⟨A5, q5, rfl, hq5, hd5, hb5⟩
  have HQ5 := Lib.hid hq5
  have HD5 := Lib.hid (And.intro (HD4.out.up hb5) (show Lay.decl.Rd w5 A5 ds from hd5.mono fun _ h => h.2.1))
  have HT5 := Lib.hid (HT4.out.up hb5)
  have HC5 := Lib.hid (HC4.out.up hb5)
  have HG5 := Lib.hid ((hb5.block _ (lt_of_block HG4.out)).trans HG4.out)
  have HB5 := Lib.hid (bthen HB4.out hb5)
  clear hq5 hd5 hb5 HC4 HB4 HD4 HT4 HG4
  go_wp2_with fail
  refine (HST.out w5 HC5.out).mono ?_
  clear HST
  rintro e w6 ⟨A6, q6, rfl, hq6, ht6, hb6⟩
  have HL1 := Lib.hid (one_layer_rd (l := ⟨ds, ts⟩) ((hb6.block _ (lt_of_block HG5.out)).trans HG5.out) HQ2.out HQ3.out (HD5.out.1.up hb6) (HT5.out.up hb6))
  have HD6 := Lib.hid (And.intro (HD5.out.1.up hb6) (HD5.out.2.up hb6))
  have HT6 := Lib.hid (And.intro (HT5.out.up hb6) ht6)
  have HQ6 := Lib.hid hq6
  have HC6 := Lib.hid (HC5.out.up hb6)
  have HB6 := Lib.hid (bthen HB5.out hb6)
  clear hq6 ht6 hb6 HC5 HB5 HD5 HT5 HG5
  have hal : Below w6.heap.size w6 (w6.alloc (.cells #[.slice A5 ds.length q5, .slice A6 ts.length q6] 58)) := (Below.refl _ _).alloc (Nat.le_refl _) _
  have HG7 := heap_alloc_new w6 (.cells #[.slice A5 ds.length q5, .slice A6 ts.length q6] 58)
  have HL2 := Lib.hid (one_layer_rd (l := ⟨ds, ts⟩) HG7 HQ5.out HQ6.out (HD6.out.2.up hal) ((show Lay.term.Rd w6 A6 ts from HT6.out.2).up hal))
  have HL1 := Lib.hid (HL1.out.up hal)
  have HD7 := Lib.hid (HD6.out.1.up hal)
  have HT7 := Lib.hid (HT6.out.1.up hal)
  have HC7 := Lib.hid (HC6.out.up hal)
  have HB7 := Lib.hid (bthen HB6.out hal)
  obtain ⟨w7, hw7⟩ : ∃ w7, w7 = w6.alloc (.cells #[.slice A5 ds.length q5, .slice A6 ts.length q6] 58) := ⟨_, rfl⟩
  rw [← hw7] at HL1 HL2 HD7 HT7 HC7 HB7
  clear hal HD6 HT6 HC6 HB6 HG7
  go_wp2_with fail
  rw [← hw7]
  clear hw7
  refine (ctxSame_one _ _ ⟨ds, ts⟩ w7 HL1.out HL2.out HO1.out).mono ?_
  rintro e w8 ⟨rfl, hb8⟩
  have HD8 := Lib.hid (HD7.out.up hb8)
  have HT8 := Lib.hid (HT7.out.up hb8)
  have HC8 := Lib.hid (HC7.out.up hb8)
  have HB8 := Lib.hid (bthen HB7.out hb8)
  clear hb8 HD7 HT7 HC7 HB7 HL1 HL2
  go_wp2_with fail
  refine (HSO.out w8 HC8.out).mono ?_
  clear HSO
  rintro e w9 ⟨rfl, hb9⟩
  have HD9 := Lib.hid (HD8.out.up hb9)
  have HT9 := Lib.hid (HT8.out.up hb9)
  have HC9 := Lib.hid (HC8.out.up hb9)
  have HB9 := Lib.hid (bthen HB8.out hb9)
  clear hb9 HD8 HT8 HC8 HB8
  by_cases hk : ctxOk c = true
  rotate_left
  · have h1 : ds = [] := by rw [HDS.out]; unfold ctxDecls; rw [if_neg hk]
    have h2 : ts = [] := by rw [HTS.out]; unfold ctxTerms; rw [if_neg hk]
    have h3 : ctxOk c = false := by simpa using hk
    rw [h3]
    clear hk h3
    subst h1 h2
    go_wp2
    go_ret
    exact ⟨rfl, HB9.out⟩
  rw [hk]
  have hdk := (ctxOk_parts hk).2.2.1
  obtain rfl : ds = dsAll c := by rw [HDS.out]; unfold ctxDecls; rw [if_pos hk]
  obtain rfl : ts = tsAll c := by rw [HTS.out]; unfold ctxTerms; rw [if_pos hk]
  have HDK := Lib.hid hdk
  have hdl : (dsAll c).length ≤ 1048576 := HK.out.1.ds
  have htl : (tsAll c).length ≤ 1048576 := HK.out.1.ts
  have hD0 : (dsAll (c.take 0)).length = 0 := by simp [dsAll]
  have hT0 : (tsAll (c.take 0)).length = 0 := by simp [tsAll]
  have HNM := Lib.hid HK.out.1.names
  have HTM := Lib.hid (fun t ht => (HK.out.1.terms t ht).imp fun _ h => h.1)
  have hgd : ∀ (i : Nat) (l : Ly), c[i]? = some l → (dsAll (c.take (i + 1))).length = (dsAll (c.take i)).length + l.ds.length ∧ ∀ j, j < l.ds.length → ∃ d, l.ds[j]? = some d ∧ (dsAll c)[(dsAll (c.take i)).length + j]? = some d := fun i l hl => by
    obtain ⟨hi, rfl⟩ := List.getElem?_eq_some_iff.1 hl
    refine ⟨dsAll_len_step hi, fun j hj => ?_⟩
    obtain ⟨h9, e9⟩ := dsAll_get hi hj
    exact ⟨_, List.getElem?_eq_getElem hj, by rw [List.getElem?_eq_getElem h9, e9]⟩
  have hgt : ∀ (i : Nat) (l : Ly), c[i]? = some l → (tsAll (c.take (i + 1))).length = (tsAll (c.take i)).length + l.ts.length ∧ ∀ j, j < l.ts.length → ∃ d, l.ts[j]? = some d ∧ (tsAll c)[(tsAll (c.take i)).length + j]? = some d ∧ T.All okT2 d := fun i l hl => by
    obtain ⟨hi, rfl⟩ := List.getElem?_eq_some_iff.1 hl
    refine ⟨tsAll_len_step hi, fun j hj => ?_⟩
    obtain ⟨h9, e9⟩ := tsAll_get hi hj
    exact ⟨_, List.getElem?_eq_getElem hj, by rw [List.getElem?_eq_getElem h9, e9], HTM.out _ (by rw [← e9]; exact List.getElem_mem h9)⟩
  have HGD := Lib.hid hgd
  have HGT := Lib.hid hgt
  have hfd : (dsAll (c.take c.length)).length = (dsAll c).length := by rw [List.take_length]
  have hft : (tsAll (c.take c.length)).length = (tsAll c).length := by rw [List.take_length]
  have HFD := Lib.hid hfd
  have HFT := Lib.hid hft
  have HZD := Lib.hid hD0
  have HZT := Lib.hid hT0
  clear HDS HTS hk hdk hgd hgt hfd hft hD0 hT0 HO1
  generalize dsAll c = ds at *
  generalize tsAll c = ts at *
  go_wp2
  go_loopw [6, 7, 8] (fun a b d wr => ∃ (i m n : Nat), i ≤ c.length ∧ a = .int .i64 m ∧ b = .int .i64 n ∧ d = .int .i64 i ∧ Hid (m = (dsAll (c.take i)).length) ∧ Hid (n = (tsAll (c.take i)).length) ∧ Hid (Below w9.heap.size w9 wr)) (fun _ _ d _ => c.length - (intOf d).toNat)
  case atStart => exact ⟨0, 0, 0, Nat.zero_le _, rfl, rfl, rfl, Lib.hid HZD.out.symm, Lib.hid HZT.out.symm, Lib.hid (Below.refl _ _)⟩
  case round =>
    obtain ⟨i, m0, n0, hi, rfl, rfl, rfl, HM0, HN0, HB⟩ := hrel
    by_cases hlt : i < c.length
    · have hi1 : (i : Int) < c.length := by omega
      have HLI := Lib.hid (List.getElem?_eq_getElem hlt)
      generalize c[i] = l at *
      have HGDi := Lib.hid (HGD.out i l HLI.out)
      have HGTi := Lib.hid (HGT.out i l HLI.out)
      rw [← HM0.out] at HGDi
      rw [← HN0.out] at HGTi
      have hl1 : l.ds.length ≤ 1048576 := by
        rcases Nat.eq_zero_or_pos l.ds.length with h | h
        · omega
        · obtain ⟨d, _, h9⟩ := HGDi.out.2 (l.ds.length - 1) (by omega)
          have := (List.getElem?_eq_some_iff.1 h9).1
          omega
      have hl2 : l.ts.length ≤ 1048576 := by
        rcases Nat.eq_zero_or_pos l.ts.length with h | h
        · omega
        · obtain ⟨d, _, h9, _⟩ := HGTi.out.2 (l.ts.length - 1) (by omega)
          have := (List.getElem?_eq_some_iff.1 h9).1
          omega
      go_wp2
      go_loopw [6, 9] (fun a d wr => ∃ (j m : Nat), j ≤ l.ds.length ∧ a = .int .i64 m ∧ d = .int .i64 j ∧ Hid (m = m0 + j) ∧ Hid (Below w9.heap.size w9 wr)) (fun _ d _ => l.ds.length - (intOf d).toNat)
      case atStart => exact ⟨0, m0, Nat.zero_le _, rfl, rfl, Lib.hid rfl, HB⟩
      case round =>
        clear HB
        obtain ⟨j, m, hj, rfl, rfl, HM, HB⟩ := hrel
        obtain ⟨ad, E1, p1, E2, p2, rfl, e1, e2, hp1, hp2, hds, hts⟩ := layer_at (HC9.out.up HB.out) HLI.out
        clear hts e2
        by_cases hjt : j < l.ds.length
        · have hj1 : (j : Int) < l.ds.length := by omega
          obtain ⟨x, hx1, hx2⟩ := HGDi.out.2 j hjt
          rw [← HM.out] at hx2
          have hmt : m < ds.length := (List.getElem?_eq_some_iff.1 hx2).1
          have hmd : decide (ds.length ≤ m) = false := decide_eq_false (by omega)
          obtain ⟨ae, rfl, f0, f1⟩ := decl_at hds hx1
          obtain ⟨a1, rfl, g0, g1⟩ := decl_at (HD9.out.up HB.out) hx2
          have kc := Later.cell e1
          have ka0 := Later.cell g0
          have ka1 := Later.cell g1
          have kb0 := Later.cell f0
          have kb1 := Later.cell f1
          clear hds f0 f1 g0 g1 hx1 hx2
          go_wp2
          clear e1
          refine wp_region_rel4 [[], [], [(1, 60)], [(0, 59), (2, 61)], [(3, 62)], [(4, 63)], [(4, 63)], [(4, 63), (5, 64), (6, 65)], [(4, 63), (7, 66)], [(4, 63)], [(4, 63)], [(4, 63), (9, 68), (10, 69)], [(4, 63), (11, 70)], [(4, 63), (12, 71)], [(4, 63)], [(4, 63), (13, 72), (14, 73)], [(4, 63), (15, 74)], [(4, 63), (8, 67), (16, 75)], [(4, 63), (17, 76)]]
            (fun y y' => Below y.heap.size y y')
            []
            (fun _ yy => Below wr.heap.size wr yy)
            [fun vs9 _ => vs9 0 = (.int .i64 (m : Int)),
    fun vs9 _ => vs9 1 = (.slice (some a1) ds.length q2),
    fun vs9 _ => vs9 2 = (.int .i64 (ds.length : Int)),
    fun vs9 _ => vs9 3 = (.bool false),
    fun vs9 _ => vs9 4 = (.bool false),
    fun vs9 _ => vs9 5 = (.slice (some a1) ds.length q2),
    fun vs9 _ => vs9 6 = (.int .i64 (m : Int)),
    fun vs9 _ => vs9 7 = (.pointer (some (a1.add (m * 2)))),
    fun vs9 _ => vs9 8 = (.agg #[.string x.name, .int .i64 x.wide]),
    fun vs9 _ => vs9 9 = (.slice (some ad) c.length q1),
    fun vs9 _ => vs9 10 = (.int .i64 (i : Int)),
    fun vs9 _ => vs9 11 = (.pointer (some (ad.add (i * 2)))),
    fun vs9 _ => vs9 12 = (.pointer (some (ad.add (i * 2)))),
    fun vs9 _ => vs9 13 = (.slice (some ae) l.ds.length p1),
    fun vs9 _ => vs9 14 = (.int .i64 (j : Int)),
    fun vs9 _ => vs9 15 = (.pointer (some (ae.add (j * 2)))),
    fun vs9 _ => vs9 16 = (.agg #[.string x.name, .int .i64 x.wide]),
    fun vs9 _ => vs9 17 = (.bool false),
    fun vs9 _ => vs9 18 = (.bool false)]
            [(0, 59), (1, 60), (2, 61), (3, 62), (4, 63), (5, 64), (6, 65), (7, 66), (8, 67), (9, 68), (10, 69), (11, 70), (12, 71), (13, 72), (14, 73), (15, 74), (16, 75), (17, 76), (18, 77)] (by kernel_rfl) (by kernel_rfl) (by kernel_rfl) (by kernel_rfl)
            (fun _ => Below.refl _ _) trivial
            ⟨⟨.inr (fun _ _ _ h _ => h), trivial⟩,
    ⟨.inr (fun _ _ _ h _ => h), trivial⟩,
    ⟨.inr (fun _ _ _ h _ => h), trivial⟩,
    ⟨.inr (fun _ _ _ h _ => h), trivial⟩,
    ⟨.inr (fun _ _ _ h _ => h), trivial⟩,
    ⟨.inr (fun _ _ _ h _ => h), trivial⟩,
    ⟨.inr (fun _ _ _ h _ => h), trivial⟩,
    ⟨.inr (fun _ _ _ h _ => h), trivial⟩,
    ⟨.inr (fun _ _ _ h _ => h), trivial⟩,
    ⟨.inr (fun _ _ _ h _ => h), trivial⟩,
    ⟨.inr (fun _ _ _ h _ => h), trivial⟩,
    ⟨.inr (fun _ _ _ h _ => h), trivial⟩,
    ⟨.inr (fun _ _ _ h _ => h), trivial⟩,
    ⟨.inr (fun _ _ _ h _ => h), trivial⟩,
    ⟨.inr (fun _ _ _ h _ => h), trivial⟩,
    ⟨.inr (fun _ _ _ h _ => h), trivial⟩,
    ⟨.inr (fun _ _ _ h _ => h), trivial⟩,
    ⟨.inr (fun _ _ _ h _ => h), trivial⟩,
    ⟨.inr (fun _ _ _ h _ => h), trivial⟩, trivial⟩ ⟨fun vs vs' x h _ hv => (by dsimp only at hv ⊢; first | (rw [← h]; exact hv) | exact hv),
    fun vs vs' x h _ hv => (by dsimp only at hv ⊢; first | (rw [← h]; exact hv) | exact hv),
    fun vs vs' x h _ hv => (by dsimp only at hv ⊢; first | (rw [← h]; exact hv) | exact hv),
    fun vs vs' x h _ hv => (by dsimp only at hv ⊢; first | (rw [← h]; exact hv) | exact hv),
    fun vs vs' x h _ hv => (by dsimp only at hv ⊢; first | (rw [← h]; exact hv) | exact hv),
    fun vs vs' x h _ hv => (by dsimp only at hv ⊢; first | (rw [← h]; exact hv) | exact hv),
    fun vs vs' x h _ hv => (by dsimp only at hv ⊢; first | (rw [← h]; exact hv) | exact hv),
    fun vs vs' x h _ hv => (by dsimp only at hv ⊢; first | (rw [← h]; exact hv) | exact hv),
    fun vs vs' x h _ hv => (by dsimp only at hv ⊢; first | (rw [← h]; exact hv) | exact hv),
    fun vs vs' x h _ hv => (by dsimp only at hv ⊢; first | (rw [← h]; exact hv) | exact hv),
    fun vs vs' x h _ hv => (by dsimp only at hv ⊢; first | (rw [← h]; exact hv) | exact hv),
    fun vs vs' x h _ hv => (by dsimp only at hv ⊢; first | (rw [← h]; exact hv) | exact hv),
    fun vs vs' x h _ hv => (by dsimp only at hv ⊢; first | (rw [← h]; exact hv) | exact hv),
    fun vs vs' x h _ hv => (by dsimp only at hv ⊢; first | (rw [← h]; exact hv) | exact hv),
    fun vs vs' x h _ hv => (by dsimp only at hv ⊢; first | (rw [← h]; exact hv) | exact hv),
    fun vs vs' x h _ hv => (by dsimp only at hv ⊢; first | (rw [← h]; exact hv) | exact hv),
    fun vs vs' x h _ hv => (by dsimp only at hv ⊢; first | (rw [← h]; exact hv) | exact hv),
    fun vs vs' x h _ hv => (by dsimp only at hv ⊢; first | (rw [← h]; exact hv) | exact hv),
    fun vs vs' x h _ hv => (by dsimp only at hv ⊢; first | (rw [← h]; exact hv) | exact hv), trivial⟩ (below_drewN (Below.refl _ _) 1) ⟨?_, ?_, ?_, ?_, ?_, ?_, ?_, ?_, ?_, ?_, ?_, ?_, ?_, ?_, ?_, ?_, ?_, ?_, ?_, trivial⟩ ?_
          · intro vals xw f hf1 hf2 hf3 hI hF
            clear hf2 hf3
            dsimp only [owes4, bare]
            simp only [putsD, Act.put, List.setIfInBounds_toArray, List.set_cons_zero, List.set_cons_succ]
            go_wp2
            exact ⟨rfl, rfl, Below.refl _ _, hI⟩
          · intro vals xw f hf1 hf2 hf3 hI hF
            clear hf2 hf3
            dsimp only [owes4, bare]
            simp only [putsD, Act.put, List.setIfInBounds_toArray, List.set_cons_zero, List.set_cons_succ]
            go_wp2
            exact ⟨rfl, rfl, Below.refl _ _, hI⟩
          · intro vals xw f hf1 hf2 hf3 hI hF
            clear hf2 hf3
            simp only [saysD, List.getD_cons_zero, List.getD_cons_succ, and_true] at hF
            have e60 := hF
            dsimp only [owes4, bare]
            simp only [putsD, Act.put, List.setIfInBounds_toArray, List.set_cons_zero, List.set_cons_succ]
            simp only [e60]
            go_wp2
            exact ⟨rfl, rfl, Below.refl _ _, hI⟩
          · intro vals xw f hf1 hf2 hf3 hI hF
            clear hf2 hf3
            simp only [saysD, List.getD_cons_zero, List.getD_cons_succ, and_true] at hF
            obtain ⟨e59, e61⟩ := hF
            dsimp only [owes4, bare]
            simp only [putsD, Act.put, List.setIfInBounds_toArray, List.set_cons_zero, List.set_cons_succ]
            simp only [e59, e61]
            go_wp2
            exact ⟨rfl, rfl, Below.refl _ _, hI⟩
          · intro vals xw f hf1 hf2 hf3 hI hF
            clear hf2 hf3
            simp only [saysD, List.getD_cons_zero, List.getD_cons_succ, and_true] at hF
            have e62 := hF
            dsimp only [owes4, bare]
            simp only [putsD, Act.put, List.setIfInBounds_toArray, List.set_cons_zero, List.set_cons_succ]
            simp only [e62]
            go_wp2
            exact ⟨rfl, rfl, Below.refl _ _, hI⟩
          · intro vals xw f hf1 hf2 hf3 hI hF
            clear hf2 hf3
            simp only [saysD, List.getD_cons_zero, List.getD_cons_succ, and_true] at hF
            have e63 := hF
            dsimp only [owes4, bare]
            refine ⟨fun _ => ?_, fun h => absurd e63 h⟩
            simp only [putsD, Act.put, List.setIfInBounds_toArray, List.set_cons_zero, List.set_cons_succ]
            simp only [e63]
            go_wp2
            exact ⟨rfl, rfl, Below.refl _ _, hI⟩
          · intro vals xw f hf1 hf2 hf3 hI hF
            clear hf2 hf3
            simp only [saysD, List.getD_cons_zero, List.getD_cons_succ, and_true] at hF
            have e63 := hF
            dsimp only [owes4, bare]
            refine ⟨fun _ => ?_, fun h => absurd e63 h⟩
            simp only [putsD, Act.put, List.setIfInBounds_toArray, List.set_cons_zero, List.set_cons_succ]
            simp only [e63]
            go_wp2
            exact ⟨rfl, rfl, Below.refl _ _, hI⟩
          · intro vals xw f hf1 hf2 hf3 hI hF
            clear hf2 hf3
            simp only [saysD, List.getD_cons_zero, List.getD_cons_succ, and_true] at hF
            obtain ⟨e63, e64, e65⟩ := hF
            dsimp only [owes4, bare]
            refine ⟨fun _ => ?_, fun h => absurd e63 h⟩
            simp only [putsD, Act.put, List.setIfInBounds_toArray, List.set_cons_zero, List.set_cons_succ]
            simp only [e63, e64, e65]
            go_wp2
            exact ⟨rfl, rfl, Below.refl _ _, hI⟩
          · intro vals xw f hf1 hf2 hf3 hI hF
            clear hf2 hf3
            simp only [saysD, List.getD_cons_zero, List.getD_cons_succ, and_true] at hF
            obtain ⟨e63, e66⟩ := hF
            dsimp only [owes4, bare]
            refine ⟨fun _ => ?_, fun h => absurd e63 h⟩
            simp only [putsD, Act.put, List.setIfInBounds_toArray, List.set_cons_zero, List.set_cons_succ]
            simp only [e63, e66]
            have c90 : xw.cell? _ = _ := ka0 ⟨xw, hI⟩
            have c91 : xw.cell? _ = _ := ka1 ⟨xw, hI⟩
            go_wp2
            exact ⟨rfl, rfl, Below.refl _ _, hI⟩
          · intro vals xw f hf1 hf2 hf3 hI hF
            clear hf2 hf3
            simp only [saysD, List.getD_cons_zero, List.getD_cons_succ, and_true] at hF
            have e63 := hF
            dsimp only [owes4, bare]
            refine ⟨fun _ => ?_, fun h => absurd e63 h⟩
            simp only [putsD, Act.put, List.setIfInBounds_toArray, List.set_cons_zero, List.set_cons_succ]
            simp only [e63]
            go_wp2
            exact ⟨rfl, rfl, Below.refl _ _, hI⟩
          · intro vals xw f hf1 hf2 hf3 hI hF
            clear hf2 hf3
            simp only [saysD, List.getD_cons_zero, List.getD_cons_succ, and_true] at hF
            have e63 := hF
            dsimp only [owes4, bare]
            refine ⟨fun _ => ?_, fun h => absurd e63 h⟩
            simp only [putsD, Act.put, List.setIfInBounds_toArray, List.set_cons_zero, List.set_cons_succ]
            simp only [e63]
            go_wp2
            exact ⟨rfl, rfl, Below.refl _ _, hI⟩
          · intro vals xw f hf1 hf2 hf3 hI hF
            clear hf2 hf3
            simp only [saysD, List.getD_cons_zero, List.getD_cons_succ, and_true] at hF
            obtain ⟨e63, e68, e69⟩ := hF
            dsimp only [owes4, bare]
            refine ⟨fun _ => ?_, fun h => absurd e63 h⟩
            simp only [putsD, Act.put, List.setIfInBounds_toArray, List.set_cons_zero, List.set_cons_succ]
            simp only [e63, e68, e69]
            go_wp2
            exact ⟨rfl, rfl, Below.refl _ _, hI⟩
          · intro vals xw f hf1 hf2 hf3 hI hF
            clear hf2 hf3
            simp only [saysD, List.getD_cons_zero, List.getD_cons_succ, and_true] at hF
            obtain ⟨e63, e70⟩ := hF
            dsimp only [owes4, bare]
            refine ⟨fun _ => ?_, fun h => absurd e63 h⟩
            simp only [putsD, Act.put, List.setIfInBounds_toArray, List.set_cons_zero, List.set_cons_succ]
            simp only [e63, e70]
            go_wp2
            exact ⟨rfl, rfl, Below.refl _ _, hI⟩
          · intro vals xw f hf1 hf2 hf3 hI hF
            clear hf2 hf3
            simp only [saysD, List.getD_cons_zero, List.getD_cons_succ, and_true] at hF
            obtain ⟨e63, e71⟩ := hF
            dsimp only [owes4, bare]
            refine ⟨fun _ => ?_, fun h => absurd e63 h⟩
            simp only [putsD, Act.put, List.setIfInBounds_toArray, List.set_cons_zero, List.set_cons_succ]
            simp only [e63, e71]
            have c90 : xw.cell? _ = _ := kc ⟨xw, hI⟩
            go_wp2
            exact ⟨rfl, rfl, Below.refl _ _, hI⟩
          · intro vals xw f hf1 hf2 hf3 hI hF
            clear hf2 hf3
            simp only [saysD, List.getD_cons_zero, List.getD_cons_succ, and_true] at hF
            have e63 := hF
            dsimp only [owes4, bare]
            refine ⟨fun _ => ?_, fun h => absurd e63 h⟩
            simp only [putsD, Act.put, List.setIfInBounds_toArray, List.set_cons_zero, List.set_cons_succ]
            simp only [e63]
            go_wp2
            exact ⟨rfl, rfl, Below.refl _ _, hI⟩
          · intro vals xw f hf1 hf2 hf3 hI hF
            clear hf2 hf3
            simp only [saysD, List.getD_cons_zero, List.getD_cons_succ, and_true] at hF
            obtain ⟨e63, e72, e73⟩ := hF
            dsimp only [owes4, bare]
            refine ⟨fun _ => ?_, fun h => absurd e63 h⟩
            simp only [putsD, Act.put, List.setIfInBounds_toArray, List.set_cons_zero, List.set_cons_succ]
            simp only [e63, e72, e73]
            go_wp2
            exact ⟨rfl, rfl, Below.refl _ _, hI⟩
          · intro vals xw f hf1 hf2 hf3 hI hF
            clear hf2 hf3
            simp only [saysD, List.getD_cons_zero, List.getD_cons_succ, and_true] at hF
            obtain ⟨e63, e74⟩ := hF
            dsimp only [owes4, bare]
            refine ⟨fun _ => ?_, fun h => absurd e63 h⟩
            simp only [putsD, Act.put, List.setIfInBounds_toArray, List.set_cons_zero, List.set_cons_succ]
            simp only [e63, e74]
            have c90 : xw.cell? _ = _ := kb0 ⟨xw, hI⟩
            have c91 : xw.cell? _ = _ := kb1 ⟨xw, hI⟩
            go_wp2
            exact ⟨rfl, rfl, Below.refl _ _, hI⟩
          · intro vals xw f hf1 hf2 hf3 hI hF
            clear hf2 hf3
            simp only [saysD, List.getD_cons_zero, List.getD_cons_succ, and_true] at hF
            obtain ⟨e63, e67, e75⟩ := hF
            dsimp only [owes4, bare]
            refine ⟨fun _ => ?_, fun h => absurd e63 h⟩
            simp only [putsD, Act.put, List.setIfInBounds_toArray, List.set_cons_zero, List.set_cons_succ]
            simp only [e63, e67, e75]
            go_wp2
            exact ⟨rfl, rfl, Below.refl _ _, hI⟩
          · intro vals xw f hf1 hf2 hf3 hI hF
            clear hf2 hf3
            simp only [saysD, List.getD_cons_zero, List.getD_cons_succ, and_true] at hF
            obtain ⟨e63, e76⟩ := hF
            dsimp only [owes4, bare]
            simp only [putsD, Act.put, List.setIfInBounds_toArray, List.set_cons_zero, List.set_cons_succ]
            simp only [e63, e76]
            go_wp2
            exact ⟨rfl, rfl, Below.refl _ _, hI⟩
          · intro vals xw f hall hI hF
            rw [show List.range _ = [0, 1, 2, 3, 4, 5, 6, 7, 8, 9, 10, 11, 12, 13, 14, 15, 16, 17, 18] from rfl] at hF
            simp only [says, List.getD_cons_zero, List.getD_cons_succ, and_true] at hF
            have e77 := hF.2.2.2.2.2.2.2.2.2.2.2.2.2.2.2.2.2.2
            have HB7 := Lib.hid (HB.out.trans (hI.mono HB.out.size))
            simp only [putsD, Act.put, List.setIfInBounds_toArray, List.set_cons_zero, List.set_cons_succ]
            simp only [e77]
            clear hF e77 ka0 ka1 kb0 kb1 kc
            go_wp2
            go_roundw
            case rel => exact ⟨j + 1, m + 1, by omega, by go_num, by go_num, Lib.hid (by have := HM.out; omega), HB7⟩
            case measure => simp [intOf]; omega
        · have hje : j = l.ds.length := by omega
          subst hje
          have HM1 : Hid (m = (dsAll (c.take (i + 1))).length) := Lib.hid (by rw [HGDi.out.1, HM.out])
          clear hds
          go_wp2
          go_loopw [7, 10] (fun a d wr => ∃ (j m : Nat), j ≤ l.ts.length ∧ a = .int .i64 m ∧ d = .int .i64 j ∧ Hid (m = n0 + j) ∧ Hid (Below w9.heap.size w9 wr)) (fun _ d _ => l.ts.length - (intOf d).toNat)
          case atStart => exact ⟨0, n0, Nat.zero_le _, rfl, rfl, Lib.hid rfl, HB⟩
          case round =>
            clear HB HM e1 hj
            have HMA := HM1
            obtain ⟨mm, hmm⟩ : ∃ mm, mm = m := ⟨_, rfl⟩
            rw [← hmm] at HMA ⊢
            clear hmm HM1
            obtain ⟨j, m, hj, rfl, rfl, HM, HB⟩ := hrel
            obtain ⟨ad', E1, p1, E2, p2, hade, e1, e2, hp1, hp2, hds, hts⟩ := layer_at (HC9.out.up HB.out) HLI.out
            obtain rfl : ad = ad' := Option.some.inj hade
            clear hds e1 hade
            by_cases hjt : j < l.ts.length
            · have hj1 : (j : Int) < l.ts.length := by omega
              obtain ⟨x, hx1, hx2, hx3⟩ := HGTi.out.2 j hjt
              rw [← HM.out] at hx2
              have hmt : m < ts.length := (List.getElem?_eq_some_iff.1 hx2).1
              have hmd : decide (ts.length ≤ m) = false := decide_eq_false (by omega)
              obtain ⟨ae, E8, p8, rfl, f0, f1, f2, f3, f4, hp8, hk8⟩ := term_at hts hx1
              obtain ⟨a1, E7, p7, rfl, g0, g1, g2, g3, g4, hp7, hk7⟩ := term_at (HT9.out.up HB.out) hx2
              have HTS := Lib.hid (fun (y : World) (hy : Below wr.heap.size wr y) => termSame_yes x E7 E8 p7 p8 y (hk7.up hy) (hk8.up hy) hx3)
              have kc := Later.cell e2
              have ka0 := Later.cell g0
              have ka1 := Later.cell g1
              have ka2 := Later.cell g2
              have ka3 := Later.cell g3
              have ka4 := Later.cell g4
              have kb0 := Later.cell f0
              have kb1 := Later.cell f1
              have kb2 := Later.cell f2
              have kb3 := Later.cell f3
              have kb4 := Later.cell f4
              clear hts f0 f1 f2 f3 f4 g0 g1 g2 g3 g4 hx1 hx2 hx3 hk7 hk8
              go_wp2
              clear e2
              refine wp_region_rel4 [[], [], [(1, 91)], [(0, 90), (2, 92)], [(3, 93)], [(4, 94)], [(4, 94)], [(4, 94), (5, 95), (6, 96)], [(4, 94), (7, 97)], [(4, 94)], [(4, 94)], [(4, 94), (9, 99), (10, 100)], [(4, 94), (11, 101)], [(4, 94), (12, 102)], [(4, 94)], [(4, 94), (13, 103), (14, 104)], [(4, 94), (15, 105)], [(4, 94), (8, 98), (16, 106)], [(4, 94), (17, 107)], [(4, 94), (18, 108)]]
                (fun y y' => Below y.heap.size y y')
                []
                (fun _ yy => Below wr.heap.size wr yy)
                [fun vs9 _ => vs9 0 = (.int .i64 (m : Int)),
    fun vs9 _ => vs9 1 = (.slice (some a1) ts.length q3),
    fun vs9 _ => vs9 2 = (.int .i64 (ts.length : Int)),
    fun vs9 _ => vs9 3 = (.bool false),
    fun vs9 _ => vs9 4 = (.bool false),
    fun vs9 _ => vs9 5 = (.slice (some a1) ts.length q3),
    fun vs9 _ => vs9 6 = (.int .i64 (m : Int)),
    fun vs9 _ => vs9 7 = (.pointer (some (a1.add (m * 5)))),
    fun vs9 _ => vs9 8 = (.agg #[.int .i64 x.op, .int .i64 x.a, .int .i64 x.b, .string x.name, .slice E7 x.kids.length p7]),
    fun vs9 _ => vs9 9 = (.slice (some ad) c.length q1),
    fun vs9 _ => vs9 10 = (.int .i64 (i : Int)),
    fun vs9 _ => vs9 11 = (.pointer (some (ad.add (i * 2)))),
    fun vs9 _ => vs9 12 = (.pointer (some ⟨(ad.add (i * 2)).block, (ad.add (i * 2)).off + 1, none⟩)),
    fun vs9 _ => vs9 13 = (.slice (some ae) l.ts.length p2),
    fun vs9 _ => vs9 14 = (.int .i64 (j : Int)),
    fun vs9 _ => vs9 15 = (.pointer (some (ae.add (j * 5)))),
    fun vs9 _ => vs9 16 = (.agg #[.int .i64 x.op, .int .i64 x.a, .int .i64 x.b, .string x.name, .slice E8 x.kids.length p8]),
    fun vs9 _ => vs9 17 = (.bool true),
    fun vs9 _ => vs9 18 = (.bool false),
    fun vs9 _ => vs9 19 = (.bool false)]
                [(0, 90), (1, 91), (2, 92), (3, 93), (4, 94), (5, 95), (6, 96), (7, 97), (8, 98), (9, 99), (10, 100), (11, 101), (12, 102), (13, 103), (14, 104), (15, 105), (16, 106), (17, 107), (18, 108), (19, 109)] (by kernel_rfl) (by kernel_rfl) (by kernel_rfl) (by kernel_rfl)
                (fun _ => Below.refl _ _) trivial
                ⟨⟨.inr (fun _ _ _ h _ => h), trivial⟩,
    ⟨.inr (fun _ _ _ h _ => h), trivial⟩,
    ⟨.inr (fun _ _ _ h _ => h), trivial⟩,
    ⟨.inr (fun _ _ _ h _ => h), trivial⟩,
    ⟨.inr (fun _ _ _ h _ => h), trivial⟩,
    ⟨.inr (fun _ _ _ h _ => h), trivial⟩,
    ⟨.inr (fun _ _ _ h _ => h), trivial⟩,
    ⟨.inr (fun _ _ _ h _ => h), trivial⟩,
    ⟨.inr (fun _ _ _ h _ => h), trivial⟩,
    ⟨.inr (fun _ _ _ h _ => h), trivial⟩,
    ⟨.inr (fun _ _ _ h _ => h), trivial⟩,
    ⟨.inr (fun _ _ _ h _ => h), trivial⟩,
    ⟨.inr (fun _ _ _ h _ => h), trivial⟩,
    ⟨.inr (fun _ _ _ h _ => h), trivial⟩,
    ⟨.inr (fun _ _ _ h _ => h), trivial⟩,
    ⟨.inr (fun _ _ _ h _ => h), trivial⟩,
    ⟨.inr (fun _ _ _ h _ => h), trivial⟩,
    ⟨.inr (fun _ _ _ h _ => h), trivial⟩,
    ⟨.inr (fun _ _ _ h _ => h), trivial⟩,
    ⟨.inr (fun _ _ _ h _ => h), trivial⟩, trivial⟩ ⟨fun vs vs' x h _ hv => (by dsimp only at hv ⊢; first | (rw [← h]; exact hv) | exact hv),
    fun vs vs' x h _ hv => (by dsimp only at hv ⊢; first | (rw [← h]; exact hv) | exact hv),
    fun vs vs' x h _ hv => (by dsimp only at hv ⊢; first | (rw [← h]; exact hv) | exact hv),
    fun vs vs' x h _ hv => (by dsimp only at hv ⊢; first | (rw [← h]; exact hv) | exact hv),
    fun vs vs' x h _ hv => (by dsimp only at hv ⊢; first | (rw [← h]; exact hv) | exact hv),
    fun vs vs' x h _ hv => (by dsimp only at hv ⊢; first | (rw [← h]; exact hv) | exact hv),
    fun vs vs' x h _ hv => (by dsimp only at hv ⊢; first | (rw [← h]; exact hv) | exact hv),
    fun vs vs' x h _ hv => (by dsimp only at hv ⊢; first | (rw [← h]; exact hv) | exact hv),
    fun vs vs' x h _ hv => (by dsimp only at hv ⊢; first | (rw [← h]; exact hv) | exact hv),
    fun vs vs' x h _ hv => (by dsimp only at hv ⊢; first | (rw [← h]; exact hv) | exact hv),
    fun vs vs' x h _ hv => (by dsimp only at hv ⊢; first | (rw [← h]; exact hv) | exact hv),
    fun vs vs' x h _ hv => (by dsimp only at hv ⊢; first | (rw [← h]; exact hv) | exact hv),
    fun vs vs' x h _ hv => (by dsimp only at hv ⊢; first | (rw [← h]; exact hv) | exact hv),
    fun vs vs' x h _ hv => (by dsimp only at hv ⊢; first | (rw [← h]; exact hv) | exact hv),
    fun vs vs' x h _ hv => (by dsimp only at hv ⊢; first | (rw [← h]; exact hv) | exact hv),
    fun vs vs' x h _ hv => (by dsimp only at hv ⊢; first | (rw [← h]; exact hv) | exact hv),
    fun vs vs' x h _ hv => (by dsimp only at hv ⊢; first | (rw [← h]; exact hv) | exact hv),
    fun vs vs' x h _ hv => (by dsimp only at hv ⊢; first | (rw [← h]; exact hv) | exact hv),
    fun vs vs' x h _ hv => (by dsimp only at hv ⊢; first | (rw [← h]; exact hv) | exact hv),
    fun vs vs' x h _ hv => (by dsimp only at hv ⊢; first | (rw [← h]; exact hv) | exact hv), trivial⟩ (below_drewN (Below.refl _ _) 1) ⟨?_, ?_, ?_, ?_, ?_, ?_, ?_, ?_, ?_, ?_, ?_, ?_, ?_, ?_, ?_, ?_, ?_, ?_, ?_, ?_, trivial⟩ ?_
              · intro vals xw f hf1 hf2 hf3 hI hF
                clear hf2 hf3
                dsimp only [owes4, bare]
                simp only [putsD, Act.put, List.setIfInBounds_toArray, List.set_cons_zero, List.set_cons_succ]
                go_wp2
                exact ⟨rfl, rfl, Below.refl _ _, hI⟩
              · intro vals xw f hf1 hf2 hf3 hI hF
                clear hf2 hf3
                dsimp only [owes4, bare]
                simp only [putsD, Act.put, List.setIfInBounds_toArray, List.set_cons_zero, List.set_cons_succ]
                go_wp2
                exact ⟨rfl, rfl, Below.refl _ _, hI⟩
              · intro vals xw f hf1 hf2 hf3 hI hF
                clear hf2 hf3
                simp only [saysD, List.getD_cons_zero, List.getD_cons_succ, and_true] at hF
                have e91 := hF
                dsimp only [owes4, bare]
                simp only [putsD, Act.put, List.setIfInBounds_toArray, List.set_cons_zero, List.set_cons_succ]
                simp only [e91]
                go_wp2
                exact ⟨rfl, rfl, Below.refl _ _, hI⟩
              · intro vals xw f hf1 hf2 hf3 hI hF
                clear hf2 hf3
                simp only [saysD, List.getD_cons_zero, List.getD_cons_succ, and_true] at hF
                obtain ⟨e90, e92⟩ := hF
                dsimp only [owes4, bare]
                simp only [putsD, Act.put, List.setIfInBounds_toArray, List.set_cons_zero, List.set_cons_succ]
                simp only [e90, e92]
                go_wp2
                exact ⟨rfl, rfl, Below.refl _ _, hI⟩
              · intro vals xw f hf1 hf2 hf3 hI hF
                clear hf2 hf3
                simp only [saysD, List.getD_cons_zero, List.getD_cons_succ, and_true] at hF
                have e93 := hF
                dsimp only [owes4, bare]
                simp only [putsD, Act.put, List.setIfInBounds_toArray, List.set_cons_zero, List.set_cons_succ]
                simp only [e93]
                go_wp2
                exact ⟨rfl, rfl, Below.refl _ _, hI⟩
              · intro vals xw f hf1 hf2 hf3 hI hF
                clear hf2 hf3
                simp only [saysD, List.getD_cons_zero, List.getD_cons_succ, and_true] at hF
                have e94 := hF
                dsimp only [owes4, bare]
                refine ⟨fun _ => ?_, fun h => absurd e94 h⟩
                simp only [putsD, Act.put, List.setIfInBounds_toArray, List.set_cons_zero, List.set_cons_succ]
                simp only [e94]
                go_wp2
                exact ⟨rfl, rfl, Below.refl _ _, hI⟩
              · intro vals xw f hf1 hf2 hf3 hI hF
                clear hf2 hf3
                simp only [saysD, List.getD_cons_zero, List.getD_cons_succ, and_true] at hF
                have e94 := hF
                dsimp only [owes4, bare]
                refine ⟨fun _ => ?_, fun h => absurd e94 h⟩
                simp only [putsD, Act.put, List.setIfInBounds_toArray, List.set_cons_zero, List.set_cons_succ]
                simp only [e94]
                go_wp2
                exact ⟨rfl, rfl, Below.refl _ _, hI⟩
              · intro vals xw f hf1 hf2 hf3 hI hF
                clear hf2 hf3
                simp only [saysD, List.getD_cons_zero, List.getD_cons_succ, and_true] at hF
                obtain ⟨e94, e95, e96⟩ := hF
                dsimp only [owes4, bare]
                refine ⟨fun _ => ?_, fun h => absurd e94 h⟩
                simp only [putsD, Act.put, List.setIfInBounds_toArray, List.set_cons_zero, List.set_cons_succ]
                simp only [e94, e95, e96]
                go_wp2
                exact ⟨rfl, rfl, Below.refl _ _, hI⟩
              · intro vals xw f hf1 hf2 hf3 hI hF
                clear hf2 hf3
                simp only [saysD, List.getD_cons_zero, List.getD_cons_succ, and_true] at hF
                obtain ⟨e94, e97⟩ := hF
                dsimp only [owes4, bare]
                refine ⟨fun _ => ?_, fun h => absurd e94 h⟩
                simp only [putsD, Act.put, List.setIfInBounds_toArray, List.set_cons_zero, List.set_cons_succ]
                simp only [e94, e97]
                have c90 : xw.cell? _ = _ := ka0 ⟨xw, hI⟩
                have c91 : xw.cell? _ = _ := ka1 ⟨xw, hI⟩
                have c92 : xw.cell? _ = _ := ka2 ⟨xw, hI⟩
                have c93 : xw.cell? _ = _ := ka3 ⟨xw, hI⟩
                have c94 : xw.cell? _ = _ := ka4 ⟨xw, hI⟩
                go_wp2
                exact ⟨rfl, rfl, Below.refl _ _, hI⟩
              · intro vals xw f hf1 hf2 hf3 hI hF
                clear hf2 hf3
                simp only [saysD, List.getD_cons_zero, List.getD_cons_succ, and_true] at hF
                have e94 := hF
                dsimp only [owes4, bare]
                refine ⟨fun _ => ?_, fun h => absurd e94 h⟩
                simp only [putsD, Act.put, List.setIfInBounds_toArray, List.set_cons_zero, List.set_cons_succ]
                simp only [e94]
                go_wp2
                exact ⟨rfl, rfl, Below.refl _ _, hI⟩
              · intro vals xw f hf1 hf2 hf3 hI hF
                clear hf2 hf3
                simp only [saysD, List.getD_cons_zero, List.getD_cons_succ, and_true] at hF
                have e94 := hF
                dsimp only [owes4, bare]
                refine ⟨fun _ => ?_, fun h => absurd e94 h⟩
                simp only [putsD, Act.put, List.setIfInBounds_toArray, List.set_cons_zero, List.set_cons_succ]
                simp only [e94]
                go_wp2
                exact ⟨rfl, rfl, Below.refl _ _, hI⟩
              · intro vals xw f hf1 hf2 hf3 hI hF
                clear hf2 hf3
                simp only [saysD, List.getD_cons_zero, List.getD_cons_succ, and_true] at hF
                obtain ⟨e94, e99, e100⟩ := hF
                dsimp only [owes4, bare]
                refine ⟨fun _ => ?_, fun h => absurd e94 h⟩
                simp only [putsD, Act.put, List.setIfInBounds_toArray, List.set_cons_zero, List.set_cons_succ]
                simp only [e94, e99, e100]
                go_wp2
                exact ⟨rfl, rfl, Below.refl _ _, hI⟩
              · intro vals xw f hf1 hf2 hf3 hI hF
                clear hf2 hf3
                simp only [saysD, List.getD_cons_zero, List.getD_cons_succ, and_true] at hF
                obtain ⟨e94, e101⟩ := hF
                dsimp only [owes4, bare]
                refine ⟨fun _ => ?_, fun h => absurd e94 h⟩
                simp only [putsD, Act.put, List.setIfInBounds_toArray, List.set_cons_zero, List.set_cons_succ]
                simp only [e94, e101]
                go_wp2
                exact ⟨rfl, rfl, Below.refl _ _, hI⟩
              · intro vals xw f hf1 hf2 hf3 hI hF
                clear hf2 hf3
                simp only [saysD, List.getD_cons_zero, List.getD_cons_succ, and_true] at hF
                obtain ⟨e94, e102⟩ := hF
                dsimp only [owes4, bare]
                refine ⟨fun _ => ?_, fun h => absurd e94 h⟩
                simp only [putsD, Act.put, List.setIfInBounds_toArray, List.set_cons_zero, List.set_cons_succ]
                simp only [e94, e102]
                have c90 : xw.cell? _ = _ := kc ⟨xw, hI⟩
                go_wp2
                exact ⟨rfl, rfl, Below.refl _ _, hI⟩
              · intro vals xw f hf1 hf2 hf3 hI hF
                clear hf2 hf3
                simp only [saysD, List.getD_cons_zero, List.getD_cons_succ, and_true] at hF
                have e94 := hF
                dsimp only [owes4, bare]
                refine ⟨fun _ => ?_, fun h => absurd e94 h⟩
                simp only [putsD, Act.put, List.setIfInBounds_toArray, List.set_cons_zero, List.set_cons_succ]
                simp only [e94]
                go_wp2
                exact ⟨rfl, rfl, Below.refl _ _, hI⟩
              · intro vals xw f hf1 hf2 hf3 hI hF
                clear hf2 hf3
                simp only [saysD, List.getD_cons_zero, List.getD_cons_succ, and_true] at hF
                obtain ⟨e94, e103, e104⟩ := hF
                dsimp only [owes4, bare]
                refine ⟨fun _ => ?_, fun h => absurd e94 h⟩
                simp only [putsD, Act.put, List.setIfInBounds_toArray, List.set_cons_zero, List.set_cons_succ]
                simp only [e94, e103, e104]
                go_wp2
                exact ⟨rfl, rfl, Below.refl _ _, hI⟩
              · intro vals xw f hf1 hf2 hf3 hI hF
                clear hf2 hf3
                simp only [saysD, List.getD_cons_zero, List.getD_cons_succ, and_true] at hF
                obtain ⟨e94, e105⟩ := hF
                dsimp only [owes4, bare]
                refine ⟨fun _ => ?_, fun h => absurd e94 h⟩
                simp only [putsD, Act.put, List.setIfInBounds_toArray, List.set_cons_zero, List.set_cons_succ]
                simp only [e94, e105]
                have c90 : xw.cell? _ = _ := kb0 ⟨xw, hI⟩
                have c91 : xw.cell? _ = _ := kb1 ⟨xw, hI⟩
                have c92 : xw.cell? _ = _ := kb2 ⟨xw, hI⟩
                have c93 : xw.cell? _ = _ := kb3 ⟨xw, hI⟩
                have c94 : xw.cell? _ = _ := kb4 ⟨xw, hI⟩
                go_wp2
                exact ⟨rfl, rfl, Below.refl _ _, hI⟩
              · intro vals xw f hf1 hf2 hf3 hI hF
                clear hf2 hf3
                simp only [saysD, List.getD_cons_zero, List.getD_cons_succ, and_true] at hF
                obtain ⟨e94, e98, e106⟩ := hF
                dsimp only [owes4, bare]
                refine ⟨fun _ => ?_, fun h => absurd e94 h⟩
                simp only [putsD, Act.put, List.setIfInBounds_toArray, List.set_cons_zero, List.set_cons_succ]
                simp only [e94, e98, e106]
                have HWF := Lib.hid (HTS.out xw hI)
                have HII := Lib.hid hI
                clear hI
                go_wp2_with fail
                refine HWF.out.mono ?_
                rintro e w9 ⟨rfl, hb9⟩
                have HB9 := Lib.hid hb9
                clear hb9
                go_wp2
                exact ⟨rfl, rfl, HB9.out, bthen HII.out HB9.out⟩
              · intro vals xw f hf1 hf2 hf3 hI hF
                clear hf2 hf3
                simp only [saysD, List.getD_cons_zero, List.getD_cons_succ, and_true] at hF
                obtain ⟨e94, e107⟩ := hF
                dsimp only [owes4, bare]
                refine ⟨fun _ => ?_, fun h => absurd e94 h⟩
                simp only [putsD, Act.put, List.setIfInBounds_toArray, List.set_cons_zero, List.set_cons_succ]
                simp only [e94, e107]
                go_wp2
                exact ⟨rfl, rfl, Below.refl _ _, hI⟩
              · intro vals xw f hf1 hf2 hf3 hI hF
                clear hf2 hf3
                simp only [saysD, List.getD_cons_zero, List.getD_cons_succ, and_true] at hF
                obtain ⟨e94, e108⟩ := hF
                dsimp only [owes4, bare]
                simp only [putsD, Act.put, List.setIfInBounds_toArray, List.set_cons_zero, List.set_cons_succ]
                simp only [e94, e108]
                go_wp2
                exact ⟨rfl, rfl, Below.refl _ _, hI⟩
              · intro vals xw f hall hI hF
                rw [show List.range _ = [0, 1, 2, 3, 4, 5, 6, 7, 8, 9, 10, 11, 12, 13, 14, 15, 16, 17, 18, 19] from rfl] at hF
                simp only [says, List.getD_cons_zero, List.getD_cons_succ, and_true] at hF
                have e109 := hF.2.2.2.2.2.2.2.2.2.2.2.2.2.2.2.2.2.2.2
                have HB7 := Lib.hid (HB.out.trans (hI.mono HB.out.size))
                simp only [putsD, Act.put, List.setIfInBounds_toArray, List.set_cons_zero, List.set_cons_succ]
                simp only [e109]
                clear hF e109 ka0 ka1 ka2 ka3 ka4 kb0 kb1 kb2 kb3 kb4 kc
                go_wp2
                go_roundw
                case rel => exact ⟨j + 1, m + 1, by omega, by go_num, by go_num, Lib.hid (by have := HM.out; omega), HB7⟩
                case measure => simp [intOf]; omega
            · have hje : j = l.ts.length := by omega
              subst hje
              have HN1 : Hid (m = (tsAll (c.take (i + 1))).length) := Lib.hid (by rw [HGTi.out.1, HM.out])
              clear hts
              go_wp2
              go_roundw
              case rel => exact ⟨i + 1, mm, m, by omega, rfl, rfl, by go_num, HMA, HN1, HB⟩
              case measure => simp [intOf]; omega
    · have hie : i = c.length := by omega
      subst hie
      obtain rfl : m0 = ds.length := by rw [HM0.out, HFD.out]
      obtain rfl : n0 = ts.length := by rw [HN0.out, HFT.out]
      clear HM0 HN0 HFD HFT
      go_wp2_with fail
      refine (implDeclOk_any A2 q2 ds _ wr (HD9.out.up HB.out) (fun _ h => h) (by omega) HNM.out HQ2.out).mono ?_
      rintro e w7 ⟨rfl, hb7⟩
      rw [HDK.out]
      have HB7 := Lib.hid (bthen (bthen HB9.out HB.out) hb7)
      go_wp2
      go_ret
      exact ⟨rfl, HB7.out⟩

set_option maxRecDepth 100000 in
theorem fnCtxList_lifted (os : Os) (started : os.Started) (H : Type) (enc : TypeId × Value → H) :
    ReturnsInHanded {} Tryz.checked os 8 .any (fun w args => (Rows.fnCtxListSpec.pre enc Tryz.prog Tryz.f8 [] false w args ∧ laidMetH Tryz.prog laidU w) ∧ sizedMet enc Tryz.prog Tryz.f8 (OpenSpec.ofChange Rows.fnCtxListSpec) false w args)
      (Rows.fnCtxListSpec.post enc Tryz.prog Tryz.f8 false true false false) := by
  refine returnsInHanded_of_change_and (C := Tryz.checked) (X := fun w _ => laidMetH Tryz.prog laidU w) (fun _ _ _ hh h => h.of_heap hh) dr_own started (by kernel_rfl) Tryz.func8
    (ChangeSpec.witness_shaped (enc := enc) (C := Tryz.checked) (os := os) (X := fun w _ => laidMetH Tryz.prog laidU w) false (World.laidAll Tryz.prog os laidU) #[.slice none 0 0] 16 (World.laidAll_os _ _ _) (World.shaped_of_ZipB (by kernel_rfl) (by kernel_rfl)) (by kernel_rfl) (by kernel_rfl) (by kernel_rfl)
      (by rw [MakeChecks.laidMetH_plain _ _ _ (by kernel_rfl)]; exact laidMet_laidAll _ (by kernel_rfl) (by kernel_rfl))) ?_
  intro W base args ds gs before hval0 hW _ _ hL _
  have hval : ∀ (j : Nat) t v, Tryz.f8.params[j]? = some t → args[j]? = some v → Value.okWide Tryz.prog W .any base t v := hval0
  have hW' := hW
  obtain ⟨p, q, hA0, hV, rfl, hfz, hnd⟩ := hW
  have hA : DataW.TrodAll enc Tryz.prog W 0 (fun _ => true) true Tryz.f8.params.toList args.toList ds p := hA0
  rw [Tryz.params8] at hA hval
  obtain ⟨v0, vs0, d0, ds0, p0, q0, hargs, rfl, rfl, h0, r0⟩ := trodAll_cons hA
  obtain ⟨rfl, rfl, rfl⟩ := trodAll_nil r0
  obtain rfl : args = #[v0] := by cases args; simp_all
  obtain ⟨rfl, rfl⟩ := trodVars_none hV
  have k0 := h0
  have lt0 : ∀ x ∈ p0, x.block < W.heap.size := by obtain ⟨m, hm⟩ := k0; exact DataW.trod_lt m _ _ _ hm
  obtain ⟨A0, c0, x0, rfl, hc0, ok0, rd0⟩ := open_arg Tryz.underlying53 opens_bytes (hval 0 53 v0 rfl rfl) h0
  clear hA0 hval0
  refine (fnCtxList_walk W hc0 ok0 rd0).mono fun e W' ⟨he, bel⟩ => ?_
  subst he
  exact ⟨_, rfl, _, _, _, [], _, [], hW', trodAll_mk1 (shut_bool Tryz.underlying4 _), (trodAll_cons_mk (Below.trod (by kernel_rfl) (by kernel_rfl) (of_decide_eq_true (by kernel_rfl)) k0 bel lt0) trodAll_mk0), rfl, bel.frame _, fun h => by cases h⟩

/-- The given row. -/
theorem fnCtxList_row : Rows.FnCtxListSaid :=
  OpenClaim.holds_of_wide 8 Tryz.f8 rfl rfl rfl rfl rfl rfl rfl ⟨rfl, rfl, rfl, rfl, rfl⟩ rfl rfl rfl rfl rfl (by kernel_rfl) Tryz.func8 (by kernel_rfl)
    (of_decide_eq_true (by kernel_rfl)) (by unfold Func.isWrapper; first | (rw [if_pos (by decide +kernel)]; kernel_rfl) | (rw [if_neg (by decide +kernel)]; exact ⟨rfl, rfl⟩))
    (fun os started H enc _ => fnCtxList_lifted os started H enc)
/-- The given statement: the row, what it lists tied to the program's text. -/
theorem fnCtxList_holds : Rows.FnCtxListCardSaid :=
  Claim7.holds_tied_plain_at .later [] [.data, .pinned] true Rows.fnCtxListCard.stood.harness Rows.fnCtxListCard.stood.looks
    fnCtxList_row (fun _ h => by cases h) (by kernel_rfl) (fun _ h => by cases h) fnCtxList_row_tie rfl ⟨rfl, rfl⟩ (by kernel_rfl) rfl
    (fun f fn hf hfn => by
      obtain rfl : f = 8 := Option.some.inj ((show Tryz.prog.funcNamed "loop.example/seedlip/laws.FnCtxList" = some 8 by kernel_rfl).symm.trans hf) |>.symm
      obtain rfl : fn = Tryz.f8 := (Option.some.inj (Tryz.func8.symm.trans hfn)).symm
      exact ⟨by kernel_rfl, fun j t ht => by
        rw [Tryz.params8] at ht
        have hm : t ∈ [53] := by simpa using Array.mem_of_getElem? ht
        have hall : ([53].all fun u => !Tryz.prog.wantsStandIn u) = true := by kernel_rfl
        exact (show Tryz.prog.wantsStandIn t = false by simpa using List.all_eq_true.1 hall t hm)⟩)
    (by kernel_rfl)
#print axioms fnCtxList_holds
end Go.Proofs.YtiahmfpfimmbgaaGreatDoor
