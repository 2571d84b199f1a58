/- The reference's draws of contexts: l10Act. Bent contexts: what they are (plain), and a declaration appended to one layer. -/
import Derived.Test.YtiahmfpfimmbgaaGreatDoorJFnCtxBent11
import Derived.Test.YtiahmfpfimmbgaaGreatDoorJFnCtxBent13
import Derived.Test.YtiahmfpfimmbgaaGreatDoorJFnCtxBent17
import Derived.Test.YtiahmfpfimmbgaaGreatDoorJFnCtxBent18
/-! The reference's draws of contexts: l10Act. -/
namespace Go.Proofs.YtiahmfpfimmbgaaGreatDoor
open Go Go.RowKit

/-- A drawn context. -/
def okDC (c : List Ly) : Prop := okC c ∧ okD5 (dsAll c)
theorem dGo_mem : ∀ (xs seen : List D) (b : Int), dGo seen b xs = true → ∀ d ∈ xs, d.name.size ≤ 5 ∧ 1 ≤ d.wide ∧ d.wide ≤ 4
  | [], _, _, _, d, hd => by cases hd
  | x :: xs, seen, b, h, d, hd => by
    unfold dGo at h
    simp only [Bool.and_eq_true] at h
    rcases List.mem_cons.1 hd with rfl | hd
    · have h1 := h.1
      unfold dOne nameOk wideOk at h1
      simp only [Bool.and_eq_true, decide_eq_true_eq] at h1
      obtain ⟨⟨⟨⟨⟨h1, h2⟩, _⟩, _⟩, h3, h4⟩, _⟩ := h1
      exact ⟨by omega, h3, h4⟩
    · exact dGo_mem xs _ _ h.2 d hd
theorem okD5_of {ds : List D} (h : declOk ds = true) : okD5 ds := by
  unfold declOk at h
  simp only [Bool.and_eq_true, decide_eq_true_eq] at h
  exact ⟨by omega, dGo_mem ds [] 0 h.2⟩
theorem okDC_of {c : List Ly} (h : okC c) (hk : ctxOk c = true) : okDC c := ⟨h, okD5_of (ctxOk_parts hk).2.2.1⟩
theorem okDC_nil : okDC [] := ⟨⟨by simp, by simp [dsAll], by simp [tsAll], by simp [dsAll], by simp [tsAll]⟩, by simp [dsAll], by simp [dsAll]⟩
/-- What a change of a drawn context gives. -/
theorem ctxCh_dc {c x : List Ly} (h : okDC c) (hx : ctxOk c = true → okC x) : okDC (ctxCh c x).1 ∧ (ctxOk c = true → ctxOk (ctxCh c x).1 = true) := by
  unfold ctxCh
  by_cases hc : ctxOk c = true
  · rw [if_pos hc]
    by_cases hx9 : ctxOk x = true
    · rw [if_pos hx9]; exact ⟨okDC_of (hx hc) hx9, fun _ => hx9⟩
    · rw [if_neg hx9]; exact ⟨h, fun h => h⟩
  · rw [if_neg hc]; exact ⟨okDC_nil, fun h => absurd h hc⟩
theorem ctxPush_dc {c : List Ly} (h : okDC c) : okDC (ctxPush c).1 ∧ (ctxOk c = true → ctxOk (ctxPush c).1 = true) := ctxCh_dc h fun hk => h.1.push hk
theorem ctxPop_dc {c : List Ly} (h : okDC c) : okDC (ctxPop c).1 ∧ (ctxOk c = true → ctxOk (ctxPop c).1 = true) := ctxCh_dc h fun hk => okC_pop9 h.1 hk
theorem ctxName_dc {c : List Ly} {d : D} (h : okDC c) (hd : smD d) : okDC (ctxName c d).1 ∧ (ctxOk c = true → ctxOk (ctxName c d).1 = true) := ctxCh_dc h fun hk => okC_addD9 h.1 hk hd
theorem ctxAssert_dc {c : List Ly} {t : T} (h : okDC c) (ht : T.All okT3 t) : okDC (ctxAssert c t).1 ∧ (ctxOk c = true → ctxOk (ctxAssert c t).1 = true) := ctxCh_dc h fun hk => okC_addT9 h.1 hk ht
/-- A drawn context is handed back. -/
def RetDC (ok : List Ly → Prop) (r : Nat) (p M : Int) (w : World) (e : Ending) (w' : World) : Prop :=
  ∃ (c : List Ly) (A : Option Addr) (q : Nat), e = .returned (.slice A c.length q) ∧ c.length ≤ q ∧ Lay.layer.Rd w' A c ∧ ok c ∧ Drawn r p M w w'
theorem layer_rdG {r : Nat} {p : Int} {w w' : World} {A : Option Addr} {c : List Ly} (h : Lay.layer.Rd w A c) (hr : Rdr w r p) (hg : Gr (IsR r) w w') : Lay.layer.Rd w' A c := ((layer_notR h hr).gr hg).ab_rd
theorem decl_rdG {r : Nat} {p : Int} {w w' : World} {A : Option Addr} {c : List D} (h : Lay.decl.Rd w A c) (hr : Rdr w r p) (hg : Gr (IsR r) w w') : Lay.decl.Rd w' A c := ((decl_notR h hr).gr hg).ab_rd
set_option maxRecDepth 100000 in
set_option maxHeartbeats 8000000 in
theorem l10Act_any (r : Nat) (p : Int) (A : Option Addr) (q : Nat) (c : List Ly) (w : World) (h : Rdr w r p) (hd : Lay.layer.Rd w A c) (hq : c.length ≤ q) (ho : okDC c) (p0 : 0 ≤ p) (p1 : p ≤ 790000000) :
    Calls Tryz.prog 85 #[.pointer (some ⟨r, 0, none⟩), .slice A c.length q] w (RetDC (fun x => okDC x ∧ (ctxOk c = true → ctxOk x = true)) r p 3010 w) := by
  have hrl := h.lt
  have hal : Below w.heap.size w (w.alloc (.cells #[.string ⟨#[120]⟩, .string ⟨#[121]⟩, .string ⟨#[122]⟩, .string ⟨#[119]⟩, .string ⟨#[118]⟩] 9)) := (Below.refl _ _).alloc (Nat.le_refl _) _
  have HR := Lib.hid (h.up hal)
  have HC := Lib.hid (hd.up hal)
  have HG : Hid (Gr (IsR r) w (w.alloc (.cells #[.string ⟨#[120]⟩, .string ⟨#[121]⟩, .string ⟨#[122]⟩, .string ⟨#[119]⟩, .string ⟨#[118]⟩] 9))) := Lib.hid (.below hal)
  have HNM := Lib.hid (lit_str (S := IsR r) w [⟨#[120]⟩, ⟨#[121]⟩, ⟨#[122]⟩, ⟨#[119]⟩, ⟨#[118]⟩] #[.string ⟨#[120]⟩, .string ⟨#[121]⟩, .string ⟨#[122]⟩, .string ⟨#[119]⟩, .string ⟨#[118]⟩] 9 rfl (by show ¬ _ = r; omega))
  have HO := Lib.hid ho
  have HQ := Lib.hid hq
  have HDC := Lib.hid (fun (z : World) (hz : Lay.layer.Rd z A c) => l10Decls_any A q c z hz ho.1.len ho.1.ds)
  have HH := Lib.hid hd
  obtain ⟨ds, hds⟩ : ∃ ds, ds = dsAll c := ⟨_, rfl⟩
  have HDO : Hid (okD5 ds) := Lib.hid (by rw [hds]; exact ho.2)
  rw [← hds] at HDC
  clear hal h hd ho hq HH hds
  go_enter Tryz.func85, Tryz.ntmps85
  go_wp2_with fail
  generalize w.alloc (.cells #[.string ⟨#[120]⟩, .string ⟨#[121]⟩, .string ⟨#[122]⟩, .string ⟨#[119]⟩, .string ⟨#[118]⟩] 9) = w0 at *
  refine (HDC.out w0 HC.out).mono ?_
  rintro e w2 ⟨A2, c2, rfl, hO2, hb2⟩
  have HC2 := Lib.hid (HC.out.up hb2)
  have HR2 := Lib.hid (HR.out.up hb2)
  have HG2 := Lib.hid (HG.out.trans (.below hb2))
  have HNM2 := Lib.hid (HNM.out.gr (.below hb2))
  have HD2 := Lib.hid hO2.rdv
  have HCP : Hid (ds.length ≤ c2) := Lib.hid hO2.cap.2
  clear hO2 hb2
  go_wp2_with fail
  refine (pick_any r p 8 w2 HR2.out (by omega) (by omega) (by omega) (by omega)).mono ?_
  rintro e w3 ⟨k, rfl, k0, k1, _, hR3, hg3⟩
  have k1 := k1 (by omega)
  have hg3 := Gr.one (S := IsR r) hg3 rfl
  have HC3 := Lib.hid (layer_rdG HC2.out HR2.out hg3)
  have HD3 := Lib.hid (decl_rdG HD2.out HR2.out hg3)
  have HG3 := Lib.hid (HG2.out.trans hg3)
  have HNM3 := Lib.hid (HNM2.out.gr hg3)
  have HR3 := Lib.hid hR3
  clear hR3 hg3 HC HR HG HNM HC2 HR2 HG2 HNM2 HD2
  by_cases hk0 : k = 0
  · subst hk0
    go_wp2_with fail
    refine (of_any r (p + 1) _ _ [⟨#[120]⟩, ⟨#[121]⟩, ⟨#[122]⟩, ⟨#[119]⟩, ⟨#[118]⟩] w3 HR3.out HNM3.out (by simp) (by simp) (by omega) (by omega)).mono ?_
    rintro e w4 ⟨n9, hn9, rfl, hR4, hg4⟩
    have hg4 : Gr (IsR r) w3 w4 := hg4
    have hn5 : n9.size ≤ 5 := by
      simp only [List.mem_cons, List.not_mem_nil, or_false] at hn9
      rcases hn9 with rfl | rfl | rfl | rfl | rfl <;> decide
    have HC4 := Lib.hid (layer_rdG HC3.out HR3.out hg4)
    have HG4 := Lib.hid (HG3.out.trans hg4)
    have HR4 := Lib.hid hR4
    clear hR4 hg4 hn9
    go_wp2_with fail
    refine (pick_any r (p + 1 + 1) 4 w4 HR4.out (by omega) (by omega) (by omega) (by omega)).mono ?_
    rintro e w5 ⟨y, rfl, y0, y1, _, hR5, hg5⟩
    have y1 := y1 (by omega)
    have hg5 := Gr.one (S := IsR r) hg5 rfl
    have HC5 := Lib.hid (layer_rdG HC4.out HR4.out hg5)
    have HG5 := Lib.hid (HG4.out.trans hg5)
    have HR5 := Lib.hid hR5
    have HSD : Hid (smD ⟨n9, 1 + y⟩) := Lib.hid ⟨by show n9.size ≤ _; omega, by show -9223372036854775808 ≤ 1 + y ∧ 1 + y ≤ 9223372036854775807; omega⟩
    clear hR5 hg5
    go_wp2_with fail
    refine (specCtxName_c c ⟨n9, 1 + y⟩ A q w5 HC5.out HQ.out HO.out.1 HSD.out).mono ?_
    rintro e w8 ⟨A8, c8, rfl, h81, h82, h83⟩
    have HD8 : Hid (Drawn r p 3010 w w8) := Lib.hid ⟨p + 1 + 1 + 1, by omega, by omega, HR5.out.up h83, HG5.out.trans (.below h83)⟩
    have H81 := Lib.hid h81
    have H82 := Lib.hid h82
    have HF := Lib.hid (ctxName_dc HO.out HSD.out)
    clear h81 h82 h83
    generalize (ctxName c ⟨n9, 1 + y⟩).1 = x9 at *
    generalize (ctxName c ⟨n9, 1 + y⟩).2 = z9 at *
    go_wp2
    refine bodyPost_ret (v := .slice A8 x9.length c8) (by simp [results, Tryz.results85, go_sem]) rfl ?_
    exact ⟨x9, A8, c8, rfl, H81.out, H82.out, HF.out, HD8.out⟩
  have gk0 : (k == 0) = false := by simpa using hk0
  clear hk0
  by_cases hk1 : k = 1
  · subst hk1
    go_wp2_with fail
    refine (of_any r (p + 1) _ _ [⟨#[120]⟩, ⟨#[121]⟩, ⟨#[122]⟩, ⟨#[119]⟩, ⟨#[118]⟩] w3 HR3.out HNM3.out (by simp) (by simp) (by omega) (by omega)).mono ?_
    rintro e w4 ⟨n9, hn9, rfl, hR4, hg4⟩
    have hg4 : Gr (IsR r) w3 w4 := hg4
    have hn5 : n9.size ≤ 5 := by
      simp only [List.mem_cons, List.not_mem_nil, or_false] at hn9
      rcases hn9 with rfl | rfl | rfl | rfl | rfl <;> decide
    have HC4 := Lib.hid (layer_rdG HC3.out HR3.out hg4)
    have HG4 := Lib.hid (HG3.out.trans hg4)
    have HR4 := Lib.hid hR4
    clear hR4 hg4 hn9
    go_wp2_with fail
    refine (pick_any r (p + 1 + 1) 4 w4 HR4.out (by omega) (by omega) (by omega) (by omega)).mono ?_
    rintro e w5 ⟨y, rfl, y0, y1, _, hR5, hg5⟩
    have y1 := y1 (by omega)
    have hg5 := Gr.one (S := IsR r) hg5 rfl
    have HC5 := Lib.hid (layer_rdG HC4.out HR4.out hg5)
    have HG5 := Lib.hid (HG4.out.trans hg5)
    have HR5 := Lib.hid hR5
    have HSD : Hid (smD ⟨n9, 1 + y⟩) := Lib.hid ⟨by show n9.size ≤ _; omega, by show -9223372036854775808 ≤ 1 + y ∧ 1 + y ≤ 9223372036854775807; omega⟩
    clear hR5 hg5
    go_wp2_with fail
    refine (specCtxName_c c ⟨n9, 1 + y⟩ A q w5 HC5.out HQ.out HO.out.1 HSD.out).mono ?_
    rintro e w8 ⟨A8, c8, rfl, h81, h82, h83⟩
    have HD8 : Hid (Drawn r p 3010 w w8) := Lib.hid ⟨p + 1 + 1 + 1, by omega, by omega, HR5.out.up h83, HG5.out.trans (.below h83)⟩
    have H81 := Lib.hid h81
    have H82 := Lib.hid h82
    have HF := Lib.hid (ctxName_dc HO.out HSD.out)
    clear h81 h82 h83
    generalize (ctxName c ⟨n9, 1 + y⟩).1 = x9 at *
    generalize (ctxName c ⟨n9, 1 + y⟩).2 = z9 at *
    go_wp2
    refine bodyPost_ret (v := .slice A8 x9.length c8) (by simp [results, Tryz.results85, go_sem]) rfl ?_
    exact ⟨x9, A8, c8, rfl, H81.out, H82.out, HF.out, HD8.out⟩
  have gk1 : (k == 1) = false := by simpa using hk1
  clear hk1
  by_cases hk2 : k = 2
  · subst hk2
    go_wp2_with fail
    refine (specCtxPush_c c A q w3 HC3.out HQ.out HO.out.1).mono ?_
    rintro e w8 ⟨A8, c8, rfl, h81, h82, h83⟩
    have HD8 : Hid (Drawn r p 3010 w w8) := Lib.hid ⟨p + 1, by omega, by omega, HR3.out.up h83, HG3.out.trans (.below h83)⟩
    have H81 := Lib.hid h81
    have H82 := Lib.hid h82
    have HF := Lib.hid (ctxPush_dc HO.out)
    clear h81 h82 h83
    generalize (ctxPush c).1 = x9 at *
    generalize (ctxPush c).2 = z9 at *
    go_wp2
    refine bodyPost_ret (v := .slice A8 x9.length c8) (by simp [results, Tryz.results85, go_sem]) rfl ?_
    exact ⟨x9, A8, c8, rfl, H81.out, H82.out, HF.out, HD8.out⟩
  have gk2 : (k == 2) = false := by simpa using hk2
  clear hk2
  by_cases hk3 : k = 3
  · subst hk3
    go_wp2_with fail
    refine (specCtxPop_c c A q w3 HC3.out HQ.out HO.out.1).mono ?_
    rintro e w8 ⟨A8, c8, rfl, h81, h82, h83⟩
    have HD8 : Hid (Drawn r p 3010 w w8) := Lib.hid ⟨p + 1, by omega, by omega, HR3.out.up h83, HG3.out.trans (.below h83)⟩
    have H81 := Lib.hid h81
    have H82 := Lib.hid h82
    have HF := Lib.hid (ctxPop_dc HO.out)
    clear h81 h82 h83
    generalize (ctxPop c).1 = x9 at *
    generalize (ctxPop c).2 = z9 at *
    go_wp2
    refine bodyPost_ret (v := .slice A8 x9.length c8) (by simp [results, Tryz.results85, go_sem]) rfl ?_
    exact ⟨x9, A8, c8, rfl, H81.out, H82.out, HF.out, HD8.out⟩
  have gk3 : (k == 3) = false := by simpa using hk3
  clear hk3
  go_wp2_with fail
  refine (l8Some_any r (p + 1) 0 A2 c2 ds w3 HR3.out HD3.out HCP.out HDO.out (by omega) (by omega) (by omega) (by omega)).mono ?_
  rintro e w5 ⟨t, A5, c5, rfl, hc5, hk5, ho5, q5, qa5, qb5, hR5, hg5⟩
  have HC5 := Lib.hid (layer_rdG HC3.out HR3.out hg5)
  have HG5 := Lib.hid (HG3.out.trans hg5)
  have HR5 := Lib.hid hR5
  have HK5 := Lib.hid hk5.rd
  have HO5 := Lib.hid ho5
  have HC5' := Lib.hid hc5
  clear hR5 hg5 hk5 ho5 hc5
  go_wp2_with fail
  refine (specCtxAssert_c c t A q A5 c5 w5 HC5.out HQ.out HO.out.1 HK5.out HC5'.out HO5.out).mono ?_
  rintro e w8 ⟨A8, c8, rfl, h81, h82, h83⟩
  have HD8 : Hid (Drawn r p 3010 w w8) := Lib.hid ⟨q5, by omega, by omega, HR5.out.up h83, HG5.out.trans (.below h83)⟩
  have H81 := Lib.hid h81
  have H82 := Lib.hid h82
  have HF := Lib.hid (ctxAssert_dc HO.out HO5.out)
  clear h81 h82 h83
  generalize (ctxAssert c t).1 = x9 at *
  generalize (ctxAssert c t).2 = z9 at *
  go_wp2
  refine bodyPost_ret (v := .slice A8 x9.length c8) (by simp [results, Tryz.results85, go_sem]) rfl ?_
  exact ⟨x9, A8, c8, rfl, H81.out, H82.out, HF.out, HD8.out⟩
end Go.Proofs.YtiahmfpfimmbgaaGreatDoor

/-! Bent contexts: what they are (plain), and a declaration appended to one layer. -/
namespace Go.Proofs.YtiahmfpfimmbgaaGreatDoor
open Go Go.RowKit

theorem set_split {c : List Ly} {k : Nat} {l : Ly} (hk : c[k]? = some l) : ∃ xs ys, c = xs ++ l :: ys ∧ ∀ l', c.set k l' = xs ++ l' :: ys := by
  have hkl : k < c.length := (List.getElem?_eq_some_iff.1 hk).1
  have hl : c[k] = l := (List.getElem?_eq_some_iff.1 hk).2
  refine ⟨c.take k, c.drop (k + 1), ?_, fun l' => ?_⟩
  · rw [← hl, ← List.drop_eq_getElem_cons hkl, List.take_append_drop]
  · rw [List.set_eq_take_append_cons_drop, if_pos hkl]
theorem dsAll_cons9 (xs ys : List Ly) (l : Ly) : dsAll (xs ++ l :: ys) = dsAll xs ++ (l.ds ++ dsAll ys) := by rw [dsAll_app]; rfl
theorem tsAll_cons9 (xs ys : List Ly) (l : Ly) : tsAll (xs ++ l :: ys) = tsAll xs ++ (l.ts ++ tsAll ys) := by rw [tsAll_app]; rfl
theorem okDC_setT {c : List Ly} {k : Nat} {l : Ly} {t : T} (h : okDC c) (hk : c[k]? = some l) (ht : T.All okT3 t) (hl : (tsAll c).length ≤ 1000) : okDC (c.set k ⟨l.ds, l.ts ++ [t]⟩) ∧ (tsAll (c.set k ⟨l.ds, l.ts ++ [t]⟩)).length = (tsAll c).length + 1 ∧ (c.set k ⟨l.ds, l.ts ++ [t]⟩)[k]? = some ⟨l.ds, l.ts ++ [t]⟩ ∧ (c.set k ⟨l.ds, l.ts ++ [t]⟩).length = c.length := by
  have hkl : k < c.length := (List.getElem?_eq_some_iff.1 hk).1
  refine ⟨?_, ?_, by rw [List.getElem?_set]; simp [hkl], by simp⟩
  all_goals obtain ⟨xs, ys, rfl, hs⟩ := set_split hk
  all_goals rw [hs]
  · obtain ⟨⟨h1, h2, h3, h4, h5⟩, h6⟩ := h
    refine ⟨⟨by simpa using h1, by rw [dsAll_cons9] at h2 ⊢; exact h2, ?_, by rw [dsAll_cons9] at h4 ⊢; exact h4, fun x hx => ?_⟩, by rw [dsAll_cons9] at h6 ⊢; exact h6⟩
    · rw [tsAll_cons9] at hl ⊢; simp at hl ⊢; omega
    · rw [tsAll_cons9] at hx h5
      simp only [List.mem_append, List.mem_singleton] at hx h5
      rcases hx with hx | ((hx | rfl) | hx)
      · exact h5 x (.inl hx)
      · exact h5 x (.inr (.inl hx))
      · exact ht
      · exact h5 x (.inr (.inr hx))
  · rw [tsAll_cons9, tsAll_cons9]; simp; omega
theorem okDC_setD {c : List Ly} {k : Nat} {l : Ly} {d : D} (h : okDC c) (hk : c[k]? = some l) (hd : d.name.size ≤ 5 ∧ 1 ≤ d.wide ∧ d.wide ≤ 4) (hl : (dsAll c).length ≤ 7) : okDC (c.set k ⟨l.ds ++ [d], l.ts⟩) ∧ (c.set k ⟨l.ds ++ [d], l.ts⟩).length = c.length := by
  refine ⟨?_, by simp⟩
  obtain ⟨xs, ys, rfl, hs⟩ := set_split hk
  rw [hs]
  obtain ⟨⟨h1, h2, h3, h4, h5⟩, h6, h7⟩ := h
  have hm : ∀ x, x ∈ dsAll (xs ++ ⟨l.ds ++ [d], l.ts⟩ :: ys) → x ∈ dsAll (xs ++ l :: ys) ∨ x = d := fun x hx => by
    rw [dsAll_cons9] at hx ⊢
    simp only [List.mem_append, List.mem_singleton] at hx ⊢
    rcases hx with hx | ((hx | rfl) | hx)
    · exact .inl (.inl hx)
    · exact .inl (.inr (.inl hx))
    · exact .inr rfl
    · exact .inl (.inr (.inr hx))
  refine ⟨⟨by simpa using h1, ?_, by rw [tsAll_cons9] at h3 ⊢; exact h3, fun x hx => ?_, by rw [tsAll_cons9] at h5 ⊢; exact h5⟩, ?_, fun x hx => ?_⟩
  · rw [dsAll_cons9] at hl ⊢; simp at hl ⊢; omega
  · rcases hm x hx with hx | rfl
    · exact h4 x hx
    · have := hd.1; omega
  · rw [dsAll_cons9] at hl ⊢; simp at hl ⊢; omega
  · rcases hm x hx with hx | rfl
    · exact h7 x hx
    · exact hd
theorem okDC_push {c : List Ly} (h : okDC c) (hl : c.length ≤ 1000) : okDC (c ++ [⟨[], []⟩]) := by
  have e1 : dsAll (c ++ [⟨[], []⟩]) = dsAll c := by rw [dsAll_app, dsAll_one]; simp
  have e2 : tsAll (c ++ [⟨[], []⟩]) = tsAll c := by rw [tsAll_app, tsAll_one]; simp
  obtain ⟨⟨h1, h2, h3, h4, h5⟩, h6⟩ := h
  exact ⟨⟨by rw [List.length_append, List.length_singleton]; omega, by rw [e1]; exact h2, by rw [e2]; exact h3, by rw [e1]; exact h4, by rw [e2]; exact h5⟩, by rw [e1]; exact h6⟩
/-- One layer's declarations have grown. -/
theorem bentD {X X' z : World} {g S M E k : Nat} {c : List Ly} {l : Ly} {ys : List D} {Ad At A9 : Option Addr} {cd ct c9 : Nat} (hk : c[k]? = some l) (hg2 : g < X.heap.size)
    (e0 : X.cell? ⟨g, k * 2, none⟩ = some (.slice Ad l.ds.length cd)) (e1 : X.cell? ⟨g, k * 2 + 1, none⟩ = some (.slice At l.ts.length ct)) (hfz : ∀ o, X.frozen? ⟨g, o, none⟩ = false) (hgl : ∃ cs9, X.heap[g]? = some (.cells cs9 58 (0, 0))) (s2 : S ≤ M) (s3 : M ≤ E) (s4 : E ≤ X.heap.size) (s5 : ¬ (S ≤ g ∧ g < E))
    (hdm : ∀ b, (Value.slice Ad l.ds.length cd).ownBlock = some b → b < M) (hod : OwnDs X S (.slice Ad l.ds.length cd) l.ds) (hru : RowU M E X (.slice At l.ts.length ct) l.ts)
    (hoth : ∀ i l9, i ≠ k → c[i]? = some l9 → ∃ u0 u1, Lay.layer.R X (fun b => b < X.heap.size ∧ b ≠ g ∧ ¬ (S ≤ b ∧ b < E)) l9 [u0, u1] ∧ X.cell? ⟨g, i * 2, none⟩ = some u0 ∧ X.cell? ⟨g, i * 2 + 1, none⟩ = some u1)
    (hb : Below X.heap.size X X') (hown : OwnDs z S (.slice A9 ys.length c9) ys) (hgr : X'.grownBy z (Value.slice Ad l.ds.length cd).ownBlock) :
    z.cell? ⟨g, k * 2, none⟩ = some (.slice Ad l.ds.length cd) ∧ z.frozen? ⟨g, k * 2, none⟩ = false ∧ Lay.layer.Rd (z.setCell ⟨g, k * 2, none⟩ (.slice A9 ys.length c9)) (some ⟨g, 0, none⟩) (c.set k ⟨ys, l.ts⟩) := by
  have hgn : (Value.slice Ad l.ds.length cd).ownBlock ≠ some g := fun e => s5 ⟨(hod.lt g e).1, by have := hdm g e; omega⟩
  have hsz : X.heap.size ≤ z.heap.size := Nat.le_trans hb.size hgr.size
  have hzb : ∀ b, b < X.heap.size → (Value.slice Ad l.ds.length cd).ownBlock ≠ some b → z.heap[b]? = X.heap[b]? := fun b h1 h2 => (hgr.block b (Nat.lt_of_lt_of_le h1 hb.size) (fun e => h2 e.symm)).trans (hb.block b h1)
  have hgz : z.heap[g]? = X.heap[g]? := hzb g hg2 hgn
  have x0 : z.cell? ⟨g, k * 2, none⟩ = some (.slice Ad l.ds.length cd) := (World.cell?_of_block (a := ⟨g, k * 2, none⟩) hgz).trans e0
  have hfar : ∀ b, b ≠ g → (z.setCell ⟨g, k * 2, none⟩ (.slice A9 ys.length c9)).heap[b]? = z.heap[b]? := fun b hb => Below.heap_setCell z ⟨g, _, none⟩ _ b hb
  have hcl : ∀ o, o ≠ k * 2 → (z.setCell ⟨g, k * 2, none⟩ (.slice A9 ys.length c9)).cell? ⟨g, o, none⟩ = X.cell? ⟨g, o, none⟩ := fun o ho => (World.cell?_setCell_other _ _ _ _ (fun e => by injection e with _ e _; omega)).trans (World.cell?_of_block (a := ⟨g, o, none⟩) hgz)
  refine ⟨x0, (World.frozen?_of_block (a := ⟨g, k * 2, none⟩) hgz).trans (hfz _), layers_rd (by rw [size_setCell]; omega) fun i l9 hl9 => ?_⟩
  have hkl : k < c.length := (List.getElem?_eq_some_iff.1 hk).1
  by_cases hi : i = k
  · subst hi
    rw [List.getElem?_set] at hl9
    simp [hkl] at hl9
    subst hl9
    refine ⟨_, _, ⟨A9, c9, At, ct, rfl, (OwnDs.cap hown).2, ?_, ?_, ?_⟩, World.cell?_setCell_same _ _ _ x0, (hcl _ (by omega)).trans e1⟩
    · obtain ⟨A8, c8, e8, h8⟩ := hru.row.form
      injection e8 with _ _ e8
      show l.ts.length ≤ ct
      omega
    · refine ((hown.at1.keep fun b hb => hfar b (fun e => ?_)).mono fun b hb => by rw [size_setCell]; exact hb.2)
      obtain ⟨cs8, h7⟩ := hown.blk hb.1
      obtain ⟨cs9, h6⟩ := hgl
      rw [e, hgz, h6] at h7
      injection h7 with h7
      injection h7 with _ h7 _
      exact absurd h7 neLD
    · refine ((TrT.sl hru.tree).keep fun b hb => (hfar b (fun e => s5 ⟨by rw [← e]; have := hb.1; omega, by rw [← e]; exact hb.2.1⟩)).trans (hzb b (by have := hb.2.1; omega) (fun e => by have := hdm b e; have := hb.1; omega))).mono fun b hb => by rw [size_setCell]; have := hb.2.1; omega
  · rw [List.getElem?_set_ne (Ne.symm hi)] at hl9
    obtain ⟨u0, u1, hr, c0, c1⟩ := hoth i l9 hi hl9
    refine ⟨u0, u1, Lay.layer.mono (fun b hb => by rw [size_setCell]; have := hb.1; omega) (Lay.layer.keep (fun b hb => (hfar b hb.2.1).trans (hzb b hb.1 (fun e => hb.2.2 ⟨(hod.lt b e).1, by have := hdm b e; omega⟩))) hr), (hcl _ (by omega)).trans c0, (hcl _ (by omega)).trans c1⟩
theorem drawn_low {r : Nat} {p q M : Int} {w w5 xw : World} (h1 : p ≤ q) (h2 : q ≤ p + M) (hR : Rdr w5 r q) (hg : Gr (IsR r) w w5) (hb : Below w.heap.size w5 xw) (hr : r < w.heap.size) : Drawn r p M w xw :=
  ⟨q, h1, h2, hR.keep fun b hb9 => hb.block b (Nat.lt_of_le_of_lt hb9 hr), hb.os.trans hg.os, hb.tape.trans hg.tape, hb.output.trans hg.output, Nat.le_trans hg.size hb.size, fun i hi hn => (hb.block i hi).trans (hg.block i hi hn)⟩
theorem AsB.fin' {lo : Nat} {X x : World} {g k : Nat} {c : List Ly} {l : Ly} {At : Option Addr} {ct : Nat} {t : T} {vk vt vz va vp : Value} {fk ft fz fa fp fe fo : Bool} (hB : BentS lo X g c k l At ct) (h : AsB lo X g k At ct l.ts t vk vt vz va vp fk ft fz fa fp fe fo x) (h1 : fk = true) (h2 : ft = true) (h3 : fa = true) (h4 : fe = true) (h5 : fo = true) :
    ∃ At' ct', BentS lo x g (c.set k ⟨l.ds, l.ts ++ [t]⟩) k ⟨l.ds, l.ts ++ [t]⟩ At' ct' := by
  subst h1 h2 h3 h4 h5
  exact AsB.fin hB h
theorem AsB.start' {lo : Nat} {X x : World} {g k : Nat} {At : Option Addr} {ct : Nat} {ts : List T} {t : T} {vk vt vz va vp : Value} {fk ft fz fa fp fe fo : Bool} (hl : lo ≤ X.heap.size) (hb : Below X.heap.size X x) (hz : fz = false) (ha : fa = false) (hk : fk = true → vk = .slice none 0 0 ∧ t.kids = [] ∧ ft = false) : AsB lo X g k At ct ts t vk vt vz va vp fk ft fz fa fp fe fo x :=
  (AsB.start (X := X) hz ha hk).up hl hb
def nmT (s : UInt8) : T := .mk 21 0 0 ⟨#[s]⟩ []
def twT : T := .mk 15 0 0 ⟨#[]⟩ [nmT 119, nmT 119]
def trT : T := .mk 24 0 0 ⟨#[]⟩ []
theorem nmT_ok (s : UInt8) : T.All okT3 (nmT s) := okT_leaf (by decide) (by decide) (by show (1 : Nat) ≤ _; decide)
theorem trT_ok : T.All okT3 trT := okT_leaf (by decide) (by decide) (by decide)
theorem twT_ok : T.All okT3 twT := okT_node (by simp) (by decide) (by decide) (fun k hk => by
  simp only [List.mem_cons, List.not_mem_nil, or_false] at hk
  rcases hk with rfl | rfl <;> exact nmT_ok _)
theorem twT_kids : ∀ i y, twT.kids[i]? = some y → y.kids = [] ∧ ∀ j u, (tcells y none 0)[j]? = some u → (#[.int .i64 21, .int .i64 0, .int .i64 0, .string ⟨#[119]⟩, .slice none 0 0, .int .i64 21, .int .i64 0, .int .i64 0, .string ⟨#[119]⟩, .slice none 0 0] : Array Value)[i * 5 + j]? = some u := fun i y hy => by
  have hy : ([nmT 119, nmT 119] : List T)[i]? = some y := hy
  match i, hy with
  | 0, hy =>
    injection hy with hy; subst hy
    exact ⟨rfl, fun j u hu => by
      match j, hu with
      | 0, hu => exact hu
      | 1, hu => exact hu
      | 2, hu => exact hu
      | 3, hu => exact hu
      | 4, hu => exact hu
      | j + 5, hu => simp [tcells] at hu⟩
  | 1, hy =>
    injection hy with hy; subst hy
    exact ⟨rfl, fun j u hu => by
      match j, hu with
      | 0, hu => exact hu
      | 1, hu => exact hu
      | 2, hu => exact hu
      | 3, hu => exact hu
      | 4, hu => exact hu
      | j + 5, hu => simp [tcells] at hu⟩
  | i + 2, hy => simp at hy
end Go.Proofs.YtiahmfpfimmbgaaGreatDoor
