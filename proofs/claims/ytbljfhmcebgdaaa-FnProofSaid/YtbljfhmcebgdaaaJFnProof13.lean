/- Draws of formulas: l4Bent. DrawUnitAll. append of one element that lies somewhere. No program is named here. Words for regions that copy a formula's outer row into a new formula. -/
import Derived.Test.YtbljfhmcebgdaaaJFnProof6
import Derived.Test.YtbljfhmcebgdaaaJFnProof12
/-! Draws of formulas: l4Bent. -/
namespace Go.Proofs.Ytbljfhmcebgdaaa
open Go Go.RowKit

/-- The cells of a row of rows. -/
theorem src_rows {w : World} {F : Nat → Prop} {A : Option Addr} {xs : List (List Int)} (h : Lay.int.slice.Sl w F A xs) : ∃ cs : List Value, Src w 1 A xs.length cs ∧ (∀ u ∈ cs, u.oneCell' = true) ∧ cs.length = xs.length ∧
    ∀ (i : Nat) (x : List Int), xs[i]? = some x → ∃ A' c', cs[i]? = some (Value.slice A' x.length c') ∧ x.length ≤ c' ∧ Lay.int.Sl w F A' x := by
  rcases Nat.eq_zero_or_pos xs.length with h0 | h0
  · have : xs = [] := List.eq_nil_of_length_eq_zero h0
    subst this
    exact ⟨[], ⟨by simp, fun h => absurd h (by simp)⟩, by simp, rfl, fun i x hx => by simp at hx⟩
  · obtain ⟨ad, rfl, _, hc⟩ := h h0
    have key : ∀ i (hi : i < xs.length), ∃ A' c', w.cell? (ad.add i) = some (.slice A' xs[i].length c') ∧ xs[i].length ≤ c' ∧ Lay.int.Sl w F A' xs[i] := fun i hi => by
      obtain ⟨vs, ⟨A', c', rfl, hl, hs⟩, hcell⟩ := hc i xs[i] (List.getElem?_eq_getElem hi)
      exact ⟨A', c', by simpa [Lay.slice] using hcell 0 _ rfl, hl, hs⟩
    refine ⟨(List.range xs.length).map fun i => (w.cell? (ad.add i)).getD undef, ⟨by simp, fun _ => ⟨ad, rfl, fun j u hu => ?_⟩⟩, fun u hu => ?_, by simp, fun i x hx => ?_⟩
    · rw [List.getElem?_map] at hu
      have hj : j < xs.length := by
        rcases Nat.lt_or_ge j xs.length with h | h
        · exact h
        · rw [List.getElem?_eq_none (by simpa using h)] at hu; cases hu
      rw [List.getElem?_range hj] at hu
      obtain ⟨A', c', hk, _⟩ := key j hj
      simp only [Option.map_some, Option.some.injEq] at hu
      rw [hk] at hu ⊢
      rw [← hu]; rfl
    · obtain ⟨i, hi, rfl⟩ := List.mem_map.1 hu
      obtain ⟨A', c', hk, _⟩ := key i (by simpa using hi)
      rw [hk]; rfl
    · have hi : i < xs.length := (List.getElem?_eq_some_iff.1 hx).1
      obtain ⟨A', c', hk, hl, hs⟩ := key i hi
      have hx' : xs[i] = x := by rw [List.getElem?_eq_getElem hi] at hx; exact Option.some.inj hx
      rw [hx'] at hk hl hs
      exact ⟨A', c', by rw [List.getElem?_map, List.getElem?_range hi, Option.map_some, hk]; rfl, hl, hs⟩
/-- A copy of the outer row: an own row of what was there. -/
theorem ownL_of_src {w w1 : World} {F S : Nat → Prop} {lo n c : Nat} {A : Option Addr} {xs : List (List Int)} {cs : List Value} (hown : w1.ownsRow lo 26 1 (.slice A n c) n cs) (hn : n = xs.length) (hb : Below w.heap.size w w1)
    (hrows : ∀ (i : Nat) (x : List Int), xs[i]? = some x → ∃ A' c', cs[i]? = some (Value.slice A' x.length c') ∧ x.length ≤ c' ∧ Lay.int.Sl w F A' x) (hF : ∀ b, F b → b < w.heap.size ∧ ¬ S b) (hlo : w.heap.size ≤ lo) : OwnL Lay.int.slice (NotIn S) 26 w1 lo (.slice A xs.length c) xs := by
  subst hn
  refine ⟨cs, hown, fun i x hx => ?_⟩
  obtain ⟨A', c', h1, h2, h3⟩ := hrows i x hx
  refine ⟨[.slice A' x.length c'], ⟨A', c', rfl, h2, (h3.below hb (fun b h => (hF b h).1)).mono fun b h => ⟨Nat.lt_of_lt_of_le (hF b h).1 hb.size, fun e => by have := (hown.lt b e).1; have := (hF b h).1; omega, (hF b h).2⟩⟩, fun j u hu => ?_⟩
  rcases j with _ | j
  · injection hu with hu
    subst hu
    show cs[i * 1 + 0]? = _
    rw [Nat.mul_one, Nat.add_zero]; exact h1
  · simp at hu

set_option maxRecDepth 100000 in
set_option maxHeartbeats 4000000 in
theorem l4Bent_any (S0 : Nat → Prop) (r n0 : Nat) (p : Int) (x : C) (A : Option Addr) (c : Nat) (w : World) (h : Rdr w r p) (hx : Lay.int.slice.Sl w (Ab S0 w) A x.list) (hS0 : ∀ b, S0 b → b < w.heap.size) (hSr : S0 r) (hc : x.list.length ≤ c) (hsm : smallL n0 x.list) (hn0 : n0 ≤ 900) (hm0 : 0 ≤ x.many) (hm1 : x.many ≤ 1000) (p0 : 0 ≤ p) (p1 : p ≤ 700000000) :
    Calls Try.prog 37 #[.pointer (some ⟨r, 0, none⟩), .agg #[.int .i64 x.many, .slice A x.list.length c]] w (RetDC S0 r p 10 (fun y => okInt y.many ∧ smallL (n0 + 1) y.list) w) := by
  obtain ⟨i0, hi0, hz0, hz1, hz2⟩ := info_parts toIntSS_info
  have hrl := h.lt
  obtain ⟨hw, hB0, hB1, hWS⟩ := two_boxes w (.cells #[.int .i64 x.many, .slice A x.list.length c] 25) (.cells #[.int .i64 0, .slice none 0 0] 25)
  have hln : x.list.length ≤ 1000 := by have := hsm.1; omega
  have hA := sl_none hx
  obtain ⟨cs, hsrc, h1c, hcl, hrows⟩ := src_rows hx
  have hsrc2 : Src (((w.alloc (.cells #[.int .i64 x.many, .slice A x.list.length c] 25)).alloc (.cells #[.int .i64 0, .slice none 0 0] 25)).alloc (.cells #[] 26)) 1 A x.list.length cs := by
    refine ⟨hsrc.1, fun h9 => ?_⟩
    obtain ⟨ad, e, hcell⟩ := hsrc.2 h9
    exact ⟨ad, e, fun j u hu => ((hw.alloc (by omega) _).cell (World.block_lt_of_cell? w _ (hcell j u hu))).trans (hcell j u hu)⟩
  have HR := Lib.hid h
  have HROWS := Lib.hid hrows
  have HXX := Lib.hid hx
  have HSM := Lib.hid hsm
  have HB0 := Lib.hid hB0
  have HB1 := Lib.hid hB1
  have HW := Lib.hid hw
  have HWS := Lib.hid hWS
  clear h hx hsm hsrc hrows hB0 hB1 hw hWS
  go_enter Try.func37, Try.ntmps37
  go_wp2_with (at_builtin; refine wpList_append_src _ (by rfl) (.tmp 6) (.tmp 8) _ (by rfl) (w.heap.size + 1 + 1) 26 i0 _ 1 24 Try.underlying23 hi0 hz0 hz1 hz2 (by rfl) (by omega) (.slice (some ⟨w.heap.size + 1 + 1, 0, none⟩) 0 0) 0 [] (by rfl) (own_lit0 HWS.out) A x.list.length c cs (by rfl) hsrc2 h1c x.list.length (by omega) (by unfold maxLen; omega) (by omega) (by simp) hA ?_; intro A1 c1 w1 hown1 hb1 _)
  clear hsrc2 h1c
  generalize hW : (w.alloc (.cells #[.int .i64 x.many, .slice A x.list.length c] 25)).alloc (.cells #[.int .i64 0, .slice none 0 0] 25) = W at *
  have hb1 : Below (w.heap.size + 1 + 1) W w1 := by
    have h9 : Below (w.heap.size + 1 + 1) W (W.alloc (.cells #[] 26)) := (Below.refl _ _).alloc (by rw [HWS.out]; exact Nat.le_refl _) _
    exact h9.trans hb1
  have hbw := HW.out.trans (hb1.mono (by omega))
  have hsw1 : w.heap.size + 1 + 1 ≤ w1.heap.size := by have := hb1.size; have := HWS.out; omega
  have HB0 := Lib.hid ((hb1.block _ (by omega)).trans HB0.out)
  have HB1 := Lib.hid ((hb1.block _ (by omega)).trans HB1.out)
  obtain ⟨S, hS⟩ : ∃ S : Nat → Prop, ∀ b, S b ↔ S0 b ∨ b = w.heap.size ∨ b = w.heap.size + 1 := ⟨fun b => S0 b ∨ b = w.heap.size ∨ b = w.heap.size + 1, fun _ => Iff.rfl⟩
  have HS := Lib.hid hS
  have HS0 : Hid (∀ b, S0 b → S b) := Lib.hid fun b hb => (hS b).2 (.inl hb)
  have HSL : Hid ((∀ b, S b → b < w.heap.size + 1 + 1) ∧ (∀ b, IsR r b → S b)) := Lib.hid ⟨fun b hb => by
    rcases (hS b).1 hb with h9 | h9 | h9
    · have := hS0 b h9; omega
    · omega
    · omega, fun b hb => (hS b).2 (.inl (by rw [show b = r from hb]; exact hSr))⟩
  have hown := ownL_of_src (w := w) (S := S) (by simpa using hown1) rfl hbw HROWS.out (fun b hb => ⟨hb.1, fun e => by
    rcases (hS b).1 e with h9 | h9 | h9
    · exact hb.2 h9
    · have := hb.1; omega
    · have := hb.1; omega⟩) (by omega)
  have hR1 := HR.out.up hbw
  have hg1 : Gr (IsR r) w w1 := .below hbw
  clear hown1 hb1 hbw hW hS HROWS HW HWS HR
  go_wp2_with fail
  refine (pick_any r p 60 w1 hR1 (by omega) (by omega) (by omega) (by omega)).mono ?_
  rintro e w2 ⟨k, rfl, k0, _, _, hR2, hg2⟩
  have hg2 := Gr.one (S := IsR r) hg2 rfl
  have HB0 := Lib.hid (hg2.heap (by show ¬ _ = r; omega) HB0.out)
  have HB1 := Lib.hid (hg2.heap (by show ¬ _ = r; omega) HB1.out)
  have hown2 := hown.gr (hg2.mono HSL.out.2) HSL.out.1
  have hgg2 := hg1.trans hg2
  have hs2 := hg2.size
  clear hown hR1 hg1 hg2
  by_cases hk0 : k = 0
  · subst hk0
    obtain ⟨ps, hps⟩ : ∃ ps, ps = x.list ++ [[x.many + 1]] := ⟨_, rfl⟩
    have HPS := Lib.hid hps
    have e1 : IntKind.i64.wrap (x.many + 1) = x.many + 1 := IntWalk.i64_in _ (by omega)
    have hal : Below w2.heap.size w2 (w2.alloc (.cells #[.int .i64 (x.many + 1)] 3)) := (Below.refl _ _).alloc (Nat.le_refl _) _
    have hown3 := hown2.up (Stay.notIn S) hal
    have hR3 := hR2.up hal
    have hgg3 := hgg2.up hal
    have HB03 := Lib.hid ((hal.block _ (by omega)).trans HB0.out)
    have HB13 := Lib.hid ((hal.block _ (by omega)).trans HB1.out)
    have hel : Lay.int.slice.R (w2.alloc (.cells #[.int .i64 (x.many + 1)] 3)) (fun b => b < (w2.alloc (.cells #[.int .i64 (x.many + 1)] 3)).heap.size ∧ (Value.slice A1 x.list.length c1).ownBlock ≠ some b ∧ ¬ S b) [x.many + 1] [.slice (some ⟨w2.heap.size, 0, none⟩) 1 1] := by
      refine ⟨some ⟨w2.heap.size, 0, none⟩, 1, rfl, by simp, (lit_sl (S := fun b => b < w2.heap.size) w2 [x.many + 1] _ 3 rfl (by simp)).mono fun b hb => ⟨hb.1, fun e => hb.2 (hown2.lt b e).2, fun e => hb.2 ?_⟩⟩
      show b < w2.heap.size
      have := HSL.out.1 b e; omega
    have hw3 : w.heap.size + 1 + 1 ≤ (w2.alloc (.cells #[.int .i64 (x.many + 1)] 3)).heap.size := by have := hal.size; omega
    have hw3e : (w2.alloc (.cells #[.int .i64 (x.many + 1)] 3)).heap.size = w2.heap.size + 1 := by simp
    have v0 : w2.cell? ⟨w.heap.size, 0, none⟩ = some (.int .i64 x.many) := (cell_of_block HB0.out 0).1
    clear hps hal hown2 hR2 hgg2
    go_wp2_with (at_builtin; refine wpList_append_row (L := Lay.int.slice) (Q := NotIn S) (ys := ps) (xs := x.list) (c := c1) (A := A1) (by rfl) (.tmp 14) (.tmp 19) (by rfl) Try.underlying23 hi0 hz0 hz1 hz2 (by rfl) (by decide) (by rfl) (by simp [Act.eval]) hown3 (Stay.notIn S) hel (fun _ h => h) (by simp [Value.oneCell']) (by omega) (by omega) hw3 HPS.out ?_; intro A4 c4 w4 hown4 hg4 hbk4; have HB04 := Lib.hid ((hg4.block w.heap.size (by omega) (fun e => by have := (hown3.lt _ e.symm).1; omega)).trans HB03.out); have HB14 := Lib.hid ((hg4.block (w.heap.size + 1) (by omega) (fun e => by have := (hown3.lt _ e.symm).1; omega)).trans HB13.out); clear v0; have v0 : w4.cell? ⟨w.heap.size, 0, none⟩ = some (.int .i64 x.many) := (cell_of_block HB04.out 0).1; have v1 : w4.cell? ⟨w.heap.size, 1, none⟩ = some (.slice A x.list.length c) := (cell_of_block HB04.out 1).1; have f0 : w4.frozen? ⟨w.heap.size, 0, none⟩ = false := (cell_of_block HB04.out 0).2; have f1 : w4.frozen? ⟨w.heap.size, 1, none⟩ = false := (cell_of_block HB04.out 1).2; have u0 : w4.cell? ⟨w.heap.size + 1, 0, none⟩ = some (.int .i64 0) := (cell_of_block HB14.out 0).1; have u1 : w4.cell? ⟨w.heap.size + 1, 1, none⟩ = some (.slice none 0 0) := (cell_of_block HB14.out 1).1; have g0 : w4.frozen? ⟨w.heap.size + 1, 0, none⟩ = false := (cell_of_block HB14.out 0).2; have g1 : w4.frozen? ⟨w.heap.size + 1, 1, none⟩ = false := (cell_of_block HB14.out 1).2)
    have hR4 := hR3.own hg4 (fun g e => by have := (hown3.lt g e).1; omega)
    have hgg4 := hgg3.own hg4 (fun g e => by have := (hown3.lt g e).1; omega)
    have hset : Gr S w4 (((w4.setCell ⟨w.heap.size, 1, none⟩ (.slice A4 ps.length c4)).setCell ⟨w.heap.size + 1, 0, none⟩ (.int .i64 x.many)).setCell ⟨w.heap.size + 1, 1, none⟩ (.slice A4 ps.length c4)) := (((Gr.refl _ _).set _ _ _ (.inl ((HS.out _).2 (.inr (.inl rfl))))).set _ _ _ (.inl ((HS.out _).2 (.inr (.inr rfl))))).set _ _ _ (.inl ((HS.out _).2 (.inr (.inr rfl))))
    refine bodyPost_ret (v := .agg #[.int .i64 (x.many), .slice A4 ps.length c4]) (by simp [results, Try.results37, go_sem, v0, v1, f0, f1, u0, u1, g0, g1]) rfl ⟨⟨x.many, ps⟩, A4, c4, rfl, hown4.cap.2, ?_, ⟨by show okInt x.many; unfold okInt; omega, by show smallL _ ps; rw [HPS.out]; exact HSM.out.snoc (by simp) (by intro y hy; simp at hy; unfold okInt; omega)⟩, p + 1, by omega, by omega, ((hR4.set (by omega)).set (by omega)).set (by omega), ((hgg4.set _ _ _ (.inr (by omega))).set _ _ _ (.inr (by omega))).set _ _ _ (.inr (by omega))⟩
    exact ((hown4.ab HSL.out.1).gr hset).ab_mono fun b _ hb => HS0.out b hb
  have hkb0 : (k == 0) = false := by simpa using hk0
  by_cases hk1 : k = 1
  · subst hk1
    obtain ⟨ps, hps⟩ : ∃ ps, ps = x.list ++ [[1, -1]] := ⟨_, rfl⟩
    have HPS := Lib.hid hps
    have hal : Below w2.heap.size w2 (w2.alloc (.cells #[.int .i64 (1), .int .i64 (-1)] 3)) := (Below.refl _ _).alloc (Nat.le_refl _) _
    have hown3 := hown2.up (Stay.notIn S) hal
    have hR3 := hR2.up hal
    have hgg3 := hgg2.up hal
    have HB03 := Lib.hid ((hal.block _ (by omega)).trans HB0.out)
    have HB13 := Lib.hid ((hal.block _ (by omega)).trans HB1.out)
    have hel : Lay.int.slice.R (w2.alloc (.cells #[.int .i64 (1), .int .i64 (-1)] 3)) (fun b => b < (w2.alloc (.cells #[.int .i64 (1), .int .i64 (-1)] 3)).heap.size ∧ (Value.slice A1 x.list.length c1).ownBlock ≠ some b ∧ ¬ S b) [1, -1] [.slice (some ⟨w2.heap.size, 0, none⟩) 2 2] := by
      refine ⟨some ⟨w2.heap.size, 0, none⟩, 2, rfl, by simp, (lit_sl (S := fun b => b < w2.heap.size) w2 [1, -1] _ 3 rfl (by simp)).mono fun b hb => ⟨hb.1, fun e => hb.2 (hown2.lt b e).2, fun e => hb.2 ?_⟩⟩
      show b < w2.heap.size
      have := HSL.out.1 b e; omega
    have hw3 : w.heap.size + 1 + 1 ≤ (w2.alloc (.cells #[.int .i64 (1), .int .i64 (-1)] 3)).heap.size := by have := hal.size; omega
    have hw3e : (w2.alloc (.cells #[.int .i64 (1), .int .i64 (-1)] 3)).heap.size = w2.heap.size + 1 := by simp
    have v0 : w2.cell? ⟨w.heap.size, 0, none⟩ = some (.int .i64 x.many) := (cell_of_block HB0.out 0).1
    clear hps hal hown2 hR2 hgg2
    go_wp2_with (at_builtin; refine wpList_append_row (L := Lay.int.slice) (Q := NotIn S) (ys := ps) (xs := x.list) (c := c1) (A := A1) (by rfl) (.tmp 24) (.tmp 26) (by rfl) Try.underlying23 hi0 hz0 hz1 hz2 (by rfl) (by decide) (by rfl) (by simp [Act.eval]) hown3 (Stay.notIn S) hel (fun _ h => h) (by simp [Value.oneCell']) (by omega) (by omega) hw3 HPS.out ?_; intro A4 c4 w4 hown4 hg4 hbk4; have HB04 := Lib.hid ((hg4.block w.heap.size (by omega) (fun e => by have := (hown3.lt _ e.symm).1; omega)).trans HB03.out); have HB14 := Lib.hid ((hg4.block (w.heap.size + 1) (by omega) (fun e => by have := (hown3.lt _ e.symm).1; omega)).trans HB13.out); clear v0; have v0 : w4.cell? ⟨w.heap.size, 0, none⟩ = some (.int .i64 x.many) := (cell_of_block HB04.out 0).1; have v1 : w4.cell? ⟨w.heap.size, 1, none⟩ = some (.slice A x.list.length c) := (cell_of_block HB04.out 1).1; have f0 : w4.frozen? ⟨w.heap.size, 0, none⟩ = false := (cell_of_block HB04.out 0).2; have f1 : w4.frozen? ⟨w.heap.size, 1, none⟩ = false := (cell_of_block HB04.out 1).2; have u0 : w4.cell? ⟨w.heap.size + 1, 0, none⟩ = some (.int .i64 0) := (cell_of_block HB14.out 0).1; have u1 : w4.cell? ⟨w.heap.size + 1, 1, none⟩ = some (.slice none 0 0) := (cell_of_block HB14.out 1).1; have g0 : w4.frozen? ⟨w.heap.size + 1, 0, none⟩ = false := (cell_of_block HB14.out 0).2; have g1 : w4.frozen? ⟨w.heap.size + 1, 1, none⟩ = false := (cell_of_block HB14.out 1).2)
    have hR4 := hR3.own hg4 (fun g e => by have := (hown3.lt g e).1; omega)
    have hgg4 := hgg3.own hg4 (fun g e => by have := (hown3.lt g e).1; omega)
    have hset : Gr S w4 (((w4.setCell ⟨w.heap.size, 1, none⟩ (.slice A4 ps.length c4)).setCell ⟨w.heap.size + 1, 0, none⟩ (.int .i64 x.many)).setCell ⟨w.heap.size + 1, 1, none⟩ (.slice A4 ps.length c4)) := (((Gr.refl _ _).set _ _ _ (.inl ((HS.out _).2 (.inr (.inl rfl))))).set _ _ _ (.inl ((HS.out _).2 (.inr (.inr rfl))))).set _ _ _ (.inl ((HS.out _).2 (.inr (.inr rfl))))
    refine bodyPost_ret (v := .agg #[.int .i64 (x.many), .slice A4 ps.length c4]) (by simp [results, Try.results37, go_sem, v0, v1, f0, f1, u0, u1, g0, g1]) rfl ⟨⟨x.many, ps⟩, A4, c4, rfl, hown4.cap.2, ?_, ⟨by show okInt x.many; unfold okInt; omega, by show smallL _ ps; rw [HPS.out]; exact HSM.out.snoc (by simp) (by intro y hy; simp at hy; unfold okInt; omega)⟩, p + 1, by omega, by omega, ((hR4.set (by omega)).set (by omega)).set (by omega), ((hgg4.set _ _ _ (.inr (by omega))).set _ _ _ (.inr (by omega))).set _ _ _ (.inr (by omega))⟩
    exact ((hown4.ab HSL.out.1).gr hset).ab_mono fun b _ hb => HS0.out b hb
  have hkb1 : (k == 1) = false := by simpa using hk1
  by_cases hk2 : k = 2
  · subst hk2
    obtain ⟨ps, hps⟩ : ∃ ps, ps = x.list ++ [[0]] := ⟨_, rfl⟩
    have HPS := Lib.hid hps
    have hal : Below w2.heap.size w2 (w2.alloc (.cells #[.int .i64 (0)] 3)) := (Below.refl _ _).alloc (Nat.le_refl _) _
    have hown3 := hown2.up (Stay.notIn S) hal
    have hR3 := hR2.up hal
    have hgg3 := hgg2.up hal
    have HB03 := Lib.hid ((hal.block _ (by omega)).trans HB0.out)
    have HB13 := Lib.hid ((hal.block _ (by omega)).trans HB1.out)
    have hel : Lay.int.slice.R (w2.alloc (.cells #[.int .i64 (0)] 3)) (fun b => b < (w2.alloc (.cells #[.int .i64 (0)] 3)).heap.size ∧ (Value.slice A1 x.list.length c1).ownBlock ≠ some b ∧ ¬ S b) [0] [.slice (some ⟨w2.heap.size, 0, none⟩) 1 1] := by
      refine ⟨some ⟨w2.heap.size, 0, none⟩, 1, rfl, by simp, (lit_sl (S := fun b => b < w2.heap.size) w2 [0] _ 3 rfl (by simp)).mono fun b hb => ⟨hb.1, fun e => hb.2 (hown2.lt b e).2, fun e => hb.2 ?_⟩⟩
      show b < w2.heap.size
      have := HSL.out.1 b e; omega
    have hw3 : w.heap.size + 1 + 1 ≤ (w2.alloc (.cells #[.int .i64 (0)] 3)).heap.size := by have := hal.size; omega
    have hw3e : (w2.alloc (.cells #[.int .i64 (0)] 3)).heap.size = w2.heap.size + 1 := by simp
    have v0 : w2.cell? ⟨w.heap.size, 0, none⟩ = some (.int .i64 x.many) := (cell_of_block HB0.out 0).1
    clear hps hal hown2 hR2 hgg2
    go_wp2_with (at_builtin; refine wpList_append_row (L := Lay.int.slice) (Q := NotIn S) (ys := ps) (xs := x.list) (c := c1) (A := A1) (by rfl) (.tmp 31) (.tmp 33) (by rfl) Try.underlying23 hi0 hz0 hz1 hz2 (by rfl) (by decide) (by rfl) (by simp [Act.eval]) hown3 (Stay.notIn S) hel (fun _ h => h) (by simp [Value.oneCell']) (by omega) (by omega) hw3 HPS.out ?_; intro A4 c4 w4 hown4 hg4 hbk4; have HB04 := Lib.hid ((hg4.block w.heap.size (by omega) (fun e => by have := (hown3.lt _ e.symm).1; omega)).trans HB03.out); have HB14 := Lib.hid ((hg4.block (w.heap.size + 1) (by omega) (fun e => by have := (hown3.lt _ e.symm).1; omega)).trans HB13.out); clear v0; have v0 : w4.cell? ⟨w.heap.size, 0, none⟩ = some (.int .i64 x.many) := (cell_of_block HB04.out 0).1; have v1 : w4.cell? ⟨w.heap.size, 1, none⟩ = some (.slice A x.list.length c) := (cell_of_block HB04.out 1).1; have f0 : w4.frozen? ⟨w.heap.size, 0, none⟩ = false := (cell_of_block HB04.out 0).2; have f1 : w4.frozen? ⟨w.heap.size, 1, none⟩ = false := (cell_of_block HB04.out 1).2; have u0 : w4.cell? ⟨w.heap.size + 1, 0, none⟩ = some (.int .i64 0) := (cell_of_block HB14.out 0).1; have u1 : w4.cell? ⟨w.heap.size + 1, 1, none⟩ = some (.slice none 0 0) := (cell_of_block HB14.out 1).1; have g0 : w4.frozen? ⟨w.heap.size + 1, 0, none⟩ = false := (cell_of_block HB14.out 0).2; have g1 : w4.frozen? ⟨w.heap.size + 1, 1, none⟩ = false := (cell_of_block HB14.out 1).2)
    have hR4 := hR3.own hg4 (fun g e => by have := (hown3.lt g e).1; omega)
    have hgg4 := hgg3.own hg4 (fun g e => by have := (hown3.lt g e).1; omega)
    have hset : Gr S w4 (((w4.setCell ⟨w.heap.size, 1, none⟩ (.slice A4 ps.length c4)).setCell ⟨w.heap.size + 1, 0, none⟩ (.int .i64 x.many)).setCell ⟨w.heap.size + 1, 1, none⟩ (.slice A4 ps.length c4)) := (((Gr.refl _ _).set _ _ _ (.inl ((HS.out _).2 (.inr (.inl rfl))))).set _ _ _ (.inl ((HS.out _).2 (.inr (.inr rfl))))).set _ _ _ (.inl ((HS.out _).2 (.inr (.inr rfl))))
    refine bodyPost_ret (v := .agg #[.int .i64 (x.many), .slice A4 ps.length c4]) (by simp [results, Try.results37, go_sem, v0, v1, f0, f1, u0, u1, g0, g1]) rfl ⟨⟨x.many, ps⟩, A4, c4, rfl, hown4.cap.2, ?_, ⟨by show okInt x.many; unfold okInt; omega, by show smallL _ ps; rw [HPS.out]; exact HSM.out.snoc (by simp) (by intro y hy; simp at hy; unfold okInt; omega)⟩, p + 1, by omega, by omega, ((hR4.set (by omega)).set (by omega)).set (by omega), ((hgg4.set _ _ _ (.inr (by omega))).set _ _ _ (.inr (by omega))).set _ _ _ (.inr (by omega))⟩
    exact ((hown4.ab HSL.out.1).gr hset).ab_mono fun b _ hb => HS0.out b hb
  have hkb2 : (k == 2) = false := by simpa using hk2
  by_cases hk3 : k = 3
  · subst hk3
    have e1 : IntKind.i64.wrap (x.many + 3) = x.many + 3 := IntWalk.i64_in _ (by omega)
    have v0 : w2.cell? ⟨w.heap.size, 0, none⟩ = some (.int .i64 x.many) := (cell_of_block HB0.out 0).1
    have hal : Below w2.heap.size w2 (w2.alloc (.cells #[.int .i64 (-1), .int .i64 0, .int .i64 701, .int .i64 9223372036854775807, .int .i64 (x.many + 3)] 3)) := (Below.refl _ _).alloc (Nat.le_refl _) _
    have hsl := lit_sl (S := IsR r) w2 [-1, 0, 701, 9223372036854775807, x.many + 3] _ 3 rfl (by show ¬ _ = r; omega)
    have HN := Lib.hid (num_any r (p + 1) _ 5 _ _ (hR2.up hal) hsl (by simp) (by simp) (by omega) (by omega))
    have HB03 := Lib.hid ((hal.block _ (by omega)).trans HB0.out)
    have HB13 := Lib.hid ((hal.block _ (by omega)).trans HB1.out)
    have hgg3 := hgg2.up hal
    have hown3 := hown2.up (Stay.notIn S) hal
    clear hal hsl hown2 hR2 hgg2
    go_wp2_with fail
    clear v0
    refine HN.out.mono ?_
    clear HN
    rintro e w4 ⟨y, hy, rfl, hR4, hg4⟩
    have HY : Hid (okInt y) := Lib.hid (mem_lit hy (by intro z hz; simp at hz; unfold okInt; omega))
    have HB04 := Lib.hid (hg4.heap (by show ¬ _ = r; omega) HB03.out)
    have HB14 := Lib.hid (hg4.heap (by show ¬ _ = r; omega) HB13.out)
    have hgg4 := hgg3.trans hg4
    have hs4 := hg4.size
    have HXS : Hid (Lay.int.slice.Sl w4 (Ab (fun b => S b) w4) A x.list) := Lib.hid ((HXX.out.keep fun b hb => hgg4.block b hb.1 (fun e => hb.2 (by rw [show b = r from e]; exact hSr))).mono fun b hb => ⟨Nat.lt_of_lt_of_le hb.1 hgg4.size, fun e => by rcases (HS.out b).1 e with h9 | h9 | h9 <;> first | exact hb.2 h9 | (have := hb.1; omega)⟩)
    clear hy hg4 hgg3 hown3
    have v0 : w4.cell? ⟨w.heap.size, 0, none⟩ = some (.int .i64 x.many) := (cell_of_block HB04.out 0).1
    have v1 : w4.cell? ⟨w.heap.size, 1, none⟩ = some (.slice A x.list.length c) := (cell_of_block HB04.out 1).1
    have f0 : w4.frozen? ⟨w.heap.size, 0, none⟩ = false := (cell_of_block HB04.out 0).2
    have f1 : w4.frozen? ⟨w.heap.size, 1, none⟩ = false := (cell_of_block HB04.out 1).2
    have u0 : w4.cell? ⟨w.heap.size + 1, 0, none⟩ = some (.int .i64 0) := (cell_of_block HB14.out 0).1
    have u1 : w4.cell? ⟨w.heap.size + 1, 1, none⟩ = some (.slice none 0 0) := (cell_of_block HB14.out 1).1
    have g0 : w4.frozen? ⟨w.heap.size + 1, 0, none⟩ = false := (cell_of_block HB14.out 0).2
    have g1 : w4.frozen? ⟨w.heap.size + 1, 1, none⟩ = false := (cell_of_block HB14.out 1).2
    go_wp2
    have hset : Gr (fun b => S b) w4 (((w4.setCell ⟨w.heap.size, 0, none⟩ (.int .i64 y)).setCell ⟨w.heap.size + 1, 0, none⟩ (.int .i64 y)).setCell ⟨w.heap.size + 1, 1, none⟩ (.slice A x.list.length c)) := (((Gr.refl _ _).set _ _ _ (.inl ((HS.out _).2 (.inr (.inl rfl))))).set _ _ _ (.inl ((HS.out _).2 (.inr (.inr rfl))))).set _ _ _ (.inl ((HS.out _).2 (.inr (.inr rfl))))
    refine bodyPost_ret (v := .agg #[.int .i64 (y), .slice A x.list.length c]) (by simp [results, Try.results37, go_sem, v0, v1, f0, f1, u0, u1, g0, g1]) rfl ⟨⟨y, x.list⟩, A, c, rfl, hc, ?_, ⟨HY.out, HSM.out.mono (by omega)⟩, p + 1 + 1, by omega, by omega, ((hR4.set (by omega)).set (by omega)).set (by omega), ((hgg4.set _ _ _ (.inr (by omega))).set _ _ _ (.inr (by omega))).set _ _ _ (.inr (by omega))⟩
    exact (HXS.out.gr hset).ab_mono fun b _ hb => HS0.out b hb
  have hkb3 : (k == 3) = false := by simpa using hk3
  by_cases hk4 : k = 4
  · subst hk4
    obtain ⟨ps, hps⟩ : ∃ ps, ps = x.list ++ [[-9223372036854775808]] := ⟨_, rfl⟩
    have HPS := Lib.hid hps
    have hal : Below w2.heap.size w2 (w2.alloc (.cells #[.int .i64 (-9223372036854775808)] 3)) := (Below.refl _ _).alloc (Nat.le_refl _) _
    have hown3 := hown2.up (Stay.notIn S) hal
    have hR3 := hR2.up hal
    have hgg3 := hgg2.up hal
    have HB03 := Lib.hid ((hal.block _ (by omega)).trans HB0.out)
    have HB13 := Lib.hid ((hal.block _ (by omega)).trans HB1.out)
    have hel : Lay.int.slice.R (w2.alloc (.cells #[.int .i64 (-9223372036854775808)] 3)) (fun b => b < (w2.alloc (.cells #[.int .i64 (-9223372036854775808)] 3)).heap.size ∧ (Value.slice A1 x.list.length c1).ownBlock ≠ some b ∧ ¬ S b) [-9223372036854775808] [.slice (some ⟨w2.heap.size, 0, none⟩) 1 1] := by
      refine ⟨some ⟨w2.heap.size, 0, none⟩, 1, rfl, by simp, (lit_sl (S := fun b => b < w2.heap.size) w2 [-9223372036854775808] _ 3 rfl (by simp)).mono fun b hb => ⟨hb.1, fun e => hb.2 (hown2.lt b e).2, fun e => hb.2 ?_⟩⟩
      show b < w2.heap.size
      have := HSL.out.1 b e; omega
    have hw3 : w.heap.size + 1 + 1 ≤ (w2.alloc (.cells #[.int .i64 (-9223372036854775808)] 3)).heap.size := by have := hal.size; omega
    have hw3e : (w2.alloc (.cells #[.int .i64 (-9223372036854775808)] 3)).heap.size = w2.heap.size + 1 := by simp
    have v0 : w2.cell? ⟨w.heap.size, 0, none⟩ = some (.int .i64 x.many) := (cell_of_block HB0.out 0).1
    clear hps hal hown2 hR2 hgg2
    go_wp2_with (at_builtin; refine wpList_append_row (L := Lay.int.slice) (Q := NotIn S) (ys := ps) (xs := x.list) (c := c1) (A := A1) (by rfl) (.tmp 47) (.tmp 49) (by rfl) Try.underlying23 hi0 hz0 hz1 hz2 (by rfl) (by decide) (by rfl) (by simp [Act.eval]) hown3 (Stay.notIn S) hel (fun _ h => h) (by simp [Value.oneCell']) (by omega) (by omega) hw3 HPS.out ?_; intro A4 c4 w4 hown4 hg4 hbk4; have HB04 := Lib.hid ((hg4.block w.heap.size (by omega) (fun e => by have := (hown3.lt _ e.symm).1; omega)).trans HB03.out); have HB14 := Lib.hid ((hg4.block (w.heap.size + 1) (by omega) (fun e => by have := (hown3.lt _ e.symm).1; omega)).trans HB13.out); clear v0; have v0 : w4.cell? ⟨w.heap.size, 0, none⟩ = some (.int .i64 x.many) := (cell_of_block HB04.out 0).1; have v1 : w4.cell? ⟨w.heap.size, 1, none⟩ = some (.slice A x.list.length c) := (cell_of_block HB04.out 1).1; have f0 : w4.frozen? ⟨w.heap.size, 0, none⟩ = false := (cell_of_block HB04.out 0).2; have f1 : w4.frozen? ⟨w.heap.size, 1, none⟩ = false := (cell_of_block HB04.out 1).2; have u0 : w4.cell? ⟨w.heap.size + 1, 0, none⟩ = some (.int .i64 0) := (cell_of_block HB14.out 0).1; have u1 : w4.cell? ⟨w.heap.size + 1, 1, none⟩ = some (.slice none 0 0) := (cell_of_block HB14.out 1).1; have g0 : w4.frozen? ⟨w.heap.size + 1, 0, none⟩ = false := (cell_of_block HB14.out 0).2; have g1 : w4.frozen? ⟨w.heap.size + 1, 1, none⟩ = false := (cell_of_block HB14.out 1).2)
    have hR4 := hR3.own hg4 (fun g e => by have := (hown3.lt g e).1; omega)
    have hgg4 := hgg3.own hg4 (fun g e => by have := (hown3.lt g e).1; omega)
    have hset : Gr S w4 (((w4.setCell ⟨w.heap.size, 1, none⟩ (.slice A4 ps.length c4)).setCell ⟨w.heap.size + 1, 0, none⟩ (.int .i64 x.many)).setCell ⟨w.heap.size + 1, 1, none⟩ (.slice A4 ps.length c4)) := (((Gr.refl _ _).set _ _ _ (.inl ((HS.out _).2 (.inr (.inl rfl))))).set _ _ _ (.inl ((HS.out _).2 (.inr (.inr rfl))))).set _ _ _ (.inl ((HS.out _).2 (.inr (.inr rfl))))
    refine bodyPost_ret (v := .agg #[.int .i64 (x.many), .slice A4 ps.length c4]) (by simp [results, Try.results37, go_sem, v0, v1, f0, f1, u0, u1, g0, g1]) rfl ⟨⟨x.many, ps⟩, A4, c4, rfl, hown4.cap.2, ?_, ⟨by show okInt x.many; unfold okInt; omega, by show smallL _ ps; rw [HPS.out]; exact HSM.out.snoc (by simp) (by intro y hy; simp at hy; unfold okInt; omega)⟩, p + 1, by omega, by omega, ((hR4.set (by omega)).set (by omega)).set (by omega), ((hgg4.set _ _ _ (.inr (by omega))).set _ _ _ (.inr (by omega))).set _ _ _ (.inr (by omega))⟩
    exact ((hown4.ab HSL.out.1).gr hset).ab_mono fun b _ hb => HS0.out b hb
  have hkb4 : (k == 4) = false := by simpa using hk4
  by_cases hk5 : k = 5
  · subst hk5
    obtain ⟨ps, hps⟩ : ∃ ps, ps = x.list ++ [[2, 1]] := ⟨_, rfl⟩
    have HPS := Lib.hid hps
    have hal : Below w2.heap.size w2 (w2.alloc (.cells #[.int .i64 (2), .int .i64 (1)] 3)) := (Below.refl _ _).alloc (Nat.le_refl _) _
    have hown3 := hown2.up (Stay.notIn S) hal
    have hR3 := hR2.up hal
    have hgg3 := hgg2.up hal
    have HB03 := Lib.hid ((hal.block _ (by omega)).trans HB0.out)
    have HB13 := Lib.hid ((hal.block _ (by omega)).trans HB1.out)
    have hel : Lay.int.slice.R (w2.alloc (.cells #[.int .i64 (2), .int .i64 (1)] 3)) (fun b => b < (w2.alloc (.cells #[.int .i64 (2), .int .i64 (1)] 3)).heap.size ∧ (Value.slice A1 x.list.length c1).ownBlock ≠ some b ∧ ¬ S b) [2, 1] [.slice (some ⟨w2.heap.size, 0, none⟩) 2 2] := by
      refine ⟨some ⟨w2.heap.size, 0, none⟩, 2, rfl, by simp, (lit_sl (S := fun b => b < w2.heap.size) w2 [2, 1] _ 3 rfl (by simp)).mono fun b hb => ⟨hb.1, fun e => hb.2 (hown2.lt b e).2, fun e => hb.2 ?_⟩⟩
      show b < w2.heap.size
      have := HSL.out.1 b e; omega
    have hw3 : w.heap.size + 1 + 1 ≤ (w2.alloc (.cells #[.int .i64 (2), .int .i64 (1)] 3)).heap.size := by have := hal.size; omega
    have hw3e : (w2.alloc (.cells #[.int .i64 (2), .int .i64 (1)] 3)).heap.size = w2.heap.size + 1 := by simp
    have v0 : w2.cell? ⟨w.heap.size, 0, none⟩ = some (.int .i64 x.many) := (cell_of_block HB0.out 0).1
    clear hps hal hown2 hR2 hgg2
    go_wp2_with (at_builtin; refine wpList_append_row (L := Lay.int.slice) (Q := NotIn S) (ys := ps) (xs := x.list) (c := c1) (A := A1) (by rfl) (.tmp 54) (.tmp 56) (by rfl) Try.underlying23 hi0 hz0 hz1 hz2 (by rfl) (by decide) (by rfl) (by simp [Act.eval]) hown3 (Stay.notIn S) hel (fun _ h => h) (by simp [Value.oneCell']) (by omega) (by omega) hw3 HPS.out ?_; intro A4 c4 w4 hown4 hg4 hbk4; have HB04 := Lib.hid ((hg4.block w.heap.size (by omega) (fun e => by have := (hown3.lt _ e.symm).1; omega)).trans HB03.out); have HB14 := Lib.hid ((hg4.block (w.heap.size + 1) (by omega) (fun e => by have := (hown3.lt _ e.symm).1; omega)).trans HB13.out); clear v0; have v0 : w4.cell? ⟨w.heap.size, 0, none⟩ = some (.int .i64 x.many) := (cell_of_block HB04.out 0).1; have v1 : w4.cell? ⟨w.heap.size, 1, none⟩ = some (.slice A x.list.length c) := (cell_of_block HB04.out 1).1; have f0 : w4.frozen? ⟨w.heap.size, 0, none⟩ = false := (cell_of_block HB04.out 0).2; have f1 : w4.frozen? ⟨w.heap.size, 1, none⟩ = false := (cell_of_block HB04.out 1).2; have u0 : w4.cell? ⟨w.heap.size + 1, 0, none⟩ = some (.int .i64 0) := (cell_of_block HB14.out 0).1; have u1 : w4.cell? ⟨w.heap.size + 1, 1, none⟩ = some (.slice none 0 0) := (cell_of_block HB14.out 1).1; have g0 : w4.frozen? ⟨w.heap.size + 1, 0, none⟩ = false := (cell_of_block HB14.out 0).2; have g1 : w4.frozen? ⟨w.heap.size + 1, 1, none⟩ = false := (cell_of_block HB14.out 1).2)
    have hR4 := hR3.own hg4 (fun g e => by have := (hown3.lt g e).1; omega)
    have hgg4 := hgg3.own hg4 (fun g e => by have := (hown3.lt g e).1; omega)
    have hset : Gr S w4 (((w4.setCell ⟨w.heap.size, 1, none⟩ (.slice A4 ps.length c4)).setCell ⟨w.heap.size + 1, 0, none⟩ (.int .i64 x.many)).setCell ⟨w.heap.size + 1, 1, none⟩ (.slice A4 ps.length c4)) := (((Gr.refl _ _).set _ _ _ (.inl ((HS.out _).2 (.inr (.inl rfl))))).set _ _ _ (.inl ((HS.out _).2 (.inr (.inr rfl))))).set _ _ _ (.inl ((HS.out _).2 (.inr (.inr rfl))))
    refine bodyPost_ret (v := .agg #[.int .i64 (x.many), .slice A4 ps.length c4]) (by simp [results, Try.results37, go_sem, v0, v1, f0, f1, u0, u1, g0, g1]) rfl ⟨⟨x.many, ps⟩, A4, c4, rfl, hown4.cap.2, ?_, ⟨by show okInt x.many; unfold okInt; omega, by show smallL _ ps; rw [HPS.out]; exact HSM.out.snoc (by simp) (by intro y hy; simp at hy; unfold okInt; omega)⟩, p + 1, by omega, by omega, ((hR4.set (by omega)).set (by omega)).set (by omega), ((hgg4.set _ _ _ (.inr (by omega))).set _ _ _ (.inr (by omega))).set _ _ _ (.inr (by omega))⟩
    exact ((hown4.ab HSL.out.1).gr hset).ab_mono fun b _ hb => HS0.out b hb
  have hkb5 : (k == 5) = false := by simpa using hk5
  clear hk0 hk1 hk2 hk3 hk4 hk5
  have HXS : Hid (Lay.int.slice.Sl w2 (Ab (fun b => S b) w2) A x.list) := Lib.hid ((HXX.out.keep fun b hb => hgg2.block b hb.1 (fun e => hb.2 (by rw [show b = r from e]; exact hSr))).mono fun b hb => ⟨Nat.lt_of_lt_of_le hb.1 hgg2.size, fun e => by rcases (HS.out b).1 e with h9 | h9 | h9 <;> first | exact hb.2 h9 | (have := hb.1; omega)⟩)
  have v0 : w2.cell? ⟨w.heap.size, 0, none⟩ = some (.int .i64 x.many) := (cell_of_block HB0.out 0).1
  have v1 : w2.cell? ⟨w.heap.size, 1, none⟩ = some (.slice A x.list.length c) := (cell_of_block HB0.out 1).1
  have f0 : w2.frozen? ⟨w.heap.size, 0, none⟩ = false := (cell_of_block HB0.out 0).2
  have f1 : w2.frozen? ⟨w.heap.size, 1, none⟩ = false := (cell_of_block HB0.out 1).2
  have u0 : w2.cell? ⟨w.heap.size + 1, 0, none⟩ = some (.int .i64 0) := (cell_of_block HB1.out 0).1
  have u1 : w2.cell? ⟨w.heap.size + 1, 1, none⟩ = some (.slice none 0 0) := (cell_of_block HB1.out 1).1
  have g0 : w2.frozen? ⟨w.heap.size + 1, 0, none⟩ = false := (cell_of_block HB1.out 0).2
  have g1 : w2.frozen? ⟨w.heap.size + 1, 1, none⟩ = false := (cell_of_block HB1.out 1).2
  go_wp2
  have hset : Gr (fun b => S b) w2 ((w2.setCell ⟨w.heap.size + 1, 0, none⟩ (.int .i64 x.many)).setCell ⟨w.heap.size + 1, 1, none⟩ (.slice A x.list.length c)) := ((Gr.refl _ _).set _ _ _ (.inl ((HS.out _).2 (.inr (.inr rfl))))).set _ _ _ (.inl ((HS.out _).2 (.inr (.inr rfl))))
  refine bodyPost_ret (v := .agg #[.int .i64 (x.many), .slice A x.list.length c]) (by simp [results, Try.results37, go_sem, v0, v1, f0, f1, u0, u1, g0, g1]) rfl ⟨⟨x.many, x.list⟩, A, c, rfl, hc, ?_, ⟨by show okInt x.many; unfold okInt; omega, HSM.out.mono (by omega)⟩, p + 1, by omega, by omega, (hR2.set (by omega)).set (by omega), (hgg2.set _ _ _ (.inr (by omega))).set _ _ _ (.inr (by omega))⟩
  exact (HXS.out.gr hset).ab_mono fun b _ hb => HS0.out b hb
end Go.Proofs.Ytbljfhmcebgdaaa

/-! DrawUnitAll. -/
namespace Go.Proofs.Ytbljfhmcebgdaaa
open Go Go.RowKit

end Go.Proofs.Ytbljfhmcebgdaaa

/-! append of one element that lies somewhere. No program is named here. -/
namespace Go.Proofs.Ytbljfhmcebgdaaa
open Go Go.RowKit

/-- append of one element that lies somewhere. -/
theorem wpList_append_rowAt {P : Program} {Q' : Exit → Act → World → Prop} {ops : Array Oper} {rest : List Oper} {o : Oper} {a : Act} {W : World} {α : Type} {L : Lay α} {Q : World → Nat → Prop} {t e : TypeId} {i : TypeInfo} {z : Value} {bytes : Nat} {G : Nat → Prop}
    {lo : Nat} {A : Option Addr} {c : Nat} {xs ys : List α} {x : α} {cs : Array Value} {ad : Addr} {k9 : Nat} (hgd : o.guard = none) (s y : Operand)
    (ho : o.op = .call { callee := .builtin .append, args := #[s, y], argTypes := #[t, t] }) (ht : P.underlying t = some (.slice e)) (hi : P.info? e = some i) (hz : i.zero = some z) (hsize : i.size = L.size) (hby : i.bytes = bytes) (hzs : z.cells.size = L.size) (hsz : 0 < L.size)
    (hs : a.eval s = .slice A xs.length c) (hy : a.eval y = .slice (some ad) 1 k9) (hnews : ∀ j u, cs.toList[j]? = some u → W.cell? (ad.add j) = some u)
    (hown : OwnL L Q e W lo (.slice A xs.length c) xs) (hQ : Stay Q) (hr : L.R W G x cs.toList) (hG : ∀ b, G b → b < W.heap.size ∧ (Value.slice A xs.length c).ownBlock ≠ some b ∧ Q W b) (h1 : ∀ u ∈ cs.toList, u.oneCell' = true)
    (hn : xs.length ≤ 2000000) (hb : bytes ≤ 128) (hlo : lo ≤ W.heap.size) (hys : ys = xs ++ [x])
    (h : ∀ A' c' w', OwnL L Q e w' lo (.slice A' ys.length c') ys → W.grownBy w' (Value.slice A xs.length c).ownBlock →
      ((Value.slice A' ys.length c').ownBlock = (Value.slice A xs.length c).ownBlock ∨ ∃ g, (Value.slice A' ys.length c').ownBlock = some g ∧ W.heap.size ≤ g) → wpList P ops Q' rest (a.put o.dst (.slice A' ys.length c')) w') :
    wpList P ops Q' (o :: rest) a W := by
  have hal : Below W.heap.size W W := Below.refl _ _
  have hl : ys.length = xs.length + 1 := by rw [hys]; simp
  have hlc : cs.toList.length = L.size := L.len hr
  obtain ⟨ks, hk1, hk2⟩ := hown.up hQ hal
  have hbb : (xs.length + 1) * bytes ≤ 140737488355328 := by
    have : (xs.length + 1) * bytes ≤ 2000001 * 128 := Nat.mul_le_mul (by omega) hb
    omega
  refine wpList_plain hgd fun _ hK => ?_
  obtain ⟨v', w', hrun, ho', hg', _, hbk⟩ := run_append_own_at (P := P) W lo t o.type e i z L.size bytes ht hi hz hsize hby hzs hsz
    (.slice A xs.length c) xs.length ks hk1 ad 1 k9 cs.toList (by omega) hnews h1 (by unfold maxLen; omega) hbb (Nat.le_trans hlo hal.size)
  have hform : ∃ A' c', v' = .slice A' ys.length c' := by
    rcases ho'.2 with ⟨e1, e2⟩ | ⟨g, cap, cur, e1, _⟩
    · omega
    · exact ⟨_, cap, by rw [e1, hl]⟩
  obtain ⟨A', c', rfl⟩ := hform
  have hgW := grown_then hal hg'
  have hbk2 : (Value.slice A' ys.length c').ownBlock = (Value.slice A xs.length c).ownBlock ∨ ∃ g, (Value.slice A' ys.length c').ownBlock = some g ∧ W.heap.size ≤ g := by
    rcases hbk with e | e
    · exact .inl e
    · exact .inr ⟨_, e, hal.size⟩
  have hne : ∀ b, b < W.heap.size → (Value.slice A xs.length c).ownBlock ≠ some b → (Value.slice A' ys.length c').ownBlock ≠ some b := fun b h2 h3 h4 => by
    rcases hbk2 with e | ⟨g, e, hg⟩
    · exact h3 (e ▸ h4)
    · rw [e] at h4; injection h4 with h4; omega
  unfold Oper.wp execOp
  simp only [ho, resolve, invoke, builtin, Sem.run_bind, Sem.run_pure, Result.andThen_ok, List.map_toArray, List.map_cons, List.map_nil, hs, hy, hrun]
  refine hK _ _ (h A' c' w' ⟨ks ++ cs.toList, by rw [hl] at ho' ⊢; exact ho', fun k y hky => ?_⟩ hgW hbk2)
  have hkl : ks.length = xs.length * L.size := hk1.1
  rw [hys] at hky
  have hmove : ∀ {y : α} {vs : List Value}, L.R W (fun b => b < W.heap.size ∧ (Value.slice A xs.length c).ownBlock ≠ some b ∧ Q W b) y vs → L.R w' (fun b => b < w'.heap.size ∧ (Value.slice A' ys.length c').ownBlock ≠ some b ∧ Q w' b) y vs := fun hR =>
    L.mono (fun b h9 => ⟨Nat.lt_of_lt_of_le h9.1 hgW.size, hne b h9.1 h9.2.1, hQ _ _ _ (hgW.block b h9.1 (fun e9 => h9.2.1 e9.symm)) h9.2.2⟩) (L.keep (fun b h9 => hgW.block b h9.1 (fun e9 => h9.2.1 e9.symm)) hR)
  rcases Nat.lt_or_ge k xs.length with h2 | h2
  · rw [List.getElem?_append_left h2] at hky
    obtain ⟨cs0, h01, h02⟩ := hown
    obtain ⟨vs, hR, hu⟩ := hk2 k y hky
    obtain ⟨vs0, hR0, hu0⟩ := h02 k y hky
    refine ⟨vs, ?_, fun j u hj => ?_⟩
    · refine L.mono (fun b h9 => ?_) (L.keep (fun b h9 => hg'.block b h9.1 (fun e9 => h9.2.1 e9.symm)) hR)
      have hq := hQ _ _ _ (hg'.block b h9.1 (fun e9 => h9.2.1 e9.symm)) h9.2.2
      refine ⟨Nat.lt_of_lt_of_le h9.1 hg'.size, fun e9 => ?_, hq⟩
      rcases hbk with e | e
      · exact h9.2.1 (e ▸ e9)
      · rw [e] at e9; injection e9 with e9; have := h9.1; omega
    · have hjl : j < vs.length := by
        rcases Nat.lt_or_ge j vs.length with h | h
        · exact h
        · rw [List.getElem?_eq_none h] at hj; cases hj
      have hvl := L.len hR
      have hm : (k + 1) * L.size ≤ xs.length * L.size := Nat.mul_le_mul_right _ h2
      rw [Nat.add_mul, Nat.one_mul] at hm
      rw [List.getElem?_append_left (by omega)]
      exact hu j u hj
  · rw [List.getElem?_append_right h2] at hky
    have hk0 : k = xs.length := by
      rcases Nat.eq_or_lt_of_le h2 with h3 | h3
      · exact h3.symm
      · rw [List.getElem?_eq_none (by simp; omega)] at hky; cases hky
    subst hk0
    simp at hky
    subst hky
    refine ⟨cs.toList, hmove (L.mono hG hr), fun j u hj => ?_⟩
    rw [List.getElem?_append_right (by omega), show xs.length * L.size + j - ks.length = j by omega]
    exact hj
end Go.Proofs.Ytbljfhmcebgdaaa

/-! Words for regions that copy a formula's outer row into a new formula. -/
namespace Go.Proofs.Ytbljfhmcebgdaaa
open Go Go.RowKit

/-- Nothing turned but cells of fresh formulas. -/
def RC (W0 : Nat) (x x' : World) : Prop := x.heap.size ≤ x'.heap.size ∧ ∀ i, i < x.heap.size → x'.heap[i]? = x.heap[i]? ∨ (W0 ≤ i ∧ (∃ cs, x.heap[i]? = some (.cells cs 25 (0, 0)) ∧ ∃ cs', x'.heap[i]? = some (.cells cs' 25 (0, 0)) ∧ cs'.size = cs.size))
theorem RC.refl (W0 : Nat) (x : World) : RC W0 x x := ⟨Nat.le_refl _, fun _ _ => .inl rfl⟩
theorem RC.of {W0 : Nat} {x x' : World} (h : Below x.heap.size x x') : RC W0 x x' := ⟨h.size, fun i hi => .inl (h.block i hi)⟩
theorem RC.same {W0 : Nat} {x x' : World} (h : RC W0 x x') {b : Nat} {o : Obj} (hb : x.heap[b]? = some o) (ho : ∀ cs, o ≠ .cells cs 25 (0, 0)) : x'.heap[b]? = some o := by
  rcases h.2 b (Array.getElem?_eq_some_iff.1 hb).1 with e | ⟨_, ⟨cs, e, _⟩⟩
  · rw [e]; exact hb
  · rw [hb] at e; injection e with e; exact absurd e (ho cs)
theorem RC.low {W0 : Nat} {x x' : World} (h : RC W0 x x') {b : Nat} (hb : b < W0) (hx : b < x.heap.size) : x'.heap[b]? = x.heap[b]? := by
  rcases h.2 b hx with e | ⟨h1, _⟩
  · exact e
  · omega
theorem RC.two {W0 : Nat} {x x' : World} (h : RC W0 x x') {b : Nat} (hb : ∃ z0 z1, x.heap[b]? = some (.cells #[z0, z1] 25 (0, 0))) : ∃ z0 z1, x'.heap[b]? = some (.cells #[z0, z1] 25 (0, 0)) := by
  obtain ⟨z0, z1, hb⟩ := hb
  rcases h.2 b (Array.getElem?_eq_some_iff.1 hb).1 with e | ⟨_, ⟨cs, e, cs', e', hs⟩⟩
  · exact ⟨z0, z1, by rw [e]; exact hb⟩
  · rw [hb] at e; injection e with e; injection e with e1 e2 e3
    rw [← e1] at hs
    match cs', hs with
    | ⟨[y0, y1]⟩, _ => exact ⟨y0, y1, e'⟩
abbrev OwnC (W0 : Nat) (w : World) (v : Value) (xs : List (List Int)) : Prop := OwnL Lay.int.slice (NotIn (fun b => W0 ≤ b)) 26 w W0 v xs
theorem tneC : ∀ cs : Array Value, ∀ cur : Array Value, Obj.cells cur 26 (0, 0) ≠ .cells cs 25 (0, 0) := fun _ _ e => by injection e with _ e _; exact absurd e (by decide)
theorem OwnC.rc {W0 : Nat} {x x' : World} {v : Value} {xs : List (List Int)} (h : OwnC W0 x v xs) (hr : RC W0 x x') : OwnC W0 x' v xs := by
  obtain ⟨cs, h1, h2⟩ := h
  refine ⟨cs, ?_, fun i y hy => ?_⟩
  · refine ⟨h1.1, ?_⟩
    rcases h1.2 with hn | ⟨g, cap, cur, e, hb, hgg, rest⟩
    · exact .inl hn
    · exact .inr ⟨g, cap, cur, e, hb, hr.same hgg (fun cs => tneC cs cur), rest⟩
  · obtain ⟨vs, hR, hu⟩ := h2 i y hy
    exact ⟨vs, Lay.int.slice.mono (fun b hb => ⟨Nat.lt_of_lt_of_le hb.1 hr.1, hb.2⟩) (Lay.int.slice.keep (fun b hb => hr.low (by have : ¬ W0 ≤ b := hb.2.2; omega) hb.1) hR), hu⟩
theorem rc_set {W0 : Nat} {x : World} {b : Nat} {z0 z1 y0 y1 : Value} (hb : x.heap[b]? = some (.cells #[z0, z1] 25 (0, 0))) (hW : W0 ≤ b) : RC W0 x ((x.setCell ⟨b, 0, none⟩ y0).setCell ⟨b, 1, none⟩ y1) := by
  have h1 := heap_set_same _ b 1 y1 _ _ (heap_set_same x b 0 y0 _ _ hb)
  refine ⟨by rw [size_setCell, size_setCell]; exact Nat.le_refl _, fun i hi => ?_⟩
  by_cases e : i = b
  · subst e
    exact .inr ⟨hW, _, hb, _, h1, by simp⟩
  · exact .inl ((Below.heap_setCell _ _ _ i (fun e' => e e')).trans (Below.heap_setCell _ _ _ i (fun e' => e e')))
theorem tne2 {cur : Array Value} : ∀ cs : Array Value, Obj.cells cur 26 (0, 0) ≠ .cells cs 25 (0, 0) := fun cs => tneC cs cur
theorem OwnL.monoQ {α : Type} {L : Lay α} {Q Q' : World → Nat → Prop} {e : TypeId} {w : World} {lo : Nat} {v : Value} {xs : List α} (h : OwnL L Q e w lo v xs) (hQ : ∀ b, Q w b → Q' w b) : OwnL L Q' e w lo v xs := by
  obtain ⟨cs, h1, h2⟩ := h
  refine ⟨cs, h1, fun i x hx => ?_⟩
  obtain ⟨vs, hr, hu⟩ := h2 i x hx
  exact ⟨vs, L.mono (fun b hb => ⟨hb.1, hb.2.1, hQ b hb.2.2⟩) hr, hu⟩
theorem OwnL.ne {α : Type} {L : Lay α} {Q : World → Nat → Prop} {e t : TypeId} {w : World} {lo b : Nat} {v : Value} {xs : List α} {cs : Array Value} (h : OwnL L Q e w lo v xs) (hb : w.heap[b]? = some (.cells cs t (0, 0))) (ht : t ≠ e) : v.ownBlock ≠ some b := by
  obtain ⟨_, h1, _⟩ := h
  rcases h1.2 with ⟨e1, _⟩ | ⟨g, cap, cur, e1, _, hg, _⟩
  · rw [e1]; intro h; cases h
  · rw [e1]
    intro h
    have : g = b := by simpa [Value.ownBlock] using h
    subst this
    rw [hb] at hg
    injection hg with hg; injection hg with _ hg _
    exact ht hg
theorem OwnL.grNe {α : Type} {L : Lay α} {e : TypeId} {w w' : World} {lo : Nat} {S : Nat → Prop} {v : Value} {xs : List α} (h : OwnL L (NotIn S) e w lo v xs) (hg : Gr S w w') (hne : ∀ g, v.ownBlock = some g → ¬ S g) : OwnL L (NotIn S) e w' lo v xs := by
  obtain ⟨cs, h1, h2⟩ := h
  refine ⟨cs, own_of_heap h1 fun g hg' => hg.block g (h1.lt g hg').2 (hne g hg'), fun i x hx => ?_⟩
  obtain ⟨vs, hr, hu⟩ := h2 i x hx
  exact ⟨vs, L.mono (fun b hb => ⟨Nat.lt_of_lt_of_le hb.1 hg.size, hb.2.1, hb.2.2⟩) (L.keep (fun b hb => hg.block b hb.1 hb.2.2) hr), hu⟩
/-- The row of the formula in block i. -/
abbrev OwnD (i W0 : Nat) (w : World) (v : Value) (xs : List (List Int)) : Prop := OwnL Lay.int.slice (NotIn (fun b => b = i)) 26 w W0 v xs
/-- A row that was written down: block b. -/
def LitAt (B : Nat) (xs : List Int) (b : Nat) (x : World) : Prop := B ≤ b ∧ Lay.int.Sl x (fun y => y = b ∧ b < x.heap.size) (some ⟨b, 0, none⟩) xs
theorem LitAt.up {B : Nat} {xs : List Int} {b : Nat} {x x' : World} (h : LitAt B xs b x) (hb : Below x.heap.size x x') : LitAt B xs b x' := ⟨h.1, (h.2.keep fun y hy => hb.block y (by rw [hy.1]; exact hy.2)).mono fun y hy => ⟨hy.1, Nat.lt_of_lt_of_le hy.2 hb.size⟩⟩
/-- append onto an empty row without room: nothing that was there turns. -/
theorem run_append_empty {P : Program} (w : World) (base : Nat) (t ty e : TypeId) (i : TypeInfo) (z : Value) (size bytes : Nat) (ht : P.underlying t = some (.slice e)) (hi : P.info? e = some i) (hz : i.zero = some z)
    (hsize : i.size = size) (hby : i.bytes = bytes) (hzs : z.cells.size = size) (hsz : 0 < size) (g : Nat) (hg : w.heap[g]? = some (.cells #[] e (0, 0))) (hbg : base ≤ g)
    (A : Option Addr) (m c : Nat) (news : List Value) (hr : Src w size A m news) (h1 : ∀ u ∈ news, u.oneCell' = true) (h63 : m ≤ maxLen) (hbytes : m * bytes ≤ 140737488355328) (hbase : base ≤ w.heap.size) (hA : A = none → m = 0) :
    ∃ A' c' w', (Builtin.append_ #[t, t] ty #[.slice (some ⟨g, 0, none⟩) 0 0, .slice A m c]).run P w = .ok (.slice A' m c') w' ∧ w'.ownsRow base e size (.slice A' m c') m news ∧ Below w.heap.size w w' := by
  have hown : w.ownsRow base e size (.slice (some ⟨g, 0, none⟩) 0 0) 0 [] := ⟨by simp, .inr ⟨g, 0, #[], rfl, hbg, hg, Nat.le_refl _, by unfold maxLen; omega, by simp, by simp⟩⟩
  rcases Nat.eq_zero_or_pos m with h0 | h0
  · subst h0
    have hn : news = [] := List.eq_nil_of_length_eq_zero (by simpa using hr.1)
    subst hn
    cases A with
    | none => exact ⟨some ⟨g, 0, none⟩, 0, w, run_append_of_nil w base t ty e i size ht hi _ 0 [] hown c, hown, Below.refl _ _⟩
    | some ad =>
      have hroom := run_append_room (P := P) w t ty e i ht hi g 0 0 #[] hg ad 0 c [] (by simp) (fun j u h => by simp at h) (by simp) (Nat.le_refl _) (by simp)
      have hh : (w.setRow g #[]).heap[g]? = some (.cells #[] e (0, 0)) := setRow_heap w g #[] #[] e _ hg
      refine ⟨some ⟨g, 0, none⟩, 0, w.setRow g #[], by simpa using hroom, ⟨by simp, .inr ⟨g, 0, #[], rfl, hbg, hh, Nat.le_refl _, by unfold maxLen; omega, by simp, by simp⟩⟩, ⟨rfl, rfl, rfl, by simp [World.setRow], fun k hk => ?_⟩⟩
      by_cases e9 : k = g
      · subst e9; rw [hh, hg]
      · exact setRow_other w g k _ e9
  · obtain ⟨ad, rfl, hcells⟩ := hr.2 h0
    subst hsize
    subst hby
    have hgr := run_append_grow (P := P) w t ty e i z ht hi hz ⟨g, 0, none⟩ 0 0 [] (by simp) (fun j v h => by simp at h) ad m c news hr.1 hcells (by omega) (by simp only [maxLen] at h63; omega) (growslice_fits (by omega) (by simpa using hbytes))
    have hge := grownCap_ge w (0 + m) 0 e
    have hcm : grownCap w (0 + m) 0 e ≤ maxLen := grownCap_le_maxLen w (0 + m) 0 e (by simpa using h63)
    simp only [Nat.zero_add] at hge hcm hgr
    refine ⟨some ⟨w.heap.size, 0, none⟩, _, _, hgr, ?_, ⟨rfl, rfl, rfl, by simp, fun k hk => Below.heap_alloc w.drew _ k hk⟩⟩
    refine ⟨hr.1, .inr ⟨w.heap.size, _, _, rfl, hbase, heap_alloc_new w.drew _, hge, hcm, ?_, ?_⟩⟩
    · have := hr.1
      simp only [Array.size_append, List.size_toArray, size_zeroCells, hzs, this, List.length_nil, Nat.zero_add]
      rw [← Nat.add_mul]
      congr 1
      omega
    · have := hr.1
      simp only [List.nil_append, Array.toList_append]
      rw [← this]
      exact List.take_left
theorem wpList_append_empty {P : Program} {Q' : Exit → Act → World → Prop} {ops : Array Oper} {rest : List Oper} {o : Oper} {a : Act} {w : World} (hgd : o.guard = none) (s y : Operand) (t : TypeId)
    (ho : o.op = .call { callee := .builtin .append, args := #[s, y], argTypes := #[t, t] }) (base : Nat) (e : TypeId) (i : TypeInfo) (z : Value) (size bytes : Nat) (ht : P.underlying t = some (.slice e)) (hi : P.info? e = some i) (hz : i.zero = some z)
    (hsize : i.size = size) (hby : i.bytes = bytes) (hzs : z.cells.size = size) (hsz : 0 < size) (g : Nat) (hs : a.eval s = .slice (some ⟨g, 0, none⟩) 0 0) (hg : w.heap[g]? = some (.cells #[] e (0, 0))) (hbg : base ≤ g)
    (A : Option Addr) (m c : Nat) (news : List Value) (hy : a.eval y = .slice A m c) (hr : Src w size A m news) (h1 : ∀ u ∈ news, u.oneCell' = true) (h63 : m ≤ maxLen) (hbytes : m * bytes ≤ 140737488355328) (hbase : base ≤ w.heap.size) (hA : A = none → m = 0)
    (h : ∀ A' c' w', w'.ownsRow base e size (.slice A' m c') m news → Below w.heap.size w w' → wpList P ops Q' rest (a.put o.dst (.slice A' m c')) w') : wpList P ops Q' (o :: rest) a w := by
  refine wpList_plain hgd fun _ hK => ?_
  obtain ⟨A', c', w', hrun, h2, h3⟩ := run_append_empty (P := P) w base t o.type e i z size bytes ht hi hz hsize hby hzs hsz g hg hbg A m c news hr h1 h63 hbytes hbase hA
  unfold Oper.wp execOp
  simp only [ho, resolve, invoke, builtin, Sem.run_bind, Sem.run_pure, Result.andThen_ok, List.map_toArray, List.map_cons, List.map_nil, hs, hy, hrun]
  exact hK _ _ (h A' c' w' h2 h3)
end Go.Proofs.Ytbljfhmcebgdaaa
