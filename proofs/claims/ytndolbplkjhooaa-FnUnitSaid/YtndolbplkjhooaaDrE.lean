/- Draws of formulas: l4Bent. -/
import Derived.Test.YtndolbplkjhooaaDrD
import Derived.Test.YtndolbplkjhooaaSatS3
namespace Go.Proofs.Ytndolbplkjhooaa
open Go Go.RowKit

/-- The cells of a row of rows. -/
theorem src_rows {w : World} {F : Nat → Prop} {A : Option Addr} {xs : List (List Int)} (h : Lay.int.slice.Sl w F A xs) : ∃ cs : List Value, Src w 1 A xs.length cs ∧ (∀ u ∈ cs, u.oneCell' = true) ∧ cs.length = xs.length ∧
    ∀ (i : Nat) (x : List Int), xs[i]? = some x → ∃ A' c', cs[i]? = some (Value.slice A' x.length c') ∧ x.length ≤ c' ∧ Lay.int.Sl w F A' x := by
  rcases Nat.eq_zero_or_pos xs.length with h0 | h0
  · have : xs = [] := List.eq_nil_of_length_eq_zero h0
    subst this
    exact ⟨[], ⟨by simp, fun h => absurd h (by simp)⟩, by simp, rfl, fun i x hx => by simp at hx⟩
  · obtain ⟨ad, rfl, _, hc⟩ := h h0
    have key : ∀ i (hi : i < xs.length), ∃ A' c', w.cell? (ad.add i) = some (.slice A' xs[i].length c') ∧ xs[i].length ≤ c' ∧ Lay.int.Sl w F A' xs[i] := fun i hi => by
      obtain ⟨vs, ⟨A', c', rfl, hl, hs⟩, hcell⟩ := hc i xs[i] (List.getElem?_eq_getElem hi)
      exact ⟨A', c', by simpa [Lay.slice] using hcell 0 _ rfl, hl, hs⟩
    refine ⟨(List.range xs.length).map fun i => (w.cell? (ad.add i)).getD undef, ⟨by simp, fun _ => ⟨ad, rfl, fun j u hu => ?_⟩⟩, fun u hu => ?_, by simp, fun i x hx => ?_⟩
    · rw [List.getElem?_map] at hu
      have hj : j < xs.length := by
        rcases Nat.lt_or_ge j xs.length with h | h
        · exact h
        · rw [List.getElem?_eq_none (by simpa using h)] at hu; cases hu
      rw [List.getElem?_range hj] at hu
      obtain ⟨A', c', hk, _⟩ := key j hj
      simp only [Option.map_some, Option.some.injEq] at hu
      rw [hk] at hu ⊢
      rw [← hu]; rfl
    · obtain ⟨i, hi, rfl⟩ := List.mem_map.1 hu
      obtain ⟨A', c', hk, _⟩ := key i (by simpa using hi)
      rw [hk]; rfl
    · have hi : i < xs.length := (List.getElem?_eq_some_iff.1 hx).1
      obtain ⟨A', c', hk, hl, hs⟩ := key i hi
      have hx' : xs[i] = x := by rw [List.getElem?_eq_getElem hi] at hx; exact Option.some.inj hx
      rw [hx'] at hk hl hs
      exact ⟨A', c', by rw [List.getElem?_map, List.getElem?_range hi, Option.map_some, hk]; rfl, hl, hs⟩
/-- A copy of the outer row: an own row of what was there. -/
theorem ownL_of_src {w w1 : World} {F S : Nat → Prop} {lo n c : Nat} {A : Option Addr} {xs : List (List Int)} {cs : List Value} (hown : w1.ownsRow lo 25 1 (.slice A n c) n cs) (hn : n = xs.length) (hb : Below w.heap.size w w1)
    (hrows : ∀ (i : Nat) (x : List Int), xs[i]? = some x → ∃ A' c', cs[i]? = some (Value.slice A' x.length c') ∧ x.length ≤ c' ∧ Lay.int.Sl w F A' x) (hF : ∀ b, F b → b < w.heap.size ∧ ¬ S b) (hlo : w.heap.size ≤ lo) : OwnL Lay.int.slice (NotIn S) 25 w1 lo (.slice A xs.length c) xs := by
  subst hn
  refine ⟨cs, hown, fun i x hx => ?_⟩
  obtain ⟨A', c', h1, h2, h3⟩ := hrows i x hx
  refine ⟨[.slice A' x.length c'], ⟨A', c', rfl, h2, (h3.below hb (fun b h => (hF b h).1)).mono fun b h => ⟨Nat.lt_of_lt_of_le (hF b h).1 hb.size, fun e => by have := (hown.lt b e).1; have := (hF b h).1; omega, (hF b h).2⟩⟩, fun j u hu => ?_⟩
  rcases j with _ | j
  · injection hu with hu
    subst hu
    show cs[i * 1 + 0]? = _
    rw [Nat.mul_one, Nat.add_zero]; exact h1
  · simp at hu
theorem sl_none {α : Type} {L : Lay α} {w : World} {F : Nat → Prop} {A : Option Addr} {xs : List α} (h : L.Sl w F A xs) : A = none → xs.length = 0 := fun e => by
  rcases Nat.eq_zero_or_pos xs.length with h0 | h0
  · exact h0
  · obtain ⟨ad, e', _⟩ := h h0; rw [e] at e'; cases e'

set_option maxRecDepth 100000 in
set_option maxHeartbeats 4000000 in
theorem l4Bent_any (S0 : Nat → Prop) (r n0 : Nat) (p : Int) (x : C) (A : Option Addr) (c : Nat) (w : World) (h : Rdr w r p) (hx : Lay.int.slice.Sl w (Ab S0 w) A x.list) (hS0 : ∀ b, S0 b → b < w.heap.size) (hSr : S0 r) (hc : x.list.length ≤ c) (hsm : smallL n0 x.list) (hn0 : n0 ≤ 900) (hm0 : 0 ≤ x.many) (hm1 : x.many ≤ 1000) (p0 : 0 ≤ p) (p1 : p ≤ 700000000) :
    Calls Try.prog 45 #[.pointer (some ⟨r, 0, none⟩), .agg #[.int .i64 x.many, .slice A x.list.length c]] w (RetDC S0 r p 10 (fun y => okInt y.many ∧ smallL (n0 + 1) y.list) w) := by
  obtain ⟨i0, hi0, hz0, hz1, hz2⟩ := info_parts toIntSS_info
  have hrl := h.lt
  obtain ⟨hw, hB0, hB1, hWS⟩ := two_boxes w (.cells #[.int .i64 x.many, .slice A x.list.length c] 28) (.cells #[.int .i64 0, .slice none 0 0] 28)
  have hln : x.list.length ≤ 1000 := by have := hsm.1; omega
  have hA := sl_none hx
  obtain ⟨cs, hsrc, h1c, hcl, hrows⟩ := src_rows hx
  have hsrc2 : Src (((w.alloc (.cells #[.int .i64 x.many, .slice A x.list.length c] 28)).alloc (.cells #[.int .i64 0, .slice none 0 0] 28)).alloc (.cells #[] 25)) 1 A x.list.length cs := by
    refine ⟨hsrc.1, fun h9 => ?_⟩
    obtain ⟨ad, e, hcell⟩ := hsrc.2 h9
    exact ⟨ad, e, fun j u hu => ((hw.alloc (by omega) _).cell (World.block_lt_of_cell? w _ (hcell j u hu))).trans (hcell j u hu)⟩
  have HR := Lib.hid h
  have HROWS := Lib.hid hrows
  have HXX := Lib.hid hx
  have HSM := Lib.hid hsm
  have HB0 := Lib.hid hB0
  have HB1 := Lib.hid hB1
  have HW := Lib.hid hw
  have HWS := Lib.hid hWS
  clear h hx hsm hsrc hrows hB0 hB1 hw hWS
  go_enter Try.func45, Try.ntmps45
  go_wp2_with (at_builtin; refine wpList_append_src _ (by rfl) (.tmp 6) (.tmp 8) _ (by rfl) (w.heap.size + 1 + 1) 25 i0 _ 1 24 Try.underlying22 hi0 hz0 hz1 hz2 (by rfl) (by omega) (.slice (some ⟨w.heap.size + 1 + 1, 0, none⟩) 0 0) 0 [] (by rfl) (own_lit0 HWS.out) A x.list.length c cs (by rfl) hsrc2 h1c x.list.length (by omega) (by unfold maxLen; omega) (by omega) (by simp) hA ?_; intro A1 c1 w1 hown1 hb1 _)
  clear hsrc2 h1c
  generalize hW : (w.alloc (.cells #[.int .i64 x.many, .slice A x.list.length c] 28)).alloc (.cells #[.int .i64 0, .slice none 0 0] 28) = W at *
  have hb1 : Below (w.heap.size + 1 + 1) W w1 := by
    have h9 : Below (w.heap.size + 1 + 1) W (W.alloc (.cells #[] 25)) := (Below.refl _ _).alloc (by rw [HWS.out]; exact Nat.le_refl _) _
    exact h9.trans hb1
  have hbw := HW.out.trans (hb1.mono (by omega))
  have hsw1 : w.heap.size + 1 + 1 ≤ w1.heap.size := by have := hb1.size; have := HWS.out; omega
  have HB0 := Lib.hid ((hb1.block _ (by omega)).trans HB0.out)
  have HB1 := Lib.hid ((hb1.block _ (by omega)).trans HB1.out)
  obtain ⟨S, hS⟩ : ∃ S : Nat → Prop, ∀ b, S b ↔ S0 b ∨ b = w.heap.size ∨ b = w.heap.size + 1 := ⟨fun b => S0 b ∨ b = w.heap.size ∨ b = w.heap.size + 1, fun _ => Iff.rfl⟩
  have HS := Lib.hid hS
  have HS0 : Hid (∀ b, S0 b → S b) := Lib.hid fun b hb => (hS b).2 (.inl hb)
  have HSL : Hid ((∀ b, S b → b < w.heap.size + 1 + 1) ∧ (∀ b, IsR r b → S b)) := Lib.hid ⟨fun b hb => by
    rcases (hS b).1 hb with h9 | h9 | h9
    · have := hS0 b h9; omega
    · omega
    · omega, fun b hb => (hS b).2 (.inl (by rw [show b = r from hb]; exact hSr))⟩
  have hown := ownL_of_src (w := w) (S := S) (by simpa using hown1) rfl hbw HROWS.out (fun b hb => ⟨hb.1, fun e => by
    rcases (hS b).1 e with h9 | h9 | h9
    · exact hb.2 h9
    · have := hb.1; omega
    · have := hb.1; omega⟩) (by omega)
  have hR1 := HR.out.up hbw
  have hg1 : Gr (IsR r) w w1 := .below hbw
  clear hown1 hb1 hbw hW hS HROWS HW HWS HR
  go_wp2_with fail
  refine (pick_any r p 60 w1 hR1 (by omega) (by omega) (by omega) (by omega)).mono ?_
  rintro e w2 ⟨k, rfl, k0, _, _, hR2, hg2⟩
  have hg2 := Gr.one (S := IsR r) hg2 rfl
  have HB0 := Lib.hid (hg2.heap (by show ¬ _ = r; omega) HB0.out)
  have HB1 := Lib.hid (hg2.heap (by show ¬ _ = r; omega) HB1.out)
  have hown2 := hown.gr (hg2.mono HSL.out.2) HSL.out.1
  have hgg2 := hg1.trans hg2
  have hs2 := hg2.size
  clear hown hR1 hg1 hg2
  by_cases hk0 : k = 0
  · subst hk0
    obtain ⟨ps, hps⟩ : ∃ ps, ps = x.list ++ [[x.many + 1]] := ⟨_, rfl⟩
    have HPS := Lib.hid hps
    have e1 : IntKind.i64.wrap (x.many + 1) = x.many + 1 := IntWalk.i64_in _ (by omega)
    have hal : Below w2.heap.size w2 (w2.alloc (.cells #[.int .i64 (x.many + 1)] 3)) := (Below.refl _ _).alloc (Nat.le_refl _) _
    have hown3 := hown2.up (Stay.notIn S) hal
    have hR3 := hR2.up hal
    have hgg3 := hgg2.up hal
    have HB03 := Lib.hid ((hal.block _ (by omega)).trans HB0.out)
    have HB13 := Lib.hid ((hal.block _ (by omega)).trans HB1.out)
    have hel : Lay.int.slice.R (w2.alloc (.cells #[.int .i64 (x.many + 1)] 3)) (fun b => b < (w2.alloc (.cells #[.int .i64 (x.many + 1)] 3)).heap.size ∧ (Value.slice A1 x.list.length c1).ownBlock ≠ some b ∧ ¬ S b) [x.many + 1] [.slice (some ⟨w2.heap.size, 0, none⟩) 1 1] := by
      refine ⟨some ⟨w2.heap.size, 0, none⟩, 1, rfl, by simp, (lit_sl (S := fun b => b < w2.heap.size) w2 [x.many + 1] _ 3 rfl (by simp)).mono fun b hb => ⟨hb.1, fun e => hb.2 (hown2.lt b e).2, fun e => hb.2 ?_⟩⟩
      show b < w2.heap.size
      have := HSL.out.1 b e; omega
    have hw3 : w.heap.size + 1 + 1 ≤ (w2.alloc (.cells #[.int .i64 (x.many + 1)] 3)).heap.size := by have := hal.size; omega
    have hw3e : (w2.alloc (.cells #[.int .i64 (x.many + 1)] 3)).heap.size = w2.heap.size + 1 := by simp
    have v0 : w2.cell? ⟨w.heap.size, 0, none⟩ = some (.int .i64 x.many) := (cell_of_block HB0.out 0).1
    clear hps hal hown2 hR2 hgg2
    go_wp2_with (at_builtin; refine wpList_append_row (L := Lay.int.slice) (Q := NotIn S) (ys := ps) (xs := x.list) (c := c1) (A := A1) (by rfl) (.tmp 14) (.tmp 19) (by rfl) Try.underlying22 hi0 hz0 hz1 hz2 (by rfl) (by decide) (by rfl) (by simp [Act.eval]) hown3 (Stay.notIn S) hel (fun _ h => h) (by simp [Value.oneCell']) (by omega) (by omega) hw3 HPS.out ?_; intro A4 c4 w4 hown4 hg4 hbk4; have HB04 := Lib.hid ((hg4.block w.heap.size (by omega) (fun e => by have := (hown3.lt _ e.symm).1; omega)).trans HB03.out); have HB14 := Lib.hid ((hg4.block (w.heap.size + 1) (by omega) (fun e => by have := (hown3.lt _ e.symm).1; omega)).trans HB13.out); clear v0; have v0 : w4.cell? ⟨w.heap.size, 0, none⟩ = some (.int .i64 x.many) := (cell_of_block HB04.out 0).1; have v1 : w4.cell? ⟨w.heap.size, 1, none⟩ = some (.slice A x.list.length c) := (cell_of_block HB04.out 1).1; have f0 : w4.frozen? ⟨w.heap.size, 0, none⟩ = false := (cell_of_block HB04.out 0).2; have f1 : w4.frozen? ⟨w.heap.size, 1, none⟩ = false := (cell_of_block HB04.out 1).2; have u0 : w4.cell? ⟨w.heap.size + 1, 0, none⟩ = some (.int .i64 0) := (cell_of_block HB14.out 0).1; have u1 : w4.cell? ⟨w.heap.size + 1, 1, none⟩ = some (.slice none 0 0) := (cell_of_block HB14.out 1).1; have g0 : w4.frozen? ⟨w.heap.size + 1, 0, none⟩ = false := (cell_of_block HB14.out 0).2; have g1 : w4.frozen? ⟨w.heap.size + 1, 1, none⟩ = false := (cell_of_block HB14.out 1).2)
    have hR4 := hR3.own hg4 (fun g e => by have := (hown3.lt g e).1; omega)
    have hgg4 := hgg3.own hg4 (fun g e => by have := (hown3.lt g e).1; omega)
    have hset : Gr S w4 (((w4.setCell ⟨w.heap.size, 1, none⟩ (.slice A4 ps.length c4)).setCell ⟨w.heap.size + 1, 0, none⟩ (.int .i64 x.many)).setCell ⟨w.heap.size + 1, 1, none⟩ (.slice A4 ps.length c4)) := (((Gr.refl _ _).set _ _ _ (.inl ((HS.out _).2 (.inr (.inl rfl))))).set _ _ _ (.inl ((HS.out _).2 (.inr (.inr rfl))))).set _ _ _ (.inl ((HS.out _).2 (.inr (.inr rfl))))
    refine bodyPost_ret (v := .agg #[.int .i64 (x.many), .slice A4 ps.length c4]) (by simp [results, Try.results45, go_sem, v0, v1, f0, f1, u0, u1, g0, g1]) rfl ⟨⟨x.many, ps⟩, A4, c4, rfl, hown4.cap.2, ?_, ⟨by show okInt x.many; unfold okInt; omega, by show smallL _ ps; rw [HPS.out]; exact HSM.out.snoc (by simp) (by intro y hy; simp at hy; unfold okInt; omega)⟩, p + 1, by omega, by omega, ((hR4.set (by omega)).set (by omega)).set (by omega), ((hgg4.set _ _ _ (.inr (by omega))).set _ _ _ (.inr (by omega))).set _ _ _ (.inr (by omega))⟩
    exact ((hown4.ab HSL.out.1).gr hset).ab_mono fun b _ hb => HS0.out b hb
  have hkb0 : (k == 0) = false := by simpa using hk0
  by_cases hk1 : k = 1
  · subst hk1
    obtain ⟨ps, hps⟩ : ∃ ps, ps = x.list ++ [[1, -1]] := ⟨_, rfl⟩
    have HPS := Lib.hid hps
    have hal : Below w2.heap.size w2 (w2.alloc (.cells #[.int .i64 (1), .int .i64 (-1)] 3)) := (Below.refl _ _).alloc (Nat.le_refl _) _
    have hown3 := hown2.up (Stay.notIn S) hal
    have hR3 := hR2.up hal
    have hgg3 := hgg2.up hal
    have HB03 := Lib.hid ((hal.block _ (by omega)).trans HB0.out)
    have HB13 := Lib.hid ((hal.block _ (by omega)).trans HB1.out)
    have hel : Lay.int.slice.R (w2.alloc (.cells #[.int .i64 (1), .int .i64 (-1)] 3)) (fun b => b < (w2.alloc (.cells #[.int .i64 (1), .int .i64 (-1)] 3)).heap.size ∧ (Value.slice A1 x.list.length c1).ownBlock ≠ some b ∧ ¬ S b) [1, -1] [.slice (some ⟨w2.heap.size, 0, none⟩) 2 2] := by
      refine ⟨some ⟨w2.heap.size, 0, none⟩, 2, rfl, by simp, (lit_sl (S := fun b => b < w2.heap.size) w2 [1, -1] _ 3 rfl (by simp)).mono fun b hb => ⟨hb.1, fun e => hb.2 (hown2.lt b e).2, fun e => hb.2 ?_⟩⟩
      show b < w2.heap.size
      have := HSL.out.1 b e; omega
    have hw3 : w.heap.size + 1 + 1 ≤ (w2.alloc (.cells #[.int .i64 (1), .int .i64 (-1)] 3)).heap.size := by have := hal.size; omega
    have hw3e : (w2.alloc (.cells #[.int .i64 (1), .int .i64 (-1)] 3)).heap.size = w2.heap.size + 1 := by simp
    have v0 : w2.cell? ⟨w.heap.size, 0, none⟩ = some (.int .i64 x.many) := (cell_of_block HB0.out 0).1
    clear hps hal hown2 hR2 hgg2
    go_wp2_with (at_builtin; refine wpList_append_row (L := Lay.int.slice) (Q := NotIn S) (ys := ps) (xs := x.list) (c := c1) (A := A1) (by rfl) (.tmp 24) (.tmp 26) (by rfl) Try.underlying22 hi0 hz0 hz1 hz2 (by rfl) (by decide) (by rfl) (by simp [Act.eval]) hown3 (Stay.notIn S) hel (fun _ h => h) (by simp [Value.oneCell']) (by omega) (by omega) hw3 HPS.out ?_; intro A4 c4 w4 hown4 hg4 hbk4; have HB04 := Lib.hid ((hg4.block w.heap.size (by omega) (fun e => by have := (hown3.lt _ e.symm).1; omega)).trans HB03.out); have HB14 := Lib.hid ((hg4.block (w.heap.size + 1) (by omega) (fun e => by have := (hown3.lt _ e.symm).1; omega)).trans HB13.out); clear v0; have v0 : w4.cell? ⟨w.heap.size, 0, none⟩ = some (.int .i64 x.many) := (cell_of_block HB04.out 0).1; have v1 : w4.cell? ⟨w.heap.size, 1, none⟩ = some (.slice A x.list.length c) := (cell_of_block HB04.out 1).1; have f0 : w4.frozen? ⟨w.heap.size, 0, none⟩ = false := (cell_of_block HB04.out 0).2; have f1 : w4.frozen? ⟨w.heap.size, 1, none⟩ = false := (cell_of_block HB04.out 1).2; have u0 : w4.cell? ⟨w.heap.size + 1, 0, none⟩ = some (.int .i64 0) := (cell_of_block HB14.out 0).1; have u1 : w4.cell? ⟨w.heap.size + 1, 1, none⟩ = some (.slice none 0 0) := (cell_of_block HB14.out 1).1; have g0 : w4.frozen? ⟨w.heap.size + 1, 0, none⟩ = false := (cell_of_block HB14.out 0).2; have g1 : w4.frozen? ⟨w.heap.size + 1, 1, none⟩ = false := (cell_of_block HB14.out 1).2)
    have hR4 := hR3.own hg4 (fun g e => by have := (hown3.lt g e).1; omega)
    have hgg4 := hgg3.own hg4 (fun g e => by have := (hown3.lt g e).1; omega)
    have hset : Gr S w4 (((w4.setCell ⟨w.heap.size, 1, none⟩ (.slice A4 ps.length c4)).setCell ⟨w.heap.size + 1, 0, none⟩ (.int .i64 x.many)).setCell ⟨w.heap.size + 1, 1, none⟩ (.slice A4 ps.length c4)) := (((Gr.refl _ _).set _ _ _ (.inl ((HS.out _).2 (.inr (.inl rfl))))).set _ _ _ (.inl ((HS.out _).2 (.inr (.inr rfl))))).set _ _ _ (.inl ((HS.out _).2 (.inr (.inr rfl))))
    refine bodyPost_ret (v := .agg #[.int .i64 (x.many), .slice A4 ps.length c4]) (by simp [results, Try.results45, go_sem, v0, v1, f0, f1, u0, u1, g0, g1]) rfl ⟨⟨x.many, ps⟩, A4, c4, rfl, hown4.cap.2, ?_, ⟨by show okInt x.many; unfold okInt; omega, by show smallL _ ps; rw [HPS.out]; exact HSM.out.snoc (by simp) (by intro y hy; simp at hy; unfold okInt; omega)⟩, p + 1, by omega, by omega, ((hR4.set (by omega)).set (by omega)).set (by omega), ((hgg4.set _ _ _ (.inr (by omega))).set _ _ _ (.inr (by omega))).set _ _ _ (.inr (by omega))⟩
    exact ((hown4.ab HSL.out.1).gr hset).ab_mono fun b _ hb => HS0.out b hb
  have hkb1 : (k == 1) = false := by simpa using hk1
  by_cases hk2 : k = 2
  · subst hk2
    obtain ⟨ps, hps⟩ : ∃ ps, ps = x.list ++ [[0]] := ⟨_, rfl⟩
    have HPS := Lib.hid hps
    have hal : Below w2.heap.size w2 (w2.alloc (.cells #[.int .i64 (0)] 3)) := (Below.refl _ _).alloc (Nat.le_refl _) _
    have hown3 := hown2.up (Stay.notIn S) hal
    have hR3 := hR2.up hal
    have hgg3 := hgg2.up hal
    have HB03 := Lib.hid ((hal.block _ (by omega)).trans HB0.out)
    have HB13 := Lib.hid ((hal.block _ (by omega)).trans HB1.out)
    have hel : Lay.int.slice.R (w2.alloc (.cells #[.int .i64 (0)] 3)) (fun b => b < (w2.alloc (.cells #[.int .i64 (0)] 3)).heap.size ∧ (Value.slice A1 x.list.length c1).ownBlock ≠ some b ∧ ¬ S b) [0] [.slice (some ⟨w2.heap.size, 0, none⟩) 1 1] := by
      refine ⟨some ⟨w2.heap.size, 0, none⟩, 1, rfl, by simp, (lit_sl (S := fun b => b < w2.heap.size) w2 [0] _ 3 rfl (by simp)).mono fun b hb => ⟨hb.1, fun e => hb.2 (hown2.lt b e).2, fun e => hb.2 ?_⟩⟩
      show b < w2.heap.size
      have := HSL.out.1 b e; omega
    have hw3 : w.heap.size + 1 + 1 ≤ (w2.alloc (.cells #[.int .i64 (0)] 3)).heap.size := by have := hal.size; omega
    have hw3e : (w2.alloc (.cells #[.int .i64 (0)] 3)).heap.size = w2.heap.size + 1 := by simp
    have v0 : w2.cell? ⟨w.heap.size, 0, none⟩ = some (.int .i64 x.many) := (cell_of_block HB0.out 0).1
    clear hps hal hown2 hR2 hgg2
    go_wp2_with (at_builtin; refine wpList_append_row (L := Lay.int.slice) (Q := NotIn S) (ys := ps) (xs := x.list) (c := c1) (A := A1) (by rfl) (.tmp 31) (.tmp 33) (by rfl) Try.underlying22 hi0 hz0 hz1 hz2 (by rfl) (by decide) (by rfl) (by simp [Act.eval]) hown3 (Stay.notIn S) hel (fun _ h => h) (by simp [Value.oneCell']) (by omega) (by omega) hw3 HPS.out ?_; intro A4 c4 w4 hown4 hg4 hbk4; have HB04 := Lib.hid ((hg4.block w.heap.size (by omega) (fun e => by have := (hown3.lt _ e.symm).1; omega)).trans HB03.out); have HB14 := Lib.hid ((hg4.block (w.heap.size + 1) (by omega) (fun e => by have := (hown3.lt _ e.symm).1; omega)).trans HB13.out); clear v0; have v0 : w4.cell? ⟨w.heap.size, 0, none⟩ = some (.int .i64 x.many) := (cell_of_block HB04.out 0).1; have v1 : w4.cell? ⟨w.heap.size, 1, none⟩ = some (.slice A x.list.length c) := (cell_of_block HB04.out 1).1; have f0 : w4.frozen? ⟨w.heap.size, 0, none⟩ = false := (cell_of_block HB04.out 0).2; have f1 : w4.frozen? ⟨w.heap.size, 1, none⟩ = false := (cell_of_block HB04.out 1).2; have u0 : w4.cell? ⟨w.heap.size + 1, 0, none⟩ = some (.int .i64 0) := (cell_of_block HB14.out 0).1; have u1 : w4.cell? ⟨w.heap.size + 1, 1, none⟩ = some (.slice none 0 0) := (cell_of_block HB14.out 1).1; have g0 : w4.frozen? ⟨w.heap.size + 1, 0, none⟩ = false := (cell_of_block HB14.out 0).2; have g1 : w4.frozen? ⟨w.heap.size + 1, 1, none⟩ = false := (cell_of_block HB14.out 1).2)
    have hR4 := hR3.own hg4 (fun g e => by have := (hown3.lt g e).1; omega)
    have hgg4 := hgg3.own hg4 (fun g e => by have := (hown3.lt g e).1; omega)
    have hset : Gr S w4 (((w4.setCell ⟨w.heap.size, 1, none⟩ (.slice A4 ps.length c4)).setCell ⟨w.heap.size + 1, 0, none⟩ (.int .i64 x.many)).setCell ⟨w.heap.size + 1, 1, none⟩ (.slice A4 ps.length c4)) := (((Gr.refl _ _).set _ _ _ (.inl ((HS.out _).2 (.inr (.inl rfl))))).set _ _ _ (.inl ((HS.out _).2 (.inr (.inr rfl))))).set _ _ _ (.inl ((HS.out _).2 (.inr (.inr rfl))))
    refine bodyPost_ret (v := .agg #[.int .i64 (x.many), .slice A4 ps.length c4]) (by simp [results, Try.results45, go_sem, v0, v1, f0, f1, u0, u1, g0, g1]) rfl ⟨⟨x.many, ps⟩, A4, c4, rfl, hown4.cap.2, ?_, ⟨by show okInt x.many; unfold okInt; omega, by show smallL _ ps; rw [HPS.out]; exact HSM.out.snoc (by simp) (by intro y hy; simp at hy; unfold okInt; omega)⟩, p + 1, by omega, by omega, ((hR4.set (by omega)).set (by omega)).set (by omega), ((hgg4.set _ _ _ (.inr (by omega))).set _ _ _ (.inr (by omega))).set _ _ _ (.inr (by omega))⟩
    exact ((hown4.ab HSL.out.1).gr hset).ab_mono fun b _ hb => HS0.out b hb
  have hkb2 : (k == 2) = false := by simpa using hk2
  by_cases hk3 : k = 3
  · subst hk3
    have e1 : IntKind.i64.wrap (x.many + 3) = x.many + 3 := IntWalk.i64_in _ (by omega)
    have v0 : w2.cell? ⟨w.heap.size, 0, none⟩ = some (.int .i64 x.many) := (cell_of_block HB0.out 0).1
    have hal : Below w2.heap.size w2 (w2.alloc (.cells #[.int .i64 (-1), .int .i64 0, .int .i64 701, .int .i64 9223372036854775807, .int .i64 (x.many + 3)] 3)) := (Below.refl _ _).alloc (Nat.le_refl _) _
    have hsl := lit_sl (S := IsR r) w2 [-1, 0, 701, 9223372036854775807, x.many + 3] _ 3 rfl (by show ¬ _ = r; omega)
    have HN := Lib.hid (num_any r (p + 1) _ 5 _ _ (hR2.up hal) hsl (by simp) (by simp) (by omega) (by omega))
    have HB03 := Lib.hid ((hal.block _ (by omega)).trans HB0.out)
    have HB13 := Lib.hid ((hal.block _ (by omega)).trans HB1.out)
    have hgg3 := hgg2.up hal
    have hown3 := hown2.up (Stay.notIn S) hal
    clear hal hsl hown2 hR2 hgg2
    go_wp2_with fail
    clear v0
    refine HN.out.mono ?_
    clear HN
    rintro e w4 ⟨y, hy, rfl, hR4, hg4⟩
    have HY : Hid (okInt y) := Lib.hid (mem_lit hy (by intro z hz; simp at hz; unfold okInt; omega))
    have HB04 := Lib.hid (hg4.heap (by show ¬ _ = r; omega) HB03.out)
    have HB14 := Lib.hid (hg4.heap (by show ¬ _ = r; omega) HB13.out)
    have hgg4 := hgg3.trans hg4
    have hs4 := hg4.size
    have HXS : Hid (Lay.int.slice.Sl w4 (Ab (fun b => S b) w4) A x.list) := Lib.hid ((HXX.out.keep fun b hb => hgg4.block b hb.1 (fun e => hb.2 (by rw [show b = r from e]; exact hSr))).mono fun b hb => ⟨Nat.lt_of_lt_of_le hb.1 hgg4.size, fun e => by rcases (HS.out b).1 e with h9 | h9 | h9 <;> first | exact hb.2 h9 | (have := hb.1; omega)⟩)
    clear hy hg4 hgg3 hown3
    have v0 : w4.cell? ⟨w.heap.size, 0, none⟩ = some (.int .i64 x.many) := (cell_of_block HB04.out 0).1
    have v1 : w4.cell? ⟨w.heap.size, 1, none⟩ = some (.slice A x.list.length c) := (cell_of_block HB04.out 1).1
    have f0 : w4.frozen? ⟨w.heap.size, 0, none⟩ = false := (cell_of_block HB04.out 0).2
    have f1 : w4.frozen? ⟨w.heap.size, 1, none⟩ = false := (cell_of_block HB04.out 1).2
    have u0 : w4.cell? ⟨w.heap.size + 1, 0, none⟩ = some (.int .i64 0) := (cell_of_block HB14.out 0).1
    have u1 : w4.cell? ⟨w.heap.size + 1, 1, none⟩ = some (.slice none 0 0) := (cell_of_block HB14.out 1).1
    have g0 : w4.frozen? ⟨w.heap.size + 1, 0, none⟩ = false := (cell_of_block HB14.out 0).2
    have g1 : w4.frozen? ⟨w.heap.size + 1, 1, none⟩ = false := (cell_of_block HB14.out 1).2
    go_wp2
    have hset : Gr (fun b => S b) w4 (((w4.setCell ⟨w.heap.size, 0, none⟩ (.int .i64 y)).setCell ⟨w.heap.size + 1, 0, none⟩ (.int .i64 y)).setCell ⟨w.heap.size + 1, 1, none⟩ (.slice A x.list.length c)) := (((Gr.refl _ _).set _ _ _ (.inl ((HS.out _).2 (.inr (.inl rfl))))).set _ _ _ (.inl ((HS.out _).2 (.inr (.inr rfl))))).set _ _ _ (.inl ((HS.out _).2 (.inr (.inr rfl))))
    refine bodyPost_ret (v := .agg #[.int .i64 (y), .slice A x.list.length c]) (by simp [results, Try.results45, go_sem, v0, v1, f0, f1, u0, u1, g0, g1]) rfl ⟨⟨y, x.list⟩, A, c, rfl, hc, ?_, ⟨HY.out, HSM.out.mono (by omega)⟩, p + 1 + 1, by omega, by omega, ((hR4.set (by omega)).set (by omega)).set (by omega), ((hgg4.set _ _ _ (.inr (by omega))).set _ _ _ (.inr (by omega))).set _ _ _ (.inr (by omega))⟩
    exact (HXS.out.gr hset).ab_mono fun b _ hb => HS0.out b hb
  have hkb3 : (k == 3) = false := by simpa using hk3
  by_cases hk4 : k = 4
  · subst hk4
    obtain ⟨ps, hps⟩ : ∃ ps, ps = x.list ++ [[-9223372036854775808]] := ⟨_, rfl⟩
    have HPS := Lib.hid hps
    have hal : Below w2.heap.size w2 (w2.alloc (.cells #[.int .i64 (-9223372036854775808)] 3)) := (Below.refl _ _).alloc (Nat.le_refl _) _
    have hown3 := hown2.up (Stay.notIn S) hal
    have hR3 := hR2.up hal
    have hgg3 := hgg2.up hal
    have HB03 := Lib.hid ((hal.block _ (by omega)).trans HB0.out)
    have HB13 := Lib.hid ((hal.block _ (by omega)).trans HB1.out)
    have hel : Lay.int.slice.R (w2.alloc (.cells #[.int .i64 (-9223372036854775808)] 3)) (fun b => b < (w2.alloc (.cells #[.int .i64 (-9223372036854775808)] 3)).heap.size ∧ (Value.slice A1 x.list.length c1).ownBlock ≠ some b ∧ ¬ S b) [-9223372036854775808] [.slice (some ⟨w2.heap.size, 0, none⟩) 1 1] := by
      refine ⟨some ⟨w2.heap.size, 0, none⟩, 1, rfl, by simp, (lit_sl (S := fun b => b < w2.heap.size) w2 [-9223372036854775808] _ 3 rfl (by simp)).mono fun b hb => ⟨hb.1, fun e => hb.2 (hown2.lt b e).2, fun e => hb.2 ?_⟩⟩
      show b < w2.heap.size
      have := HSL.out.1 b e; omega
    have hw3 : w.heap.size + 1 + 1 ≤ (w2.alloc (.cells #[.int .i64 (-9223372036854775808)] 3)).heap.size := by have := hal.size; omega
    have hw3e : (w2.alloc (.cells #[.int .i64 (-9223372036854775808)] 3)).heap.size = w2.heap.size + 1 := by simp
    have v0 : w2.cell? ⟨w.heap.size, 0, none⟩ = some (.int .i64 x.many) := (cell_of_block HB0.out 0).1
    clear hps hal hown2 hR2 hgg2
    go_wp2_with (at_builtin; refine wpList_append_row (L := Lay.int.slice) (Q := NotIn S) (ys := ps) (xs := x.list) (c := c1) (A := A1) (by rfl) (.tmp 47) (.tmp 49) (by rfl) Try.underlying22 hi0 hz0 hz1 hz2 (by rfl) (by decide) (by rfl) (by simp [Act.eval]) hown3 (Stay.notIn S) hel (fun _ h => h) (by simp [Value.oneCell']) (by omega) (by omega) hw3 HPS.out ?_; intro A4 c4 w4 hown4 hg4 hbk4; have HB04 := Lib.hid ((hg4.block w.heap.size (by omega) (fun e => by have := (hown3.lt _ e.symm).1; omega)).trans HB03.out); have HB14 := Lib.hid ((hg4.block (w.heap.size + 1) (by omega) (fun e => by have := (hown3.lt _ e.symm).1; omega)).trans HB13.out); clear v0; have v0 : w4.cell? ⟨w.heap.size, 0, none⟩ = some (.int .i64 x.many) := (cell_of_block HB04.out 0).1; have v1 : w4.cell? ⟨w.heap.size, 1, none⟩ = some (.slice A x.list.length c) := (cell_of_block HB04.out 1).1; have f0 : w4.frozen? ⟨w.heap.size, 0, none⟩ = false := (cell_of_block HB04.out 0).2; have f1 : w4.frozen? ⟨w.heap.size, 1, none⟩ = false := (cell_of_block HB04.out 1).2; have u0 : w4.cell? ⟨w.heap.size + 1, 0, none⟩ = some (.int .i64 0) := (cell_of_block HB14.out 0).1; have u1 : w4.cell? ⟨w.heap.size + 1, 1, none⟩ = some (.slice none 0 0) := (cell_of_block HB14.out 1).1; have g0 : w4.frozen? ⟨w.heap.size + 1, 0, none⟩ = false := (cell_of_block HB14.out 0).2; have g1 : w4.frozen? ⟨w.heap.size + 1, 1, none⟩ = false := (cell_of_block HB14.out 1).2)
    have hR4 := hR3.own hg4 (fun g e => by have := (hown3.lt g e).1; omega)
    have hgg4 := hgg3.own hg4 (fun g e => by have := (hown3.lt g e).1; omega)
    have hset : Gr S w4 (((w4.setCell ⟨w.heap.size, 1, none⟩ (.slice A4 ps.length c4)).setCell ⟨w.heap.size + 1, 0, none⟩ (.int .i64 x.many)).setCell ⟨w.heap.size + 1, 1, none⟩ (.slice A4 ps.length c4)) := (((Gr.refl _ _).set _ _ _ (.inl ((HS.out _).2 (.inr (.inl rfl))))).set _ _ _ (.inl ((HS.out _).2 (.inr (.inr rfl))))).set _ _ _ (.inl ((HS.out _).2 (.inr (.inr rfl))))
    refine bodyPost_ret (v := .agg #[.int .i64 (x.many), .slice A4 ps.length c4]) (by simp [results, Try.results45, go_sem, v0, v1, f0, f1, u0, u1, g0, g1]) rfl ⟨⟨x.many, ps⟩, A4, c4, rfl, hown4.cap.2, ?_, ⟨by show okInt x.many; unfold okInt; omega, by show smallL _ ps; rw [HPS.out]; exact HSM.out.snoc (by simp) (by intro y hy; simp at hy; unfold okInt; omega)⟩, p + 1, by omega, by omega, ((hR4.set (by omega)).set (by omega)).set (by omega), ((hgg4.set _ _ _ (.inr (by omega))).set _ _ _ (.inr (by omega))).set _ _ _ (.inr (by omega))⟩
    exact ((hown4.ab HSL.out.1).gr hset).ab_mono fun b _ hb => HS0.out b hb
  have hkb4 : (k == 4) = false := by simpa using hk4
  by_cases hk5 : k = 5
  · subst hk5
    obtain ⟨ps, hps⟩ : ∃ ps, ps = x.list ++ [[2, 1]] := ⟨_, rfl⟩
    have HPS := Lib.hid hps
    have hal : Below w2.heap.size w2 (w2.alloc (.cells #[.int .i64 (2), .int .i64 (1)] 3)) := (Below.refl _ _).alloc (Nat.le_refl _) _
    have hown3 := hown2.up (Stay.notIn S) hal
    have hR3 := hR2.up hal
    have hgg3 := hgg2.up hal
    have HB03 := Lib.hid ((hal.block _ (by omega)).trans HB0.out)
    have HB13 := Lib.hid ((hal.block _ (by omega)).trans HB1.out)
    have hel : Lay.int.slice.R (w2.alloc (.cells #[.int .i64 (2), .int .i64 (1)] 3)) (fun b => b < (w2.alloc (.cells #[.int .i64 (2), .int .i64 (1)] 3)).heap.size ∧ (Value.slice A1 x.list.length c1).ownBlock ≠ some b ∧ ¬ S b) [2, 1] [.slice (some ⟨w2.heap.size, 0, none⟩) 2 2] := by
      refine ⟨some ⟨w2.heap.size, 0, none⟩, 2, rfl, by simp, (lit_sl (S := fun b => b < w2.heap.size) w2 [2, 1] _ 3 rfl (by simp)).mono fun b hb => ⟨hb.1, fun e => hb.2 (hown2.lt b e).2, fun e => hb.2 ?_⟩⟩
      show b < w2.heap.size
      have := HSL.out.1 b e; omega
    have hw3 : w.heap.size + 1 + 1 ≤ (w2.alloc (.cells #[.int .i64 (2), .int .i64 (1)] 3)).heap.size := by have := hal.size; omega
    have hw3e : (w2.alloc (.cells #[.int .i64 (2), .int .i64 (1)] 3)).heap.size = w2.heap.size + 1 := by simp
    have v0 : w2.cell? ⟨w.heap.size, 0, none⟩ = some (.int .i64 x.many) := (cell_of_block HB0.out 0).1
    clear hps hal hown2 hR2 hgg2
    go_wp2_with (at_builtin; refine wpList_append_row (L := Lay.int.slice) (Q := NotIn S) (ys := ps) (xs := x.list) (c := c1) (A := A1) (by rfl) (.tmp 54) (.tmp 56) (by rfl) Try.underlying22 hi0 hz0 hz1 hz2 (by rfl) (by decide) (by rfl) (by simp [Act.eval]) hown3 (Stay.notIn S) hel (fun _ h => h) (by simp [Value.oneCell']) (by omega) (by omega) hw3 HPS.out ?_; intro A4 c4 w4 hown4 hg4 hbk4; have HB04 := Lib.hid ((hg4.block w.heap.size (by omega) (fun e => by have := (hown3.lt _ e.symm).1; omega)).trans HB03.out); have HB14 := Lib.hid ((hg4.block (w.heap.size + 1) (by omega) (fun e => by have := (hown3.lt _ e.symm).1; omega)).trans HB13.out); clear v0; have v0 : w4.cell? ⟨w.heap.size, 0, none⟩ = some (.int .i64 x.many) := (cell_of_block HB04.out 0).1; have v1 : w4.cell? ⟨w.heap.size, 1, none⟩ = some (.slice A x.list.length c) := (cell_of_block HB04.out 1).1; have f0 : w4.frozen? ⟨w.heap.size, 0, none⟩ = false := (cell_of_block HB04.out 0).2; have f1 : w4.frozen? ⟨w.heap.size, 1, none⟩ = false := (cell_of_block HB04.out 1).2; have u0 : w4.cell? ⟨w.heap.size + 1, 0, none⟩ = some (.int .i64 0) := (cell_of_block HB14.out 0).1; have u1 : w4.cell? ⟨w.heap.size + 1, 1, none⟩ = some (.slice none 0 0) := (cell_of_block HB14.out 1).1; have g0 : w4.frozen? ⟨w.heap.size + 1, 0, none⟩ = false := (cell_of_block HB14.out 0).2; have g1 : w4.frozen? ⟨w.heap.size + 1, 1, none⟩ = false := (cell_of_block HB14.out 1).2)
    have hR4 := hR3.own hg4 (fun g e => by have := (hown3.lt g e).1; omega)
    have hgg4 := hgg3.own hg4 (fun g e => by have := (hown3.lt g e).1; omega)
    have hset : Gr S w4 (((w4.setCell ⟨w.heap.size, 1, none⟩ (.slice A4 ps.length c4)).setCell ⟨w.heap.size + 1, 0, none⟩ (.int .i64 x.many)).setCell ⟨w.heap.size + 1, 1, none⟩ (.slice A4 ps.length c4)) := (((Gr.refl _ _).set _ _ _ (.inl ((HS.out _).2 (.inr (.inl rfl))))).set _ _ _ (.inl ((HS.out _).2 (.inr (.inr rfl))))).set _ _ _ (.inl ((HS.out _).2 (.inr (.inr rfl))))
    refine bodyPost_ret (v := .agg #[.int .i64 (x.many), .slice A4 ps.length c4]) (by simp [results, Try.results45, go_sem, v0, v1, f0, f1, u0, u1, g0, g1]) rfl ⟨⟨x.many, ps⟩, A4, c4, rfl, hown4.cap.2, ?_, ⟨by show okInt x.many; unfold okInt; omega, by show smallL _ ps; rw [HPS.out]; exact HSM.out.snoc (by simp) (by intro y hy; simp at hy; unfold okInt; omega)⟩, p + 1, by omega, by omega, ((hR4.set (by omega)).set (by omega)).set (by omega), ((hgg4.set _ _ _ (.inr (by omega))).set _ _ _ (.inr (by omega))).set _ _ _ (.inr (by omega))⟩
    exact ((hown4.ab HSL.out.1).gr hset).ab_mono fun b _ hb => HS0.out b hb
  have hkb5 : (k == 5) = false := by simpa using hk5
  clear hk0 hk1 hk2 hk3 hk4 hk5
  have HXS : Hid (Lay.int.slice.Sl w2 (Ab (fun b => S b) w2) A x.list) := Lib.hid ((HXX.out.keep fun b hb => hgg2.block b hb.1 (fun e => hb.2 (by rw [show b = r from e]; exact hSr))).mono fun b hb => ⟨Nat.lt_of_lt_of_le hb.1 hgg2.size, fun e => by rcases (HS.out b).1 e with h9 | h9 | h9 <;> first | exact hb.2 h9 | (have := hb.1; omega)⟩)
  have v0 : w2.cell? ⟨w.heap.size, 0, none⟩ = some (.int .i64 x.many) := (cell_of_block HB0.out 0).1
  have v1 : w2.cell? ⟨w.heap.size, 1, none⟩ = some (.slice A x.list.length c) := (cell_of_block HB0.out 1).1
  have f0 : w2.frozen? ⟨w.heap.size, 0, none⟩ = false := (cell_of_block HB0.out 0).2
  have f1 : w2.frozen? ⟨w.heap.size, 1, none⟩ = false := (cell_of_block HB0.out 1).2
  have u0 : w2.cell? ⟨w.heap.size + 1, 0, none⟩ = some (.int .i64 0) := (cell_of_block HB1.out 0).1
  have u1 : w2.cell? ⟨w.heap.size + 1, 1, none⟩ = some (.slice none 0 0) := (cell_of_block HB1.out 1).1
  have g0 : w2.frozen? ⟨w.heap.size + 1, 0, none⟩ = false := (cell_of_block HB1.out 0).2
  have g1 : w2.frozen? ⟨w.heap.size + 1, 1, none⟩ = false := (cell_of_block HB1.out 1).2
  go_wp2
  have hset : Gr (fun b => S b) w2 ((w2.setCell ⟨w.heap.size + 1, 0, none⟩ (.int .i64 x.many)).setCell ⟨w.heap.size + 1, 1, none⟩ (.slice A x.list.length c)) := ((Gr.refl _ _).set _ _ _ (.inl ((HS.out _).2 (.inr (.inr rfl))))).set _ _ _ (.inl ((HS.out _).2 (.inr (.inr rfl))))
  refine bodyPost_ret (v := .agg #[.int .i64 (x.many), .slice A x.list.length c]) (by simp [results, Try.results45, go_sem, v0, v1, f0, f1, u0, u1, g0, g1]) rfl ⟨⟨x.many, x.list⟩, A, c, rfl, hc, ?_, ⟨by show okInt x.many; unfold okInt; omega, HSM.out.mono (by omega)⟩, p + 1, by omega, by omega, (hR2.set (by omega)).set (by omega), (hgg2.set _ _ _ (.inr (by omega))).set _ _ _ (.inr (by omega))⟩
  exact (HXS.out.gr hset).ab_mono fun b _ hb => HS0.out b hb
end Go.Proofs.Ytndolbplkjhooaa
