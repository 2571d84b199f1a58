/- Draws of nets: l6Two, DrawNetAnd, DrawNetXor, DrawNetCnf, DrawNetOk. -/
import Derived.Test.YtcdlfnhjpjpbjaaDrB
namespace Go.Proofs.Ytcdlfnhjpjpbjaa
open Go Go.RowKit

def RetTwo (S0 : Nat → Prop) (r : Nat) (p M : Int) (w : World) (e : Ending) (w' : World) : Prop :=
  ∃ n A c a b, e = .returned (.tuple #[.agg #[.int .i64 (N.ins n), .slice A (N.gs n).length c], .int .i64 a, .int .i64 b]) ∧ Lay.gate.Sl w' (Ab S0 w') A n.gs ∧ bentN 101 n ∧ okInt a ∧ okInt b ∧ Drawn r p M w w'

set_option maxRecDepth 100000 in
set_option maxHeartbeats 4000000 in
theorem l6Two_any (S0 : Nat → Prop) (r : Nat) (p : Int) (w : World) (h : Rdr w r p) (hS0 : ∀ b, S0 b → b < w.heap.size) (hSr : S0 r) (p0 : 0 ≤ p) (p1 : p ≤ 500000000) :
    Calls Try.prog 25 #[.pointer (some ⟨r, 0, none⟩)] w (RetTwo S0 r p 20000 w) := by
  have hrl := h.lt
  have hal0 : Below w.heap.size w (w.alloc (.cells #[.int .i64 0, .slice none 0 0] 25)) := (Below.refl _ _).alloc (Nat.le_refl _) _
  have HB2 := Lib.hid (show (w.alloc (.cells #[.int .i64 0, .slice none 0 0] 25)).heap[w.heap.size]? = some (.cells #[.int .i64 0, .slice none 0 0] 25 (0, 0)) from heap_alloc_new _ _)
  have hsz0 : (w.alloc (.cells #[.int .i64 0, .slice none 0 0] 25)).heap.size = w.heap.size + 1 := by simp
  have hR0 := h.up hal0
  have hg0 : Gr (IsR r) w (w.alloc (.cells #[.int .i64 0, .slice none 0 0] 25)) := .below hal0
  clear hal0 h
  go_enter Try.func25, Try.ntmps25
  go_wp2_with fail
  generalize w.alloc (.cells #[.int .i64 0, .slice none 0 0] 25) = w0 at *
  obtain ⟨T, hT⟩ : ∃ T : Nat → Prop, ∀ b, T b ↔ S0 b ∨ b = w.heap.size := ⟨fun b => S0 b ∨ b = w.heap.size, fun _ => Iff.rfl⟩
  have HT := Lib.hid hT
  have HTL : Hid (∀ b, T b → b < w.heap.size + 1) := Lib.hid fun b hb => by
    rcases (hT b).1 hb with h9 | h9
    · have := hS0 b h9; omega
    · omega
  have HTr : Hid (T r) := Lib.hid ((hT r).2 (.inl hSr))
  clear hT
  refine (l6Net_any T r p 12 w0 hR0 (fun b hb => by have := HTL.out b hb; omega) HTr.out p0 (by omega) (by omega) (by omega)).mono ?_
  rintro e w1 ⟨n, A1, c1, rfl, hs1, hsm, q1, q10, q11, hR1, hg1⟩
  have HB2 := Lib.hid (hg1.heap (by show ¬ _ = r; omega) HB2.out)
  have hgg1 := hg0.trans hg1
  have hz1 := hg1.size
  clear hR0 hg0 hg1
  go_wp2_with fail
  refine (l6Bent_any T r 100 q1 n A1 c1 w1 hR1 hs1 (fun b hb => by have := HTL.out b hb; omega) HTr.out hsm (by omega) (by omega) (by omega)).mono ?_
  rintro e w2 ⟨y, A2, c2, rfl, hs2, hbn, q2, q20, q21, hR2, hg2⟩
  have HB2 := Lib.hid (hg2.heap (by show ¬ _ = r; omega) HB2.out)
  have hgg2 := hgg1.trans hg2
  have hz2 := hg2.size
  have HBN := Lib.hid hbn
  have hyb : -1 ≤ y.ins ∧ y.ins ≤ 9 ∧ y.gs.length ≤ 101 := ⟨hbn.1, hbn.2.1, hbn.2.2.1⟩
  obtain ⟨hyb0, hyb1, hyb2⟩ := hyb
  clear hR1 hgg1 hg2 hs1 hsm hbn
  have hal : Below w2.heap.size w2 (w2.alloc (.cells #[.int .i64 y.ins, .slice A2 y.gs.length c2] 25)) := (Below.refl _ _).alloc (Nat.le_refl _) _
  have HB5 := Lib.hid (show (w2.alloc (.cells #[.int .i64 y.ins, .slice A2 y.gs.length c2] 25)).heap[w2.heap.size]? = some (.cells #[.int .i64 y.ins, .slice A2 y.gs.length c2] 25 (0, 0)) from heap_alloc_new _ _)
  have HB2 := Lib.hid ((hal.block _ (lt_of_block HB2.out)).trans HB2.out)
  have hR3 := hR2.up hal
  have hgg3 := hgg2.up hal
  have HS := Lib.hid (hs2.gr (.below hal))
  have hz3 : (w2.alloc (.cells #[.int .i64 y.ins, .slice A2 y.gs.length c2] 25)).heap.size = w2.heap.size + 1 := by simp
  clear hal hR2 hgg2 hs2
  go_wp2_with fail
  generalize w2.alloc (.cells #[.int .i64 y.ins, .slice A2 y.gs.length c2] 25) = w3 at *
  generalize hb5e : w2.heap.size = b5 at *
  generalize hb2e : w.heap.size = b2 at *
  have HB2E := Lib.hid hb2e
  have i5 : b2 < b5 := by omega
  clear hb5e hb2e hsz0 hz1 hz2
  refine (l6Lit_any r q2 y A2 c2 w3 hR3 (by omega) (by omega) (by omega) (by omega) (by omega)).mono ?_
  rintro e w4 ⟨a, rfl, ⟨a0, a1, a2, _⟩, q4, q40, q41, hR4, hg4⟩
  have HB2 := Lib.hid (hg4.heap (by show ¬ _ = r; omega) HB2.out)
  have HB5 := Lib.hid (hg4.heap (by show ¬ _ = r; omega) HB5.out)
  have HS := Lib.hid (HS.out.gr (hg4.mono fun b hb => by rw [hb]; exact HTr.out))
  have hgg4 := hgg3.trans hg4
  have hz4 := hg4.size
  have v0 : w4.cell? ⟨b5, 0, none⟩ = some (.int .i64 y.ins) := (cell_of_block HB5.out 0).1
  have v1 : w4.cell? ⟨b5, 1, none⟩ = some (.slice A2 y.gs.length c2) := (cell_of_block HB5.out 1).1
  clear hR3 hgg3 hg4
  go_wp2_with fail
  clear v0 v1
  refine (l6Lit_any r q4 y A2 c2 w4 hR4 (by omega) (by omega) (by omega) (by omega) (by omega)).mono ?_
  rintro e w5 ⟨b, rfl, ⟨b0, b1, b2', _⟩, q5, q50, q51, hR5, hg5⟩
  have HB2 := Lib.hid (hg5.heap (by show ¬ _ = r; omega) HB2.out)
  have HB5 := Lib.hid (hg5.heap (by show ¬ _ = r; omega) HB5.out)
  have HS := Lib.hid (HS.out.gr (hg5.mono fun b hb => by rw [hb]; exact HTr.out))
  have hgg5 := hgg4.trans hg5
  have hz5 := hg5.size
  clear hR4 hgg4 hg5
  go_wp2_with fail
  refine (pick_any r q5 30 w5 hR5 (by omega) (by omega) (by omega) (by omega)).mono ?_
  rintro e w6 ⟨k, rfl, k0, _, _, hR6, hg6⟩
  have hg6 := Gr.one (S := IsR r) hg6 rfl
  have HB2 := Lib.hid (hg6.heap (by show ¬ _ = r; omega) HB2.out)
  have HB5 := Lib.hid (hg6.heap (by show ¬ _ = r; omega) HB5.out)
  have HS := Lib.hid (HS.out.gr (hg6.mono fun b hb => by rw [show b = r from hb]; exact HTr.out))
  have hgg6 := hgg5.trans hg6
  have hz6 := hg6.size
  have HA : Hid (okInt a ∧ okInt b) := Lib.hid (by unfold okInt; omega)
  clear hR5 hgg5 hg6
  by_cases hk0 : k = 0
  · subst hk0
    have hal : Below w6.heap.size w6 (w6.alloc (.cells #[.int .i64 0, .int .i64 40, .int .i64 (-40), .int .i64 (-9223372036854775808), .int .i64 9223372036854775807] 3)) := (Below.refl _ _).alloc (Nat.le_refl _) _
    have hsl := lit_sl (S := IsR r) w6 [0, 40, -40, -9223372036854775808, 9223372036854775807] _ 3 rfl (by show ¬ _ = r; omega)
    have HN := Lib.hid (num_any r (q5 + 1) _ 5 _ _ (hR6.up hal) hsl (by simp) (by simp) (by omega) (by omega))
    have HB2 := Lib.hid ((hal.block _ (lt_of_block HB2.out)).trans HB2.out)
    have HB5 := Lib.hid ((hal.block _ (lt_of_block HB5.out)).trans HB5.out)
    have HS := Lib.hid (HS.out.gr (.below hal))
    have hgg7 := hgg6.up hal
    clear hal hsl hR6 hgg6
    go_wp2_with fail
    refine HN.out.mono ?_
    clear HN
    rintro e w8 ⟨z, hz, rfl, hR8, hg8⟩
    have HZ : Hid (okInt z) := Lib.hid (mem_lit hz (by intro z hz; simp at hz; unfold okInt; omega))
    have HB2 := Lib.hid (hg8.heap (by show ¬ _ = r; omega) HB2.out)
    have HB5 := Lib.hid (hg8.heap (by show ¬ _ = r; omega) HB5.out)
    have HS := Lib.hid (HS.out.gr (hg8.mono fun b hb => by rw [show b = r from hb]; exact HTr.out))
    have hgg8 := hgg7.trans hg8
    clear hz hgg7 hg8
    have v0 : w8.cell? ⟨b5, 0, none⟩ = some (.int .i64 y.ins) := (cell_of_block HB5.out 0).1
    have v1 : w8.cell? ⟨b5, 1, none⟩ = some (.slice A2 y.gs.length c2) := (cell_of_block HB5.out 1).1
    have u0 : w8.cell? ⟨b2, 0, none⟩ = some (.int .i64 0) := (cell_of_block HB2.out 0).1
    have u1 : w8.cell? ⟨b2, 1, none⟩ = some (.slice none 0 0) := (cell_of_block HB2.out 1).1
    have g0 : w8.frozen? ⟨b2, 0, none⟩ = false := (cell_of_block HB2.out 0).2
    have g1 : w8.frozen? ⟨b2, 1, none⟩ = false := (cell_of_block HB2.out 1).2
    have hset : Gr T w8 ((w8.setCell ⟨b2, 0, none⟩ (.int .i64 y.ins)).setCell ⟨b2, 1, none⟩ (.slice A2 y.gs.length c2)) := ((Gr.refl _ _).set _ _ _ (.inl ((HT.out _).2 (.inr rfl)))).set _ _ _ (.inl ((HT.out _).2 (.inr rfl)))
    have HL := Lib.hid ((HS.out.gr hset).ab_mono (T := S0) fun b _ hb => (HT.out b).2 (.inl hb))
    have HRR := Lib.hid ((hR8.set (g := b2) (o := 0) (u := .int .i64 y.ins) (by omega)).set (g := b2) (o := 1) (u := .slice A2 y.gs.length c2) (by omega))
    have HGG := Lib.hid ((hgg8.set b2 0 (.int .i64 y.ins) (.inr (by rw [HB2E.out]; exact Nat.le_refl _))).set b2 1 (.slice A2 y.gs.length c2) (.inr (by rw [HB2E.out]; exact Nat.le_refl _)))
    clear hset
    go_wp2
    refine bodyPost_ret (v := .tuple #[.agg #[.int .i64 y.ins, .slice A2 y.gs.length c2], .int .i64 z, .int .i64 b]) (by simp [results, Try.results25, go_sem, u0, u1, g0, g1]) rfl ⟨y, A2, c2, _, _, rfl, HL.out, HBN.out, HZ.out, HA.out.2, _, ?_, ?_, HRR.out, HGG.out⟩ <;> omega
  have hkb0 : (k == 0) = false := by simpa using hk0
  by_cases hk1 : k = 1
  · subst hk1
    have hal : Below w6.heap.size w6 (w6.alloc (.cells #[.int .i64 0, .int .i64 40, .int .i64 (-40), .int .i64 (-9223372036854775808), .int .i64 9223372036854775807] 3)) := (Below.refl _ _).alloc (Nat.le_refl _) _
    have hsl := lit_sl (S := IsR r) w6 [0, 40, -40, -9223372036854775808, 9223372036854775807] _ 3 rfl (by show ¬ _ = r; omega)
    have HN := Lib.hid (num_any r (q5 + 1) _ 5 _ _ (hR6.up hal) hsl (by simp) (by simp) (by omega) (by omega))
    have HB2 := Lib.hid ((hal.block _ (lt_of_block HB2.out)).trans HB2.out)
    have HB5 := Lib.hid ((hal.block _ (lt_of_block HB5.out)).trans HB5.out)
    have HS := Lib.hid (HS.out.gr (.below hal))
    have hgg7 := hgg6.up hal
    clear hal hsl hR6 hgg6
    go_wp2_with fail
    refine HN.out.mono ?_
    clear HN
    rintro e w8 ⟨z, hz, rfl, hR8, hg8⟩
    have HZ : Hid (okInt z) := Lib.hid (mem_lit hz (by intro z hz; simp at hz; unfold okInt; omega))
    have HB2 := Lib.hid (hg8.heap (by show ¬ _ = r; omega) HB2.out)
    have HB5 := Lib.hid (hg8.heap (by show ¬ _ = r; omega) HB5.out)
    have HS := Lib.hid (HS.out.gr (hg8.mono fun b hb => by rw [show b = r from hb]; exact HTr.out))
    have hgg8 := hgg7.trans hg8
    clear hz hgg7 hg8
    have v0 : w8.cell? ⟨b5, 0, none⟩ = some (.int .i64 y.ins) := (cell_of_block HB5.out 0).1
    have v1 : w8.cell? ⟨b5, 1, none⟩ = some (.slice A2 y.gs.length c2) := (cell_of_block HB5.out 1).1
    have u0 : w8.cell? ⟨b2, 0, none⟩ = some (.int .i64 0) := (cell_of_block HB2.out 0).1
    have u1 : w8.cell? ⟨b2, 1, none⟩ = some (.slice none 0 0) := (cell_of_block HB2.out 1).1
    have g0 : w8.frozen? ⟨b2, 0, none⟩ = false := (cell_of_block HB2.out 0).2
    have g1 : w8.frozen? ⟨b2, 1, none⟩ = false := (cell_of_block HB2.out 1).2
    have hset : Gr T w8 ((w8.setCell ⟨b2, 0, none⟩ (.int .i64 y.ins)).setCell ⟨b2, 1, none⟩ (.slice A2 y.gs.length c2)) := ((Gr.refl _ _).set _ _ _ (.inl ((HT.out _).2 (.inr rfl)))).set _ _ _ (.inl ((HT.out _).2 (.inr rfl)))
    have HL := Lib.hid ((HS.out.gr hset).ab_mono (T := S0) fun b _ hb => (HT.out b).2 (.inl hb))
    have HRR := Lib.hid ((hR8.set (g := b2) (o := 0) (u := .int .i64 y.ins) (by omega)).set (g := b2) (o := 1) (u := .slice A2 y.gs.length c2) (by omega))
    have HGG := Lib.hid ((hgg8.set b2 0 (.int .i64 y.ins) (.inr (by rw [HB2E.out]; exact Nat.le_refl _))).set b2 1 (.slice A2 y.gs.length c2) (.inr (by rw [HB2E.out]; exact Nat.le_refl _)))
    clear hset
    go_wp2
    refine bodyPost_ret (v := .tuple #[.agg #[.int .i64 y.ins, .slice A2 y.gs.length c2], .int .i64 a, .int .i64 z]) (by simp [results, Try.results25, go_sem, u0, u1, g0, g1]) rfl ⟨y, A2, c2, _, _, rfl, HL.out, HBN.out, HA.out.1, HZ.out, _, ?_, ?_, HRR.out, HGG.out⟩ <;> omega
  have hkb1 : (k == 1) = false := by simpa using hk1
  clear hk0 hk1
  have v0 : w6.cell? ⟨b5, 0, none⟩ = some (.int .i64 y.ins) := (cell_of_block HB5.out 0).1
  have v1 : w6.cell? ⟨b5, 1, none⟩ = some (.slice A2 y.gs.length c2) := (cell_of_block HB5.out 1).1
  have u0 : w6.cell? ⟨b2, 0, none⟩ = some (.int .i64 0) := (cell_of_block HB2.out 0).1
  have u1 : w6.cell? ⟨b2, 1, none⟩ = some (.slice none 0 0) := (cell_of_block HB2.out 1).1
  have g0 : w6.frozen? ⟨b2, 0, none⟩ = false := (cell_of_block HB2.out 0).2
  have g1 : w6.frozen? ⟨b2, 1, none⟩ = false := (cell_of_block HB2.out 1).2
  have hset : Gr T w6 ((w6.setCell ⟨b2, 0, none⟩ (.int .i64 y.ins)).setCell ⟨b2, 1, none⟩ (.slice A2 y.gs.length c2)) := ((Gr.refl _ _).set _ _ _ (.inl ((HT.out _).2 (.inr rfl)))).set _ _ _ (.inl ((HT.out _).2 (.inr rfl)))
  have HL := Lib.hid ((HS.out.gr hset).ab_mono (T := S0) fun b _ hb => (HT.out b).2 (.inl hb))
  have HRR := Lib.hid ((hR6.set (g := b2) (o := 0) (u := .int .i64 y.ins) (by omega)).set (g := b2) (o := 1) (u := .slice A2 y.gs.length c2) (by omega))
  have HGG := Lib.hid ((hgg6.set b2 0 (.int .i64 y.ins) (.inr (by rw [HB2E.out]; exact Nat.le_refl _))).set b2 1 (.slice A2 y.gs.length c2) (.inr (by rw [HB2E.out]; exact Nat.le_refl _)))
  clear hset
  go_wp2
  refine bodyPost_ret (v := .tuple #[.agg #[.int .i64 y.ins, .slice A2 y.gs.length c2], .int .i64 a, .int .i64 b]) (by simp [results, Try.results25, go_sem, u0, u1, g0, g1]) rfl ⟨y, A2, c2, _, _, rfl, HL.out, HBN.out, HA.out.1, HA.out.2, _, ?_, ?_, HRR.out, HGG.out⟩ <;> omega

def DrawN2 (w : World) (e : Ending) (w' : World) : Prop := ∃ n A c a b, e = .returned (.tuple #[.agg #[.int .i64 (N.ins n), .slice A (N.gs n).length c], .int .i64 a, .int .i64 b]) ∧ Lay.gate.Rd w' A n.gs ∧ bentN 101 n ∧ okInt a ∧ okInt b ∧ Below w.heap.size w w'
def DrawN1 (w : World) (e : Ending) (w' : World) : Prop := ∃ n A c, e = .returned (.agg #[.int .i64 (N.ins n), .slice A (N.gs n).length c]) ∧ Lay.gate.Rd w' A n.gs ∧ bentN 101 n ∧ Below w.heap.size w w'

set_option maxRecDepth 100000 in
set_option maxHeartbeats 2000000 in
theorem drawNetAnd_any (A : Option Addr) (c : Nat) (bs : List UInt8) (w : World) (h : Lay.byte.Rd w A bs) (hc : bs.length ≤ c) (hn : bs.length ≤ 9223372036854775807) :
    Calls Try.prog 7 #[.slice A bs.length c] w (DrawN2 w) := by
  have hal0 : Below w.heap.size w (w.alloc (.cells #[.int .i64 0, .slice none 0 0] 25)) := (Below.refl _ _).alloc (Nat.le_refl _) _
  have HB2 := Lib.hid (show (w.alloc (.cells #[.int .i64 0, .slice none 0 0] 25)).heap[w.heap.size]? = some (.cells #[.int .i64 0, .slice none 0 0] 25 (0, 0)) from heap_alloc_new _ _)
  have HO := Lib.hid (open_any A c bs _ (h.up hal0) hc hn)
  have HAL := Lib.hid hal0
  have hs0 : (w.alloc (.cells #[.int .i64 0, .slice none 0 0] 25)).heap.size = w.heap.size + 1 := by simp
  clear hal0 h
  go_enter Try.func7, Try.ntmps7
  go_wp2_with fail
  generalize w.alloc (.cells #[.int .i64 0, .slice none 0 0] 25) = w0 at *
  refine HO.out.mono ?_
  clear HO
  rintro e w1 ⟨r, rfl, hr, hR1, hb1⟩
  have HB2 := Lib.hid ((hb1.block _ (lt_of_block HB2.out)).trans HB2.out)
  have hbw := bthen HAL.out hb1
  have hr2 : w.heap.size < r := by omega
  have hrl := hR1.lt
  obtain ⟨T, hT⟩ : ∃ T : Nat → Prop, ∀ b, T b ↔ b = r ∨ b = w.heap.size := ⟨fun b => b = r ∨ b = w.heap.size, fun _ => Iff.rfl⟩
  have HT := Lib.hid hT
  have HTL : Hid (∀ b, T b → b < w1.heap.size) := Lib.hid fun b hb => by have := (hT b).1 hb; omega
  have hT9 : T r := (hT r).2 (.inl rfl)
  clear hT hb1 HAL
  go_wp2_with fail
  refine (l6Two_any T r 0 w1 hR1 HTL.out hT9 (by omega) (by omega)).mono ?_
  rintro e w2 ⟨n, A2, c2, a, b, rfl, hs2, hbn, ha, hb, q2, q20, q21, hR2, hg2⟩
  have HB2 := Lib.hid (hg2.heap (by show ¬ _ = r; omega) HB2.out)
  have HBN := Lib.hid (And.intro hbn (And.intro ha hb))
  clear hbn ha hb
  have u0 : w2.cell? ⟨w.heap.size, 0, none⟩ = some (.int .i64 0) := (cell_of_block HB2.out 0).1
  have u1 : w2.cell? ⟨w.heap.size, 1, none⟩ = some (.slice none 0 0) := (cell_of_block HB2.out 1).1
  have g0 : w2.frozen? ⟨w.heap.size, 0, none⟩ = false := (cell_of_block HB2.out 0).2
  have g1 : w2.frozen? ⟨w.heap.size, 1, none⟩ = false := (cell_of_block HB2.out 1).2
  have hset : Gr T w2 ((w2.setCell ⟨w.heap.size, 0, none⟩ (.int .i64 n.ins)).setCell ⟨w.heap.size, 1, none⟩ (.slice A2 n.gs.length c2)) := ((Gr.refl _ _).set _ _ _ (.inl ((HT.out _).2 (.inr rfl)))).set _ _ _ (.inl ((HT.out _).2 (.inr rfl)))
  have HL := Lib.hid ((hs2.gr hset).ab_rd)
  have HGG := Lib.hid (((Gr.below (S := T) hbw).trans (hg2.mono fun b hb => (HT.out b).2 (.inl hb))).trans hset)
  clear hset hbw
  go_wp2
  refine bodyPost_ret (v := .tuple #[.agg #[.int .i64 n.ins, .slice A2 n.gs.length c2], .int .i64 a, .int .i64 b]) (by simp [results, Try.results7, go_sem, u0, u1, g0, g1]) rfl ⟨n, A2, c2, a, b, rfl, HL.out, HBN.out.1, HBN.out.2.1, HBN.out.2.2, ?_⟩
  exact HGG.out.to_below fun b hb => by rcases (HT.out b).1 hb with h9 | h9 <;> omega

set_option maxRecDepth 100000 in
set_option maxHeartbeats 2000000 in
theorem drawNetXor_any (A : Option Addr) (c : Nat) (bs : List UInt8) (w : World) (h : Lay.byte.Rd w A bs) (hc : bs.length ≤ c) (hn : bs.length ≤ 9223372036854775807) :
    Calls Try.prog 13 #[.slice A bs.length c] w (DrawN2 w) := by
  have hal0 : Below w.heap.size w (w.alloc (.cells #[.int .i64 0, .slice none 0 0] 25)) := (Below.refl _ _).alloc (Nat.le_refl _) _
  have HB2 := Lib.hid (show (w.alloc (.cells #[.int .i64 0, .slice none 0 0] 25)).heap[w.heap.size]? = some (.cells #[.int .i64 0, .slice none 0 0] 25 (0, 0)) from heap_alloc_new _ _)
  have HO := Lib.hid (open_any A c bs _ (h.up hal0) hc hn)
  have HAL := Lib.hid hal0
  have hs0 : (w.alloc (.cells #[.int .i64 0, .slice none 0 0] 25)).heap.size = w.heap.size + 1 := by simp
  clear hal0 h
  go_enter Try.func13, Try.ntmps13
  go_wp2_with fail
  generalize w.alloc (.cells #[.int .i64 0, .slice none 0 0] 25) = w0 at *
  refine HO.out.mono ?_
  clear HO
  rintro e w1 ⟨r, rfl, hr, hR1, hb1⟩
  have HB2 := Lib.hid ((hb1.block _ (lt_of_block HB2.out)).trans HB2.out)
  have hbw := bthen HAL.out hb1
  have hr2 : w.heap.size < r := by omega
  have hrl := hR1.lt
  obtain ⟨T, hT⟩ : ∃ T : Nat → Prop, ∀ b, T b ↔ b = r ∨ b = w.heap.size := ⟨fun b => b = r ∨ b = w.heap.size, fun _ => Iff.rfl⟩
  have HT := Lib.hid hT
  have HTL : Hid (∀ b, T b → b < w1.heap.size) := Lib.hid fun b hb => by have := (hT b).1 hb; omega
  have hT9 : T r := (hT r).2 (.inl rfl)
  clear hT hb1 HAL
  go_wp2_with fail
  refine (l6Two_any T r 0 w1 hR1 HTL.out hT9 (by omega) (by omega)).mono ?_
  rintro e w2 ⟨n, A2, c2, a, b, rfl, hs2, hbn, ha, hb, q2, q20, q21, hR2, hg2⟩
  have HB2 := Lib.hid (hg2.heap (by show ¬ _ = r; omega) HB2.out)
  have HBN := Lib.hid (And.intro hbn (And.intro ha hb))
  clear hbn ha hb
  have u0 : w2.cell? ⟨w.heap.size, 0, none⟩ = some (.int .i64 0) := (cell_of_block HB2.out 0).1
  have u1 : w2.cell? ⟨w.heap.size, 1, none⟩ = some (.slice none 0 0) := (cell_of_block HB2.out 1).1
  have g0 : w2.frozen? ⟨w.heap.size, 0, none⟩ = false := (cell_of_block HB2.out 0).2
  have g1 : w2.frozen? ⟨w.heap.size, 1, none⟩ = false := (cell_of_block HB2.out 1).2
  have hset : Gr T w2 ((w2.setCell ⟨w.heap.size, 0, none⟩ (.int .i64 n.ins)).setCell ⟨w.heap.size, 1, none⟩ (.slice A2 n.gs.length c2)) := ((Gr.refl _ _).set _ _ _ (.inl ((HT.out _).2 (.inr rfl)))).set _ _ _ (.inl ((HT.out _).2 (.inr rfl)))
  have HL := Lib.hid ((hs2.gr hset).ab_rd)
  have HGG := Lib.hid (((Gr.below (S := T) hbw).trans (hg2.mono fun b hb => (HT.out b).2 (.inl hb))).trans hset)
  clear hset hbw
  go_wp2
  refine bodyPost_ret (v := .tuple #[.agg #[.int .i64 n.ins, .slice A2 n.gs.length c2], .int .i64 a, .int .i64 b]) (by simp [results, Try.results13, go_sem, u0, u1, g0, g1]) rfl ⟨n, A2, c2, a, b, rfl, HL.out, HBN.out.1, HBN.out.2.1, HBN.out.2.2, ?_⟩
  exact HGG.out.to_below fun b hb => by rcases (HT.out b).1 hb with h9 | h9 <;> omega

set_option maxRecDepth 100000 in
set_option maxHeartbeats 2000000 in
theorem drawNetCnf_any (A : Option Addr) (c : Nat) (bs : List UInt8) (w : World) (h : Lay.byte.Rd w A bs) (hc : bs.length ≤ c) (hn : bs.length ≤ 9223372036854775807) :
    Calls Try.prog 16 #[.slice A bs.length c] w (DrawN1 w) := by
  have hal0 : Below w.heap.size w (w.alloc (.cells #[.int .i64 0, .slice none 0 0] 25)) := (Below.refl _ _).alloc (Nat.le_refl _) _
  have HB2 := Lib.hid (show (w.alloc (.cells #[.int .i64 0, .slice none 0 0] 25)).heap[w.heap.size]? = some (.cells #[.int .i64 0, .slice none 0 0] 25 (0, 0)) from heap_alloc_new _ _)
  have HO := Lib.hid (open_any A c bs _ (h.up hal0) hc hn)
  have HAL := Lib.hid hal0
  have hs0 : (w.alloc (.cells #[.int .i64 0, .slice none 0 0] 25)).heap.size = w.heap.size + 1 := by simp
  clear hal0 h
  go_enter Try.func16, Try.ntmps16
  go_wp2_with fail
  generalize w.alloc (.cells #[.int .i64 0, .slice none 0 0] 25) = w0 at *
  refine HO.out.mono ?_
  clear HO
  rintro e w1 ⟨r, rfl, hr, hR1, hb1⟩
  have HB2 := Lib.hid ((hb1.block _ (lt_of_block HB2.out)).trans HB2.out)
  have hbw := bthen HAL.out hb1
  have hr2 : w.heap.size < r := by omega
  have hrl := hR1.lt
  obtain ⟨T, hT⟩ : ∃ T : Nat → Prop, ∀ b, T b ↔ b = r ∨ b = w.heap.size := ⟨fun b => b = r ∨ b = w.heap.size, fun _ => Iff.rfl⟩
  have HT := Lib.hid hT
  have HTL : Hid (∀ b, T b → b < w1.heap.size) := Lib.hid fun b hb => by have := (hT b).1 hb; omega
  have hT9 : T r := (hT r).2 (.inl rfl)
  clear hT hb1 HAL
  go_wp2_with fail
  refine (l6Net_any T r 0 8 w1 hR1 HTL.out hT9 (by omega) (by omega) (by omega) (by omega)).mono ?_
  rintro e w2 ⟨m, A1, c1, rfl, hs1, hsm, q1, q10, q11, hR2, hg1⟩
  have HB2 := Lib.hid (hg1.heap (by show ¬ _ = r; omega) HB2.out)
  have hz1 := hg1.size
  clear hR1
  go_wp2_with fail
  refine (l6Bent_any T r 100 q1 m A1 c1 w2 hR2 hs1 (fun b hb => by have := HTL.out b hb; omega) hT9 hsm (by omega) (by omega) (by omega)).mono ?_
  rintro e w3 ⟨n, A2, c2, rfl, hs2, hbn, q2, q20, q21, hR3, hg2⟩
  have HB2 := Lib.hid (hg2.heap (by show ¬ _ = r; omega) HB2.out)
  have hgg := hg1.trans hg2
  have HBN := Lib.hid hbn
  clear hbn hs1 hsm hg1 hg2 hR2
  have u0 : w3.cell? ⟨w.heap.size, 0, none⟩ = some (.int .i64 0) := (cell_of_block HB2.out 0).1
  have u1 : w3.cell? ⟨w.heap.size, 1, none⟩ = some (.slice none 0 0) := (cell_of_block HB2.out 1).1
  have g0 : w3.frozen? ⟨w.heap.size, 0, none⟩ = false := (cell_of_block HB2.out 0).2
  have g1 : w3.frozen? ⟨w.heap.size, 1, none⟩ = false := (cell_of_block HB2.out 1).2
  have hset : Gr T w3 ((w3.setCell ⟨w.heap.size, 0, none⟩ (.int .i64 n.ins)).setCell ⟨w.heap.size, 1, none⟩ (.slice A2 n.gs.length c2)) := ((Gr.refl _ _).set _ _ _ (.inl ((HT.out _).2 (.inr rfl)))).set _ _ _ (.inl ((HT.out _).2 (.inr rfl)))
  have HL := Lib.hid ((hs2.gr hset).ab_rd)
  have HGG := Lib.hid (((Gr.below (S := T) hbw).trans (hgg.mono fun b hb => (HT.out b).2 (.inl hb))).trans hset)
  clear hset hbw
  go_wp2
  refine bodyPost_ret (v := .agg #[.int .i64 n.ins, .slice A2 n.gs.length c2]) (by simp [results, Try.results16, go_sem, u0, u1, g0, g1]) rfl ⟨n, A2, c2, rfl, HL.out, HBN.out, ?_⟩
  exact HGG.out.to_below fun b hb => by rcases (HT.out b).1 hb with h9 | h9 <;> omega

end Go.Proofs.Ytcdlfnhjpjpbjaa
