/- Draws of nets: l6Lit, l6Net. -/
import Derived.Test.YtcdlfnhjpjpbjaaDrI
import Derived.Test.YtcdlfnhjpjpbjaaNetP
import Derived.Test.YtcdlfnhjpjpbjaaMap
namespace Go.Proofs.Ytcdlfnhjpjpbjaa
open Go Go.RowKit

/-- A small net. -/
def smallN (m : Nat) (n : N) : Prop := 0 ≤ n.ins ∧ n.ins ≤ 8 ∧ n.gs.length ≤ m ∧ okInts n
theorem smallN.mono {m k : Nat} {n : N} (h : smallN m n) (hk : m ≤ k) : smallN k n := ⟨h.1, h.2.1, Nat.le_trans h.2.2.1 hk, h.2.2.2⟩
theorem put_small {m : Nat} {n : N} {g : G} (h : smallN m n) (hg : okGi g) : smallN (m + 1) (put n g).1 := by
  obtain ⟨h0, h1, h2, h3⟩ := h
  unfold put
  split
  · exact ⟨h0, h1, by show n.gs.length ≤ _; omega, h3⟩
  · split
    · exact ⟨by decide, by decide, Nat.zero_le _, fun g hg => by cases hg⟩
    · refine ⟨h0, h1, by show (n.gs ++ [g]).length ≤ _; simp; omega, fun g' hg' => ?_⟩
      rcases List.mem_append.1 hg' with hg' | hg'
      · exact h3 g' hg'
      · rw [List.mem_singleton.1 hg']; exact hg
theorem and1_small {m : Nat} {n : N} {a b : Int} (h : smallN m n) (ha : okInt a) (hb : okInt b) : smallN (m + 1) (and1 n a b).1 := by
  unfold okInt at ha hb
  unfold and1
  repeat' split
  all_goals first | exact h.mono (by omega) | exact put_small h ⟨ha, hb⟩ | exact put_small h ⟨hb, ha⟩
theorem xor1_small {m : Nat} {n : N} {a b : Int} (h : smallN m n) (ha : -2000000000 ≤ a ∧ a ≤ 2000000000) (hb : -2000000000 ≤ b ∧ b ≤ 2000000000) : smallN (m + 1) (xor1 n a b).1 := by
  unfold xor1
  split
  · exact h.mono (by omega)
  · split
    · exact h.mono (by omega)
    · split
      · exact h.mono (by omega)
      · split
        · exact h.mono (by omega)
        · dsimp only; split
          · exact put_small h (by unfold okGi; dsimp only; omega)
          · exact put_small h (by unfold okGi; dsimp only; omega)

set_option maxHeartbeats 1000000 in
theorem l6Lit_any (r : Nat) (p : Int) (n : N) (A : Option Addr) (c : Nat) (w : World) (h : Rdr w r p) (hn : n.gs.length ≤ 1048576) (h0 : -1000000 ≤ n.ins) (h1 : n.ins ≤ 1000000) (p0 : 0 ≤ p) (p1 : p ≤ 900000000) :
    Calls Try.prog 51 #[.pointer (some ⟨r, 0, none⟩), .agg #[.int .i64 n.ins, .slice A n.gs.length c]] w
      fun e w' => ∃ m, e = .returned (.int .i64 m) ∧ (m ≠ 0 ∧ -3000000 ≤ m ∧ m ≤ 3000000 ∧ (0 ≤ n.ins → netMark n m = true)) ∧ Drawn r p 2 w w' := by
  have hal : Below w.heap.size w (w.alloc (.cells #[.int .i64 n.ins, .slice A n.gs.length c] 25)) := (Below.refl _ _).alloc (Nat.le_refl _) _
  have hR := h.up hal
  have HAL := Lib.hid hal
  clear h hal
  go_enter Try.func51, Try.ntmps51
  go_wp2_with fail
  generalize w.alloc (.cells #[.int .i64 n.ins, .slice A n.gs.length c] 25) = w0 at *
  refine (l6Many_any A c n.gs.length n.ins w0 hn h0 h1).mono ?_
  rintro e w1 ⟨rfl, hb1⟩
  have hR1 := hR.up hb1
  have hbw := bthen HAL.out hb1
  clear hR hb1 HAL
  go_wp2_with fail
  refine (pick_any r p (1 + n.ins + n.gs.length) w1 hR1 p0 (by omega) (by omega) (by omega)).mono ?_
  rintro e w2 ⟨k, rfl, k0, k1, k2, hR2, hg2⟩
  have hg2 := (Gr.below (S := fun b => b = r) hbw).trans (Gr.one hg2 rfl)
  have hk : 1 + k ≤ 2100000 ∧ (0 ≤ n.ins → 1 + k ≤ 1 + n.ins + n.gs.length) := by
    by_cases h9 : 1 ≤ 1 + n.ins + (n.gs.length : Int)
    · have := k1 h9; omega
    · have := k2 (by omega); omega
  obtain ⟨hk1, hk2⟩ := hk
  clear k1 k2 hR1 hbw
  go_wp2_with fail
  refine (pick_any r (p + 1) 2 w2 hR2 (by omega) (by omega) (by omega) (by omega)).mono ?_
  rintro e w3 ⟨j, rfl, j0, j1, _, hR3, hg3⟩
  have hg3 := hg2.trans (Gr.one hg3 rfl)
  have HD : Hid (Drawn r p 2 w w3) := Lib.hid ⟨p + 1 + 1, by omega, by omega, hR3, hg3⟩
  have HK := Lib.hid hk2
  clear hg2 hg3 hR2 hR3 j1 hk2
  by_cases hz : j = 0
  · subst hz
    have e1 : IntKind.i64.wrap (-(1 + k)) = -(1 + k) := IntWalk.i64_in _ (by omega)
    go_wp2
    go_ret
    exact ⟨-(1 + k), rfl, ⟨by omega, by omega, by omega, fun h9 => netMark_iff.2 (by have := HK.out h9; omega)⟩, HD.out⟩
  · have hzb : (j == 0) = false := by simpa using hz
    clear hz
    go_wp2
    go_ret
    exact ⟨1 + k, rfl, ⟨by omega, by omega, by omega, fun h9 => netMark_iff.2 (by have := HK.out h9; omega)⟩, HD.out⟩

/-- A drawn net. -/
def RetDN (S0 : Nat → Prop) (r : Nat) (p M : Int) (ok : N → Prop) (w : World) (e : Ending) (w' : World) : Prop :=
  ∃ n A c, e = .returned (.agg #[.int .i64 (N.ins n), .slice A (N.gs n).length c]) ∧ Lay.gate.Sl w' (Ab S0 w') A n.gs ∧ ok n ∧ Drawn r p M w w'
/-- What a call that makes a net leaves: its row lies apart from the blocks S. -/
theorem sl_made {S : Nat → Prop} {w w' : World} {A : Option Addr} {gs : List G} (h : Lay.gate.Sl w' (fun b => Ab S w b ∨ (w.heap.size ≤ b ∧ b < w'.heap.size)) A gs) (hS : ∀ b, S b → b < w.heap.size) (hb : Below w.heap.size w w') : Lay.gate.Sl w' (Ab S w') A gs :=
  h.mono fun b hb' => by
    rcases hb' with h1 | h1
    · exact ⟨Nat.lt_of_lt_of_le h1.1 hb.size, h1.2⟩
    · exact ⟨h1.2, fun e => by have := hS b e; omega⟩

/-- A box that holds a net. -/
def NetIn (P : N → Prop) (S : Nat → Prop) (b : Nat) (x : World) : Prop := ∃ n A c, x.heap[b]? = some (.cells #[.int .i64 (N.ins n), .slice A (N.gs n).length c] 25 (0, 0)) ∧ P n ∧ Lay.gate.Sl x (Ab S x) A n.gs
theorem NetIn.gr {P : N → Prop} {S T : Nat → Prop} {b : Nat} {x x' : World} (h : NetIn P S b x) (hg : Gr T x x') (hb : ¬ T b) (hT : ∀ b, T b → S b) : NetIn P S b x' := by
  obtain ⟨n, A, c, h1, h2, h3⟩ := h
  exact ⟨n, A, c, hg.heap hb h1, h2, h3.gr (hg.mono hT)⟩
/-- The box of the net stays until the store; it holds a net all along. -/
def IN (P : N → Prop) (S T : Nat → Prop) (r : Nat) (q M : Int) (w : World) (b3 : Nat) (o : Obj) (N9 : Nat) (n : Nat) (x : World) : Prop := IG T r q M w [] n x ∧ (n < N9 → x.heap[b3]? = some o) ∧ NetIn P S b3 x
variable {P : N → Prop} {S T : Nat → Prop} {r b3 N9 n : Nat} {q M : Int} {w x x' : World} {o : Obj}
theorem in_step (h : IN P S T r q M w b3 o N9 n x) (hM : 0 ≤ M) : IN P S T r q M w b3 o N9 (n + 1) x := ⟨ig_step h.1 hM, fun hn => h.2.1 (by omega), h.2.2⟩
theorem in_low (h : IN P S T r q M w b3 o N9 n x) (hM : 0 ≤ M) (hb : Below x.heap.size x x') : IN P S T r q M w b3 o N9 (n + 1) x' := by
  obtain ⟨⟨h1, ⟨q', h2, h3, h4⟩, h5⟩, h6, h7⟩ := in_step h hM
  exact ⟨⟨h1.up hb, ⟨q', h2.up hb, h3, h4⟩, fun s hs => by cases hs⟩, fun hn' => (hb.block _ (Array.getElem?_eq_some_iff.1 (h6 hn')).1).trans (h6 hn'), h7.gr (T := fun _ => False) (.below hb) (fun h => h) (fun _ h => h.elim)⟩
theorem in_draw {q' M' : Int} (h : IN P S T r q M w b3 o N9 n x) (hd : Drawn r q' M' x x') (hq0 : q ≤ q') (hq : q' ≤ q + M * n) (hM : M' ≤ M) (hT : T r) (hTS : ∀ b, T b → S b) (hr : b3 ≠ r) :
    IN P S T r q M w b3 o N9 (n + 1) x' ∧ Gr T x x' := by
  have := ig_draw h.1 hd hq0 hq hM hT (fun s hs => by cases hs)
  exact ⟨⟨this.1, fun hn => hd.choose_spec.2.2.2.heap (by exact hr) (h.2.1 (by omega)), h.2.2.gr hd.choose_spec.2.2.2 (by exact hr) (fun b hb => by rw [show b = r from hb]; exact hTS r hT)⟩, this.2.1⟩
theorem in_last (h : IN P S T r q M w b3 o N9 n x) (hM : 0 ≤ M) (b : Nat) (hg : Gr (fun y => y = b) x x') (hT : T b) (hr : b ≠ r) (hk : ∃ cs t fr, x.heap[b]? = some (.cells cs t fr) ∧ ∀ u ∈ cs.toList, ∀ z, u ≠ .int .u8 z) (hl : N9 ≤ n + 1) (hN : NetIn P S b3 x') :
    IN P S T r q M w b3 o N9 (n + 1) x' ∧ Gr T x x' := by
  have := ig_store h.1 hM b hg hT hr hk (fun s hs => by cases hs)
  exact ⟨⟨this.1, fun h9 => by omega, hN⟩, this.2.1⟩

set_option maxRecDepth 100000 in
set_option maxHeartbeats 4000000 in
theorem l6Net_any (S0 : Nat → Prop) (r : Nat) (p most : Int) (w : World) (h : Rdr w r p) (hS0 : ∀ b, S0 b → b < w.heap.size) (hSr : S0 r) (p0 : 0 ≤ p) (p1 : p ≤ 600000000) (m0 : 0 ≤ most) (m1 : most ≤ 100) :
    Calls Try.prog 39 #[.pointer (some ⟨r, 0, none⟩), .int .i64 most] w (RetDN S0 r p 10000 (smallN 100) w) := by
  have hrl := h.lt
  have hal0 : Below w.heap.size w (w.alloc (.cells #[.int .i64 0, .slice none 0 0] 25)) := (Below.refl _ _).alloc (Nat.le_refl _) _
  have hb2 : (w.alloc (.cells #[.int .i64 0, .slice none 0 0] 25)).heap[w.heap.size]? = some (.cells #[.int .i64 0, .slice none 0 0] 25 (0, 0)) := heap_alloc_new _ _
  have hsz0 : (w.alloc (.cells #[.int .i64 0, .slice none 0 0] 25)).heap.size = w.heap.size + 1 := by simp
  generalize hW0 : w.alloc (.cells #[.int .i64 0, .slice none 0 0] 25) = w0 at *
  have hR0 := h.up hal0
  have hg0 : Gr (IsR r) w w0 := .below hal0
  clear hal0 h
  go_enter Try.func39, Try.ntmps39
  go_wp2_with fail
  clear hW0
  refine (pick_any r p 5 w0 hR0 (by omega) (by omega) (by omega) (by omega)).mono ?_
  rintro e w1 ⟨k, rfl, k0, k1, _, hR1, hg1⟩
  have k1 := k1 (by omega)
  have hg1 := Gr.one (S := IsR r) hg1 rfl
  have hb2 := hg1.heap (by show ¬ _ = r; omega) hb2
  have hgg1 := hg0.trans hg1
  have hsz1 := hg1.size
  clear hR0 hg0 hg1
  go_wp2_with fail
  generalize hW2 : w1.alloc (.cells #[.int .i64 k, .slice none 0 0] 25) = w2 at *
  have hal : Below w1.heap.size w1 w2 := by rw [← hW2]; exact (Below.refl _ _).alloc (Nat.le_refl _) _
  have hb3 : w2.heap[w1.heap.size]? = some (.cells #[.int .i64 k, .slice none 0 0] 25 (0, 0)) := by rw [← hW2]; exact heap_alloc_new _ _
  have hb2 := (hal.block _ (lt_of_block hb2)).trans hb2
  have hR2 := hR1.up hal
  have hgg2 := hgg1.up hal
  have hsz2 : w2.heap.size = w1.heap.size + 1 := by rw [← hW2]; simp
  clear hal hR1 hgg1 hW2
  generalize hb3e : w1.heap.size = b3 at *
  generalize hb2e : w.heap.size = b2 at *
  have HB2E := Lib.hid hb2e
  have i3 : b2 < b3 := by omega
  have i4 : r < b2 := by omega
  clear hb2e hb3e hsz0 hsz1 hrl
  refine (pick_any r (p + 1) most w2 hR2 (by omega) (by omega) (by omega) (by omega)).mono ?_
  rintro e w4 ⟨n, rfl, n0, n1, n2, hR4, hg4⟩
  have hn1 : n ≤ 100 := by
    by_cases h9 : 1 ≤ most
    · have := n1 h9; omega
    · have := n2 (by omega); omega
  have hg4 := Gr.one (S := IsR r) hg4 rfl
  have hb2 := hg4.heap (by show ¬ _ = r; omega) hb2
  have hb3 := hg4.heap (by show ¬ _ = r; omega) hb3
  have hgg4 := hgg2.trans hg4
  have hsz4 := hg4.size
  obtain ⟨n, rfl⟩ := Int.eq_ofNat_of_zero_le n0
  clear hgg2 hg4 n1 n2 hR2 hsz2
  obtain ⟨S, hS⟩ : ∃ S : Nat → Prop, ∀ b, S b ↔ S0 b ∨ b = b2 ∨ b = b3 := ⟨fun b => S0 b ∨ b = b2 ∨ b = b3, fun _ => Iff.rfl⟩
  have HS := Lib.hid hS
  have hSlt : ∀ b, S b → b < b3 + 1 := fun b hb => by
    rcases (hS b).1 hb with h9 | h9 | h9
    · have := hS0 b h9; omega
    · omega
    · omega
  have hTS : ∀ b, (b = r ∨ b = b3) → S b := fun b hb => by
    rcases hb with rfl | rfl
    · exact (hS _).2 (.inl hSr)
    · exact (hS _).2 (.inr (.inr rfl))
  have HS0 : Hid (∀ b, S0 b → S b) := Lib.hid fun b hb => (hS b).2 (.inl hb)
  have HSL := Lib.hid (And.intro hSlt hTS)
  have hb3lt := lt_of_block hb3
  clear hSlt hTS hS hS0
  go_wp2
  go_loopw [6] (fun i wr => ∃ (j : Nat) (m : N) (A : Option Addr) (c : Nat) (q : Int), j ≤ n ∧ i = .int .i64 j ∧ smallN (n - j) m ∧ wr.heap[b3]? = some (.cells #[.int .i64 m.ins, .slice A m.gs.length c] 25 (0, 0)) ∧ wr.heap[b2]? = some (.cells #[.int .i64 0, .slice none 0 0] 25 (0, 0)) ∧
    Lay.gate.Sl wr (Ab S wr) A m.gs ∧ Rdr wr r q ∧ p ≤ q ∧ q ≤ p + 2 + 40 * (n - j) ∧ Gr (IsR r) w wr) (fun i _ => (intOf i).toNat)
  case atStart => exact ⟨n, ⟨k, []⟩, none, 0, p + 1 + 1, Nat.le_refl _, rfl, ⟨k0, by show k ≤ 8; omega, by simp, fun g hg => by cases hg⟩, hb3, hb2, .nil _ _ _ _, hR4, by omega, by omega, hgg4⟩
  case round =>
    obtain ⟨j, m, A, c, q, hj, rfl, hsm, hb3, hb2, hsl, hR, q0, q1, hg⟩ := hrel
    have HB3 := Lib.hid hb3
    have HB2 := Lib.hid hb2
    have HSM := Lib.hid hsm
    have hmi : 0 ≤ m.ins ∧ m.ins ≤ 8 ∧ m.gs.length ≤ 100 := ⟨hsm.1, hsm.2.1, by have := hsm.2.2.1; omega⟩
    have hlt3 := lt_of_block hb3
    clear hb3 hb2 hsm
    have c0 : wr.cell? ⟨b3, 0, none⟩ = some (.int .i64 m.ins) := (cell_of_block HB3.out 0).1
    have c1 : wr.cell? ⟨b3, 1, none⟩ = some (.slice A m.gs.length c) := (cell_of_block HB3.out 1).1
    by_cases hlt : 0 < j
    · have hj1 : (0 : Int) < j := by omega
      go_wp2_with fail
      clear c0 c1
      refine (l6Lit_any r q m A c wr hR (by omega) (by omega) (by omega) (by omega) (by omega)).mono ?_
      rintro e w5 ⟨a, rfl, ⟨a0, a1, a2, _⟩, q5, q50, q51, hR5, hg5⟩
      have HB3 := Lib.hid (hg5.heap (by show ¬ _ = r; omega) HB3.out)
      have HB2 := Lib.hid (hg5.heap (by show ¬ _ = r; omega) HB2.out)
      have hsl5 := hsl.gr (hg5.mono fun b hb => HSL.out.2 b (.inl hb))
      have hgg5 := hg.trans hg5
      have hs5 := hg5.size
      clear hR hsl hg hg5
      go_wp2_with fail
      refine (pick_any r q5 3 w5 hR5 (by omega) (by omega) (by omega) (by omega)).mono ?_
      rintro e w6 ⟨z, rfl, z0, _, _, hR6, hg6⟩
      have hg6 := Gr.one (S := IsR r) hg6 rfl
      have HB3 := Lib.hid (hg6.heap (by show ¬ _ = r; omega) HB3.out)
      have HB2 := Lib.hid (hg6.heap (by show ¬ _ = r; omega) HB2.out)
      have HSL6 := Lib.hid (hsl5.gr (hg6.mono fun b hb => HSL.out.2 b (.inl hb)))
      have HGG6 := Lib.hid (hgg5.trans hg6)
      have hs6 := hg6.size
      have HR6 := Lib.hid hR6
      have HHA := Lib.hid (fun e => sl_none HSL6.out e)
      clear hR5 hR6 hsl5 hgg5 hg6
      by_cases hz : z = 0
      · subst hz
        have HZ := Lib.hid z0
        clear z0
        go_wp2
        refine wp_region_rel2 [[], [], [], [], [(2, 27), (3, 28)], [(0, 25), (1, 26), (4, 29)], [(5, 30)], [(6, 24)], [(6, 24)], [(7, 31)]]
          (Gr (fun b => b = r ∨ b = b3))
          (IN (smallN (n - j + 1)) S (fun b => b = r ∨ b = b3) r (q5 + 1) 2 w6 b3 (.cells #[.int .i64 m.ins, .slice A m.gs.length c] 25 (0, 0)) 9)
          [fun vs9 _ => vs9 0 = (.agg #[.int .i64 m.ins, .slice A m.gs.length c]),
    fun vs9 _ => vs9 1 = (.int .i64 a),
    fun vs9 _ => vs9 2 = (.pointer (some ⟨r, 0, none⟩)),
    fun vs9 _ => vs9 3 = (.agg #[.int .i64 m.ins, .slice A m.gs.length c]),
    fun vs9 y9 => (fun v _ => ∃ b, v = .int .i64 b ∧ -3000000 ≤ b ∧ b ≤ 3000000) (vs9 4) y9,
    fun vs9 y9 => (fun v yy => ∃ n' A' c' m', v = .tuple #[.agg #[.int .i64 (N.ins n'), .slice A' (N.gs n').length c'], .int .i64 m'] ∧ smallN (n - j + 1) n' ∧ Lay.gate.Sl yy (Ab S yy) A' n'.gs) (vs9 5) y9,
    fun vs9 y9 => (fun v yy => ∃ n' A' c' m', v = .tuple #[.agg #[.int .i64 (N.ins n'), .slice A' (N.gs n').length c'], .int .i64 m'] ∧ smallN (n - j + 1) n' ∧ Lay.gate.Sl yy (Ab S yy) A' n'.gs) (vs9 6) y9,
    fun vs9 y9 => (fun v yy => ∃ n' A' c', v = .agg #[.int .i64 (N.ins n'), .slice A' (N.gs n').length c'] ∧ smallN (n - j + 1) n' ∧ Lay.gate.Sl yy (Ab S yy) A' n'.gs) (vs9 7) y9,
    fun _ _ => True,
    fun _ _ => True]
          [(0, 25), (1, 26), (2, 27), (3, 28), (4, 29), (5, 30), (6, 24), (7, 31), (8, 32)] (by kernel_rfl) (by kernel_rfl) (by kernel_rfl) (by kernel_rfl)
          (fun _ => Gr.refl _ _) ⟨.inr (fun _ _ _ h _ => h),
    .inr (fun _ _ _ h _ => h),
    .inr (fun _ _ _ h _ => h),
    .inr (fun _ _ _ h _ => h),
    .inr (fun vs9 x9 y9 h9 hR9 => (show ∀ v9 y8 y7, (fun v _ => ∃ b, v = .int .i64 b ∧ -3000000 ≤ b ∧ b ≤ 3000000) v9 y8 → (Gr (fun b => b = r ∨ b = b3)) y8 y7 → (fun v _ => ∃ b, v = .int .i64 b ∧ -3000000 ≤ b ∧ b ≤ 3000000) v9 y7 from fun _ _ _ h _ => h) (vs9 4) x9 y9 h9 hR9),
    .inr (fun vs9 x9 y9 h9 hR9 => (show ∀ v9 y8 y7, (fun v yy => ∃ n' A' c' m', v = .tuple #[.agg #[.int .i64 (N.ins n'), .slice A' (N.gs n').length c'], .int .i64 m'] ∧ smallN (n - j + 1) n' ∧ Lay.gate.Sl yy (Ab S yy) A' n'.gs) v9 y8 → (Gr (fun b => b = r ∨ b = b3)) y8 y7 → (fun v yy => ∃ n' A' c' m', v = .tuple #[.agg #[.int .i64 (N.ins n'), .slice A' (N.gs n').length c'], .int .i64 m'] ∧ smallN (n - j + 1) n' ∧ Lay.gate.Sl yy (Ab S yy) A' n'.gs) v9 y7 from fun _ _ _ ⟨n', A', c', m', h1, h2, h3⟩ hR => ⟨n', A', c', m', h1, h2, h3.gr (hR.mono HSL.out.2)⟩) (vs9 5) x9 y9 h9 hR9),
    .inr (fun vs9 x9 y9 h9 hR9 => (show ∀ v9 y8 y7, (fun v yy => ∃ n' A' c' m', v = .tuple #[.agg #[.int .i64 (N.ins n'), .slice A' (N.gs n').length c'], .int .i64 m'] ∧ smallN (n - j + 1) n' ∧ Lay.gate.Sl yy (Ab S yy) A' n'.gs) v9 y8 → (Gr (fun b => b = r ∨ b = b3)) y8 y7 → (fun v yy => ∃ n' A' c' m', v = .tuple #[.agg #[.int .i64 (N.ins n'), .slice A' (N.gs n').length c'], .int .i64 m'] ∧ smallN (n - j + 1) n' ∧ Lay.gate.Sl yy (Ab S yy) A' n'.gs) v9 y7 from fun _ _ _ ⟨n', A', c', m', h1, h2, h3⟩ hR => ⟨n', A', c', m', h1, h2, h3.gr (hR.mono HSL.out.2)⟩) (vs9 6) x9 y9 h9 hR9),
    .inr (fun vs9 x9 y9 h9 hR9 => (show ∀ v9 y8 y7, (fun v yy => ∃ n' A' c', v = .agg #[.int .i64 (N.ins n'), .slice A' (N.gs n').length c'] ∧ smallN (n - j + 1) n' ∧ Lay.gate.Sl yy (Ab S yy) A' n'.gs) v9 y8 → (Gr (fun b => b = r ∨ b = b3)) y8 y7 → (fun v yy => ∃ n' A' c', v = .agg #[.int .i64 (N.ins n'), .slice A' (N.gs n').length c'] ∧ smallN (n - j + 1) n' ∧ Lay.gate.Sl yy (Ab S yy) A' n'.gs) v9 y7 from fun _ _ _ ⟨n', A', c', h1, h2, h3⟩ hR => ⟨n', A', c', h1, h2, h3.gr (hR.mono HSL.out.2)⟩) (vs9 7) x9 y9 h9 hR9),
    .inr (fun _ _ _ h _ => h),
    .inr (fun _ _ _ h _ => h), trivial⟩ ⟨fun vs vs' x h _ hv => (by dsimp only at hv ⊢; first | (rw [← h]; exact hv) | exact hv),
    fun vs vs' x h _ hv => (by dsimp only at hv ⊢; first | (rw [← h]; exact hv) | exact hv),
    fun vs vs' x h _ hv => (by dsimp only at hv ⊢; first | (rw [← h]; exact hv) | exact hv),
    fun vs vs' x h _ hv => (by dsimp only at hv ⊢; first | (rw [← h]; exact hv) | exact hv),
    fun vs vs' x h _ hv => (by dsimp only at hv ⊢; first | (rw [← h]; exact hv) | exact hv),
    fun vs vs' x h _ hv => (by dsimp only at hv ⊢; first | (rw [← h]; exact hv) | exact hv),
    fun vs vs' x h _ hv => (by dsimp only at hv ⊢; first | (rw [← h]; exact hv) | exact hv),
    fun vs vs' x h _ hv => (by dsimp only at hv ⊢; first | (rw [← h]; exact hv) | exact hv),
    fun _ _ _ _ _ _ => trivial,
    fun _ _ _ _ _ _ => trivial, trivial⟩ (⟨ig_start HR6.out (fun s hs => by cases hs), fun _ => HB3.out, m, A, c, HB3.out, HSM.out.mono (by omega), HSL6.out.gr (.below (below_drewN (Below.refl _ _) 1))⟩) ⟨?_, ?_, ?_, ?_, ?_, ?_, ?_, ?_, ?_, ?_, trivial⟩ ?_
        · intro vals xw n9 hn hl hI hF
          have hl2 : n9 + 1 + 5 ≤ 10 := up_eq hl.2 (by kernel_rfl)
          clear hl
          dsimp only [owes, bare]
          simp only [putsD, Act.put, List.setIfInBounds_toArray, List.set_cons_zero, List.set_cons_succ]
          have hk9 := hI.2.1 (by omega)
          have c0 : xw.cell? ⟨b3, 0, none⟩ = some (.int .i64 m.ins) := (cell_of_block hk9 0).1
          have c1 : xw.cell? ⟨b3, 1, none⟩ = some (.slice A m.gs.length c) := (cell_of_block hk9 1).1
          clear hk9
          go_wp2
          exact ⟨rfl, rfl, Gr.refl _ _, in_step hI (by omega)⟩
        · intro vals xw n9 hn hl hI hF
          clear hl
          dsimp only [owes, bare]
          simp only [putsD, Act.put, List.setIfInBounds_toArray, List.set_cons_zero, List.set_cons_succ]
          go_wp2
          exact ⟨rfl, rfl, Gr.refl _ _, in_step hI (by omega)⟩
        · intro vals xw n9 hn hl hI hF
          clear hl
          dsimp only [owes, bare]
          simp only [putsD, Act.put, List.setIfInBounds_toArray, List.set_cons_zero, List.set_cons_succ]
          go_wp2
          exact ⟨rfl, rfl, Gr.refl _ _, in_step hI (by omega)⟩
        · intro vals xw n9 hn hl hI hF
          have hl2 : n9 + 1 + 6 ≤ 10 := up_eq hl.2 (by kernel_rfl)
          clear hl
          dsimp only [owes, bare]
          simp only [putsD, Act.put, List.setIfInBounds_toArray, List.set_cons_zero, List.set_cons_succ]
          have hk9 := hI.2.1 (by omega)
          have c0 : xw.cell? ⟨b3, 0, none⟩ = some (.int .i64 m.ins) := (cell_of_block hk9 0).1
          have c1 : xw.cell? ⟨b3, 1, none⟩ = some (.slice A m.gs.length c) := (cell_of_block hk9 1).1
          clear hk9
          go_wp2
          exact ⟨rfl, rfl, Gr.refl _ _, in_step hI (by omega)⟩
        · intro vals xw n9 hn hl hI hF
          clear hl
          simp only [saysD, List.getD_cons_zero, List.getD_cons_succ, and_true] at hF
          obtain ⟨e1, e2⟩ := hF
          dsimp only [owes, bare]
          simp only [putsD, Act.put, List.setIfInBounds_toArray, List.set_cons_zero, List.set_cons_succ]
          simp only [e1, e2]
          have HI := Lib.hid hI
          obtain ⟨⟨_, ⟨q', hq, q'0, q'1⟩, _⟩, _⟩ := hI
          have hnn : n9 < 10 := hn
          go_wp2_with fail
          refine (l6Lit_any r q' m A c xw hq (by omega) (by omega) (by omega) (by omega) (by omega)).mono ?_
          rintro e wx ⟨b, rfl, ⟨b0, b1, b2', _⟩, hd⟩
          have HD := Lib.hid (in_draw HI.out hd q'0 q'1 (by omega) (.inl rfl) HSL.out.2 (by omega))
          clear hd
          go_wp2
          exact ⟨rfl, ⟨b, rfl, b1, b2'⟩, HD.out.2, HD.out.1⟩
        · intro vals xw n9 hn hl hI hF
          clear hl
          simp only [saysD, List.getD_cons_zero, List.getD_cons_succ, and_true] at hF
          obtain ⟨e1, e2, b, e3, b1, b2'⟩ := hF
          dsimp only [owes, bare]
          simp only [putsD, Act.put, List.setIfInBounds_toArray, List.set_cons_zero, List.set_cons_succ]
          simp only [e1, e2, e3]
          have HI := Lib.hid hI
          have hslx := HSL6.out.gr (hI.1.1.mono HSL.out.2)
          have hsx := hI.1.1.size
          clear hI
          go_wp2_with fail
          refine (l6Xor_any (Ab S xw) A c m a b xw hslx (fun b h => h.1) (by omega) HHA.out (by omega) (by omega) (by omega) (by omega)).mono ?_
          rintro e wx ⟨A', c', rfl, _, hs', hb'⟩
          have HM := Lib.hid (sl_made hs' (fun b hb => by have := HSL.out.1 b hb; omega) hb')
          have HI2 := Lib.hid (in_low HI.out (by omega) hb')
          have HSM2 : Hid (smallN (n - j + 1) (xor1 m a b).1) := Lib.hid (xor1_small HSM.out (by omega) (by omega))
          have HBB := Lib.hid hb'
          clear hs' hb' hslx
          go_wp2
          exact ⟨rfl, ⟨_, A', c', _, rfl, HSM2.out, HM.out⟩, .below HBB.out, HI2.out⟩
        · intro vals xw n9 hn hl hI hF
          clear hl
          simp only [saysD, List.getD_cons_zero, List.getD_cons_succ, and_true] at hF
          obtain ⟨n', A', c', m', e1, hP⟩ := hF
          dsimp only [owes, bare]
          simp only [putsD, Act.put, List.setIfInBounds_toArray, List.set_cons_zero, List.set_cons_succ]
          simp only [e1]
          go_wp2
          exact ⟨rfl, ⟨n', A', c', m', rfl, hP⟩, Gr.refl _ _, in_step hI (by omega)⟩
        · intro vals xw n9 hn hl hI hF
          clear hl
          simp only [saysD, List.getD_cons_zero, List.getD_cons_succ, and_true] at hF
          obtain ⟨n', A', c', m', e1, hP⟩ := hF
          dsimp only [owes, bare]
          simp only [putsD, Act.put, List.setIfInBounds_toArray, List.set_cons_zero, List.set_cons_succ]
          simp only [e1]
          go_wp2
          exact ⟨rfl, ⟨n', A', c', rfl, hP⟩, Gr.refl _ _, in_step hI (by omega)⟩
        · intro vals xw n9 hn hl hI hF
          clear hl
          simp only [saysD, List.getD_cons_zero, List.getD_cons_succ, and_true] at hF
          obtain ⟨n', A', c', m', e1, hP⟩ := hF
          dsimp only [owes, bare]
          simp only [putsD, Act.put, List.setIfInBounds_toArray, List.set_cons_zero, List.set_cons_succ]
          simp only [e1]
          go_wp2
          exact ⟨rfl, trivial, Gr.refl _ _, in_step hI (by omega)⟩
        · intro vals xw n9 hn hl hI hF
          have hl1 : 8 ≤ n9 := le_eq hl.1 (by kernel_rfl)
          clear hl
          simp only [saysD, List.getD_cons_zero, List.getD_cons_succ, and_true] at hF
          obtain ⟨n', A', c', e1, hs', hl'⟩ := hF
          dsimp only [owes, bare]
          simp only [putsD, Act.put, List.setIfInBounds_toArray, List.set_cons_zero, List.set_cons_succ]
          simp only [e1]
          obtain ⟨m9, A9, c9, hk, _, _⟩ := hI.2.2
          have HI := Lib.hid hI
          have v0 : xw.cell? ⟨b3, 0, none⟩ = some (.int .i64 m9.ins) := (cell_of_block hk 0).1
          have v1 : xw.cell? ⟨b3, 1, none⟩ = some (.slice A9 m9.gs.length c9) := (cell_of_block hk 1).1
          have f0 : xw.frozen? ⟨b3, 0, none⟩ = false := (cell_of_block hk 0).2
          have f1 : xw.frozen? ⟨b3, 1, none⟩ = false := (cell_of_block hk 1).2
          have hh := heap_set_same _ b3 1 (.slice A' n'.gs.length c') _ _ (heap_set_same xw b3 0 (.int .i64 n'.ins) _ _ hk)
          have hg : Gr (fun z => z = b3) xw ((xw.setCell ⟨b3, 0, none⟩ (.int .i64 n'.ins)).setCell ⟨b3, 1, none⟩ (.slice A' n'.gs.length c')) := ((Gr.refl (fun z => z = b3) xw).set _ _ _ (.inl (by rfl))).set _ _ _ (.inl (by rfl))
          have HL := Lib.hid (in_last HI.out (by omega) b3 hg (.inr rfl) (by omega) ⟨_, _, _, hk, by simp⟩ (by omega) ⟨n', A', c', hh, hs', hl'.gr (hg.mono fun b hb => HSL.out.2 b (.inr hb))⟩)
          clear hI hk hg hs' hl' e1 hl1 hh
          go_wp2
          exact ⟨rfl, trivial, HL.out.2, HL.out.1⟩
        · intro vals xw n9 hn hI hF
          rw [show List.range _ = [0, 1, 2, 3, 4, 5, 6, 7, 8, 9] from rfl] at hF
          simp only [says, List.getD_cons_zero, List.getD_cons_succ, and_true] at hF
          obtain ⟨⟨hgx, ⟨q', hq', q'0, q'1⟩, _⟩, _, n', A', c', hk', hs', hl'⟩ := hI
          simp only [putsD, Act.put, List.setIfInBounds_toArray, List.set_cons_zero, List.set_cons_succ]
          have HB23 := Lib.hid (hgx.heap (by show ¬ (_ = r ∨ _ = b3); omega) HB2.out)
          have HGW := Lib.hid (HGG6.out.then hgx (fun b hb => hb.imp id (fun h => by rw [HB2E.out]; omega)))
          have HK' := Lib.hid hk'
          have HSM' := Lib.hid hs'
          have hn10 : (n9 : Int) ≤ 10 := by have : n9 ≤ 10 := hn; omega
          clear hF hk' hs' hgx hn
          go_wp2
          go_roundw
          case rel => exact ⟨j - 1, n', A', c', q', by omega, by go_num, HSM'.out.mono (by omega), HK'.out, HB23.out, hl', hq', by omega, by omega, HGW.out⟩
          case measure => simp [intOf]; omega
      · have hzb : (z == 0) = false := by simpa using hz
        clear hz
        go_wp2
        refine wp_region_rel2 [[], [], [], [], [(2, 36), (3, 37)], [(0, 34), (1, 35), (4, 38)], [(5, 39)], [(6, 33)], [(6, 33)], [(7, 40)]]
          (Gr (fun b => b = r ∨ b = b3))
          (IN (smallN (n - j + 1)) S (fun b => b = r ∨ b = b3) r (q5 + 1) 2 w6 b3 (.cells #[.int .i64 m.ins, .slice A m.gs.length c] 25 (0, 0)) 9)
          [fun vs9 _ => vs9 0 = (.agg #[.int .i64 m.ins, .slice A m.gs.length c]),
    fun vs9 _ => vs9 1 = (.int .i64 a),
    fun vs9 _ => vs9 2 = (.pointer (some ⟨r, 0, none⟩)),
    fun vs9 _ => vs9 3 = (.agg #[.int .i64 m.ins, .slice A m.gs.length c]),
    fun vs9 y9 => (fun v _ => ∃ b, v = .int .i64 b ∧ -3000000 ≤ b ∧ b ≤ 3000000) (vs9 4) y9,
    fun vs9 y9 => (fun v yy => ∃ n' A' c' m', v = .tuple #[.agg #[.int .i64 (N.ins n'), .slice A' (N.gs n').length c'], .int .i64 m'] ∧ smallN (n - j + 1) n' ∧ Lay.gate.Sl yy (Ab S yy) A' n'.gs) (vs9 5) y9,
    fun vs9 y9 => (fun v yy => ∃ n' A' c' m', v = .tuple #[.agg #[.int .i64 (N.ins n'), .slice A' (N.gs n').length c'], .int .i64 m'] ∧ smallN (n - j + 1) n' ∧ Lay.gate.Sl yy (Ab S yy) A' n'.gs) (vs9 6) y9,
    fun vs9 y9 => (fun v yy => ∃ n' A' c', v = .agg #[.int .i64 (N.ins n'), .slice A' (N.gs n').length c'] ∧ smallN (n - j + 1) n' ∧ Lay.gate.Sl yy (Ab S yy) A' n'.gs) (vs9 7) y9,
    fun _ _ => True,
    fun _ _ => True]
          [(0, 34), (1, 35), (2, 36), (3, 37), (4, 38), (5, 39), (6, 33), (7, 40), (8, 41)] (by kernel_rfl) (by kernel_rfl) (by kernel_rfl) (by kernel_rfl)
          (fun _ => Gr.refl _ _) ⟨.inr (fun _ _ _ h _ => h),
    .inr (fun _ _ _ h _ => h),
    .inr (fun _ _ _ h _ => h),
    .inr (fun _ _ _ h _ => h),
    .inr (fun vs9 x9 y9 h9 hR9 => (show ∀ v9 y8 y7, (fun v _ => ∃ b, v = .int .i64 b ∧ -3000000 ≤ b ∧ b ≤ 3000000) v9 y8 → (Gr (fun b => b = r ∨ b = b3)) y8 y7 → (fun v _ => ∃ b, v = .int .i64 b ∧ -3000000 ≤ b ∧ b ≤ 3000000) v9 y7 from fun _ _ _ h _ => h) (vs9 4) x9 y9 h9 hR9),
    .inr (fun vs9 x9 y9 h9 hR9 => (show ∀ v9 y8 y7, (fun v yy => ∃ n' A' c' m', v = .tuple #[.agg #[.int .i64 (N.ins n'), .slice A' (N.gs n').length c'], .int .i64 m'] ∧ smallN (n - j + 1) n' ∧ Lay.gate.Sl yy (Ab S yy) A' n'.gs) v9 y8 → (Gr (fun b => b = r ∨ b = b3)) y8 y7 → (fun v yy => ∃ n' A' c' m', v = .tuple #[.agg #[.int .i64 (N.ins n'), .slice A' (N.gs n').length c'], .int .i64 m'] ∧ smallN (n - j + 1) n' ∧ Lay.gate.Sl yy (Ab S yy) A' n'.gs) v9 y7 from fun _ _ _ ⟨n', A', c', m', h1, h2, h3⟩ hR => ⟨n', A', c', m', h1, h2, h3.gr (hR.mono HSL.out.2)⟩) (vs9 5) x9 y9 h9 hR9),
    .inr (fun vs9 x9 y9 h9 hR9 => (show ∀ v9 y8 y7, (fun v yy => ∃ n' A' c' m', v = .tuple #[.agg #[.int .i64 (N.ins n'), .slice A' (N.gs n').length c'], .int .i64 m'] ∧ smallN (n - j + 1) n' ∧ Lay.gate.Sl yy (Ab S yy) A' n'.gs) v9 y8 → (Gr (fun b => b = r ∨ b = b3)) y8 y7 → (fun v yy => ∃ n' A' c' m', v = .tuple #[.agg #[.int .i64 (N.ins n'), .slice A' (N.gs n').length c'], .int .i64 m'] ∧ smallN (n - j + 1) n' ∧ Lay.gate.Sl yy (Ab S yy) A' n'.gs) v9 y7 from fun _ _ _ ⟨n', A', c', m', h1, h2, h3⟩ hR => ⟨n', A', c', m', h1, h2, h3.gr (hR.mono HSL.out.2)⟩) (vs9 6) x9 y9 h9 hR9),
    .inr (fun vs9 x9 y9 h9 hR9 => (show ∀ v9 y8 y7, (fun v yy => ∃ n' A' c', v = .agg #[.int .i64 (N.ins n'), .slice A' (N.gs n').length c'] ∧ smallN (n - j + 1) n' ∧ Lay.gate.Sl yy (Ab S yy) A' n'.gs) v9 y8 → (Gr (fun b => b = r ∨ b = b3)) y8 y7 → (fun v yy => ∃ n' A' c', v = .agg #[.int .i64 (N.ins n'), .slice A' (N.gs n').length c'] ∧ smallN (n - j + 1) n' ∧ Lay.gate.Sl yy (Ab S yy) A' n'.gs) v9 y7 from fun _ _ _ ⟨n', A', c', h1, h2, h3⟩ hR => ⟨n', A', c', h1, h2, h3.gr (hR.mono HSL.out.2)⟩) (vs9 7) x9 y9 h9 hR9),
    .inr (fun _ _ _ h _ => h),
    .inr (fun _ _ _ h _ => h), trivial⟩ ⟨fun vs vs' x h _ hv => (by dsimp only at hv ⊢; first | (rw [← h]; exact hv) | exact hv),
    fun vs vs' x h _ hv => (by dsimp only at hv ⊢; first | (rw [← h]; exact hv) | exact hv),
    fun vs vs' x h _ hv => (by dsimp only at hv ⊢; first | (rw [← h]; exact hv) | exact hv),
    fun vs vs' x h _ hv => (by dsimp only at hv ⊢; first | (rw [← h]; exact hv) | exact hv),
    fun vs vs' x h _ hv => (by dsimp only at hv ⊢; first | (rw [← h]; exact hv) | exact hv),
    fun vs vs' x h _ hv => (by dsimp only at hv ⊢; first | (rw [← h]; exact hv) | exact hv),
    fun vs vs' x h _ hv => (by dsimp only at hv ⊢; first | (rw [← h]; exact hv) | exact hv),
    fun vs vs' x h _ hv => (by dsimp only at hv ⊢; first | (rw [← h]; exact hv) | exact hv),
    fun _ _ _ _ _ _ => trivial,
    fun _ _ _ _ _ _ => trivial, trivial⟩ (⟨ig_start HR6.out (fun s hs => by cases hs), fun _ => HB3.out, m, A, c, HB3.out, HSM.out.mono (by omega), HSL6.out.gr (.below (below_drewN (Below.refl _ _) 1))⟩) ⟨?_, ?_, ?_, ?_, ?_, ?_, ?_, ?_, ?_, ?_, trivial⟩ ?_
        · intro vals xw n9 hn hl hI hF
          have hl2 : n9 + 1 + 5 ≤ 10 := up_eq hl.2 (by kernel_rfl)
          clear hl
          dsimp only [owes, bare]
          simp only [putsD, Act.put, List.setIfInBounds_toArray, List.set_cons_zero, List.set_cons_succ]
          have hk9 := hI.2.1 (by omega)
          have c0 : xw.cell? ⟨b3, 0, none⟩ = some (.int .i64 m.ins) := (cell_of_block hk9 0).1
          have c1 : xw.cell? ⟨b3, 1, none⟩ = some (.slice A m.gs.length c) := (cell_of_block hk9 1).1
          clear hk9
          go_wp2
          exact ⟨rfl, rfl, Gr.refl _ _, in_step hI (by omega)⟩
        · intro vals xw n9 hn hl hI hF
          clear hl
          dsimp only [owes, bare]
          simp only [putsD, Act.put, List.setIfInBounds_toArray, List.set_cons_zero, List.set_cons_succ]
          go_wp2
          exact ⟨rfl, rfl, Gr.refl _ _, in_step hI (by omega)⟩
        · intro vals xw n9 hn hl hI hF
          clear hl
          dsimp only [owes, bare]
          simp only [putsD, Act.put, List.setIfInBounds_toArray, List.set_cons_zero, List.set_cons_succ]
          go_wp2
          exact ⟨rfl, rfl, Gr.refl _ _, in_step hI (by omega)⟩
        · intro vals xw n9 hn hl hI hF
          have hl2 : n9 + 1 + 6 ≤ 10 := up_eq hl.2 (by kernel_rfl)
          clear hl
          dsimp only [owes, bare]
          simp only [putsD, Act.put, List.setIfInBounds_toArray, List.set_cons_zero, List.set_cons_succ]
          have hk9 := hI.2.1 (by omega)
          have c0 : xw.cell? ⟨b3, 0, none⟩ = some (.int .i64 m.ins) := (cell_of_block hk9 0).1
          have c1 : xw.cell? ⟨b3, 1, none⟩ = some (.slice A m.gs.length c) := (cell_of_block hk9 1).1
          clear hk9
          go_wp2
          exact ⟨rfl, rfl, Gr.refl _ _, in_step hI (by omega)⟩
        · intro vals xw n9 hn hl hI hF
          clear hl
          simp only [saysD, List.getD_cons_zero, List.getD_cons_succ, and_true] at hF
          obtain ⟨e1, e2⟩ := hF
          dsimp only [owes, bare]
          simp only [putsD, Act.put, List.setIfInBounds_toArray, List.set_cons_zero, List.set_cons_succ]
          simp only [e1, e2]
          have HI := Lib.hid hI
          obtain ⟨⟨_, ⟨q', hq, q'0, q'1⟩, _⟩, _⟩ := hI
          have hnn : n9 < 10 := hn
          go_wp2_with fail
          refine (l6Lit_any r q' m A c xw hq (by omega) (by omega) (by omega) (by omega) (by omega)).mono ?_
          rintro e wx ⟨b, rfl, ⟨b0, b1, b2', _⟩, hd⟩
          have HD := Lib.hid (in_draw HI.out hd q'0 q'1 (by omega) (.inl rfl) HSL.out.2 (by omega))
          clear hd
          go_wp2
          exact ⟨rfl, ⟨b, rfl, b1, b2'⟩, HD.out.2, HD.out.1⟩
        · intro vals xw n9 hn hl hI hF
          clear hl
          simp only [saysD, List.getD_cons_zero, List.getD_cons_succ, and_true] at hF
          obtain ⟨e1, e2, b, e3, b1, b2'⟩ := hF
          dsimp only [owes, bare]
          simp only [putsD, Act.put, List.setIfInBounds_toArray, List.set_cons_zero, List.set_cons_succ]
          simp only [e1, e2, e3]
          have HI := Lib.hid hI
          have hslx := HSL6.out.gr (hI.1.1.mono HSL.out.2)
          have hsx := hI.1.1.size
          clear hI
          go_wp2_with fail
          refine (l6And_any (Ab S xw) A c m a b xw hslx (fun b h => h.1) (by omega) HHA.out (by omega) (by omega) (by omega) (by omega)).mono ?_
          rintro e wx ⟨A', c', rfl, _, hs', hb'⟩
          have HM := Lib.hid (sl_made hs' (fun b hb => by have := HSL.out.1 b hb; omega) hb')
          have HI2 := Lib.hid (in_low HI.out (by omega) hb')
          have HSM2 : Hid (smallN (n - j + 1) (and1 m a b).1) := Lib.hid (and1_small HSM.out (by unfold okInt; omega) (by unfold okInt; omega))
          have HBB := Lib.hid hb'
          clear hs' hb' hslx
          go_wp2
          exact ⟨rfl, ⟨_, A', c', _, rfl, HSM2.out, HM.out⟩, .below HBB.out, HI2.out⟩
        · intro vals xw n9 hn hl hI hF
          clear hl
          simp only [saysD, List.getD_cons_zero, List.getD_cons_succ, and_true] at hF
          obtain ⟨n', A', c', m', e1, hP⟩ := hF
          dsimp only [owes, bare]
          simp only [putsD, Act.put, List.setIfInBounds_toArray, List.set_cons_zero, List.set_cons_succ]
          simp only [e1]
          go_wp2
          exact ⟨rfl, ⟨n', A', c', m', rfl, hP⟩, Gr.refl _ _, in_step hI (by omega)⟩
        · intro vals xw n9 hn hl hI hF
          clear hl
          simp only [saysD, List.getD_cons_zero, List.getD_cons_succ, and_true] at hF
          obtain ⟨n', A', c', m', e1, hP⟩ := hF
          dsimp only [owes, bare]
          simp only [putsD, Act.put, List.setIfInBounds_toArray, List.set_cons_zero, List.set_cons_succ]
          simp only [e1]
          go_wp2
          exact ⟨rfl, ⟨n', A', c', rfl, hP⟩, Gr.refl _ _, in_step hI (by omega)⟩
        · intro vals xw n9 hn hl hI hF
          clear hl
          simp only [saysD, List.getD_cons_zero, List.getD_cons_succ, and_true] at hF
          obtain ⟨n', A', c', m', e1, hP⟩ := hF
          dsimp only [owes, bare]
          simp only [putsD, Act.put, List.setIfInBounds_toArray, List.set_cons_zero, List.set_cons_succ]
          simp only [e1]
          go_wp2
          exact ⟨rfl, trivial, Gr.refl _ _, in_step hI (by omega)⟩
        · intro vals xw n9 hn hl hI hF
          have hl1 : 8 ≤ n9 := le_eq hl.1 (by kernel_rfl)
          clear hl
          simp only [saysD, List.getD_cons_zero, List.getD_cons_succ, and_true] at hF
          obtain ⟨n', A', c', e1, hs', hl'⟩ := hF
          dsimp only [owes, bare]
          simp only [putsD, Act.put, List.setIfInBounds_toArray, List.set_cons_zero, List.set_cons_succ]
          simp only [e1]
          obtain ⟨m9, A9, c9, hk, _, _⟩ := hI.2.2
          have HI := Lib.hid hI
          have v0 : xw.cell? ⟨b3, 0, none⟩ = some (.int .i64 m9.ins) := (cell_of_block hk 0).1
          have v1 : xw.cell? ⟨b3, 1, none⟩ = some (.slice A9 m9.gs.length c9) := (cell_of_block hk 1).1
          have f0 : xw.frozen? ⟨b3, 0, none⟩ = false := (cell_of_block hk 0).2
          have f1 : xw.frozen? ⟨b3, 1, none⟩ = false := (cell_of_block hk 1).2
          have hh := heap_set_same _ b3 1 (.slice A' n'.gs.length c') _ _ (heap_set_same xw b3 0 (.int .i64 n'.ins) _ _ hk)
          have hg : Gr (fun z => z = b3) xw ((xw.setCell ⟨b3, 0, none⟩ (.int .i64 n'.ins)).setCell ⟨b3, 1, none⟩ (.slice A' n'.gs.length c')) := ((Gr.refl (fun z => z = b3) xw).set _ _ _ (.inl (by rfl))).set _ _ _ (.inl (by rfl))
          have HL := Lib.hid (in_last HI.out (by omega) b3 hg (.inr rfl) (by omega) ⟨_, _, _, hk, by simp⟩ (by omega) ⟨n', A', c', hh, hs', hl'.gr (hg.mono fun b hb => HSL.out.2 b (.inr hb))⟩)
          clear hI hk hg hs' hl' e1 hl1 hh
          go_wp2
          exact ⟨rfl, trivial, HL.out.2, HL.out.1⟩
        · intro vals xw n9 hn hI hF
          rw [show List.range _ = [0, 1, 2, 3, 4, 5, 6, 7, 8, 9] from rfl] at hF
          simp only [says, List.getD_cons_zero, List.getD_cons_succ, and_true] at hF
          obtain ⟨⟨hgx, ⟨q', hq', q'0, q'1⟩, _⟩, _, n', A', c', hk', hs', hl'⟩ := hI
          simp only [putsD, Act.put, List.setIfInBounds_toArray, List.set_cons_zero, List.set_cons_succ]
          have HB23 := Lib.hid (hgx.heap (by show ¬ (_ = r ∨ _ = b3); omega) HB2.out)
          have HGW := Lib.hid (HGG6.out.then hgx (fun b hb => hb.imp id (fun h => by rw [HB2E.out]; omega)))
          have HK' := Lib.hid hk'
          have HSM' := Lib.hid hs'
          have hn10 : (n9 : Int) ≤ 10 := by have : n9 ≤ 10 := hn; omega
          clear hF hk' hs' hgx hn
          go_wp2
          go_roundw
          case rel => exact ⟨j - 1, n', A', c', q', by omega, by go_num, HSM'.out.mono (by omega), HK'.out, HB23.out, hl', hq', by omega, by omega, HGW.out⟩
          case measure => simp [intOf]; omega
    · have hj0 : j = 0 := by omega
      subst hj0
      have v0 : wr.cell? ⟨b2, 0, none⟩ = some (.int .i64 0) := (cell_of_block HB2.out 0).1
      have v1 : wr.cell? ⟨b2, 1, none⟩ = some (.slice none 0 0) := (cell_of_block HB2.out 1).1
      have f0 : wr.frozen? ⟨b2, 0, none⟩ = false := (cell_of_block HB2.out 0).2
      have f1 : wr.frozen? ⟨b2, 1, none⟩ = false := (cell_of_block HB2.out 1).2
      go_wp2
      refine bodyPost_ret (v := .agg #[.int .i64 m.ins, .slice A m.gs.length c]) (by simp [results, Try.results39, go_sem, v0, v1, f0, f1]) rfl ⟨m, A, c, rfl, ?_, HSM.out.mono (by omega), q, q0, by omega, ?_, ?_⟩
      · have hset : Gr S wr ((wr.setCell ⟨b2, 0, none⟩ (.int .i64 m.ins)).setCell ⟨b2, 1, none⟩ (.slice A m.gs.length c)) := ((Gr.refl _ _).set _ _ _ (.inl ((HS.out b2).2 (.inr (.inl rfl))))).set _ _ _ (.inl ((HS.out b2).2 (.inr (.inl rfl))))
        exact (hsl.gr hset).ab_mono fun b _ hb => HS0.out b hb
      · exact (hR.set (by omega)).set (by omega)
      · exact (hg.set _ _ _ (.inr (by rw [HB2E.out]; exact Nat.le_refl _))).set _ _ _ (.inr (by rw [HB2E.out]; exact Nat.le_refl _))
end Go.Proofs.Ytcdlfnhjpjpbjaa
