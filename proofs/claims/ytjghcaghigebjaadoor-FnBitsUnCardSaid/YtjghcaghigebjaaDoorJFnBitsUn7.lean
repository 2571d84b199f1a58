/- Draws of nets and of two numbers: l7Net, l7Two. Draws of a net and the marks of two numbers: l7Two, DrawBitsIf. Draws for the laws on bits: DrawBitsIf, DrawBitsCmp. Draws for the laws on bits: DrawBitsCmp. Draws for the laws on bits: DrawBitsUn. Own rows of truth values; append. The program's comparison and values of nets; the laws' own words on them. The program's values of nets. The laws' words on nets: what comes in, the number of some bytes, what has grown. What programs of gates say of the values; what they say when they are run again. Sums, comparisons: what their programs say. The multiplexer's law, plain: what BitsIf answers is right. The law of the operations on one number, plain: what BitsUn answers is right. The program's bit vectors: VecOk, VecSigned, VecCmp where the vectors are right. -/
import Derived.Test.YtjghcaghigebjaaDoorJFnBitsUn0
import Derived.Test.YtjghcaghigebjaaDoorJFnBitsUn1
import Derived.Test.YtjghcaghigebjaaDoorJFnBitsUn2
import Derived.Test.YtjghcaghigebjaaDoorJFnBitsUn3
import Derived.Test.YtjghcaghigebjaaDoorJFnBitsUn4
import Derived.Test.YtjghcaghigebjaaDoorJFnBitsUn6
/-! Draws of nets and of two numbers: l7Net, l7Two. -/
namespace Go.Proofs.YtjghcaghigebjaaDoor
open Go Go.RowKit

/-- What a drawn net's slots say. -/
def SayT (S : Nat → Prop) (k : Nat) (v : Value) (y : World) : Prop := ∃ n' A' c' m', v = .tuple #[.agg #[.int .i64 (N.ins n'), .slice A' (N.gs n').length c'], .int .i64 m'] ∧ smallN k n' ∧ Lay.gate.Sl y (Ab S y) A' n'.gs
def SayN (S : Nat → Prop) (k : Nat) (v : Value) (y : World) : Prop := ∃ n' A' c', v = .agg #[.int .i64 (N.ins n'), .slice A' (N.gs n').length c'] ∧ smallN k n' ∧ Lay.gate.Sl y (Ab S y) A' n'.gs
def SayI (v : Value) : Prop := ∃ b, v = .int .i64 b ∧ -3000000 ≤ b ∧ b ≤ 3000000
theorem SayT.gr {S T : Nat → Prop} {k : Nat} {v : Value} {x y : World} (h : SayT S k v x) (hg : Gr T x y) (hT : ∀ b, T b → S b) : SayT S k v y := by
  obtain ⟨n', A', c', m', h1, h2, h3⟩ := h
  exact ⟨n', A', c', m', h1, h2, h3.gr (hg.mono hT)⟩
theorem SayN.gr {S T : Nat → Prop} {k : Nat} {v : Value} {x y : World} (h : SayN S k v x) (hg : Gr T x y) (hT : ∀ b, T b → S b) : SayN S k v y := by
  obtain ⟨n', A', c', h1, h2, h3⟩ := h
  exact ⟨n', A', c', h1, h2, h3.gr (hg.mono hT)⟩
/-- What is so while two marks are drawn and a gate is made of them. -/
def NetQ (S T : Nat → Prop) (r : Nat) (q0 : Int) (k : Nat) (w : World) (b3 : Nat) (o : Obj) (d1 d2 done : Bool) (x : World) : Prop :=
  Gr T w x ∧ (∃ q, Rdr x r q ∧ q0 ≤ q ∧ q ≤ q0 + (if d1 = true then 2 else 0) + (if d2 = true then 2 else 0)) ∧ (done = false → x.heap[b3]? = some o) ∧ NetIn (smallN k) S b3 x
theorem NetQ.low {S T : Nat → Prop} {r : Nat} {q0 : Int} {k : Nat} {w x x' : World} {b3 : Nat} {o : Obj} {d1 d2 done : Bool} (h : NetQ S T r q0 k w b3 o d1 d2 done x) (hb : Below x.heap.size x x') : NetQ S T r q0 k w b3 o d1 d2 done x' := by
  obtain ⟨h1, ⟨q, h2, h3, h4⟩, h5, h6⟩ := h
  exact ⟨h1.up hb, ⟨q, h2.up hb, h3, h4⟩, fun hd => (hb.block _ (Array.getElem?_eq_some_iff.1 (h5 hd)).1).trans (h5 hd), h6.gr (T := fun _ => False) (.below hb) (fun h => h) (fun _ h => h.elim)⟩
theorem NetQ.draw {S T : Nat → Prop} {r : Nat} {q0 q : Int} {k : Nat} {w x x' : World} {b3 : Nat} {o : Obj} {d1 d2 e1 e2 : Bool} {done : Bool} (h : NetQ S T r q0 k w b3 o d1 d2 done x) (hd : Drawn r q 2 x x') (hq0 : q0 ≤ q) (hq : q + 2 ≤ q0 + (if e1 = true then 2 else 0) + (if e2 = true then 2 else 0)) (hT : T r) (hTS : ∀ b, T b → S b) (hr : b3 ≠ r) : NetQ S T r q0 k w b3 o e1 e2 done x' ∧ Gr T x x' := by
  obtain ⟨h1, _, h5, h6⟩ := h
  obtain ⟨q', d1, d2, d3, d4⟩ := hd
  have hg : Gr T x x' := d4.mono fun b hb => by rw [hb]; exact hT
  exact ⟨⟨h1.trans hg, ⟨q', d3, by omega, by omega⟩, fun hd => d4.heap (by exact hr) (h5 hd), h6.gr d4 (by exact hr) (fun b hb => by rw [hb]; exact hTS r hT)⟩, hg⟩
set_option maxRecDepth 100000 in
set_option maxHeartbeats 4000000 in
theorem l7Net_any (S0 : Nat → Prop) (r : Nat) (p : Int) (w : World) (h : Rdr w r p) (hS0 : ∀ b, S0 b → b < w.heap.size) (hSr : S0 r) (p0 : 0 ≤ p) (p1 : p ≤ 600000000) :
    Calls Tryd.prog 89 #[.pointer (some ⟨r, 0, none⟩)] w (RetDN S0 r p 2000 (bentN 4) w) := by
  have hrl := h.lt
  have hal0 : Below w.heap.size w (w.alloc (.cells #[.int .i64 0, .slice none 0 0] 29)) := (Below.refl _ _).alloc (Nat.le_refl _) _
  have hb2 : (w.alloc (.cells #[.int .i64 0, .slice none 0 0] 29)).heap[w.heap.size]? = some (.cells #[.int .i64 0, .slice none 0 0] 29 (0, 0)) := heap_alloc_new _ _
  have hsz0 : (w.alloc (.cells #[.int .i64 0, .slice none 0 0] 29)).heap.size = w.heap.size + 1 := by simp
  have hR0 := h.up hal0
  have hg0 : Gr (IsR r) w (w.alloc (.cells #[.int .i64 0, .slice none 0 0] 29)) := .below hal0
  have hal1 : Below (w.alloc (.cells #[.int .i64 0, .slice none 0 0] 29)).heap.size (w.alloc (.cells #[.int .i64 0, .slice none 0 0] 29)) ((w.alloc (.cells #[.int .i64 0, .slice none 0 0] 29)).alloc (.cells #[.int .i64 8, .int .i64 8, .int .i64 6, .int .i64 4, .int .i64 3] 3)) := (Below.refl _ _).alloc (Nat.le_refl _) _
  have hsl := lit_sl (S := IsR r) (w.alloc (.cells #[.int .i64 0, .slice none 0 0] 29)) [8, 8, 6, 4, 3] _ 3 rfl (by show ¬ _ = r; rw [hsz0]; omega)
  have hnum := num_any r p _ 5 _ _ (hR0.up hal1) hsl (by simp) (by simp) (by omega) (by omega)
  rw [hsz0] at hnum
  have HN := Lib.hid hnum
  clear hnum
  have hb2 := (hal1.block _ (lt_of_block hb2)).trans hb2
  have hg1 := hg0.up hal1
  have HB2 := Lib.hid hb2
  clear hal0 hal1 h hsl hR0 hg0 hsz0 hb2
  go_enter Tryd.func89, Tryd.ntmps89
  go_wp2_with fail
  refine HN.out.mono ?_
  clear HN
  generalize (w.alloc (.cells #[.int .i64 0, .slice none 0 0] 29)).alloc (.cells #[.int .i64 8, .int .i64 8, .int .i64 6, .int .i64 4, .int .i64 3] 3) = w0 at *
  rintro e w1 ⟨k, hk, rfl, hR1, hg1'⟩
  have hk8 : 0 ≤ k ∧ k ≤ 8 := by simp at hk; omega
  obtain ⟨k0, k1⟩ := hk8
  have HB2 := Lib.hid (hg1'.heap (by show ¬ _ = r; omega) HB2.out)
  have hgg1 := hg1.trans hg1'
  have hsz1 := hgg1.size
  have hb2l := lt_of_block HB2.out
  clear hk hg1 hg1'
  have hal : Below w1.heap.size w1 (w1.alloc (.cells #[.int .i64 k, .slice none 0 0] 29)) := (Below.refl _ _).alloc (Nat.le_refl _) _
  have HB3 := Lib.hid (heap_alloc_new w1 (.cells #[.int .i64 k, .slice none 0 0] 29))
  have HB2 := Lib.hid ((hal.block _ (lt_of_block HB2.out)).trans HB2.out)
  have hR2 := hR1.up hal
  have hgg2 := hgg1.up hal
  have HSZ2 := Lib.hid (show (w1.alloc (.cells #[.int .i64 k, .slice none 0 0] 29)).heap.size = w1.heap.size + 1 by simp)
  clear hal hR1 hgg1
  go_wp2_with fail
  have hsz2 := HSZ2.out
  clear HSZ2
  generalize w1.alloc (.cells #[.int .i64 k, .slice none 0 0] 29) = w2 at *
  generalize hb3e : w1.heap.size = b3 at *
  generalize hb2e : w.heap.size = b2 at *
  have HB2E := Lib.hid hb2e
  have i3 : b2 < b3 := by omega
  have i4 : r < b2 := by omega
  clear hb2e hb3e hsz1 hrl
  refine (pick_any r (p + 1) 4 w2 hR2 (by omega) (by omega) (by omega) (by omega)).mono ?_
  rintro e w4 ⟨n, rfl, n0, n1, _, hR4, hg4⟩
  have hn1 : n ≤ 3 := by have := n1 (by omega); omega
  have hg4 := Gr.one (S := IsR r) hg4 rfl
  have HB2 := Lib.hid (hg4.heap (by show ¬ _ = r; omega) HB2.out)
  have HB3 := Lib.hid (hg4.heap (by show ¬ _ = r; omega) HB3.out)
  have hgg4 := hgg2.trans hg4
  have hsz4 := hg4.size
  obtain ⟨n, rfl⟩ := Int.eq_ofNat_of_zero_le n0
  clear hgg2 hg4 n1 hR2 hsz2
  obtain ⟨S, hS⟩ : ∃ S : Nat → Prop, ∀ b, S b ↔ S0 b ∨ b = b2 ∨ b = b3 := ⟨fun b => S0 b ∨ b = b2 ∨ b = b3, fun _ => Iff.rfl⟩
  have HS := Lib.hid hS
  have hSlt : ∀ b, S b → b < b3 + 1 := fun b hb => by
    rcases (hS b).1 hb with h9 | h9 | h9
    · have := hS0 b h9; omega
    · omega
    · omega
  have hTS : ∀ b, (b = r ∨ b = b3) → S b := fun b hb => by
    rcases hb with rfl | rfl
    · exact (hS _).2 (.inl hSr)
    · exact (hS _).2 (.inr (.inr rfl))
  have HS0 : Hid (∀ b, S0 b → S b) := Lib.hid fun b hb => (hS b).2 (.inl hb)
  have HSr : Hid (S r) := Lib.hid ((hS _).2 (.inl hSr))
  have HSL := Lib.hid (And.intro hSlt hTS)
  have hb3lt := lt_of_block HB3.out
  clear hSlt hTS hS hS0
  go_wp2
  go_loopw [4] (fun i wr => ∃ (j : Nat) (m : N) (A : Option Addr) (c : Nat) (q : Int), j ≤ n ∧ i = .int .i64 j ∧ smallN (n - j) m ∧ wr.heap[b3]? = some (.cells #[.int .i64 m.ins, .slice A m.gs.length c] 29 (0, 0)) ∧ wr.heap[b2]? = some (.cells #[.int .i64 0, .slice none 0 0] 29 (0, 0)) ∧
    Lay.gate.Sl wr (Ab S wr) A m.gs ∧ Rdr wr r q ∧ p ≤ q ∧ q ≤ p + 2 + 40 * (n - j) ∧ Gr (IsR r) w wr) (fun i _ => (intOf i).toNat)
  case atStart => exact ⟨n, ⟨k, []⟩, none, 0, p + 1 + 1, Nat.le_refl _, rfl, ⟨k0, k1, by simp, fun g hg => by cases hg⟩, HB3.out, HB2.out, .nil _ _ _ _, hR4, by omega, by omega, hgg4⟩
  case round =>
    obtain ⟨j, m, A, c, q, hj, rfl, hsm, hb3, hb2, hsl, hR, q0, q1, hg⟩ := hrel
    have HB3 := Lib.hid hb3
    have HB2 := Lib.hid hb2
    have HSM := Lib.hid hsm
    have hmi : 0 ≤ m.ins ∧ m.ins ≤ 8 ∧ m.gs.length ≤ 100 := ⟨hsm.1, hsm.2.1, by have := hsm.2.2.1; omega⟩
    have hlt3 := lt_of_block hb3
    have HSLR := Lib.hid hsl
    have HR := Lib.hid hR
    have HG := Lib.hid hg
    have HHA := Lib.hid (fun e => sl_none hsl e)
    clear hb3 hb2 hsm hsl hR hg
    by_cases hlt : 0 < j
    · have hj1 : (0 : Int) < j := by omega
      go_wp2
      refine wp_region_rel4 [[], [], [], [(1, 17), (2, 18)], [], [], [(4, 20), (5, 21)], [(0, 16), (3, 19), (6, 22)], [(7, 23)], [(8, 15)], [(8, 15)], [(9, 24)]]
        (Gr (fun b => b = r ∨ b = b3))
        []
        (fun f9 x9 => NetQ S (fun b => b = r ∨ b = b3) r q (n - j + 1) wr b3 (.cells #[.int .i64 m.ins, .slice A m.gs.length c] 29 (0, 0)) (f9 3) (f9 6) (f9 11) x9)
        [fun vs9 _ => vs9 0 = (.agg #[.int .i64 m.ins, .slice A m.gs.length c]),
    fun vs9 _ => vs9 1 = (.pointer (some ⟨r, 0, none⟩)),
    fun vs9 _ => vs9 2 = (.agg #[.int .i64 m.ins, .slice A m.gs.length c]),
    fun vs9 y9 => (fun v _ => SayI v) (vs9 3) y9,
    fun vs9 _ => vs9 4 = (.pointer (some ⟨r, 0, none⟩)),
    fun vs9 _ => vs9 5 = (.agg #[.int .i64 m.ins, .slice A m.gs.length c]),
    fun vs9 y9 => (fun v _ => SayI v) (vs9 6) y9,
    fun vs9 y9 => (fun v yy => SayT S (n - j + 1) v yy) (vs9 7) y9,
    fun vs9 y9 => (fun v yy => SayT S (n - j + 1) v yy) (vs9 8) y9,
    fun vs9 y9 => (fun v yy => SayN S (n - j + 1) v yy) (vs9 9) y9,
    fun _ _ => True,
    fun _ _ => True]
        [(0, 16), (1, 17), (2, 18), (3, 19), (4, 20), (5, 21), (6, 22), (7, 23), (8, 15), (9, 24), (10, 25)] (by kernel_rfl) (by kernel_rfl) (by kernel_rfl) (by kernel_rfl)
        (fun _ => Gr.refl _ _) trivial
        ⟨⟨.inr (fun _ _ _ h _ => h), trivial⟩,
    ⟨.inr (fun _ _ _ h _ => h), trivial⟩,
    ⟨.inr (fun _ _ _ h _ => h), trivial⟩,
    ⟨.inr (fun vs9 x9 y9 h9 hR9 => (show ∀ v9 y8 y7, (fun v _ => SayI v) v9 y8 → (Gr (fun b => b = r ∨ b = b3)) y8 y7 → (fun v _ => SayI v) v9 y7 from fun _ _ _ h _ => h) (vs9 3) x9 y9 h9 hR9), trivial⟩,
    ⟨.inr (fun _ _ _ h _ => h), trivial⟩,
    ⟨.inr (fun _ _ _ h _ => h), trivial⟩,
    ⟨.inr (fun vs9 x9 y9 h9 hR9 => (show ∀ v9 y8 y7, (fun v _ => SayI v) v9 y8 → (Gr (fun b => b = r ∨ b = b3)) y8 y7 → (fun v _ => SayI v) v9 y7 from fun _ _ _ h _ => h) (vs9 6) x9 y9 h9 hR9), trivial⟩,
    ⟨.inr (fun vs9 x9 y9 h9 hR9 => (show ∀ v9 y8 y7, (fun v yy => SayT S (n - j + 1) v yy) v9 y8 → (Gr (fun b => b = r ∨ b = b3)) y8 y7 → (fun v yy => SayT S (n - j + 1) v yy) v9 y7 from fun _ _ _ h hR => h.gr hR HSL.out.2) (vs9 7) x9 y9 h9 hR9), trivial⟩,
    ⟨.inr (fun vs9 x9 y9 h9 hR9 => (show ∀ v9 y8 y7, (fun v yy => SayT S (n - j + 1) v yy) v9 y8 → (Gr (fun b => b = r ∨ b = b3)) y8 y7 → (fun v yy => SayT S (n - j + 1) v yy) v9 y7 from fun _ _ _ h hR => h.gr hR HSL.out.2) (vs9 8) x9 y9 h9 hR9), trivial⟩,
    ⟨.inr (fun vs9 x9 y9 h9 hR9 => (show ∀ v9 y8 y7, (fun v yy => SayN S (n - j + 1) v yy) v9 y8 → (Gr (fun b => b = r ∨ b = b3)) y8 y7 → (fun v yy => SayN S (n - j + 1) v yy) v9 y7 from fun _ _ _ h hR => h.gr hR HSL.out.2) (vs9 9) x9 y9 h9 hR9), trivial⟩,
    ⟨.inr (fun _ _ _ h _ => h), trivial⟩,
    ⟨.inr (fun _ _ _ h _ => h), trivial⟩, trivial⟩ ⟨fun vs vs' x h _ hv => (by dsimp only at hv ⊢; first | (rw [← h]; exact hv) | exact hv),
    fun vs vs' x h _ hv => (by dsimp only at hv ⊢; first | (rw [← h]; exact hv) | exact hv),
    fun vs vs' x h _ hv => (by dsimp only at hv ⊢; first | (rw [← h]; exact hv) | exact hv),
    fun vs vs' x h _ hv => (by dsimp only at hv ⊢; first | (rw [← h]; exact hv) | exact hv),
    fun vs vs' x h _ hv => (by dsimp only at hv ⊢; first | (rw [← h]; exact hv) | exact hv),
    fun vs vs' x h _ hv => (by dsimp only at hv ⊢; first | (rw [← h]; exact hv) | exact hv),
    fun vs vs' x h _ hv => (by dsimp only at hv ⊢; first | (rw [← h]; exact hv) | exact hv),
    fun vs vs' x h _ hv => (by dsimp only at hv ⊢; first | (rw [← h]; exact hv) | exact hv),
    fun vs vs' x h _ hv => (by dsimp only at hv ⊢; first | (rw [← h]; exact hv) | exact hv),
    fun vs vs' x h _ hv => (by dsimp only at hv ⊢; first | (rw [← h]; exact hv) | exact hv),
    fun _ _ _ _ _ _ => trivial,
    fun _ _ _ _ _ _ => trivial, trivial⟩ (⟨.below (below_drewN (Below.refl _ _) 1), ⟨q, HR.out.up (below_drewN (Below.refl _ _) 1), by omega, by simp⟩, fun _ => ((below_drewN (Below.refl _ _) 1 : Below wr.heap.size wr _).block _ (lt_of_block HB3.out)).trans HB3.out, NetIn.gr (T := fun _ => False) (show NetIn (smallN (n - j + 1)) S b3 wr from ⟨m, A, c, HB3.out, HSM.out.mono (by omega), HSLR.out⟩) (.below (below_drewN (Below.refl _ _) 1)) (fun h => h) (fun _ h => h.elim)⟩) ⟨?_, ?_, ?_, ?_, ?_, ?_, ?_, ?_, ?_, ?_, ?_, ?_, trivial⟩ ?_
      · intro vals xw f hf1 hf2 hf3 hI hF
        have k11 : f 11 = false := hf3 11 (by kernel_rfl)
        clear hf2 hf3
        dsimp only [owes4, bare]
        simp only [putsD, Act.put, List.setIfInBounds_toArray, List.set_cons_zero, List.set_cons_succ]
        have hk9 := hI.2.2.1 k11
        have c0 : xw.cell? ⟨b3, 0, none⟩ = some (.int .i64 m.ins) := (cell_of_block hk9 0).1
        have c1 : xw.cell? ⟨b3, 1, none⟩ = some (.slice A m.gs.length c) := (cell_of_block hk9 1).1
        clear hk9
        go_wp2
        exact ⟨rfl, rfl, Gr.refl _ _, hI⟩
      · intro vals xw f hf1 hf2 hf3 hI hF
        clear hf2 hf3
        dsimp only [owes4, bare]
        simp only [putsD, Act.put, List.setIfInBounds_toArray, List.set_cons_zero, List.set_cons_succ]
        go_wp2
        exact ⟨rfl, rfl, Gr.refl _ _, hI⟩
      · intro vals xw f hf1 hf2 hf3 hI hF
        have k11 : f 11 = false := hf3 11 (by kernel_rfl)
        clear hf2 hf3
        dsimp only [owes4, bare]
        simp only [putsD, Act.put, List.setIfInBounds_toArray, List.set_cons_zero, List.set_cons_succ]
        have hk9 := hI.2.2.1 k11
        have c0 : xw.cell? ⟨b3, 0, none⟩ = some (.int .i64 m.ins) := (cell_of_block hk9 0).1
        have c1 : xw.cell? ⟨b3, 1, none⟩ = some (.slice A m.gs.length c) := (cell_of_block hk9 1).1
        clear hk9
        go_wp2
        exact ⟨rfl, rfl, Gr.refl _ _, hI⟩
      · intro vals xw f hf1 hf2 hf3 hI hF
        clear hf2 hf3
        simp only [saysD, List.getD_cons_zero, List.getD_cons_succ, and_true] at hF
        obtain ⟨e1, e2⟩ := hF
        dsimp only [owes4, bare]
        simp only [putsD, Act.put, List.setIfInBounds_toArray, List.set_cons_zero, List.set_cons_succ]
        simp only [e1, e2]
        have HI := Lib.hid hI
        obtain ⟨_, ⟨q', hq, q'0, q'1⟩, _, _⟩ := hI
        rw [hf1] at q'1
        have hq9 : q' ≤ q + 4 := by revert q'1; cases f 6 <;> simp <;> omega
        go_wp2_with fail
        refine (l6Lit_any r q' m A c xw hq (by omega) (by omega) (by omega) (by omega) (by omega)).mono ?_
        rintro e wx ⟨b, rfl, ⟨b0, b1, b2', _⟩, hd⟩
        have HD := Lib.hid (HI.out.draw (e1 := true) (e2 := (f 6)) hd q'0 (by revert q'1; cases f 6 <;> simp <;> omega) (.inl rfl) HSL.out.2 (by omega))
        clear hd
        go_wp2
        exact ⟨rfl, ⟨b, rfl, b1, b2'⟩, HD.out.2, HD.out.1⟩
      · intro vals xw f hf1 hf2 hf3 hI hF
        clear hf2 hf3
        dsimp only [owes4, bare]
        simp only [putsD, Act.put, List.setIfInBounds_toArray, List.set_cons_zero, List.set_cons_succ]
        go_wp2
        exact ⟨rfl, rfl, Gr.refl _ _, hI⟩
      · intro vals xw f hf1 hf2 hf3 hI hF
        have k11 : f 11 = false := hf3 11 (by kernel_rfl)
        clear hf2 hf3
        dsimp only [owes4, bare]
        simp only [putsD, Act.put, List.setIfInBounds_toArray, List.set_cons_zero, List.set_cons_succ]
        have hk9 := hI.2.2.1 k11
        have c0 : xw.cell? ⟨b3, 0, none⟩ = some (.int .i64 m.ins) := (cell_of_block hk9 0).1
        have c1 : xw.cell? ⟨b3, 1, none⟩ = some (.slice A m.gs.length c) := (cell_of_block hk9 1).1
        clear hk9
        go_wp2
        exact ⟨rfl, rfl, Gr.refl _ _, hI⟩
      · intro vals xw f hf1 hf2 hf3 hI hF
        clear hf2 hf3
        simp only [saysD, List.getD_cons_zero, List.getD_cons_succ, and_true] at hF
        obtain ⟨e1, e2⟩ := hF
        dsimp only [owes4, bare]
        simp only [putsD, Act.put, List.setIfInBounds_toArray, List.set_cons_zero, List.set_cons_succ]
        simp only [e1, e2]
        have HI := Lib.hid hI
        obtain ⟨_, ⟨q', hq, q'0, q'1⟩, _, _⟩ := hI
        rw [hf1] at q'1
        have hq9 : q' ≤ q + 4 := by revert q'1; cases f 3 <;> simp <;> omega
        go_wp2_with fail
        refine (l6Lit_any r q' m A c xw hq (by omega) (by omega) (by omega) (by omega) (by omega)).mono ?_
        rintro e wx ⟨b, rfl, ⟨b0, b1, b2', _⟩, hd⟩
        have HD := Lib.hid (HI.out.draw (e1 := (f 3)) (e2 := true) hd q'0 (by revert q'1; cases f 3 <;> simp <;> omega) (.inl rfl) HSL.out.2 (by omega))
        clear hd
        go_wp2
        exact ⟨rfl, ⟨b, rfl, b1, b2'⟩, HD.out.2, HD.out.1⟩
      · intro vals xw f hf1 hf2 hf3 hI hF
        clear hf2 hf3
        simp only [saysD, List.getD_cons_zero, List.getD_cons_succ, and_true] at hF
        obtain ⟨e1, ⟨a, e2, a1, a2⟩, b, e3, b1, b2'⟩ := hF
        dsimp only [owes4, bare]
        simp only [putsD, Act.put, List.setIfInBounds_toArray, List.set_cons_zero, List.set_cons_succ]
        simp only [e1, e2, e3]
        have HI := Lib.hid hI
        have hslx := HSLR.out.gr (hI.1.mono HSL.out.2)
        have hsx := hI.1.size
        clear hI
        go_wp2_with fail
        refine (l6And_any (Ab S xw) A c m a b xw hslx (fun b h => h.1) (by omega) HHA.out (by omega) (by omega) (by omega) (by omega)).mono ?_
        rintro e wx ⟨A', c', rfl, _, hs', hb'⟩
        have HM := Lib.hid (sl_made hs' (fun b hb => by have := HSL.out.1 b hb; omega) hb')
        have HI2 := Lib.hid (HI.out.low hb')
        have HSM2 : Hid (smallN (n - j + 1) (and1 m a b).1) := Lib.hid (and1_small HSM.out (by unfold okInt; omega) (by unfold okInt; omega))
        have HBB := Lib.hid hb'
        clear hs' hb' hslx
        go_wp2
        exact ⟨rfl, ⟨_, A', c', _, rfl, HSM2.out, HM.out⟩, .below HBB.out, HI2.out⟩
      · intro vals xw f hf1 hf2 hf3 hI hF
        clear hf2 hf3
        simp only [saysD, List.getD_cons_zero, List.getD_cons_succ, and_true] at hF
        obtain ⟨n', A', c', m', e1, hP⟩ := hF
        dsimp only [owes4, bare]
        simp only [putsD, Act.put, List.setIfInBounds_toArray, List.set_cons_zero, List.set_cons_succ]
        simp only [e1]
        go_wp2
        exact ⟨rfl, ⟨n', A', c', m', rfl, hP⟩, Gr.refl _ _, hI⟩
      · intro vals xw f hf1 hf2 hf3 hI hF
        clear hf2 hf3
        simp only [saysD, List.getD_cons_zero, List.getD_cons_succ, and_true] at hF
        obtain ⟨n', A', c', m', e1, hP⟩ := hF
        dsimp only [owes4, bare]
        simp only [putsD, Act.put, List.setIfInBounds_toArray, List.set_cons_zero, List.set_cons_succ]
        simp only [e1]
        go_wp2
        exact ⟨rfl, ⟨n', A', c', rfl, hP⟩, Gr.refl _ _, hI⟩
      · intro vals xw f hf1 hf2 hf3 hI hF
        clear hf2 hf3
        simp only [saysD, List.getD_cons_zero, List.getD_cons_succ, and_true] at hF
        obtain ⟨n', A', c', m', e1, hP⟩ := hF
        dsimp only [owes4, bare]
        simp only [putsD, Act.put, List.setIfInBounds_toArray, List.set_cons_zero, List.set_cons_succ]
        simp only [e1]
        go_wp2
        exact ⟨rfl, trivial, Gr.refl _ _, hI⟩
      · intro vals xw f hf1 hf2 hf3 hI hF
        clear hf2 hf3
        simp only [saysD, List.getD_cons_zero, List.getD_cons_succ, and_true] at hF
        obtain ⟨n', A', c', e1, hs', hl'⟩ := hF
        dsimp only [owes4, bare]
        simp only [putsD, Act.put, List.setIfInBounds_toArray, List.set_cons_zero, List.set_cons_succ]
        simp only [e1]
        obtain ⟨i1, ⟨q', i2, i3, i4⟩, i5, _⟩ := hI
        have hk := i5 hf1
        have v0 := (cell_of_block hk 0).1
        have v1 := (cell_of_block hk 1).1
        have f0 := (cell_of_block hk 0).2
        have f1 := (cell_of_block hk 1).2
        have hh := heap_set_same _ b3 1 (.slice A' n'.gs.length c') _ _ (heap_set_same xw b3 0 (.int .i64 n'.ins) _ _ hk)
        have hg : Gr (fun z => z = b3) xw ((xw.setCell ⟨b3, 0, none⟩ (.int .i64 n'.ins)).setCell ⟨b3, 1, none⟩ (.slice A' n'.gs.length c')) := ((Gr.refl (fun z => z = b3) xw).set _ _ _ (.inl (by rfl))).set _ _ _ (.inl (by rfl))
        have HL := Lib.hid (And.intro hh (And.intro hg (And.intro i1 (And.intro i2 (And.intro hs' hl')))))
        have HK := Lib.hid hk
        clear hk hg hs' hl' e1 hh i1 i2 i5
        go_wp2
        have hgT := HL.out.2.1.mono (T := (fun b => b = r ∨ b = b3)) fun z hz => .inr hz
        exact ⟨rfl, trivial, hgT, HL.out.2.2.1.trans hgT, ⟨q', HL.out.2.2.2.1.far HL.out.2.1 (by omega) ⟨_, _, _, HK.out, by simp⟩, i3, i4⟩, fun h => absurd ((did_same f 11).symm.trans h) (by simp), n', A', c', HL.out.1, HL.out.2.2.2.2.1, HL.out.2.2.2.2.2.gr (HL.out.2.1.mono fun b hb => HSL.out.2 b (.inr hb))⟩
      · intro vals xw f hall hI hF
        rw [show List.range _ = [0, 1, 2, 3, 4, 5, 6, 7, 8, 9, 10, 11] from rfl] at hF
        simp only [says, List.getD_cons_zero, List.getD_cons_succ, and_true] at hF
        obtain ⟨hgx, ⟨q', hq', q'0, q'1⟩, _, n', A', c', hk', hs', hl'⟩ := hI
        simp only [hall 3 (by decide), hall 6 (by decide), if_true] at q'1
        simp only [putsD, Act.put, List.setIfInBounds_toArray, List.set_cons_zero, List.set_cons_succ]
        have HB23 := Lib.hid (hgx.heap (by show ¬ (_ = r ∨ _ = b3); omega) HB2.out)
        have HGW := Lib.hid (HG.out.then hgx (fun b hb => hb.imp id (fun h => by rw [HB2E.out]; omega)))
        have HK' := Lib.hid hk'
        have HSM' := Lib.hid hs'
        clear hF hk' hs' hgx
        go_wp2
        go_roundw
        case rel => exact ⟨j - 1, n', A', c', q', by omega, by go_num, HSM'.out.mono (by omega), HK'.out, HB23.out, hl', hq', by omega, by omega, HGW.out⟩
        case measure => simp [intOf]; omega
    · have hj0 : j = 0 := by omega
      subst hj0
      have v0 := (cell_of_block HB3.out 0).1
      have v1 := (cell_of_block HB3.out 1).1
      have HC := Lib.hid (l6Bent_any S r 3 q m A c wr HR.out HSLR.out (fun b hb => by have := HSL.out.1 b hb; omega) HSr.out (HSM.out.mono (by omega)) (by omega) (by omega) (by omega))
      go_wp2_with fail
      clear v0 v1
      refine HC.out.mono ?_
      rintro e w5 ⟨y, A5, c5, rfl, hs5, hbn, q5, q50, q51, hR5, hg5⟩
      have HB2 := Lib.hid (hg5.heap (by show ¬ _ = r; omega) HB2.out)
      have HGG := Lib.hid (HG.out.trans hg5)
      have HS5 := Lib.hid hs5
      have HBN := Lib.hid hbn
      have HR5 := Lib.hid hR5
      clear hs5 hbn hR5 hg5 HC
      have u0 := (cell_of_block HB2.out 0).1
      have u1 := (cell_of_block HB2.out 1).1
      have f0 := (cell_of_block HB2.out 0).2
      have f1 := (cell_of_block HB2.out 1).2
      have hq1 := heap_set_same _ b2 0 (.int .i64 y.ins) _ _ HB2.out
      have hq2 := heap_set_same _ b2 1 (.slice A5 y.gs.length c5) _ _ hq1
      have HQ2 := Lib.hid hq2
      clear hq1 hq2
      go_wp2
      have k5 := (cell_of_block HQ2.out 0).1
      have k6 := (cell_of_block HQ2.out 1).1
      have kf5 := (cell_of_block HQ2.out 0).2
      have kf6 := (cell_of_block HQ2.out 1).2
      refine bodyPost_ret (v := .agg #[.int .i64 y.ins, .slice A5 y.gs.length c5]) (by simp [results, Tryd.results89, go_sem, k5, k6, kf5, kf6]) rfl ⟨y, A5, c5, rfl, ?_, HBN.out, q5, by omega, by omega, ?_, ?_⟩
      · have hset : Gr S w5 ((w5.setCell ⟨b2, 0, none⟩ (.int .i64 y.ins)).setCell ⟨b2, 1, none⟩ (.slice A5 y.gs.length c5)) := ((Gr.refl _ _).set _ _ _ (.inl ((HS.out b2).2 (.inr (.inl rfl))))).set _ _ _ (.inl ((HS.out b2).2 (.inr (.inl rfl))))
        exact (HS5.out.gr hset).ab_mono fun b _ hb => HS0.out b hb
      · exact (HR5.out.set (by omega)).set (by omega)
      · exact (HGG.out.set _ _ _ (.inr (by rw [HB2E.out]; exact Nat.le_refl _))).set _ _ _ (.inr (by rw [HB2E.out]; exact Nat.le_refl _))
end Go.Proofs.YtjghcaghigebjaaDoor

/-! Draws of a net and the marks of two numbers: l7Two, DrawBitsIf. -/
namespace Go.Proofs.YtjghcaghigebjaaDoor
open Go Go.RowKit

def RetT2 (S0 : Nat → Prop) (r : Nat) (p M : Int) (w : World) (e : Ending) (w' : World) : Prop :=
  ∃ (n : N) (A : Option Addr) (c : Nat) (xs : List Int) (X : Option Addr) (cx : Nat) (ys : List Int) (Y : Option Addr) (cy : Nat), e = .returned (.tuple #[.agg #[.int .i64 n.ins, .slice A n.gs.length c], .slice X xs.length cx, .slice Y ys.length cy]) ∧
    Lay.gate.Sl w' (Ab S0 w') A n.gs ∧ Lay.int.Sl w' (Ab S0 w') X xs ∧ Lay.int.Sl w' (Ab S0 w') Y ys ∧ bentN 4 n ∧ okMks xs ∧ okMks ys ∧ xs.length ≤ cx ∧ ys.length ≤ cy ∧ Drawn r p M w w'
def SayM (S : Nat → Prop) (v : Value) (y : World) : Prop := ∃ (ys : List Int) (Y : Option Addr) (cy : Nat), v = .slice Y ys.length cy ∧ okMks ys ∧ ys.length ≤ cy ∧ Lay.int.Sl y (Ab S y) Y ys
theorem SayM.gr {S T : Nat → Prop} {v : Value} {x y : World} (h : SayM S v x) (hg : Gr T x y) (hT : ∀ b, T b → S b) : SayM S v y := by
  obtain ⟨ys, Y, cy, h1, h2, h3, h4⟩ := h
  exact ⟨ys, Y, cy, h1, h2, h3, h4.gr (hg.mono hT)⟩
/-- What is so while the second number's marks are drawn. -/
def TwoQ (r b2 b5 : Nat) (q0 : Int) (w : World) (o2 o5 : Obj) (drawn done : Bool) (x : World) : Prop :=
  Gr (fun b => b = r ∨ b = b2) w x ∧ (∃ q, Rdr x r q ∧ q0 ≤ q ∧ q ≤ q0 + (if drawn = true then 20 else 0)) ∧ x.heap[b5]? = some o5 ∧ (done = false → x.heap[b2]? = some o2) ∧ (done = true → x.heap[b2]? = some o5)
theorem OwnI.capI {w : World} {base c : Nat} {A : Option Addr} {xs : List Int} (h : OwnI w base (.slice A xs.length c) xs) : xs.length ≤ c := by
  obtain ⟨A', c', e, hl, hs⟩ := h.form
  injection e with e1 e2 e3
  omega
set_option maxRecDepth 100000 in
set_option maxHeartbeats 4000000 in
theorem l7Two_any (S0 : Nat → Prop) (r : Nat) (p : Int) (w : World) (h : Rdr w r p) (hS0 : ∀ b, S0 b → b < w.heap.size) (hSr : S0 r) (p0 : 0 ≤ p) (p1 : p ≤ 500000000) :
    Calls Tryd.prog 56 #[.pointer (some ⟨r, 0, none⟩)] w (RetT2 S0 r p 10000 w) := by
  have hrl := h.lt
  have hal0 : Below w.heap.size w (w.alloc (.cells #[.int .i64 0, .slice none 0 0] 29)) := (Below.refl _ _).alloc (Nat.le_refl _) _
  have HB2 := Lib.hid (show (w.alloc (.cells #[.int .i64 0, .slice none 0 0] 29)).heap[w.heap.size]? = some (.cells #[.int .i64 0, .slice none 0 0] 29 (0, 0)) from heap_alloc_new _ _)
  have HSZ0 := Lib.hid (show (w.alloc (.cells #[.int .i64 0, .slice none 0 0] 29)).heap.size = w.heap.size + 1 by simp)
  have hR0 := h.up hal0
  have hg0 : Gr (IsR r) w (w.alloc (.cells #[.int .i64 0, .slice none 0 0] 29)) := .below hal0
  clear hal0 h
  go_enter Tryd.func56, Tryd.ntmps56
  go_wp2_with fail
  have hsz0 := HSZ0.out
  clear HSZ0
  generalize w.alloc (.cells #[.int .i64 0, .slice none 0 0] 29) = w0 at *
  obtain ⟨T, hT⟩ : ∃ T : Nat → Prop, ∀ b, T b ↔ S0 b ∨ b = w.heap.size := ⟨fun b => S0 b ∨ b = w.heap.size, fun _ => Iff.rfl⟩
  have HT := Lib.hid hT
  have HTL : Hid (∀ b, T b → b < w.heap.size + 1) := Lib.hid fun b hb => by
    rcases (hT b).1 hb with h9 | h9
    · have := hS0 b h9; omega
    · omega
  have HTr : Hid (T r) := Lib.hid ((hT r).2 (.inl hSr))
  clear hT
  refine (l7Net_any T r p w0 hR0 (fun b hb => by have := HTL.out b hb; omega) HTr.out p0 (by omega)).mono ?_
  rintro e w1 ⟨y, A2, c2, rfl, hs2, hbn, q2, q20, q21, hR2, hg2⟩
  have HB2 := Lib.hid (hg2.heap (by show ¬ _ = r; omega) HB2.out)
  have hgg2 := hg0.trans hg2
  have hz2 := hg2.size
  have i5 : w.heap.size < w1.heap.size := by omega
  have HBN := Lib.hid hbn
  have hyb : -1 ≤ y.ins ∧ y.ins ≤ 9 ∧ y.gs.length ≤ 4 := ⟨hbn.1, hbn.2.1, hbn.2.2.1⟩
  obtain ⟨hyb0, hyb1, hyb2⟩ := hyb
  clear hR0 hg2 hbn hg0
  have hal : Below w1.heap.size w1 (w1.alloc (.cells #[.int .i64 y.ins, .slice A2 y.gs.length c2] 29)) := (Below.refl _ _).alloc (Nat.le_refl _) _
  have HB5 := Lib.hid (show (w1.alloc (.cells #[.int .i64 y.ins, .slice A2 y.gs.length c2] 29)).heap[w1.heap.size]? = some (.cells #[.int .i64 y.ins, .slice A2 y.gs.length c2] 29 (0, 0)) from heap_alloc_new _ _)
  have HB2 := Lib.hid ((hal.block _ (lt_of_block HB2.out)).trans HB2.out)
  have hR3 := hR2.up hal
  have hgg3 := hgg2.up hal
  have HS := Lib.hid (hs2.gr (.below hal))
  have HSZ3 := Lib.hid (show (w1.alloc (.cells #[.int .i64 y.ins, .slice A2 y.gs.length c2] 29)).heap.size = w1.heap.size + 1 by simp)
  clear hal hR2 hgg2 hs2 hsz0
  go_wp2_with fail
  have hz3 := HSZ3.out
  clear HSZ3
  generalize w1.alloc (.cells #[.int .i64 y.ins, .slice A2 y.gs.length c2] 29) = w3 at *
  have hb2l := lt_of_block HB2.out
  generalize hb5e : w1.heap.size = b5 at *
  generalize hb2e : w.heap.size = b2 at *
  have HB2E := Lib.hid hb2e
  clear hb5e hb2e hz2
  refine (pick_any r q2 4 w3 hR3 (by omega) (by omega) (by omega) (by omega)).mono ?_
  rintro e w4 ⟨k, rfl, k0, k1, _, hR4, hg4⟩
  have k1 := k1 (by omega)
  have hg4 := Gr.one (S := IsR r) hg4 rfl
  have HB2 := Lib.hid (hg4.heap (by show ¬ _ = r; omega) HB2.out)
  have HB5 := Lib.hid (hg4.heap (by show ¬ _ = r; omega) HB5.out)
  have HS := Lib.hid (HS.out.gr (hg4.mono fun b hb => by rw [show b = r from hb]; exact HTr.out))
  have hgg4 := hgg3.trans hg4
  have hz4 := hg4.size
  obtain ⟨m, hm⟩ := Int.eq_ofNat_of_zero_le (show (0 : Int) ≤ 1 + k by omega)
  have hm1 : 1 ≤ m ∧ m ≤ 4 := by omega
  obtain ⟨m1, m4⟩ := hm1
  have HM := Lib.hid hm
  clear hR3 hgg3 hg4
  have v0 := (cell_of_block HB5.out 0).1
  have v1 := (cell_of_block HB5.out 1).1
  go_wp2_with fail
  clear v0 v1
  clear hm
  refine (l7Marks_any r (q2 + 1) y A2 c2 m w4 hR4 (by omega) (by omega) (by omega) (by omega) (by omega) m1 m4).mono ?_
  rintro e w5 ⟨A5, c5, xs, rfl, ho5, hok5, q5, q50, q51, hR5, hg5⟩
  have HB2 := Lib.hid (hg5.heap (by show ¬ _ = r; omega) HB2.out)
  have HB5 := Lib.hid (hg5.heap (by show ¬ _ = r; omega) HB5.out)
  have HS := Lib.hid (HS.out.gr (hg5.mono fun b hb => by rw [hb]; exact HTr.out))
  have hgg5 := hgg4.trans hg5
  have hz5 := hg5.size
  have HOK := Lib.hid hok5
  have HCX := Lib.hid ho5.capI
  have HXS := Lib.hid (ho5.ab (S := T) (fun b hb => by have := HTL.out b hb; omega))
  clear hR4 hgg4 hg5 hok5 ho5
  go_wp2_with fail
  refine (pick_any r q5 16 w5 hR5 (by omega) (by omega) (by omega) (by omega)).mono ?_
  rintro e w6 ⟨k6, rfl, k60, _, _, hR6, hg6⟩
  have hg6 := Gr.one (S := IsR r) hg6 rfl
  have HB2 := Lib.hid (hg6.heap (by show ¬ _ = r; omega) HB2.out)
  have HB5 := Lib.hid (hg6.heap (by show ¬ _ = r; omega) HB5.out)
  have HS := Lib.hid (HS.out.gr (hg6.mono fun b hb => by rw [show b = r from hb]; exact HTr.out))
  have HXS := Lib.hid (HXS.out.gr (hg6.mono fun b hb => by rw [show b = r from hb]; exact HTr.out))
  have hgg6 := hgg5.trans hg6
  have hz6 := hg6.size
  clear hR5 hgg5 hg6
  by_cases hk6 : k6 = 0
  · have hkb : (k6 == 0) = true := by simpa using hk6
    clear hk6
    go_wp2_with fail
    refine (pick_any r (q5 + 1) 4 w6 hR6 (by omega) (by omega) (by omega) (by omega)).mono ?_
    rintro e w7 ⟨k7, rfl, k70, k71, _, hR7, hg7⟩
    have k71 := k71 (by omega)
    have hg7 := Gr.one (S := IsR r) hg7 rfl
    have HB2 := Lib.hid (hg7.heap (by show ¬ _ = r; omega) HB2.out)
    have HB5 := Lib.hid (hg7.heap (by show ¬ _ = r; omega) HB5.out)
    have HS := Lib.hid (HS.out.gr (hg7.mono fun b hb => by rw [show b = r from hb]; exact HTr.out))
    have HXS := Lib.hid (HXS.out.gr (hg7.mono fun b hb => by rw [show b = r from hb]; exact HTr.out))
    have hgg7 := hgg6.trans hg7
    have hz7 := hg7.size
    obtain ⟨m7, hm7⟩ := Int.eq_ofNat_of_zero_le (show (0 : Int) ≤ 1 + k7 by omega)
    have hm71 : 1 ≤ m7 ∧ m7 ≤ 4 := by omega
    obtain ⟨m71, m74⟩ := hm71
    have HR7 := Lib.hid hR7
    have HGG7 := Lib.hid hgg7
    clear hR6 hgg6 hg7 hR7 hgg7
    go_wp2
    clear hm7
    refine wp_region_rel4 [[], [], [], [], [], [(2, 25), (3, 26), (4, 27)], [(0, 23)], [(1, 24)], [(5, 28)]]
      (Gr (fun b => b = r ∨ b = b2))
      []
      (fun f9 x9 => TwoQ r b2 b5 (q5 + 1 + 1) w7 (.cells #[.int .i64 0, .slice none 0 0] 29 (0, 0)) (.cells #[.int .i64 y.ins, .slice A2 y.gs.length c2] 29 (0, 0)) (f9 5) (f9 6) x9)
      [fun vs9 _ => vs9 0 = (.agg #[.int .i64 y.ins, .slice A2 y.gs.length c2]),
    fun vs9 _ => vs9 1 = (.slice A5 xs.length c5),
    fun vs9 _ => vs9 2 = (.pointer (some ⟨r, 0, none⟩)),
    fun vs9 _ => vs9 3 = (.agg #[.int .i64 y.ins, .slice A2 y.gs.length c2]),
    fun vs9 _ => vs9 4 = (.int .i64 (m7 : Int)),
    fun vs9 y9 => (fun v yy => SayM T v yy) (vs9 5) y9,
    fun _ _ => True,
    fun vs9 _ => vs9 7 = (.slice A5 xs.length c5),
    fun vs9 _ => vs9 8 = vs9 5]
      [(0, 23), (1, 24), (2, 25), (3, 26), (4, 27), (5, 28), (7, 3), (8, 4)] (by kernel_rfl) (by kernel_rfl) (by kernel_rfl) (by kernel_rfl)
      (fun _ => Gr.refl _ _) trivial
      ⟨⟨.inr (fun _ _ _ h _ => h), trivial⟩,
    ⟨.inr (fun _ _ _ h _ => h), trivial⟩,
    ⟨.inr (fun _ _ _ h _ => h), trivial⟩,
    ⟨.inr (fun _ _ _ h _ => h), trivial⟩,
    ⟨.inr (fun _ _ _ h _ => h), trivial⟩,
    ⟨.inr (fun vs9 x9 y9 h9 hR9 => (show ∀ v9 y8 y7, (fun v yy => SayM T v yy) v9 y8 → (Gr (fun b => b = r ∨ b = b2)) y8 y7 → (fun v yy => SayM T v yy) v9 y7 from fun _ _ _ h hR => h.gr hR (fun b hb => hb.elim (fun h => by rw [h]; exact HTr.out) (fun h => by rw [h]; exact (HT.out _).2 (.inr rfl)))) (vs9 5) x9 y9 h9 hR9), trivial⟩,
    ⟨.inr (fun _ _ _ h _ => h), trivial⟩,
    ⟨.inr (fun _ _ _ h _ => h), trivial⟩,
    ⟨.inr (fun _ _ _ h _ => h), trivial⟩, trivial⟩ ⟨fun vs vs' x h _ hv => (by dsimp only at hv ⊢; first | (rw [← h]; exact hv) | exact hv),
    fun vs vs' x h _ hv => (by dsimp only at hv ⊢; first | (rw [← h]; exact hv) | exact hv),
    fun vs vs' x h _ hv => (by dsimp only at hv ⊢; first | (rw [← h]; exact hv) | exact hv),
    fun vs vs' x h _ hv => (by dsimp only at hv ⊢; first | (rw [← h]; exact hv) | exact hv),
    fun vs vs' x h _ hv => (by dsimp only at hv ⊢; first | (rw [← h]; exact hv) | exact hv),
    fun vs vs' x h _ hv => (by dsimp only at hv ⊢; first | (rw [← h]; exact hv) | exact hv),
    fun _ _ _ _ _ _ => trivial,
    fun vs vs' x h _ hv => (by dsimp only at hv ⊢; first | (rw [← h]; exact hv) | exact hv),
    fun vs vs' x h hd hv => (by have h2 := hd 5 (by decide); show vs' 8 = vs' 5; exact h.symm.trans (Eq.trans hv h2)), trivial⟩ (⟨.below (below_drewN (Below.refl _ _) 1), ⟨q5 + 1 + 1, HR7.out.up (below_drewN (Below.refl _ _) 1), by omega, by simp⟩, ((below_drewN (Below.refl _ _) 1 : Below w7.heap.size w7 _).block _ (lt_of_block HB5.out)).trans HB5.out, (fun _ => ((below_drewN (Below.refl _ _) 1 : Below w7.heap.size w7 _).block _ (lt_of_block HB2.out)).trans HB2.out), fun h => by cases h⟩) ⟨?_, ?_, ?_, ?_, ?_, ?_, ?_, ?_, ?_, trivial⟩ ?_
    · intro vals xw f hf1 hf2 hf3 hI hF
      clear hf2 hf3
      dsimp only [owes4, bare]
      simp only [putsD, Act.put, List.setIfInBounds_toArray, List.set_cons_zero, List.set_cons_succ]
      have hk9 := hI.2.2.1
      have c0 := (cell_of_block hk9 0).1
      have c1 := (cell_of_block hk9 1).1
      clear hk9
      go_wp2
      exact ⟨rfl, rfl, Gr.refl _ _, hI⟩
    · intro vals xw f hf1 hf2 hf3 hI hF
      clear hf2 hf3
      dsimp only [owes4, bare]
      simp only [putsD, Act.put, List.setIfInBounds_toArray, List.set_cons_zero, List.set_cons_succ]
      go_wp2
      exact ⟨rfl, rfl, Gr.refl _ _, hI⟩
    · intro vals xw f hf1 hf2 hf3 hI hF
      clear hf2 hf3
      dsimp only [owes4, bare]
      simp only [putsD, Act.put, List.setIfInBounds_toArray, List.set_cons_zero, List.set_cons_succ]
      go_wp2
      exact ⟨rfl, rfl, Gr.refl _ _, hI⟩
    · intro vals xw f hf1 hf2 hf3 hI hF
      clear hf2 hf3
      dsimp only [owes4, bare]
      simp only [putsD, Act.put, List.setIfInBounds_toArray, List.set_cons_zero, List.set_cons_succ]
      have hk9 := hI.2.2.1
      have c0 := (cell_of_block hk9 0).1
      have c1 := (cell_of_block hk9 1).1
      clear hk9
      go_wp2
      exact ⟨rfl, rfl, Gr.refl _ _, hI⟩
    · intro vals xw f hf1 hf2 hf3 hI hF
      clear hf2 hf3
      dsimp only [owes4, bare]
      simp only [putsD, Act.put, List.setIfInBounds_toArray, List.set_cons_zero, List.set_cons_succ]
      go_wp2
      exact ⟨rfl, rfl, Gr.refl _ _, hI⟩
    · intro vals xw f hf1 hf2 hf3 hI hF
      clear hf2 hf3
      simp only [saysD, List.getD_cons_zero, List.getD_cons_succ, and_true] at hF
      obtain ⟨e1, e2, e3⟩ := hF
      dsimp only [owes4, bare]
      simp only [putsD, Act.put, List.setIfInBounds_toArray, List.set_cons_zero, List.set_cons_succ]
      simp only [e1, e2, e3]
      obtain ⟨i1, ⟨q', hq, q'0, q'1⟩, i3, i4, i5⟩ := hI
      rw [hf1, if_neg (by simp)] at q'1
      have hsz9 := i1.size
      have I1 := Lib.hid i1
      have I3 := Lib.hid i3
      have I4 := Lib.hid i4
      have I5 := Lib.hid i5
      clear i1 i3 i4 i5
      go_wp2_with fail
      refine (l7Marks_any r q' y A2 c2 m7 xw hq (by omega) (by omega) (by omega) (by omega) (by omega) (by omega) (by omega)).mono ?_
      rintro e wx ⟨B9, d9, ys, rfl, ho9, hk9, q9, q90, q91, hR9, hg9⟩
      have HG9 := Lib.hid (hg9.mono (T := fun b => b = r ∨ b = b2) fun b hb => .inl hb)
      have HSM := Lib.hid (show SayM T (.slice B9 ys.length d9) wx from ⟨ys, B9, d9, rfl, hk9, ho9.capI, ho9.ab (fun b hb => by have := HTL.out b hb; omega)⟩)
      have HQ9 := Lib.hid (show TwoQ r b2 b5 (q5 + 1 + 1) w7 (.cells #[.int .i64 0, .slice none 0 0] 29 (0, 0)) (.cells #[.int .i64 y.ins, .slice A2 y.gs.length c2] 29 (0, 0)) true (f 6) wx from ⟨I1.out.trans HG9.out, ⟨q9, hR9, by omega, by simp; omega⟩, hg9.heap (by show ¬ _ = r; omega) I3.out, fun h => hg9.heap (by show ¬ _ = r; omega) (I4.out h), fun h => hg9.heap (by show ¬ _ = r; omega) (I5.out h)⟩)
      clear ho9 hk9 hR9 hg9
      go_wp2
      exact ⟨rfl, HSM.out, HG9.out, HQ9.out⟩
    · intro vals xw f hf1 hf2 hf3 hI hF
      clear hf2 hf3
      simp only [saysD, List.getD_cons_zero, List.getD_cons_succ, and_true] at hF
      have e23 := hF
      dsimp only [owes4, bare]
      simp only [putsD, Act.put, List.setIfInBounds_toArray, List.set_cons_zero, List.set_cons_succ]
      simp only [e23]
      obtain ⟨i1, ⟨q', i2, q'0, q'1⟩, i3, i4, i5⟩ := hI
      have j4 := i4 hf1
      have v0 := (cell_of_block j4 0).1
      have v1 := (cell_of_block j4 1).1
      have f0 := (cell_of_block j4 0).2
      have f1 := (cell_of_block j4 1).2
      have hh := heap_set_same _ b2 1 (.slice A2 y.gs.length c2) _ _ (heap_set_same xw b2 0 (.int .i64 y.ins) _ _ j4)
      have hg : Gr (fun z => z = b2) xw ((xw.setCell ⟨b2, 0, none⟩ (.int .i64 y.ins)).setCell ⟨b2, 1, none⟩ (.slice A2 y.gs.length c2)) := ((Gr.refl (fun z => z = b2) xw).set _ _ _ (.inl (by rfl))).set _ _ _ (.inl (by rfl))
      have HH := Lib.hid hh
      have HG9 := Lib.hid hg
      have J4 := Lib.hid j4
      have I1 := Lib.hid i1
      have I2 := Lib.hid i2
      have I3 := Lib.hid i3
      clear i1 i2 i3 i4 i5 j4 hh hg
      go_wp2
      have hgT := HG9.out.mono (T := fun b => b = r ∨ b = b2) fun z hz => .inr hz
      exact ⟨rfl, trivial, hgT, I1.out.trans hgT, ⟨q', I2.out.far HG9.out (by omega) ⟨_, _, _, J4.out, by simp⟩, q'0, q'1⟩, HG9.out.heap (by show ¬ _ = b2; omega) I3.out, fun h => absurd ((did_same f 6).symm.trans h) (by simp), fun _ => HH.out⟩
    · intro vals xw f hf1 hf2 hf3 hI hF
      clear hf2 hf3
      simp only [saysD, List.getD_cons_zero, List.getD_cons_succ, and_true] at hF
      have e24 := hF
      dsimp only [owes4, bare]
      simp only [putsD, Act.put, List.setIfInBounds_toArray, List.set_cons_zero, List.set_cons_succ]
      simp only [e24]
      go_wp2
      exact ⟨rfl, rfl, Gr.refl _ _, hI⟩
    · intro vals xw f hf1 hf2 hf3 hI hF
      clear hf2 hf3
      simp only [saysD, List.getD_cons_zero, List.getD_cons_succ, and_true] at hF
      obtain ⟨ys, B8, d8, e28, _⟩ := hF
      dsimp only [owes4, bare]
      simp only [putsD, Act.put, List.setIfInBounds_toArray, List.set_cons_zero, List.set_cons_succ]
      simp only [e28]
      go_wp2
      exact ⟨rfl, e28.symm, Gr.refl _ _, hI⟩
    · intro vals xw f hall hI hF
      rw [show List.range _ = [0, 1, 2, 3, 4, 5, 6, 7, 8] from rfl] at hF
      simp only [says, List.getD_cons_zero, List.getD_cons_succ, and_true] at hF
      obtain ⟨i1, ⟨q', i2, q'0, q'1⟩, _, _, i5⟩ := hI
      rw [hall 5 (by decide), if_pos rfl] at q'1
      have j5 := i5 (hall 6 (by decide))
      obtain ⟨_, _, _, _, _, ⟨ys, Y, cy, e28, hk9, hcy, hs9⟩, _, e3, e4⟩ := hF
      rw [e28] at e4
      have k5 := (cell_of_block j5 0).1
      have k6 := (cell_of_block j5 1).1
      have kf5 := (cell_of_block j5 0).2
      have kf6 := (cell_of_block j5 1).2
      have I1 := Lib.hid i1
      have I2 := Lib.hid i2
      have HK9 := Lib.hid hk9
      have HCY := Lib.hid hcy
      have HS9 := Lib.hid hs9
      clear i1 i2 i5 j5 hk9 hs9 hcy e28
      simp only [putsD, Act.put, List.setIfInBounds_toArray, List.set_cons_zero, List.set_cons_succ]
      simp only [e3, e4]
      clear e3 e4
      go_wp2
      refine bodyPost_ret (v := .tuple #[.agg #[.int .i64 y.ins, .slice A2 y.gs.length c2], .slice A5 xs.length c5, .slice Y ys.length cy]) (by simp [results, Tryd.results56, go_sem, k5, k6, kf5, kf6]) rfl ?_
      have hgx : Gr T w7 xw := I1.out.mono (fun b hb => hb.elim (fun h => by rw [h]; exact HTr.out) (fun h => by rw [h]; exact (HT.out _).2 (.inr rfl)))
      exact ⟨y, A2, c2, xs, A5, c5, ys, Y, cy, rfl, (HS.out.gr hgx).ab_mono fun b _ hb => (HT.out b).2 (.inl hb), (HXS.out.gr hgx).ab_mono fun b _ hb => (HT.out b).2 (.inl hb), HS9.out.ab_mono fun b _ hb => (HT.out b).2 (.inl hb), HBN.out, HOK.out, HK9.out, HCX.out, HCY.out, q', by omega, by omega, I2.out, HGG7.out.then I1.out (fun b hb => hb.imp id (fun h => by rw [HB2E.out]; omega))⟩
  · have hkb : (k6 == 0) = false := by simpa using hk6
    clear hk6
    have HR6 := Lib.hid hR6
    have HGG6 := Lib.hid hgg6
    clear hR6 hgg6
    go_wp2
    refine wp_region_rel4 [[], [], [], [], [], [(2, 25), (3, 26), (4, 27)], [(0, 23)], [(1, 24)], [(5, 28)]]
      (Gr (fun b => b = r ∨ b = b2))
      []
      (fun f9 x9 => TwoQ r b2 b5 (q5 + 1) w6 (.cells #[.int .i64 0, .slice none 0 0] 29 (0, 0)) (.cells #[.int .i64 y.ins, .slice A2 y.gs.length c2] 29 (0, 0)) (f9 5) (f9 6) x9)
      [fun vs9 _ => vs9 0 = (.agg #[.int .i64 y.ins, .slice A2 y.gs.length c2]),
    fun vs9 _ => vs9 1 = (.slice A5 xs.length c5),
    fun vs9 _ => vs9 2 = (.pointer (some ⟨r, 0, none⟩)),
    fun vs9 _ => vs9 3 = (.agg #[.int .i64 y.ins, .slice A2 y.gs.length c2]),
    fun vs9 _ => vs9 4 = (.int .i64 (m : Int)),
    fun vs9 y9 => (fun v yy => SayM T v yy) (vs9 5) y9,
    fun _ _ => True,
    fun vs9 _ => vs9 7 = (.slice A5 xs.length c5),
    fun vs9 _ => vs9 8 = vs9 5]
      [(0, 23), (1, 24), (2, 25), (3, 26), (4, 27), (5, 28), (7, 3), (8, 4)] (by kernel_rfl) (by kernel_rfl) (by kernel_rfl) (by kernel_rfl)
      (fun _ => Gr.refl _ _) trivial
      ⟨⟨.inr (fun _ _ _ h _ => h), trivial⟩,
    ⟨.inr (fun _ _ _ h _ => h), trivial⟩,
    ⟨.inr (fun _ _ _ h _ => h), trivial⟩,
    ⟨.inr (fun _ _ _ h _ => h), trivial⟩,
    ⟨.inr (fun _ _ _ h _ => h), trivial⟩,
    ⟨.inr (fun vs9 x9 y9 h9 hR9 => (show ∀ v9 y8 y7, (fun v yy => SayM T v yy) v9 y8 → (Gr (fun b => b = r ∨ b = b2)) y8 y7 → (fun v yy => SayM T v yy) v9 y7 from fun _ _ _ h hR => h.gr hR (fun b hb => hb.elim (fun h => by rw [h]; exact HTr.out) (fun h => by rw [h]; exact (HT.out _).2 (.inr rfl)))) (vs9 5) x9 y9 h9 hR9), trivial⟩,
    ⟨.inr (fun _ _ _ h _ => h), trivial⟩,
    ⟨.inr (fun _ _ _ h _ => h), trivial⟩,
    ⟨.inr (fun _ _ _ h _ => h), trivial⟩, trivial⟩ ⟨fun vs vs' x h _ hv => (by dsimp only at hv ⊢; first | (rw [← h]; exact hv) | exact hv),
    fun vs vs' x h _ hv => (by dsimp only at hv ⊢; first | (rw [← h]; exact hv) | exact hv),
    fun vs vs' x h _ hv => (by dsimp only at hv ⊢; first | (rw [← h]; exact hv) | exact hv),
    fun vs vs' x h _ hv => (by dsimp only at hv ⊢; first | (rw [← h]; exact hv) | exact hv),
    fun vs vs' x h _ hv => (by dsimp only at hv ⊢; first | (rw [← h]; exact hv) | exact hv),
    fun vs vs' x h _ hv => (by dsimp only at hv ⊢; first | (rw [← h]; exact hv) | exact hv),
    fun _ _ _ _ _ _ => trivial,
    fun vs vs' x h _ hv => (by dsimp only at hv ⊢; first | (rw [← h]; exact hv) | exact hv),
    fun vs vs' x h hd hv => (by have h2 := hd 5 (by decide); show vs' 8 = vs' 5; exact h.symm.trans (Eq.trans hv h2)), trivial⟩ (⟨.below (below_drewN (Below.refl _ _) 1), ⟨q5 + 1, HR6.out.up (below_drewN (Below.refl _ _) 1), by omega, by simp⟩, ((below_drewN (Below.refl _ _) 1 : Below w6.heap.size w6 _).block _ (lt_of_block HB5.out)).trans HB5.out, (fun _ => ((below_drewN (Below.refl _ _) 1 : Below w6.heap.size w6 _).block _ (lt_of_block HB2.out)).trans HB2.out), fun h => by cases h⟩) ⟨?_, ?_, ?_, ?_, ?_, ?_, ?_, ?_, ?_, trivial⟩ ?_
    · intro vals xw f hf1 hf2 hf3 hI hF
      clear hf2 hf3
      dsimp only [owes4, bare]
      simp only [putsD, Act.put, List.setIfInBounds_toArray, List.set_cons_zero, List.set_cons_succ]
      have hk9 := hI.2.2.1
      have c0 := (cell_of_block hk9 0).1
      have c1 := (cell_of_block hk9 1).1
      clear hk9
      go_wp2
      exact ⟨rfl, rfl, Gr.refl _ _, hI⟩
    · intro vals xw f hf1 hf2 hf3 hI hF
      clear hf2 hf3
      dsimp only [owes4, bare]
      simp only [putsD, Act.put, List.setIfInBounds_toArray, List.set_cons_zero, List.set_cons_succ]
      go_wp2
      exact ⟨rfl, rfl, Gr.refl _ _, hI⟩
    · intro vals xw f hf1 hf2 hf3 hI hF
      clear hf2 hf3
      dsimp only [owes4, bare]
      simp only [putsD, Act.put, List.setIfInBounds_toArray, List.set_cons_zero, List.set_cons_succ]
      go_wp2
      exact ⟨rfl, rfl, Gr.refl _ _, hI⟩
    · intro vals xw f hf1 hf2 hf3 hI hF
      clear hf2 hf3
      dsimp only [owes4, bare]
      simp only [putsD, Act.put, List.setIfInBounds_toArray, List.set_cons_zero, List.set_cons_succ]
      have hk9 := hI.2.2.1
      have c0 := (cell_of_block hk9 0).1
      have c1 := (cell_of_block hk9 1).1
      clear hk9
      go_wp2
      exact ⟨rfl, rfl, Gr.refl _ _, hI⟩
    · intro vals xw f hf1 hf2 hf3 hI hF
      clear hf2 hf3
      dsimp only [owes4, bare]
      simp only [putsD, Act.put, List.setIfInBounds_toArray, List.set_cons_zero, List.set_cons_succ]
      go_wp2
      exact ⟨rfl, rfl, Gr.refl _ _, hI⟩
    · intro vals xw f hf1 hf2 hf3 hI hF
      clear hf2 hf3
      simp only [saysD, List.getD_cons_zero, List.getD_cons_succ, and_true] at hF
      obtain ⟨e1, e2, e3⟩ := hF
      dsimp only [owes4, bare]
      simp only [putsD, Act.put, List.setIfInBounds_toArray, List.set_cons_zero, List.set_cons_succ]
      simp only [e1, e2, e3]
      obtain ⟨i1, ⟨q', hq, q'0, q'1⟩, i3, i4, i5⟩ := hI
      rw [hf1, if_neg (by simp)] at q'1
      have hsz9 := i1.size
      have I1 := Lib.hid i1
      have I3 := Lib.hid i3
      have I4 := Lib.hid i4
      have I5 := Lib.hid i5
      clear i1 i3 i4 i5
      go_wp2_with fail
      refine (l7Marks_any r q' y A2 c2 m xw hq (by omega) (by omega) (by omega) (by omega) (by omega) (by omega) (by omega)).mono ?_
      rintro e wx ⟨B9, d9, ys, rfl, ho9, hk9, q9, q90, q91, hR9, hg9⟩
      have HG9 := Lib.hid (hg9.mono (T := fun b => b = r ∨ b = b2) fun b hb => .inl hb)
      have HSM := Lib.hid (show SayM T (.slice B9 ys.length d9) wx from ⟨ys, B9, d9, rfl, hk9, ho9.capI, ho9.ab (fun b hb => by have := HTL.out b hb; omega)⟩)
      have HQ9 := Lib.hid (show TwoQ r b2 b5 (q5 + 1) w6 (.cells #[.int .i64 0, .slice none 0 0] 29 (0, 0)) (.cells #[.int .i64 y.ins, .slice A2 y.gs.length c2] 29 (0, 0)) true (f 6) wx from ⟨I1.out.trans HG9.out, ⟨q9, hR9, by omega, by simp; omega⟩, hg9.heap (by show ¬ _ = r; omega) I3.out, fun h => hg9.heap (by show ¬ _ = r; omega) (I4.out h), fun h => hg9.heap (by show ¬ _ = r; omega) (I5.out h)⟩)
      clear ho9 hk9 hR9 hg9
      go_wp2
      exact ⟨rfl, HSM.out, HG9.out, HQ9.out⟩
    · intro vals xw f hf1 hf2 hf3 hI hF
      clear hf2 hf3
      simp only [saysD, List.getD_cons_zero, List.getD_cons_succ, and_true] at hF
      have e23 := hF
      dsimp only [owes4, bare]
      simp only [putsD, Act.put, List.setIfInBounds_toArray, List.set_cons_zero, List.set_cons_succ]
      simp only [e23]
      obtain ⟨i1, ⟨q', i2, q'0, q'1⟩, i3, i4, i5⟩ := hI
      have j4 := i4 hf1
      have v0 := (cell_of_block j4 0).1
      have v1 := (cell_of_block j4 1).1
      have f0 := (cell_of_block j4 0).2
      have f1 := (cell_of_block j4 1).2
      have hh := heap_set_same _ b2 1 (.slice A2 y.gs.length c2) _ _ (heap_set_same xw b2 0 (.int .i64 y.ins) _ _ j4)
      have hg : Gr (fun z => z = b2) xw ((xw.setCell ⟨b2, 0, none⟩ (.int .i64 y.ins)).setCell ⟨b2, 1, none⟩ (.slice A2 y.gs.length c2)) := ((Gr.refl (fun z => z = b2) xw).set _ _ _ (.inl (by rfl))).set _ _ _ (.inl (by rfl))
      have HH := Lib.hid hh
      have HG9 := Lib.hid hg
      have J4 := Lib.hid j4
      have I1 := Lib.hid i1
      have I2 := Lib.hid i2
      have I3 := Lib.hid i3
      clear i1 i2 i3 i4 i5 j4 hh hg
      go_wp2
      have hgT := HG9.out.mono (T := fun b => b = r ∨ b = b2) fun z hz => .inr hz
      exact ⟨rfl, trivial, hgT, I1.out.trans hgT, ⟨q', I2.out.far HG9.out (by omega) ⟨_, _, _, J4.out, by simp⟩, q'0, q'1⟩, HG9.out.heap (by show ¬ _ = b2; omega) I3.out, fun h => absurd ((did_same f 6).symm.trans h) (by simp), fun _ => HH.out⟩
    · intro vals xw f hf1 hf2 hf3 hI hF
      clear hf2 hf3
      simp only [saysD, List.getD_cons_zero, List.getD_cons_succ, and_true] at hF
      have e24 := hF
      dsimp only [owes4, bare]
      simp only [putsD, Act.put, List.setIfInBounds_toArray, List.set_cons_zero, List.set_cons_succ]
      simp only [e24]
      go_wp2
      exact ⟨rfl, rfl, Gr.refl _ _, hI⟩
    · intro vals xw f hf1 hf2 hf3 hI hF
      clear hf2 hf3
      simp only [saysD, List.getD_cons_zero, List.getD_cons_succ, and_true] at hF
      obtain ⟨ys, B8, d8, e28, _⟩ := hF
      dsimp only [owes4, bare]
      simp only [putsD, Act.put, List.setIfInBounds_toArray, List.set_cons_zero, List.set_cons_succ]
      simp only [e28]
      go_wp2
      exact ⟨rfl, e28.symm, Gr.refl _ _, hI⟩
    · intro vals xw f hall hI hF
      rw [show List.range _ = [0, 1, 2, 3, 4, 5, 6, 7, 8] from rfl] at hF
      simp only [says, List.getD_cons_zero, List.getD_cons_succ, and_true] at hF
      obtain ⟨i1, ⟨q', i2, q'0, q'1⟩, _, _, i5⟩ := hI
      rw [hall 5 (by decide), if_pos rfl] at q'1
      have j5 := i5 (hall 6 (by decide))
      obtain ⟨_, _, _, _, _, ⟨ys, Y, cy, e28, hk9, hcy, hs9⟩, _, e3, e4⟩ := hF
      rw [e28] at e4
      have k5 := (cell_of_block j5 0).1
      have k6 := (cell_of_block j5 1).1
      have kf5 := (cell_of_block j5 0).2
      have kf6 := (cell_of_block j5 1).2
      have I1 := Lib.hid i1
      have I2 := Lib.hid i2
      have HK9 := Lib.hid hk9
      have HCY := Lib.hid hcy
      have HS9 := Lib.hid hs9
      clear i1 i2 i5 j5 hk9 hs9 hcy e28
      simp only [putsD, Act.put, List.setIfInBounds_toArray, List.set_cons_zero, List.set_cons_succ]
      simp only [e3, e4]
      clear e3 e4
      go_wp2
      refine bodyPost_ret (v := .tuple #[.agg #[.int .i64 y.ins, .slice A2 y.gs.length c2], .slice A5 xs.length c5, .slice Y ys.length cy]) (by simp [results, Tryd.results56, go_sem, k5, k6, kf5, kf6]) rfl ?_
      have hgx : Gr T w6 xw := I1.out.mono (fun b hb => hb.elim (fun h => by rw [h]; exact HTr.out) (fun h => by rw [h]; exact (HT.out _).2 (.inr rfl)))
      exact ⟨y, A2, c2, xs, A5, c5, ys, Y, cy, rfl, (HS.out.gr hgx).ab_mono fun b _ hb => (HT.out b).2 (.inl hb), (HXS.out.gr hgx).ab_mono fun b _ hb => (HT.out b).2 (.inl hb), HS9.out.ab_mono fun b _ hb => (HT.out b).2 (.inl hb), HBN.out, HOK.out, HK9.out, HCX.out, HCY.out, q', by omega, by omega, I2.out, HGG6.out.then I1.out (fun b hb => hb.imp id (fun h => by rw [HB2E.out]; omega))⟩
end Go.Proofs.YtjghcaghigebjaaDoor

/-! Draws for the laws on bits: DrawBitsIf, DrawBitsCmp. -/
namespace Go.Proofs.YtjghcaghigebjaaDoor
open Go Go.RowKit

end Go.Proofs.YtjghcaghigebjaaDoor

/-! Draws for the laws on bits: DrawBitsCmp. -/
namespace Go.Proofs.YtjghcaghigebjaaDoor
open Go Go.RowKit

def litCmp : List Int := [15, 16, 17, 15, 16, 17, 14, 18]
def SayL (S : Nat → Prop) (v : Value) (y : World) : Prop := ∃ b : Nat, v = .slice (some ⟨b, 0, none⟩) 8 8 ∧ Lay.int.Sl y (Ab S y) (some ⟨b, 0, none⟩) litCmp
theorem SayL.gr {S T : Nat → Prop} {v : Value} {x y : World} (h : SayL S v x) (hg : Gr T x y) (hT : ∀ b, T b → S b) : SayL S v y := by
  obtain ⟨b, h1, h2⟩ := h
  exact ⟨b, h1, h2.gr (hg.mono hT)⟩
end Go.Proofs.YtjghcaghigebjaaDoor

/-! Draws for the laws on bits: DrawBitsUn. -/
namespace Go.Proofs.YtjghcaghigebjaaDoor
open Go Go.RowKit

def litUn : List Int := [1, 2, 2, 1, 2, 3, 0]
def SayU (S : Nat → Prop) (v : Value) (y : World) : Prop := ∃ b : Nat, v = .slice (some ⟨b, 0, none⟩) 7 7 ∧ Lay.int.Sl y (Ab S y) (some ⟨b, 0, none⟩) litUn
theorem SayU.gr {S T : Nat → Prop} {v : Value} {x y : World} (h : SayU S v x) (hg : Gr T x y) (hT : ∀ b, T b → S b) : SayU S v y := by
  obtain ⟨b, h1, h2⟩ := h
  exact ⟨b, h1, h2.gr (hg.mono hT)⟩
def SayV (v : Value) : Prop := ∃ z : Int, v = .int .i64 z ∧ 0 ≤ z ∧ z ≤ 3
def DrawB3 (w : World) (e : Ending) (w' : World) : Prop :=
  ∃ (n : N) (A : Option Addr) (c : Nat) (m : Int) (xs : List Int) (X : Option Addr) (cx : Nat), e = .returned (.tuple #[.agg #[.int .i64 n.ins, .slice A n.gs.length c], .int .i64 m, .slice X xs.length cx]) ∧
    Lay.gate.Rd w' A n.gs ∧ Lay.int.Rd w' X xs ∧ bentN 4 n ∧ okInt m ∧ okMks xs ∧ xs.length ≤ cx ∧ Below w.heap.size w w'

set_option maxRecDepth 100000 in
set_option maxHeartbeats 2000000 in
theorem drawBitsUn_any (A : Option Addr) (c : Nat) (bs : List UInt8) (w : World) (h : Lay.byte.Rd w A bs) (hc : bs.length ≤ c) (hn : bs.length ≤ 9223372036854775807) :
    Calls Tryd.prog 36 #[.slice A bs.length c] w (DrawB3 w) := by
  have hal0 : Below w.heap.size w (w.alloc (.cells #[.int .i64 0, .slice none 0 0] 29)) := (Below.refl _ _).alloc (Nat.le_refl _) _
  have HB2 := Lib.hid (show (w.alloc (.cells #[.int .i64 0, .slice none 0 0] 29)).heap[w.heap.size]? = some (.cells #[.int .i64 0, .slice none 0 0] 29 (0, 0)) from heap_alloc_new _ _)
  have HO := Lib.hid (open_any A c bs _ (h.up hal0) hc hn)
  have HAL := Lib.hid hal0
  have HS0 := Lib.hid (show (w.alloc (.cells #[.int .i64 0, .slice none 0 0] 29)).heap.size = w.heap.size + 1 by simp)
  clear hal0 h
  go_enter Tryd.func36, Tryd.ntmps36
  go_wp2_with fail
  have hs0 := HS0.out
  clear HS0
  generalize w.alloc (.cells #[.int .i64 0, .slice none 0 0] 29) = w0 at *
  refine HO.out.mono ?_
  clear HO
  rintro e w1 ⟨r, rfl, hr, hR1, hb1⟩
  have HB2 := Lib.hid ((hb1.block _ (lt_of_block HB2.out)).trans HB2.out)
  have HBW := Lib.hid (bthen HAL.out hb1)
  have hr2 : w.heap.size < r := by omega
  have hrl := hR1.lt
  obtain ⟨T, hT⟩ : ∃ T : Nat → Prop, ∀ b, T b ↔ b = r ∨ b = w.heap.size := ⟨fun b => b = r ∨ b = w.heap.size, fun _ => Iff.rfl⟩
  have HT := Lib.hid hT
  have HTL : Hid (∀ b, T b → b < w1.heap.size) := Lib.hid fun b hb => by have := (hT b).1 hb; omega
  have hT9 : T r := (hT r).2 (.inl rfl)
  have HTr := Lib.hid hT9
  clear hT hb1 HAL hs0
  go_wp2_with fail
  refine (l7Two_any T r 0 w1 hR1 HTL.out hT9 (by omega) (by omega)).mono ?_
  rintro e w2 ⟨n, A2, c2, xs, X, cx, ys, Y, cy, rfl, hs2, hx2, hy2, hbn, hkx, hky, hcx, hcy, q2, q20, q21, hR2, hg2⟩
  have HB2 := Lib.hid (hg2.heap (by show ¬ _ = r; omega) HB2.out)
  have HBN := Lib.hid hbn
  have hyb : -1 ≤ n.ins ∧ n.ins ≤ 9 ∧ n.gs.length ≤ 4 := ⟨hbn.1, hbn.2.1, hbn.2.2.1⟩
  obtain ⟨hyb0, hyb1, hyb2⟩ := hyb
  have HK := Lib.hid (And.intro hkx hky)
  have HCC := Lib.hid (And.intro hcx hcy)
  have hz2 := hg2.size
  have hal : Below w2.heap.size w2 (w2.alloc (.cells #[.int .i64 n.ins, .slice A2 n.gs.length c2] 29)) := (Below.refl _ _).alloc (Nat.le_refl _) _
  have HB5 := Lib.hid (show (w2.alloc (.cells #[.int .i64 n.ins, .slice A2 n.gs.length c2] 29)).heap[w2.heap.size]? = some (.cells #[.int .i64 n.ins, .slice A2 n.gs.length c2] 29 (0, 0)) from heap_alloc_new _ _)
  have HB2 := Lib.hid ((hal.block _ (lt_of_block HB2.out)).trans HB2.out)
  have hR3 := hR2.up hal
  have HG3 := Lib.hid (hg2.up hal)
  have HS := Lib.hid (hs2.gr (.below hal))
  have HX := Lib.hid (hx2.gr (.below hal))
  have HY := Lib.hid (hy2.gr (.below hal))
  have i5 : r < w2.heap.size := by omega
  have i6 : w.heap.size < w2.heap.size := by omega
  clear hal hR1 hR2 hs2 hx2 hy2 hbn hkx hky hcx hcy hg2 hT9
  go_wp2
  generalize w2.alloc (.cells #[.int .i64 n.ins, .slice A2 n.gs.length c2] 29) = w3 at *
  generalize hb5e : w2.heap.size = b5 at *
  clear hb5e
  have HR3 := Lib.hid hR3
  clear hR3
  refine wp_region_rel4 [[], [], [], [(1, 18), (2, 19)], [], [(0, 17)], [(3, 20)], [(4, 21)]]
    (Gr (fun b => b = r ∨ b = w.heap.size))
    []
    (fun f9 x9 => TwoQ r (w.heap.size) b5 q2 w3 (.cells #[.int .i64 0, .slice none 0 0] 29 (0, 0)) (.cells #[.int .i64 n.ins, .slice A2 n.gs.length c2] 29 (0, 0)) (f9 3) (f9 5) x9)
    [fun vs9 _ => vs9 0 = (.agg #[.int .i64 n.ins, .slice A2 n.gs.length c2]),
    fun vs9 _ => vs9 1 = (.pointer (some ⟨r, 0, none⟩)),
    fun vs9 y9 => (fun v yy => SayU T v yy) (vs9 2) y9,
    fun vs9 y9 => (fun v _ => SayV v) (vs9 3) y9,
    fun vs9 _ => vs9 4 = (.slice X xs.length cx),
    fun _ _ => True,
    fun vs9 _ => vs9 6 = vs9 3,
    fun vs9 _ => vs9 7 = (.slice X xs.length cx)]
    [(0, 17), (1, 18), (2, 19), (3, 20), (4, 21), (6, 3), (7, 4)] (by kernel_rfl) (by kernel_rfl) (by kernel_rfl) (by kernel_rfl)
    (fun _ => Gr.refl _ _) trivial
    ⟨⟨.inr (fun _ _ _ h _ => h), trivial⟩,
    ⟨.inr (fun _ _ _ h _ => h), trivial⟩,
    ⟨.inr (fun vs9 x9 y9 h9 hR9 => (show ∀ v9 y8 y7, (fun v yy => SayU T v yy) v9 y8 → (Gr (fun b => b = r ∨ b = w.heap.size)) y8 y7 → (fun v yy => SayU T v yy) v9 y7 from fun _ _ _ h hR => h.gr hR (fun b hb => (HT.out b).2 hb)) (vs9 2) x9 y9 h9 hR9), trivial⟩,
    ⟨.inr (fun vs9 x9 y9 h9 hR9 => (show ∀ v9 y8 y7, (fun v _ => SayV v) v9 y8 → (Gr (fun b => b = r ∨ b = w.heap.size)) y8 y7 → (fun v _ => SayV v) v9 y7 from fun _ _ _ h _ => h) (vs9 3) x9 y9 h9 hR9), trivial⟩,
    ⟨.inr (fun _ _ _ h _ => h), trivial⟩,
    ⟨.inr (fun _ _ _ h _ => h), trivial⟩,
    ⟨.inr (fun _ _ _ h _ => h), trivial⟩,
    ⟨.inr (fun _ _ _ h _ => h), trivial⟩, trivial⟩ ⟨fun vs vs' x h _ hv => (by dsimp only at hv ⊢; first | (rw [← h]; exact hv) | exact hv),
    fun vs vs' x h _ hv => (by dsimp only at hv ⊢; first | (rw [← h]; exact hv) | exact hv),
    fun vs vs' x h _ hv => (by dsimp only at hv ⊢; first | (rw [← h]; exact hv) | exact hv),
    fun vs vs' x h _ hv => (by dsimp only at hv ⊢; first | (rw [← h]; exact hv) | exact hv),
    fun vs vs' x h _ hv => (by dsimp only at hv ⊢; first | (rw [← h]; exact hv) | exact hv),
    fun _ _ _ _ _ _ => trivial,
    fun vs vs' x h hd hv => (by have h2 := hd 3 (by decide); show vs' 6 = vs' 3; exact h.symm.trans (Eq.trans hv h2)),
    fun vs vs' x h _ hv => (by dsimp only at hv ⊢; first | (rw [← h]; exact hv) | exact hv), trivial⟩ (⟨.below (below_drewN (Below.refl _ _) 1), ⟨q2, HR3.out.up (below_drewN (Below.refl _ _) 1), by omega, by simp⟩, ((below_drewN (Below.refl _ _) 1 : Below w3.heap.size w3 _).block _ (lt_of_block HB5.out)).trans HB5.out, (fun _ => ((below_drewN (Below.refl _ _) 1 : Below w3.heap.size w3 _).block _ (lt_of_block HB2.out)).trans HB2.out), fun h => by cases h⟩) ⟨?_, ?_, ?_, ?_, ?_, ?_, ?_, ?_, trivial⟩ ?_
  · intro vals xw f hf1 hf2 hf3 hI hF
    clear hf2 hf3
    dsimp only [owes4, bare]
    simp only [putsD, Act.put, List.setIfInBounds_toArray, List.set_cons_zero, List.set_cons_succ]
    have hk9 := hI.2.2.1
    have c0 := (cell_of_block hk9 0).1
    have c1 := (cell_of_block hk9 1).1
    clear hk9
    go_wp2
    exact ⟨rfl, rfl, Gr.refl _ _, hI⟩
  · intro vals xw f hf1 hf2 hf3 hI hF
    clear hf2 hf3
    dsimp only [owes4, bare]
    simp only [putsD, Act.put, List.setIfInBounds_toArray, List.set_cons_zero, List.set_cons_succ]
    go_wp2
    exact ⟨rfl, rfl, Gr.refl _ _, hI⟩
  · intro vals xw f hf1 hf2 hf3 hI hF
    clear hf2 hf3
    dsimp only [owes4, bare]
    simp only [putsD, Act.put, List.setIfInBounds_toArray, List.set_cons_zero, List.set_cons_succ]
    obtain ⟨i1, ⟨q', i2, q'0, q'1⟩, i3, i4, i5⟩ := hI
    have hal : Below xw.heap.size xw (xw.alloc (.cells #[.int .i64 1, .int .i64 2, .int .i64 2, .int .i64 1, .int .i64 2, .int .i64 3, .int .i64 0] 3)) := (Below.refl _ _).alloc (Nat.le_refl _) _
    have hsl := lit_sl (S := T) xw [1, 2, 2, 1, 2, 3, 0] _ 3 rfl (by intro h9; have h8 := i1.size; have := (HT.out _).1 h9; have := lt_of_block HB5.out; omega)
    have HSL := Lib.hid hsl
    have HGL := Lib.hid (Gr.below (S := fun b => b = r ∨ b = w.heap.size) hal)
    have HQ := Lib.hid (show TwoQ r (w.heap.size) b5 q2 w3 (.cells #[.int .i64 0, .slice none 0 0] 29 (0, 0)) (.cells #[.int .i64 n.ins, .slice A2 n.gs.length c2] 29 (0, 0)) (f 3) (f 5) (xw.alloc (.cells #[.int .i64 1, .int .i64 2, .int .i64 2, .int .i64 1, .int .i64 2, .int .i64 3, .int .i64 0] 3)) from ⟨i1.up hal, ⟨q', i2.up hal, q'0, q'1⟩, (hal.block _ (lt_of_block i3)).trans i3, fun h => (hal.block _ (lt_of_block (i4 h))).trans (i4 h), fun h => (hal.block _ (lt_of_block (i5 h))).trans (i5 h)⟩)
    clear i1 i2 i3 i4 i5 hal hsl
    go_wp2
    exact ⟨rfl, ⟨_, rfl, HSL.out⟩, HGL.out, HQ.out⟩
  · intro vals xw f hf1 hf2 hf3 hI hF
    clear hf2 hf3
    simp only [saysD, List.getD_cons_zero, List.getD_cons_succ, and_true] at hF
    obtain ⟨e19, b9, e20, hs9⟩ := hF
    dsimp only [owes4, bare]
    simp only [putsD, Act.put, List.setIfInBounds_toArray, List.set_cons_zero, List.set_cons_succ]
    simp only [e19, e20]
    obtain ⟨i1, ⟨q', i2, q'0, q'1⟩, i3, i4, i5⟩ := hI
    rw [hf1, if_neg (by simp)] at q'1
    have HN := Lib.hid (num_any r q' _ 7 litUn xw i2 (hs9.ab_mono fun b _ hb => by rw [hb]; exact HTr.out) (by simp [litUn]) (by simp [litUn]) (by omega) (by omega))
    have I1 := Lib.hid i1
    have I3 := Lib.hid i3
    have I4 := Lib.hid i4
    have I5 := Lib.hid i5
    clear i1 i2 i3 i4 i5 hs9
    go_wp2_with fail
    refine HN.out.mono ?_
    rintro e wx ⟨z, hz, rfl, hR9, hg9⟩
    have HZ : Hid (0 ≤ z ∧ z ≤ 3) := Lib.hid (by simp [litUn] at hz; omega)
    have HG9 := Lib.hid (hg9.mono (T := fun b => b = r ∨ b = w.heap.size) fun b hb => .inl hb)
    have HQ9 := Lib.hid (show TwoQ r (w.heap.size) b5 q2 w3 (.cells #[.int .i64 0, .slice none 0 0] 29 (0, 0)) (.cells #[.int .i64 n.ins, .slice A2 n.gs.length c2] 29 (0, 0)) true (f 5) wx from ⟨I1.out.trans HG9.out, ⟨q' + 1, hR9, by omega, by simp; omega⟩, hg9.heap (by show ¬ _ = r; omega) I3.out, fun h => hg9.heap (by show ¬ _ = r; omega) (I4.out h), fun h => hg9.heap (by show ¬ _ = r; omega) (I5.out h)⟩)
    clear hz hR9 hg9 HN
    go_wp2
    exact ⟨rfl, ⟨z, rfl, HZ.out⟩, HG9.out, HQ9.out⟩
  · intro vals xw f hf1 hf2 hf3 hI hF
    clear hf2 hf3
    dsimp only [owes4, bare]
    simp only [putsD, Act.put, List.setIfInBounds_toArray, List.set_cons_zero, List.set_cons_succ]
    go_wp2
    exact ⟨rfl, rfl, Gr.refl _ _, hI⟩
  · intro vals xw f hf1 hf2 hf3 hI hF
    clear hf2 hf3
    simp only [saysD, List.getD_cons_zero, List.getD_cons_succ, and_true] at hF
    have e18 := hF
    dsimp only [owes4, bare]
    simp only [putsD, Act.put, List.setIfInBounds_toArray, List.set_cons_zero, List.set_cons_succ]
    simp only [e18]
    obtain ⟨i1, ⟨q', i2, q'0, q'1⟩, i3, i4, i5⟩ := hI
    have j4 := i4 hf1
    have v0 := (cell_of_block j4 0).1
    have v1 := (cell_of_block j4 1).1
    have f0 := (cell_of_block j4 0).2
    have f1 := (cell_of_block j4 1).2
    have hh := heap_set_same _ (w.heap.size) 1 (.slice A2 n.gs.length c2) _ _ (heap_set_same xw (w.heap.size) 0 (.int .i64 n.ins) _ _ j4)
    have hg : Gr (fun z => z = w.heap.size) xw ((xw.setCell ⟨w.heap.size, 0, none⟩ (.int .i64 n.ins)).setCell ⟨w.heap.size, 1, none⟩ (.slice A2 n.gs.length c2)) := ((Gr.refl (fun z => z = w.heap.size) xw).set _ _ _ (.inl (by rfl))).set _ _ _ (.inl (by rfl))
    have HH := Lib.hid hh
    have HG9 := Lib.hid hg
    have J4 := Lib.hid j4
    have I1 := Lib.hid i1
    have I2 := Lib.hid i2
    have I3 := Lib.hid i3
    clear i1 i2 i3 i4 i5 j4 hh hg
    go_wp2
    have hgT := HG9.out.mono (T := fun b => b = r ∨ b = w.heap.size) fun z hz => .inr hz
    exact ⟨rfl, trivial, hgT, I1.out.trans hgT, ⟨q', I2.out.far HG9.out (by omega) ⟨_, _, _, J4.out, by simp⟩, q'0, q'1⟩, HG9.out.heap (by show ¬ _ = w.heap.size; omega) I3.out, fun h => absurd ((did_same f 5).symm.trans h) (by simp), fun _ => HH.out⟩
  · intro vals xw f hf1 hf2 hf3 hI hF
    clear hf2 hf3
    simp only [saysD, List.getD_cons_zero, List.getD_cons_succ, and_true] at hF
    obtain ⟨z, e21, _⟩ := hF
    dsimp only [owes4, bare]
    simp only [putsD, Act.put, List.setIfInBounds_toArray, List.set_cons_zero, List.set_cons_succ]
    simp only [e21]
    go_wp2
    exact ⟨rfl, e21.symm, Gr.refl _ _, hI⟩
  · intro vals xw f hf1 hf2 hf3 hI hF
    clear hf2 hf3
    simp only [saysD, List.getD_cons_zero, List.getD_cons_succ, and_true] at hF
    have e22 := hF
    dsimp only [owes4, bare]
    simp only [putsD, Act.put, List.setIfInBounds_toArray, List.set_cons_zero, List.set_cons_succ]
    simp only [e22]
    go_wp2
    exact ⟨rfl, rfl, Gr.refl _ _, hI⟩
  · intro vals xw f hall hI hF
    rw [show List.range _ = [0, 1, 2, 3, 4, 5, 6, 7] from rfl] at hF
    simp only [says, List.getD_cons_zero, List.getD_cons_succ, and_true] at hF
    obtain ⟨i1, ⟨q', i2, q'0, q'1⟩, _, _, i5⟩ := hI
    have j5 := i5 (hall 5 (by decide))
    obtain ⟨_, _, _, ⟨z, e21, z0, z1⟩, _, _, e3, e4⟩ := hF
    rw [e21] at e3
    have k5 := (cell_of_block j5 0).1
    have k6 := (cell_of_block j5 1).1
    have kf5 := (cell_of_block j5 0).2
    have kf6 := (cell_of_block j5 1).2
    have I1 := Lib.hid i1
    clear i1 i2 i5 j5 e21
    simp only [putsD, Act.put, List.setIfInBounds_toArray, List.set_cons_zero, List.set_cons_succ]
    simp only [e3, e4]
    clear e3 e4
    go_wp2
    refine bodyPost_ret (v := .tuple #[.agg #[.int .i64 n.ins, .slice A2 n.gs.length c2], .int .i64 z, .slice X xs.length cx]) (by simp [results, Tryd.results36, go_sem, k5, k6, kf5, kf6]) rfl ?_
    have hgx : Gr T w3 xw := I1.out.mono (fun b hb => (HT.out b).2 hb)
    exact ⟨n, A2, c2, z, xs, X, cx, rfl, (HS.out.gr hgx).ab_rd, (HX.out.gr hgx).ab_rd, HBN.out, by unfold okInt; omega, HK.out.1, HCC.out.1, (((Gr.below (S := T) HBW.out).trans (HG3.out.mono fun b hb => (HT.out b).2 (.inl hb))).trans hgx).to_below fun b hb => by rcases (HT.out b).1 hb with h9 | h9 <;> omega⟩
end Go.Proofs.YtjghcaghigebjaaDoor

/-! Own rows of truth values; append. -/
namespace Go.Proofs.YtjghcaghigebjaaDoor
open Go Go.RowKit

theorem src_bools {w : World} {F : Nat → Prop} {A : Option Addr} {xs : List Bool} (h : Lay.bool.Sl w F A xs) : Src w 1 A xs.length (xs.map Value.bool) := by
  refine ⟨by simp, fun h0 => ?_⟩
  obtain ⟨ad, rfl, _, hc⟩ := h h0
  refine ⟨ad, rfl, fun j u hu => ?_⟩
  rw [List.getElem?_map] at hu
  cases hx : xs[j]? with
  | none => rw [hx] at hu; cases hu
  | some x =>
    rw [hx] at hu
    injection hu with hu
    subst hu
    obtain ⟨vs, rfl, hcell⟩ := hc j x hx
    have := hcell 0 _ rfl
    rw [show Lay.bool.size = 1 from rfl, Nat.mul_one, Nat.add_zero] at this
    exact this
theorem bools_one (xs : List Bool) : ∀ u ∈ xs.map Value.bool, u.oneCell' = true := by
  intro u hu
  obtain ⟨b, _, rfl⟩ := List.mem_map.1 hu
  rfl
theorem sl_noneB {w : World} {F : Nat → Prop} {A : Option Addr} {xs : List Bool} (h : Lay.bool.Sl w F A xs) : A = none → xs.length = 0 := fun e => by
  rcases Nat.eq_zero_or_pos xs.length with h0 | h0
  · exact h0
  · obtain ⟨ad, e', _⟩ := h h0; rw [e] at e'; cases e'
def OwnB (w : World) (lo : Nat) (v : Value) (bs : List Bool) : Prop := w.ownsRow lo 4 1 v bs.length (bs.map Value.bool)
theorem OwnB.rd {w : World} {lo c : Nat} {A : Option Addr} {bs : List Bool} (h : OwnB w lo (.slice A bs.length c) bs) : Lay.bool.Rd w A bs := (sl_bools_of_own h (fun g _ hg => hg)).1
theorem OwnB.gr {S : Nat → Prop} {w w' : World} {lo : Nat} {v : Value} {bs : List Bool} (h : OwnB w lo v bs) (hg : Gr S w w') (hr : ∀ b, S b → b < lo) : OwnB w' lo v bs :=
  own_of_heap h fun g hg' => hg.block g (h.lt g hg').2 (fun e => by have := hr g e; have := (h.lt g hg').1; omega)
theorem OwnB.up {w w' : World} {lo : Nat} {v : Value} {bs : List Bool} (h : OwnB w lo v bs) (hb : Below w.heap.size w w') : OwnB w' lo v bs := own_below h hb (Nat.le_refl _)
theorem OwnB.set {w : World} {lo g c k : Nat} {bs : List Bool} (h : OwnB w lo (.slice (some ⟨g, 0, none⟩) bs.length c) bs) (b : Bool) : OwnB (w.setCell ⟨g, k, none⟩ (.bool b)) lo (.slice (some ⟨g, 0, none⟩) bs.length c) (bs.set k b) := by
  have := (h.stored k (.bool b)).1
  unfold OwnB
  rw [List.length_set, List.map_set]
  exact this
theorem OwnB.cell {w : World} {lo g c k : Nat} {bs : List Bool} (h : OwnB w lo (.slice (some ⟨g, 0, none⟩) bs.length c) bs) (hk : k < bs.length) : w.cell? ⟨g, k, none⟩ = some (.bool bs[k]) ∧ w.frozen? ⟨g, k, none⟩ = false := by
  refine ⟨?_, h.frozenAt k⟩
  have hc := h.2
  rcases hc with ⟨e, _⟩ | ⟨g', cap, cur, e, _, _, h3, _⟩
  · cases e
  · have hx := h.cellAt k (by simp; omega)
    rw [hx, List.getElem?_map, List.getElem?_eq_getElem hk]; rfl
theorem OwnB.form {w : World} {lo : Nat} {v : Value} {bs : List Bool} (h : OwnB w lo v bs) : ∃ A c, v = .slice A bs.length c ∧ bs.length ≤ c := by
  rcases h.2 with ⟨h1, h2⟩ | ⟨g, cap, cur, h1, _, _, h3, _⟩
  · exact ⟨none, 0, by rw [h1, h2], by rw [h2]; exact Nat.le_refl _⟩
  · exact ⟨_, cap, h1, h3⟩
theorem OwnB.cap {w : World} {lo c n : Nat} {A : Option Addr} {bs : List Bool} (h : OwnB w lo (.slice A n c) bs) : n = bs.length ∧ bs.length ≤ c := by
  obtain ⟨A', c', e, hl⟩ := h.form
  injection e with e1 e2 e3
  exact ⟨e2, by omega⟩
/-- append of one truth value onto a row of the call's own. -/
theorem wpList_append_bool {Q : Exit → Act → World → Prop} {ops : Array Oper} {rest : List Oper} {o : Oper} {a : Act} {W : World} {lo : Nat} {A : Option Addr} {c : Nat} {xs ys : List Bool} {x : Bool} {e' : TypeId} (hgd : o.guard = none) (s y : Operand)
    (ho : o.op = .call { callee := .builtin .append, args := #[s, y], argTypes := #[42, 42] }) (hs : a.eval s = .slice A xs.length c) (hy : a.eval y = .slice (some ⟨W.heap.size, 0, none⟩) 1 1)
    (hown : OwnB W lo (.slice A xs.length c) xs) (hn : xs.length ≤ 3000000) (hlo : lo ≤ W.heap.size) (hys : ys = xs ++ [x])
    (h : ∀ A' c' w', OwnB w' lo (.slice A' ys.length c') ys → Below lo W w' → wpList Tryd.prog ops Q rest (a.put o.dst (.slice A' ys.length c')) w') :
    wpList Tryd.prog ops Q (o :: rest) a (W.alloc (.cells #[.bool x] e')) := by
  obtain ⟨i0, hi0, hz0, hz1, hz2⟩ := info_parts bool_info
  have hl : ys.length = xs.length + 1 := by rw [hys]; simp
  have hm : ys.map Value.bool = xs.map Value.bool ++ [.bool x] := by rw [hys]; simp
  refine wpList_append1 (P := Tryd.prog) hgd s y 42 ho lo 4 i0 _ 1 Tryd.underlying42 hi0 hz0 hz1 hz2 (by rfl) _ xs.length (xs.map Value.bool) (.bool x) e' hs hown hy (by rfl) (by unfold maxLen; omega) (by omega) hlo ?_
  intro v' w' ho' hb
  rw [← hl, ← hm] at ho'
  obtain ⟨A', c', rfl, _⟩ := OwnB.form (bs := ys) ho'
  exact h A' c' w' ho' hb
end Go.Proofs.YtjghcaghigebjaaDoor

/-! The program's comparison and values of nets; the laws' own words on them. -/
namespace Go.Proofs.YtjghcaghigebjaaDoor
open Go Go.RowKit

theorem neqG (w : World) (g h : G) : (binOp .neq 96 (.agg #[.bool g.x, .int .i64 g.a, .int .i64 g.b]) (.agg #[.bool h.x, .int .i64 h.a, .int .i64 h.b])).run Tryd.prog w = .ok (.bool (!decide (g = h))) w := by
  have hh : Tryd.prog.stoodInHeld 96 = false := by kernel_rfl
  rw [decide_G]
  simp [go_sem, hh]
  (repeat' split) <;> simp_all
set_option maxHeartbeats 1000000 in
theorem equalG_any (A B : Option Addr) (c d : Nat) (xs ys : List G) (w : World) (h : Lay.gate.Rd w A xs) (h' : Lay.gate.Rd w B ys) (hn : xs.length ≤ 1048576) (hn' : ys.length ≤ 1048576) :
    Calls Tryd.prog 60 #[.slice A xs.length c, .slice B ys.length d] w fun e w' => e = .returned (.bool (decide (xs = ys))) ∧ Below w.heap.size w w' := by
  by_cases hl : xs.length = ys.length
  · have hne : (((xs.length : Int) != (ys.length : Int))) = false := by simp [hl]
    have HL := Lib.hid hl
    clear hl
    go_enter Tryd.func60, Tryd.ntmps60
    go_wp2
    clear hne
    go_loopw [13] (fun i wr => ∃ k m : Nat, k ≤ xs.length ∧ i = .int .i64 k ∧ wr = w.drewN m ∧ xs.take k = ys.take k) (fun i _ => xs.length - (intOf i).toNat)
    case atStart => exact ⟨0, 0, Nat.zero_le _, rfl, rfl, rfl⟩
    case round =>
      obtain ⟨k, m, hk, rfl, rfl, ht⟩ := hrel
      have HT := Lib.hid ht
      clear ht
      by_cases hlt : k < xs.length
      · have hlt' : k < ys.length := by have := HL.out; omega
        obtain ⟨ad, rfl, hf, j1, j2, j3⟩ := h.at_gate hlt
        obtain ⟨ad', rfl, hf', l1, l2, l3⟩ := h'.at_gate hlt'
        have hk0 : (0 : Int) ≤ k := by omega
        have hk1 : (k : Int) < xs.length := by omega
        have hk2 : (k : Int) < ys.length := by omega
        clear h h' hf hf'
        by_cases hxy : xs[k] = ys[k]
        · have he : ∀ W' : World, (binOp .neq 96 (.agg #[.bool xs[k].x, .int .i64 xs[k].a, .int .i64 xs[k].b]) (.agg #[.bool ys[k].x, .int .i64 ys[k].a, .int .i64 ys[k].b])).run Tryd.prog W' = .ok (.bool false) W' := fun W' => by rw [neqG W' xs[k] ys[k], decide_eq_true hxy]; rfl
          have HS := Lib.hid (take_eq_step hlt hlt' HT.out hxy)
          clear hxy
          generalize xs[k] = gx at *
          generalize ys[k] = gy at *
          go_wp2
          go_quiet (fail)
          clear he
          go_wp2
          go_roundw
          case rel => exact ⟨k + 1, _, by omega, by go_num, rfl, HS.out⟩
          case measure => simp [intOf]; omega
        · have he : ∀ W' : World, (binOp .neq 96 (.agg #[.bool xs[k].x, .int .i64 xs[k].a, .int .i64 xs[k].b]) (.agg #[.bool ys[k].x, .int .i64 ys[k].a, .int .i64 ys[k].b])).run Tryd.prog W' = .ok (.bool true) W' := fun W' => by rw [neqG W' xs[k] ys[k], decide_eq_false hxy]; rfl
          have HXY := Lib.hid (fun e : xs = ys => hxy (by simp [e]))
          clear hxy
          generalize xs[k] = gx at *
          generalize ys[k] = gy at *
          go_wp2
          go_quiet (fail)
          clear he
          go_wp2
          go_ret
          exact ⟨ret_bool (decide_eq_false HXY.out).symm, by rw [World.drewN_drewN]; exact below_drewN (Below.refl _ _) _⟩
      · have : k = xs.length := by omega
        subst this
        go_wp2
        go_ret
        exact ⟨ret_bool (by have := HL.out; have := HT.out; simp [eq_of_take HL.out HT.out]), below_drewN (Below.refl _ _) _⟩
  · have hne : (((xs.length : Int) != (ys.length : Int))) = true := by simp; omega
    go_enter Tryd.func60, Tryd.ntmps60
    go_wp2
    go_ret
    exact ⟨ret_bool (by simp; rintro rfl; exact hl rfl), Below.refl _ _⟩

theorem decide_N (m n : N) : decide (m = n) = (m.ins == n.ins && decide (m.gs = n.gs)) := by
  cases m; cases n; rw [Bool.eq_iff_iff]; simp
set_option maxHeartbeats 1000000 in
theorem netSame_any (m n : N) (A B : Option Addr) (c d : Nat) (w : World) (h : Lay.gate.Rd w A m.gs) (h' : Lay.gate.Rd w B n.gs) (hn : m.gs.length ≤ 1048576) (hn' : n.gs.length ≤ 1048576) :
    Calls Tryd.prog 22 #[.agg #[.int .i64 m.ins, .slice A m.gs.length c], .agg #[.int .i64 n.ins, .slice B n.gs.length d]] w fun e w' => e = .returned (.bool (decide (m = n))) ∧ Below w.heap.size w w' := by
  have hw : Below w.heap.size w ((w.alloc (.cells #[.int .i64 m.ins, .slice A m.gs.length c] 29)).alloc (.cells #[.int .i64 n.ins, .slice B n.gs.length d] 29)) := ((Below.refl _ _).alloc (Nat.le_refl _) _).alloc (by simp) _
  have HC := Lib.hid (equalG_any A B c d m.gs n.gs _ (h.up hw) (h'.up hw) hn hn')
  have HW := Lib.hid hw
  have HD := Lib.hid (decide_N m n)
  clear hw
  by_cases hi : m.ins = n.ins
  · have hib : (m.ins == n.ins) = true := by simpa using hi
    have HI := Lib.hid hib
    clear hi
    go_enter Tryd.func22, Tryd.ntmps22
    go_wp2_with fail
    refine HC.out.mono ?_
    rintro e w1 ⟨rfl, hb⟩
    clear hib
    go_wp2
    go_ret
    exact ⟨ret_bool (by rw [HD.out, HI.out]; rfl), bthen HW.out hb⟩
  · have hib : (m.ins == n.ins) = false := by simpa using hi
    have HI := Lib.hid hib
    clear hi
    go_enter Tryd.func22, Tryd.ntmps22
    go_wp2
    go_ret
    exact ⟨ret_bool (by rw [HD.out, HI.out]; rfl), HW.out⟩
set_option maxHeartbeats 1000000 in
theorem netOk_any (n : N) (A : Option Addr) (c : Nat) (w : World) (h : Lay.gate.Rd w A n.gs) (hn : n.gs.length ≤ 1048576) (hi : okInts n) :
    Calls Tryd.prog 61 #[.agg #[.int .i64 n.ins, .slice A n.gs.length c]] w fun e w' => e = .returned (.bool (netOk n)) ∧ Below w.heap.size w w' := by
  have hw : Below w.heap.size w (w.alloc (.cells #[.int .i64 n.ins, .slice A n.gs.length c] 29)) := (Below.refl _ _).alloc (Nat.le_refl _) _
  have hA : A = none → n.gs.length = 0 := fun e => by
    rcases Nat.eq_zero_or_pos n.gs.length with h0 | h0
    · exact h0
    · obtain ⟨ad, e', _⟩ := h h0; rw [e] at e'; cases e'
  have HC := Lib.hid (readNet_any A c n _ (h.up hw) hn hA hi)
  have HW := Lib.hid hw
  clear hw hA
  go_enter Tryd.func61, Tryd.ntmps61
  go_wp2_with fail
  refine HC.out.mono ?_
  rintro e w1 ⟨hb, hres⟩
  rcases hres with ⟨hok, r, rfl, _⟩ | ⟨hok, rfl⟩
  · have HK := Lib.hid hok
    clear hok
    go_wp2
    go_ret
    exact ⟨ret_bool HK.out.symm, bthen HW.out hb⟩
  · have HK := Lib.hid hok
    clear hok
    go_wp2
    go_ret
    exact ⟨ret_bool HK.out.symm, bthen HW.out hb⟩
end Go.Proofs.YtjghcaghigebjaaDoor

/-! The program's values of nets. -/
namespace Go.Proofs.YtjghcaghigebjaaDoor
open Go Go.RowKit

theorem own_lit1 (W : World) (b : Bool) : OwnB (W.alloc (.cells #[.bool b] 4)) W.heap.size (.slice (some ⟨W.heap.size, 0, none⟩) 1 1) [b] := World.ownsRow_lit W #[.bool b] 1 (Nat.le_refl _) (by unfold maxLen; omega) (by simp)
def RetVs (vs : List Bool) (w : World) (e : Ending) (w' : World) : Prop := ∃ A c, e = .returned (.slice A vs.length c) ∧ vs.length ≤ c ∧ Lay.bool.Rd w' A vs ∧ Below w.heap.size w w'
theorem netVals_no {n : N} {ins : List Bool} (h : netOk n = false ∨ (ins.length : Int) ≠ n.ins) : netVals n ins = [] := by
  unfold netVals
  rw [if_neg]
  simp only [Bool.and_eq_true, decide_eq_true_eq, not_and]
  intro h1 h2
  rcases h with h | h
  · rw [h] at h1; cases h1
  · exact h h2
theorem netVals_yes {n : N} {ins : List Bool} (h : netOk n = true) (h2 : (ins.length : Int) = n.ins) : netVals n ins = runG n.gs (true :: ins) := by
  unfold netVals
  rw [if_pos]
  rw [h, decide_eq_true h2]; rfl
set_option maxRecDepth 100000 in
set_option maxHeartbeats 2000000 in
theorem netVals_any (n : N) (ins : List Bool) (A B : Option Addr) (c d : Nat) (w : World) (h : Lay.gate.Rd w A n.gs) (hn : n.gs.length ≤ 1048576) (hi : okInts n) (h' : Lay.bool.Rd w B ins) (hn' : ins.length ≤ 1048576) :
    Calls Tryd.prog 24 #[.agg #[.int .i64 n.ins, .slice A n.gs.length c], .slice B ins.length d] w (RetVs (netVals n ins) w) := by
  have hw : Below w.heap.size w (w.alloc (.cells #[.int .i64 n.ins, .slice A n.gs.length c] 29)) := (Below.refl _ _).alloc (Nat.le_refl _) _
  have HC := Lib.hid (netOk_any n A c _ (h.up hw) hn hi)
  have HB := Lib.hid (show (w.alloc (.cells #[.int .i64 n.ins, .slice A n.gs.length c] 29)).heap[w.heap.size]? = some (.cells #[.int .i64 n.ins, .slice A n.gs.length c] 29 (0, 0)) from heap_alloc_new _ _)
  have HW := Lib.hid hw
  clear hw
  cases hok : netOk n
  · have HN := Lib.hid (netVals_no (ins := ins) (.inl hok))
    go_enter Tryd.func24, Tryd.ntmps24
    go_wp2_with fail
    refine HC.out.mono ?_
    rw [hok]
    rintro e w1 ⟨rfl, hb⟩
    go_wp2
    go_ret
    rw [HN.out]
    exact ⟨none, 0, rfl, Nat.le_refl _, .nil _ _ _ _, bthen HW.out hb⟩
  by_cases hl : (ins.length : Int) = n.ins
  rotate_left
  · have HN := Lib.hid (netVals_no (n := n) (ins := ins) (.inr hl))
    have hlb : ((ins.length : Int) != n.ins) = true := by simpa using hl
    go_enter Tryd.func24, Tryd.ntmps24
    go_wp2_with fail
    refine HC.out.mono ?_
    rw [hok]
    rintro e w1 ⟨rfl, hb⟩
    have v0 : w1.cell? ⟨w.heap.size, 0, none⟩ = some (.int .i64 n.ins) := (hb.cell (lt_of_block HB.out)).trans (cell_of_block HB.out 0).1
    go_wp2
    go_ret
    rw [HN.out]
    exact ⟨none, 0, rfl, Nat.le_refl _, .nil _ _ _ _, bthen HW.out hb⟩
  have HN := Lib.hid (netVals_yes hok hl)
  have hlb : ((ins.length : Int) != n.ins) = false := by simpa using hl
  have hA2 := sl_noneB h'
  obtain ⟨i0, hi0, hz0, hz1, hz2⟩ := info_parts bool_info
  clear hl
  go_enter Tryd.func24, Tryd.ntmps24
  go_wp2_with fail
  refine HC.out.mono ?_
  rw [hok]
  rintro e w1 ⟨rfl, hb⟩
  clear hok HC
  have HB1 := Lib.hid ((hb.block _ (lt_of_block HB.out)).trans HB.out)
  have hbw := bthen HW.out hb
  have hg1 := h.up hbw
  have hal : Below w1.heap.size w1 (w1.alloc (.cells #[.bool true] 4)) := (Below.refl _ _).alloc (Nat.le_refl _) _
  have hsrc := src_bools ((h'.up hbw).up hal)
  have hol := own_lit1 w1 true
  have v0 : w1.cell? ⟨w.heap.size, 0, none⟩ = some (.int .i64 n.ins) := (cell_of_block HB1.out 0).1
  have v1 : (w1.alloc (.cells #[.bool true] 4)).cell? ⟨w.heap.size, 1, none⟩ = some (.slice A n.gs.length c) := (hal.cell (lt_of_block HB1.out)).trans (cell_of_block HB1.out 1).1
  have HAL := Lib.hid hal
  clear hb h h' HB HW hal
  go_wp2_with (at_builtin; refine wpList_append_src _ (by rfl) (.tmp 20) (.tmp 21) _ (by rfl) w1.heap.size 4 i0 _ 1 1 Tryd.underlying42 hi0 hz0 hz1 hz2 (by rfl) (by omega) (.slice (some ⟨w1.heap.size, 0, none⟩) 1 1) 1 [.bool true] (by rfl) hol B ins.length d (ins.map Value.bool) (by rfl) hsrc (bools_one _) (1 + ins.length) (by omega) (by unfold maxLen; omega) (by omega) (by simp) hA2 ?_; intro A1 c1 w2 hown2 hb2 _; have v2 : w2.cell? ⟨w.heap.size, 1, none⟩ = some (.slice A n.gs.length c) := (hb2.cell (lt_of_block HB1.out)).trans v1; clear v1)
  have hb12 : Below w1.heap.size w1 w2 := HAL.out.trans hb2
  have hown : OwnB w2 w1.heap.size (.slice A1 (true :: ins).length c1) (true :: ins) := by
    unfold OwnB
    have hll : (true :: ins).length = 1 + ins.length := by simp; omega
    rw [hll]
    simpa using hown2
  have hll : 1 + ins.length = (true :: ins).length := by simp; omega
  rw [hll]
  obtain ⟨vs, hvs⟩ : ∃ vs, vs = true :: ins := ⟨_, rfl⟩
  rw [← hvs] at hown ⊢
  have HVS := Lib.hid hvs
  have hvl : vs.length ≤ 1048577 := by rw [hvs]; simp; omega
  have hw1 : w1.heap.size ≤ w2.heap.size := hb12.size
  clear hown2 hb2 hsrc hol v0 v2 HAL hA2 hi0 hz0 hz1 hz2 hlb HB1 hll hvs
  go_loopw [5, 26] (fun s i wr => ∃ (k : Nat) (us : List Bool) (A8 : Option Addr) (c8 : Nat), k ≤ n.gs.length ∧ i = .int .i64 k ∧ s = .slice A8 us.length c8 ∧ Hid (us = runG (n.gs.take k) vs) ∧ us.length = vs.length + k ∧ OwnB wr w1.heap.size (.slice A8 us.length c8) us ∧ Below w1.heap.size w1 wr) (fun _ i _ => n.gs.length - (intOf i).toNat)
  case atStart => exact ⟨0, vs, A1, c1, Nat.zero_le _, rfl, rfl, Lib.hid rfl, rfl, hown, hb12⟩
  case round =>
    obtain ⟨k, us, A8, c8, hk, rfl, rfl, HU, hul, hown, hbr⟩ := hrel
    by_cases hlt : k < n.gs.length
    · have hk1 : (k : Int) < n.gs.length := by omega
      have hk0 : (0 : Int) ≤ k := by omega
      obtain ⟨ad, rfl, hf, j1, j2, j3⟩ := (hg1.up hbr).at_gate hlt
      have hgi := hi n.gs[k] (List.getElem_mem hlt)
      have HST : Hid (runG (n.gs.take (k + 1)) vs = us ++ [gateV us n.gs[k]]) := Lib.hid (by rw [List.take_succ_eq_append_getElem hlt, runG_app, ← HU.out]; rfl)
      generalize n.gs[k] = g at *
      obtain ⟨gx, ga, gb⟩ := g
      obtain ⟨⟨ga0, ga1⟩, gb0, gb1⟩ := hgi
      dsimp only at ga0 ga1 gb0 gb1 j1 j2 j3
      have hal : Below wr.heap.size wr (wr.alloc (.cells #[.bool gx, .int .i64 ga, .int .i64 gb] 96)) := (Below.refl _ _).alloc (Nat.le_refl _) _
      have hbr2 := bthen hbr hal
      have hown2 := hown.up hal
      have hrd := hown2.rd
      have hsz : w1.heap.size ≤ (wr.alloc (.cells #[.bool gx, .int .i64 ga, .int .i64 gb] 96)).heap.size := by have := hbr2.size; omega
      have y0 : (wr.alloc (.cells #[.bool gx, .int .i64 ga, .int .i64 gb] 96)).cell? ⟨wr.heap.size, 0, none⟩ = some (.bool gx) := by simp [go_sem]
      have y1 : (wr.alloc (.cells #[.bool gx, .int .i64 ga, .int .i64 gb] 96)).cell? ⟨wr.heap.size, 1, none⟩ = some (.int .i64 ga) := by simp [go_sem]
      have y2 : (wr.alloc (.cells #[.bool gx, .int .i64 ga, .int .i64 gb] 96)).cell? ⟨wr.heap.size, 2, none⟩ = some (.int .i64 gb) := by simp [go_sem]
      have HUL := Lib.hid hul
      have husz : us.length ≤ 2100000 := by omega
      clear hal hown hbr hf hul
      go_wp2_with fail
      generalize wr.alloc (.cells #[.bool gx, .int .i64 ga, .int .i64 gb] 96) = W at *
      clear j1 j2 j3
      have hou : OwnB W w1.heap.size (.slice A8 us.length c8) us := hown2
      obtain ⟨ps, hps⟩ : ∃ ps, ps = us ++ [gateV us ⟨gx, ga, gb⟩] := ⟨_, rfl⟩
      have HPS := Lib.hid hps
      have HPL := Lib.hid (show ps.length = us.length + 1 by rw [hps]; simp)
      clear hps hown2
      obtain ⟨pv, hp⟩ : ∃ pv, netLit us ga = pv := ⟨_, rfl⟩
      obtain ⟨qv, hq⟩ : ∃ qv, netLit us gb = qv := ⟨_, rfl⟩
      have HP := Lib.hid hp
      have HQ := Lib.hid hq
      have HCA := Lib.hid (fun (Y : World) (h9 : Lay.bool.Sl Y (fun b => b < W.heap.size) A8 us) => by have := implNetLit_any A8 c8 us ga _ Y h9 (by omega) (by omega) (by omega); rw [hp] at this; exact this)
      have HCB := Lib.hid (fun (Y : World) (h9 : Lay.bool.Sl Y (fun b => b < W.heap.size) A8 us) => by have := implNetLit_any A8 c8 us gb _ Y h9 (by omega) (by omega) (by omega); rw [hq] at this; exact this)
      clear hp hq
      cases gx <;> cases pv <;> cases qv
      all_goals
        go_quiet ((go_at_call 28; first | (with_reducible exact quiet_left (HCA.out _ (hrd.drewN _))) | (with_reducible exact quiet_left (HCB.out _ (hrd.drewN _)))))
        have y0q : (W.drewN nq).cell? ⟨wr.heap.size, 0, none⟩ = _ := y0
        have howq : OwnB (W.drewN nq) w1.heap.size (.slice A8 us.length c8) us := hou
        have hszq : w1.heap.size ≤ (W.drewN nq).heap.size := hsz
        have hbq : Below w1.heap.size w1 (W.drewN nq) := below_drewN hbr2 nq
        clear y0 y1 y2 hou hsz hbr2 hrd
        generalize W.drewN nq = X at *
        go_wp2_with (at_builtin; first | (refine wpList_append_bool (ys := ps) (by rfl) (.tmp 40) (.tmp 44) (by rfl) (by rfl) (by rfl) howq (by omega) hszq (by rw [HPS.out]; unfold gateV; simp [HP.out, HQ.out]) ?_; intro A9 c9 w9 hown9 hb9) | (refine wpList_append_bool (ys := ps) (by rfl) (.tmp 46) (.tmp 51) (by rfl) (by rfl) (by rfl) howq (by omega) hszq (by rw [HPS.out]; unfold gateV; simp [HP.out, HQ.out]) ?_; intro A9 c9 w9 hown9 hb9))
        have hb9 : Below w1.heap.size w1 w9 := hbq.trans hb9
        clear y0q
        go_roundw
        case rel => exact ⟨k + 1, ps, A9, c9, by omega, by go_num, rfl, Lib.hid (by rw [HST.out, HPS.out]), by rw [HPL.out, HUL.out]; omega, hown9, hb9⟩
        case measure => simp [intOf]; omega
    · have hke : k = n.gs.length := by omega
      subst hke
      have hcap := hown.cap.2
      go_wp2
      go_ret
      rw [show netVals n ins = us by rw [HN.out, HU.out, List.take_length, HVS.out]]
      exact ⟨A8, c8, rfl, hcap, hown.rd, bthen hbw hbr⟩
end Go.Proofs.YtjghcaghigebjaaDoor

/-! The laws' words on nets: what comes in, the number of some bytes, what has grown. -/
namespace Go.Proofs.YtjghcaghigebjaaDoor
open Go Go.RowKit

def RetIns (m : Int) (w : World) (e : Ending) (w' : World) : Prop :=
  ∃ (bs : List Bool) (A : Option Addr) (c : Nat), e = .returned (.slice A bs.length c) ∧ bs.length ≤ 100 ∧ (0 ≤ m → (bs.length : Int) = m) ∧ Lay.bool.Rd w' A bs ∧ Below w.heap.size w w'
set_option maxRecDepth 100000 in
set_option maxHeartbeats 2000000 in
theorem wpIns_any (n : N) (A : Option Addr) (c : Nat) (k : Int) (w : World) (k0 : 0 ≤ k) (k1 : k ≤ 9223372036854775807) (n1 : n.ins ≤ 100) :
    Calls Tryd.prog 25 #[.agg #[.int .i64 n.ins, .slice A n.gs.length c], .int .i64 k] w (RetIns n.ins w) := by
  have hw : Below w.heap.size w (w.alloc (.cells #[.int .i64 n.ins, .slice A n.gs.length c] 29)) := (Below.refl _ _).alloc (Nat.le_refl _) _
  have HB0 := Lib.hid (heap_alloc_new w (.cells #[.int .i64 n.ins, .slice A n.gs.length c] 29))
  have HW := Lib.hid hw
  have HWS := Lib.hid (show (w.alloc (.cells #[.int .i64 n.ins, .slice A n.gs.length c] 29)).heap.size = w.heap.size + 1 by simp)
  obtain ⟨M, hM⟩ : ∃ M : Nat, M = n.ins.toNat := ⟨_, rfl⟩
  have HM : Hid (∀ j : Nat, (j < M → (j : Int) < n.ins) ∧ (M ≤ j → ¬ (j : Int) < n.ins)) := Lib.hid fun j => ⟨fun h => by omega, fun h => by omega⟩
  have HM2 : Hid (0 ≤ n.ins → (M : Int) = n.ins) := Lib.hid fun h => by omega
  have hM8 : M ≤ 100 := by omega
  clear hw hM
  go_enter Tryd.func25, Tryd.ntmps25
  go_wp2
  generalize w.alloc (.cells #[.int .i64 n.ins, .slice A n.gs.length c] 29) = W at *
  have hal : Below W.heap.size W (W.alloc (.cells #[] 4)) := (Below.refl _ _).alloc (Nat.le_refl _) _
  have hol : OwnB (W.alloc (.cells #[] 4)) W.heap.size (.slice (some ⟨w.heap.size + 1, 0, none⟩) ([] : List Bool).length 0) [] := by
    rw [← HWS.out]; exact own_lit0 rfl
  have hs0 := HWS.out
  clear HWS
  go_loopw [5, 6, 1] (fun s i kk wr => ∃ (j : Nat) (q : Int) (bs : List Bool) (A8 : Option Addr) (c8 : Nat), j ≤ M ∧ i = .int .i64 j ∧ kk = .int .i64 q ∧ 0 ≤ q ∧ q ≤ 9223372036854775807 ∧ s = .slice A8 bs.length c8 ∧ bs.length = j ∧ OwnB wr W.heap.size (.slice A8 bs.length c8) bs ∧ Below W.heap.size W wr) (fun _ i _ _ => M - (intOf i).toNat)
  case atStart => exact ⟨0, k, [], _, _, Nat.zero_le _, rfl, rfl, k0, k1, rfl, rfl, hol, hal⟩
  case round =>
    obtain ⟨j, q, bs, A8, c8, hj, rfl, rfl, q0, q1, rfl, hbl, hown, hbr⟩ := hrel
    have HBL := Lib.hid hbl
    have HBOX := Lib.hid ((hbr.block _ (lt_of_block HB0.out)).trans HB0.out)
    have v0 : wr.cell? ⟨w.heap.size, 0, none⟩ = some (.int .i64 n.ins) := (cell_of_block HBOX.out 0).1
    by_cases hlt : j < M
    · have hlt1 : (j : Int) < n.ins := (HM.out j).1 hlt
      obtain ⟨ps, hps⟩ : ∃ ps, ps = bs ++ [(q % 2 == 1)] := ⟨_, rfl⟩
      have HPS := Lib.hid hps
      have HPL := Lib.hid (show ps.length = bs.length + 1 by rw [hps]; simp)
      have hsz := hbr.size
      have hbsz : bs.length ≤ 100 := by omega
      clear hps hbl
      go_wp2_with (at_builtin; refine wpList_append_bool (ys := ps) (by rfl) (.tmp 14) (.tmp 18) (by rfl) (by rfl) (by rfl) hown (by omega) hsz HPS.out ?_; intro A9 c9 w9 hown9 hb9)
      have hbq := hbr.trans hb9
      go_roundw
      case rel => exact ⟨j + 1, q / 2, ps, A9, c9, by omega, by go_num, rfl, by omega, by omega, rfl, by rw [HPL.out, HBL.out], hown9, hbq⟩
      case measure => simp [intOf]; omega
    · have hlt1 : ¬ (j : Int) < n.ins := by have := (HM.out j).2 (by omega); omega
      clear hbl
      go_wp2
      go_ret
      refine ⟨bs, A8, c8, rfl, by have := HBL.out; omega, fun h => ?_, hown.rd, bthen HW.out hbr⟩
      have := HM2.out h; have := HBL.out; omega
def RetK9 (w : World) (e : Ending) (w' : World) : Prop := ∃ k : Int, e = .returned (.int .i64 k) ∧ 0 ≤ k ∧ k ≤ 1048576 ∧ Below w.heap.size w w'
set_option maxHeartbeats 2000000 in
theorem wpHash_any (A : Option Addr) (c : Nat) (bs : List UInt8) (w : World) (h : Lay.byte.Rd w A bs) (hn : bs.length ≤ 1048576) :
    Calls Tryd.prog 26 #[.slice A bs.length c] w (RetK9 w) := by
  go_enter Tryd.func26, Tryd.ntmps26
  go_wp2
  go_loop [3, 4] (fun s i => ∃ (j : Nat) (q : Int), j ≤ bs.length ∧ i = .int .i64 j ∧ s = .int .i64 q ∧ 0 ≤ q ∧ q ≤ 1048576) (fun _ i => bs.length - (intOf i).toNat)
  case atStart => exact ⟨0, bs.length, Nat.zero_le _, rfl, rfl, by omega, by omega⟩
  case round =>
    obtain ⟨j, q, hj, rfl, rfl, q0, q1⟩ := hrel
    by_cases hlt : j < bs.length
    · have hlt2 : (j : Int) < bs.length := by omega
      by_cases h40 : (j : Int) < 40
      · obtain ⟨ad, rfl, -, c1⟩ := h.at_byte hlt
        obtain ⟨z, hz⟩ : ∃ z : Int, z = (bs[j].toNat : Int) := ⟨_, rfl⟩
        have hz1 : 0 ≤ z := by omega
        have hz2 : z ≤ 255 := by have := UInt8.toNat_lt bs[j]; omega
        rw [← hz] at c1
        clear hz
        go_wp2
        go_round
        case rel => exact ⟨j + 1, (q * 7 + z) % 4096, by omega, by go_num, rfl, by omega, by omega⟩
        case measure => simp [intOf]; omega
      · go_wp2
        go_ret
        exact ⟨q, rfl, q0, q1, Below.refl _ _⟩
    · have hlt2 : ¬ (j : Int) < bs.length := by omega
      go_wp2
      go_ret
      exact ⟨q, rfl, q0, q1, Below.refl _ _⟩
set_option maxRecDepth 100000 in
set_option maxHeartbeats 2000000 in
theorem wpGrown_any (n x : N) (A B : Option Addr) (c d : Nat) (w : World) (h : Lay.gate.Rd w A n.gs) (hn : n.gs.length ≤ 1048576) (h' : Lay.gate.Rd w B x.gs) (hn' : x.gs.length ≤ 1048576) (hd : x.gs.length ≤ d) (hi' : okInts x) (hok : netOk x = true) (hins : x.ins = n.ins) (hgs : ∃ t, x.gs = n.gs ++ t) :
    Calls Tryd.prog 29 #[.agg #[.int .i64 n.ins, .slice A n.gs.length c], .agg #[.int .i64 x.ins, .slice B x.gs.length d]] w (RetB w true) := by
  obtain ⟨hw, hB0, hB1, hWS⟩ := two_boxes w (.cells #[.int .i64 n.ins, .slice A n.gs.length c] 29) (.cells #[.int .i64 x.ins, .slice B x.gs.length d] 29)
  have hle : n.gs.length ≤ x.gs.length := by obtain ⟨t, ht⟩ := hgs; rw [ht]; simp
  have htk : x.gs.take n.gs.length = n.gs := by obtain ⟨t, ht⟩ := hgs; rw [ht]; simp
  have hle2 : ¬ (x.gs.length : Int) < n.gs.length := by omega
  have hne : (x.ins != n.ins) = false := by rw [hins]; simp
  have HB0 := Lib.hid hB0
  have HB1 := Lib.hid hB1
  have HW := Lib.hid hw
  have HWS := Lib.hid hWS
  have HTK := Lib.hid htk
  have HOK := Lib.hid (netOk_any x B d _ (h'.up hw) hn' hi')
  rw [hok] at HOK
  have HN := Lib.hid (h.up hw)
  have HX : Hid (Lay.gate.Rd ((w.alloc (.cells #[.int .i64 n.ins, .slice A n.gs.length c] 29)).alloc (.cells #[.int .i64 x.ins, .slice B x.gs.length d] 29)) B n.gs) := Lib.hid (by have := (h'.up hw).take n.gs.length; rw [htk] at this; exact this)
  have HI := Lib.hid hins
  have v0 := (cell_of_block hB0 0).1
  have v1 := (cell_of_block hB0 1).1
  have u0 := (cell_of_block hB1 0).1
  have u1 := (cell_of_block hB1 1).1
  clear hB0 hB1 hw hWS htk h h' hok hins hi' hgs
  go_enter Tryd.func29, Tryd.ntmps29
  go_wp2_with fail
  clear v0 v1 u0 u1
  refine HOK.out.mono ?_
  generalize (w.alloc (.cells #[.int .i64 n.ins, .slice A n.gs.length c] 29)).alloc (.cells #[.int .i64 x.ins, .slice B x.gs.length d] 29) = W at *
  rintro e w1 ⟨rfl, hb9⟩
  have HB0 := Lib.hid ((hb9.block _ (lt_of_block HB0.out)).trans HB0.out)
  have HB1 := Lib.hid ((hb9.block _ (lt_of_block HB1.out)).trans HB1.out)
  have HN := Lib.hid (HN.out.up hb9)
  have HX := Lib.hid (HX.out.up hb9)
  have hb := bthen HW.out hb9
  clear hb9 HOK HW HWS
  have d0 := Later.cell (cell_of_block HB0.out 0).1
  have d1 := Later.cell (cell_of_block HB0.out 1).1
  have g0 := Later.cell (cell_of_block HB1.out 0).1
  have g1 := Later.cell (cell_of_block HB1.out 1).1
  go_wp2
  refine wp_region_shares [[], [], [(1, 25)], [], [(3, 27)], [], [(5, 29)], [(6, 30)], [(4, 28), (7, 31)], [(2, 26), (8, 32)], [(0, 24), (9, 33)], [(10, 34)]]
    [.eq (.agg #[.int .i64 n.ins, .slice A n.gs.length c]), .eq (.pointer (some ⟨w.heap.size + 1, 0, none⟩)), .eq (.int .i64 x.ins), .eq (.pointer (some ⟨w.heap.size + 1, 1, none⟩)), .eq (.slice B x.gs.length d), .eq (.pointer (some ⟨w.heap.size, 1, none⟩)), .eq (.slice A n.gs.length c), .eq (.int .i64 (n.gs.length : Int)), .eq (.slice B n.gs.length d), .eq (.agg #[.int .i64 x.ins, .slice B n.gs.length d]), Fact.boolC w1 true, Fact.boolC w1 true]
    [] [] [] [11] [(0, 24), (1, 25), (2, 26), (3, 27), (4, 28), (5, 29), (6, 30), (7, 31), (8, 32), (9, 33), (10, 34), (11, 4)] (by kernel_rfl) (by kernel_rfl) (by kernel_rfl) (by kernel_rfl)
    ⟨?_, ?_, ?_, ?_, ?_, ?_, ?_, ?_, ?_, ?_, ?_, ?_, trivial⟩ ?_
  · intro vals x9 hC hF
    have hC := hC.resolve_left (by simp)
    have hsz := hC.size
    have e1 : x9.cell? _ = _ := d0 ⟨x9, hC⟩
    have e2 : x9.cell? _ = _ := d1 ⟨x9, hC⟩
    simp only [putsD, Act.put, List.setIfInBounds_toArray, List.set_cons_zero, List.set_cons_succ]
    go_wp2
    exact ⟨rfl, rfl, .inr (Below.refl _ _), .inr (.inl (by simp))⟩
  · intro vals x9 hC hF
    simp only [putsD, Act.put, List.setIfInBounds_toArray, List.set_cons_zero, List.set_cons_succ]
    go_wp2
    exact ⟨rfl, rfl, .inr (Below.refl _ _), .inr (.inl (by simp))⟩
  · intro vals x9 hC hF
    have hC := hC.resolve_left (by simp)
    have hsz := hC.size
    have e1 : x9.cell? _ = _ := g0 ⟨x9, hC⟩
    simp only [factsD, List.getD_cons_zero, List.getD_cons_succ, Fact.eq, Fact.row, Fact.lit, Fact.lit0, Fact.of, and_true, Fact.boolC] at hF
    simp only [putsD, Act.put, List.setIfInBounds_toArray, List.set_cons_zero, List.set_cons_succ]
    simp only [hF]
    go_wp2
    exact ⟨rfl, rfl, .inr (Below.refl _ _), .inr (.inl (by simp))⟩
  · intro vals x9 hC hF
    simp only [putsD, Act.put, List.setIfInBounds_toArray, List.set_cons_zero, List.set_cons_succ]
    go_wp2
    exact ⟨rfl, rfl, .inr (Below.refl _ _), .inr (.inl (by simp))⟩
  · intro vals x9 hC hF
    have hC := hC.resolve_left (by simp)
    have hsz := hC.size
    have e1 : x9.cell? _ = _ := g1 ⟨x9, hC⟩
    simp only [factsD, List.getD_cons_zero, List.getD_cons_succ, Fact.eq, Fact.row, Fact.lit, Fact.lit0, Fact.of, and_true, Fact.boolC] at hF
    simp only [putsD, Act.put, List.setIfInBounds_toArray, List.set_cons_zero, List.set_cons_succ]
    simp only [hF]
    go_wp2
    exact ⟨rfl, rfl, .inr (Below.refl _ _), .inr (.inl (by simp))⟩
  · intro vals x9 hC hF
    simp only [putsD, Act.put, List.setIfInBounds_toArray, List.set_cons_zero, List.set_cons_succ]
    go_wp2
    exact ⟨rfl, rfl, .inr (Below.refl _ _), .inr (.inl (by simp))⟩
  · intro vals x9 hC hF
    have hC := hC.resolve_left (by simp)
    have hsz := hC.size
    have e1 : x9.cell? _ = _ := d1 ⟨x9, hC⟩
    simp only [factsD, List.getD_cons_zero, List.getD_cons_succ, Fact.eq, Fact.row, Fact.lit, Fact.lit0, Fact.of, and_true, Fact.boolC] at hF
    simp only [putsD, Act.put, List.setIfInBounds_toArray, List.set_cons_zero, List.set_cons_succ]
    simp only [hF]
    go_wp2
    exact ⟨rfl, rfl, .inr (Below.refl _ _), .inr (.inl (by simp))⟩
  · intro vals x9 hC hF
    simp only [factsD, List.getD_cons_zero, List.getD_cons_succ, Fact.eq, Fact.row, Fact.lit, Fact.lit0, Fact.of, and_true, Fact.boolC] at hF
    simp only [putsD, Act.put, List.setIfInBounds_toArray, List.set_cons_zero, List.set_cons_succ]
    simp only [hF]
    go_wp2
    exact ⟨rfl, rfl, .inr (Below.refl _ _), .inr (.inl (by simp))⟩
  · intro vals x9 hC hF
    simp only [factsD, List.getD_cons_zero, List.getD_cons_succ, Fact.eq, Fact.row, Fact.lit, Fact.lit0, Fact.of, and_true, Fact.boolC] at hF
    simp only [putsD, Act.put, List.setIfInBounds_toArray, List.set_cons_zero, List.set_cons_succ]
    simp only [hF]
    go_wp2
    exact ⟨rfl, rfl, .inr (Below.refl _ _), .inr (.inl (by simp))⟩
  · intro vals x9 hC hF
    simp only [factsD, List.getD_cons_zero, List.getD_cons_succ, Fact.eq, Fact.row, Fact.lit, Fact.lit0, Fact.of, and_true, Fact.boolC] at hF
    simp only [putsD, Act.put, List.setIfInBounds_toArray, List.set_cons_zero, List.set_cons_succ]
    simp only [hF]
    go_wp2
    exact ⟨rfl, rfl, .inr (Below.refl _ _), .inr (.inl (by simp))⟩
  · intro vals x9 hC hF
    have hC := hC.resolve_left (by simp)
    have hsz := hC.size
    simp only [factsD, List.getD_cons_zero, List.getD_cons_succ, Fact.eq, Fact.row, Fact.lit, Fact.lit0, Fact.of, and_true, Fact.boolC] at hF
    obtain ⟨e24, e33⟩ := hF
    simp only [putsD, Act.put, List.setIfInBounds_toArray, List.set_cons_zero, List.set_cons_succ]
    simp only [e24, e33]
    go_wp2_with fail
    refine (netSame_any n ⟨x.ins, n.gs⟩ A B c d x9 (HN.out.up hC) (HX.out.up hC) hn hn).mono ?_
    rw [show decide (n = (⟨x.ins, n.gs⟩ : N)) = true by rw [HI.out]; simp]
    rintro e wx ⟨rfl, hb9⟩
    go_wp2
    exact ⟨rfl, ⟨rfl, bthen hC hb9⟩, .inr hb9, .inr (.inl (by simp))⟩
  · intro vals x9 hC hF
    have hC := hC.resolve_left (by simp)
    have hsz := hC.size
    simp only [factsD, List.getD_cons_zero, List.getD_cons_succ, Fact.eq, Fact.row, Fact.lit, Fact.lit0, Fact.of, and_true, Fact.boolC] at hF
    obtain ⟨e34, hb34⟩ := hF
    simp only [putsD, Act.put, List.setIfInBounds_toArray, List.set_cons_zero, List.set_cons_succ]
    simp only [e34]
    go_wp2
    exact ⟨rfl, ⟨rfl, hb34⟩, .inr (Below.refl _ _), .inr (.inl (by simp))⟩
  · intro vals x9 hF
    simp only [facts, List.getD_cons_zero, List.getD_cons_succ, Fact.eq, Fact.row, Fact.lit, Fact.lit0, Fact.of, and_true, Fact.boolC] at hF
    obtain ⟨e4, hb4⟩ := hF
    simp only [putsD, Act.put, List.setIfInBounds_toArray, List.set_cons_zero, List.set_cons_succ]
    simp only [e4]
    go_wp2
    go_ret
    exact ⟨rfl, bthen hb hb4⟩
end Go.Proofs.YtjghcaghigebjaaDoor

/-! What programs of gates say of the values; what they say when they are run again. -/
namespace Go.Proofs.YtjghcaghigebjaaDoor
open Go Go.RowKit

/-- A right net that has the gates of another one, and maybe more behind them. -/
structure Ext (n x : N) : Prop where
  ok : netOk x = true
  ins : x.ins = n.ins
  ext : ∃ t, x.gs = n.gs ++ t
theorem Ext.refl {n : N} (h : netOk n = true) : Ext n n := ⟨h, rfl, [], by simp⟩
theorem Ext.trans {n x y : N} (h : Ext n x) (k : Ext x y) : Ext n y := by
  obtain ⟨t, ht⟩ := h.ext
  obtain ⟨u, hu⟩ := k.ext
  exact ⟨k.ok, k.ins.trans h.ins, t ++ u, by rw [hu, ht, List.append_assoc]⟩
theorem Ext.has {n x : N} (h : Ext n x) {m : Int} (hm : netMark n m = true) : netMark x m = true := by
  obtain ⟨t, ht⟩ := h.ext
  have := netMark_iff.1 hm
  have hl : x.gs.length = n.gs.length + t.length := by rw [ht]; simp
  exact netMark_iff.2 (by have := h.ins; omega)
theorem Ext.obeys {n x : N} (h : Ext n x) {w : List Bool} (hw : Obeys x w) : Obeys n w := by
  obtain ⟨t, ht⟩ := h.ext
  obtain ⟨u, hu⟩ : ∃ u : List G, u = [] := ⟨_, rfl⟩
  refine ⟨?_, hw.one, fun k g hk j hj => hw.gate k g ?_ j (by rw [h.ins]; exact hj)⟩
  · have := hw.len; rw [h.ins, ht] at this; simp at this; omega
  · rw [ht]; exact (List.getElem?_append_left (List.getElem?_eq_some_iff.1 hk).1).trans hk
theorem Grows.to {n : N} {r : N × Int} (h : Grows n r) : Ext n r.1 := by
  obtain ⟨t, ht, _⟩ := h.ext
  exact ⟨h.ok, h.ins, t, ht⟩
theorem netMark_neg {n : N} {m : Int} (h : netMark n m = true) : netMark n (-m) = true := by
  have := netMark_iff.1 h
  exact netMark_iff.2 (by omega)

/-- Whatever marks the gates get: they are marks of the net, and they say what the gates say. -/
def PG.all {α : Type} (w : List Bool) (Φ : α → N → Prop) : PG α → N → Prop
  | .ret a, n => Φ a n
  | .and x y k, n => (netMark n x = true ∧ netMark n y = true) ∧ ∀ m n', Ext n n' → netMark n' m = true → (Obeys n' w → netLit w m = (netLit w x && netLit w y)) → (k m).all w Φ n'
  | .xor x y k, n => (netMark n x = true ∧ netMark n y = true) ∧ ∀ m n', Ext n n' → netMark n' m = true → (Obeys n' w → netLit w m = (netLit w x != netLit w y)) → (k m).all w Φ n'
theorem step_none {n : N} {r : N × Int} (h : (stepP ⟨n, none⟩ r).1.e = none) : r.2 ≠ 0 ∧ stepP ⟨n, none⟩ r = (⟨r.1, none⟩, r.2) := by
  unfold stepP at h ⊢
  rw [if_neg (by simp)] at h ⊢
  by_cases hz : r.2 = 0
  · rw [if_pos hz] at h; cases h
  · rw [if_neg hz]; exact ⟨hz, rfl⟩
theorem all_run {α : Type} {w : List Bool} {Φ : α → N → Prop} : ∀ (p : PG α) (n : N), p.all w Φ n → netOk n = true → (run opsP p ⟨n, none⟩).1.e = none → Φ (run opsP p ⟨n, none⟩).2 (run opsP p ⟨n, none⟩).1.n ∧ Ext n (run opsP p ⟨n, none⟩).1.n
  | .ret a, n, h, hn, _ => ⟨h, .refl hn⟩
  | .and x y k, n, h, hn, he => by
    obtain ⟨⟨hx, hy⟩, hk⟩ := h
    by_cases hs : (stepP ⟨n, none⟩ (and1 n x y)).1.e = none
    · obtain ⟨hz, e⟩ := step_none hs
      obtain ⟨hg, hv⟩ := and1_says hn hx hy hz
      have e1 : run opsP (.and x y k) ⟨n, none⟩ = run opsP (k (and1 n x y).2) ⟨(and1 n x y).1, none⟩ := by
        show run opsP (k (stepP ⟨n, none⟩ (and1 n x y)).2) (stepP ⟨n, none⟩ (and1 n x y)).1 = _
        rw [e]
      rw [e1] at he ⊢
      obtain ⟨h1, h2⟩ := all_run (k _) _ (hk _ _ hg.to hg.mark (hv w)) hg.ok he
      exact ⟨h1, hg.to.trans h2⟩
    · exact absurd he (run_failP (k (stepP ⟨n, none⟩ (and1 n x y)).2) _ hs)
  | .xor x y k, n, h, hn, he => by
    obtain ⟨⟨hx, hy⟩, hk⟩ := h
    by_cases hs : (stepP ⟨n, none⟩ (xor1 n x y)).1.e = none
    · obtain ⟨hz, e⟩ := step_none hs
      obtain ⟨hg, hv⟩ := xor1_says hn hx hy hz
      have e1 : run opsP (.xor x y k) ⟨n, none⟩ = run opsP (k (xor1 n x y).2) ⟨(xor1 n x y).1, none⟩ := by
        show run opsP (k (stepP ⟨n, none⟩ (xor1 n x y)).2) (stepP ⟨n, none⟩ (xor1 n x y)).1 = _
        rw [e]
      rw [e1] at he ⊢
      obtain ⟨h1, h2⟩ := all_run (k _) _ (hk _ _ hg.to hg.mark (hv w)) hg.ok he
      exact ⟨h1, hg.to.trans h2⟩
    · exact absurd he (run_failP (k (stepP ⟨n, none⟩ (xor1 n x y)).2) _ hs)
theorem all_bind {α β : Type} {w : List Bool} {Φ : β → N → Prop} (f : α → PG β) : ∀ (p : PG α) (n : N), p.all w (fun a n' => (f a).all w Φ n') n → (p.bind f).all w Φ n
  | .ret _, _, h => h
  | .and x y k, n, h => ⟨h.1, fun m n' h1 h2 h3 => all_bind f (k m) n' (h.2 m n' h1 h2 h3)⟩
  | .xor x y k, n, h => ⟨h.1, fun m n' h1 h2 h3 => all_bind f (k m) n' (h.2 m n' h1 h2 h3)⟩
theorem all_or {w : List Bool} {Φ : Int → N → Prop} {n : N} {x y : Int} (hx : netMark n x = true) (hy : netMark n y = true)
    (h : ∀ m n', Ext n n' → netMark n' m = true → (Obeys n' w → netLit w m = (netLit w x || netLit w y)) → Φ m n') : (orP x y).all w Φ n := by
  refine ⟨⟨netMark_neg hx, netMark_neg hy⟩, fun m n' he hm hv => h _ _ he (netMark_neg hm) fun hw => ?_⟩
  have := hv hw
  rw [netLit_turn ((he.obeys hw).sig hx), netLit_turn ((he.obeys hw).sig hy)] at this
  rw [netLit_turn (hw.sig hm), this]
  cases netLit w x <;> cases netLit w y <;> rfl
/-! Run again. -/
end Go.Proofs.YtjghcaghigebjaaDoor

/-! Sums, comparisons: what their programs say. -/
namespace Go.Proofs.YtjghcaghigebjaaDoor
open Go Go.RowKit

def addB : List Bool → List Bool → Bool → List Bool
  | x :: xs, y :: ys, c => ((x != y) != c) :: addB xs ys ((x && y) || ((x != y) && c))
  | _, _, _ => []
theorem all_sum {w : List Bool} : ∀ (xs ys : List Int) (c : Int) (Φ : List Int → N → Prop) (n : N), xs.length = ys.length → netOk n = true → (∀ x ∈ xs, netMark n x = true) → (∀ y ∈ ys, netMark n y = true) → netMark n c = true →
    (∀ ms n', Ext n n' → ms.length = xs.length → (∀ m ∈ ms, netMark n' m = true) → (Obeys n' w → ms.map (netLit w) = addB (xs.map (netLit w)) (ys.map (netLit w)) (netLit w c)) → Φ ms n') → (sumP xs ys c).all w Φ n
  | [], [], _, _, n, _, h0, _, _, _, h => h [] n (.refl h0) rfl (fun _ h => by cases h) fun _ => rfl
  | x :: xs, y :: ys, c, Φ, n, hl, h0, hx, hy, hc, h => by
    have x0 := hx _ (.head _)
    have y0 := hy _ (.head _)
    refine ⟨⟨x0, y0⟩, fun d n1 e1 m1 v1 => ⟨⟨m1, e1.has hc⟩, fun s n2 e2 m2 v2 => ⟨⟨e2.has (e1.has x0), e2.has (e1.has y0)⟩, fun p n3 e3 m3 v3 => ⟨⟨e3.has (e2.has m1), e3.has (e2.has (e1.has hc))⟩, fun q n4 e4 m4 v4 => ?_⟩⟩⟩⟩
    refine all_bind _ _ _ (all_or (e4.has m3) m4 fun c' n5 e5 m5 v5 => ?_)
    have e15 := e1.trans (e2.trans (e3.trans (e4.trans e5)))
    refine all_bind _ _ _ (all_sum xs ys c' _ n5 (by simpa using hl) e5.ok (fun z hz => e15.has (hx z (.tail _ hz))) (fun z hz => e15.has (hy z (.tail _ hz))) m5 fun ms n6 e6 l6 m6 v6 => ?_)
    refine h (s :: ms) n6 (e15.trans e6) (by simp [l6]) (fun z hz => ?_) fun hw => ?_
    · rcases List.mem_cons.1 hz with rfl | hz
      · exact e6.has (e5.has (e4.has (e3.has m2)))
      · exact m6 z hz
    · have w5 := e6.obeys hw
      have w4 := e5.obeys w5
      have w3 := e4.obeys w4
      have w2 := e3.obeys w3
      have w1 := e2.obeys w2
      rw [List.map_cons, v6 hw, v5 w5, v4 w4, v3 w3, v2 w2, v1 w1]
      rfl
  | [], _ :: _, _, _, _, hl, _, _, _, _, _ => by simp at hl
  | _ :: _, [], _, _, _, hl, _, _, _, _, _ => by simp at hl
/-! Numbers. -/
def bitsB : List Bool → Int
  | [] => 0
  | b :: bs => (if b then 1 else 0) + 2 * bitsB bs
theorem bitsB_cons (b : Bool) (bs : List Bool) : bitsB (b :: bs) = (if b then 1 else 0) + 2 * bitsB bs := rfl
theorem bitsOf_map (f : Int → Bool) : ∀ a : List Int, bitsOf f a = bitsB (a.map f)
  | [] => rfl
  | m :: ms => by rw [List.map_cons]; unfold bitsOf bitsB; rw [bitsOf_map f ms]
theorem bitsB_lt : ∀ a : List Bool, 0 ≤ bitsB a ∧ bitsB a < 2 ^ a.length
  | [] => by simp [bitsB]
  | b :: bs => by
    have := bitsB_lt bs
    rw [bitsB_cons, List.length_cons, Int.pow_succ]
    cases b <;> simp only [Bool.false_eq_true, if_false, if_true] <;> omega
theorem addB_len : ∀ (xs ys : List Bool) (c : Bool), xs.length = ys.length → (addB xs ys c).length = xs.length
  | [], [], _, _ => rfl
  | x :: xs, y :: ys, c, h => by simp [addB, addB_len xs ys _ (by simpa using h)]
  | [], _ :: _, _, h => by simp at h
  | _ :: _, [], _, h => by simp at h
theorem addB_val : ∀ (xs ys : List Bool) (c : Bool), xs.length = ys.length → ∃ q : Int, bitsB xs + bitsB ys + (if c then 1 else 0) = bitsB (addB xs ys c) + 2 ^ xs.length * q
  | [], [], c, _ => ⟨if c then 1 else 0, by simp [bitsB, addB]⟩
  | x :: xs, y :: ys, c, h => by
    obtain ⟨q, hq⟩ := addB_val xs ys ((x && y) || ((x != y) && c)) (by simpa using h)
    refine ⟨q, ?_⟩
    show bitsB (x :: xs) + bitsB (y :: ys) + _ = bitsB (((x != y) != c) :: addB xs ys _) + _
    rw [bitsB_cons, bitsB_cons, bitsB_cons]
    rw [List.length_cons, Int.pow_succ]
    generalize (2 : Int) ^ xs.length = P at *
    have e : P * 2 * q = 2 * (P * q) := by rw [Int.mul_comm P 2, Int.mul_assoc]
    rw [e]
    generalize P * q = R at *
    cases x <;> cases y <;> cases c <;> simp at hq ⊢ <;> omega
  | [], _ :: _, _, h => by simp at h
  | _ :: _, [], _, h => by simp at h
theorem neg_bits : ∀ xs : List Bool, bitsB (xs.map not) = 2 ^ xs.length - 1 - bitsB xs
  | [] => by simp [bitsB]
  | x :: xs => by
    rw [List.map_cons, bitsB_cons, bitsB_cons]
    rw [neg_bits xs, List.length_cons, Int.pow_succ]
    cases x <;> simp <;> omega
end Go.Proofs.YtjghcaghigebjaaDoor

/-! The multiplexer's law, plain: what BitsIf answers is right. -/
namespace Go.Proofs.YtjghcaghigebjaaDoor
open Go Go.RowKit

/-- What an answer that is not empty tells of the call. -/
theorem bitsOk_yes {n : N} {b : Bool} {p : PG (List Int)} {r : N × List Int} (hr : r = pickN (netOk n) (bitsOk n b p)) (h : r.2 ≠ []) : netOk n = true ∧ b = true ∧ (run opsP p ⟨n, none⟩).1.e = none ∧ r = ((run opsP p ⟨n, none⟩).1.n, (run opsP p ⟨n, none⟩).2) := by
  cases hk : netOk n
  · rw [hr, hk] at h; exact absurd rfl h
  · rw [hk] at hr
    unfold pickN bitsOk at hr
    cases b
    · rw [hr] at h; exact absurd rfl h
    · simp only [if_true] at hr
      unfold bitsOut at hr
      split at hr
      · rename_i he; exact ⟨rfl, rfl, he, hr⟩
      · rw [hr] at h; exact absurd rfl h
theorem bitsOk_no {n : N} {b : Bool} {p : PG (List Int)} {r : N × List Int} (hr : r = pickN (netOk n) (bitsOk n b p)) (hp : ∀ s, (run opsP p s).2 ≠ []) (h : r.2 = []) : r.1 = ⟨0, []⟩ := by
  cases hk : netOk n
  · rw [hr, hk]; rfl
  · rw [hk] at hr
    unfold pickN bitsOk at hr
    cases b
    · rw [hr]; rfl
    · simp only [if_true] at hr
      unfold bitsOut at hr
      split at hr
      · rw [hr] at h; exact absurd h (hp _)
      · rw [hr]
/-- A right net's gates are small. -/
theorem okInts_of {n : N} (h : netOk n = true) : okInts n := fun g hg => by
  obtain ⟨h0, h1, h2, h3⟩ := netOk_all.1 h
  obtain ⟨k, hk, rfl⟩ := List.getElem_of_mem hg
  have h4 := (h3 k _ (List.getElem?_eq_getElem hk)).1
  unfold okG at h4
  simp only [Bool.and_eq_true, decide_eq_true_eq] at h4
  have : k ≤ 600 := by omega
  refine ⟨⟨?_, ?_⟩, ?_, ?_⟩ <;> omega
end Go.Proofs.YtjghcaghigebjaaDoor

/-! The law of the operations on one number, plain: what BitsUn answers is right. -/
namespace Go.Proofs.YtjghcaghigebjaaDoor
open Go Go.RowKit

/-- An operation on a number of m bits. -/
def unV (op : Int) (m : Nat) (n : Int) : Int := if op = 1 then 2 ^ m - 1 - n else (2 ^ m - n) % 2 ^ m
/-- An operation on bits. -/
def unB (op : Int) (bs : List Bool) : List Bool := if op = 1 then bs.map not else addB (bs.map fun _ => false) (bs.map not) true
theorem bitsB_off : ∀ bs : List Bool, bitsB (bs.map fun _ => false) = 0
  | [] => rfl
  | b :: bs => by rw [List.map_cons, bitsB_cons, bitsB_off bs]; simp
theorem unB_len (op : Int) (bs : List Bool) : (unB op bs).length = bs.length := by
  unfold unB
  split
  · simp
  · rw [addB_len _ _ _ (by simp)]; simp
theorem unB_val (op : Int) (bs : List Bool) : bitsB (unB op bs) = unV op bs.length (bitsB bs) := by
  have hl := bitsB_lt (unB op bs)
  rw [unB_len] at hl
  have hn := neg_bits bs
  unfold unB at *
  unfold unV
  split
  · exact hn
  · rename_i h
    rw [if_neg h] at hl
    obtain ⟨q, hq⟩ := addB_val (bs.map fun _ => false) (bs.map not) true (by simp)
    rw [bitsB_off, hn, List.length_map] at hq
    generalize bitsB (addB (bs.map fun _ => false) (bs.map not) true) = r at *
    generalize (2 : Int) ^ bs.length = P at *
    have e : P - bitsB bs = r + P * q := by simp at hq; omega
    rw [e, Int.add_mul_emod_self_left, Int.emod_eq_of_lt hl.1 hl.2]
theorem one_mark9 {n : N} (h : netOk n = true) : netMark n 1 = true := netMark_iff.2 (by have := (netOk_all.1 h).1; omega)
theorem off_lit {n : N} {w : List Bool} (h : netOk n = true) (hw : Obeys n w) : netLit w (-1) = false := by
  rw [netLit_turn (hw.sig (one_mark9 h)), netLit_one hw.one]; rfl
theorem un_all {op : Int} {w : List Bool} {n : N} {xs : List Int} (h0 : netOk n = true) (hx : ∀ x ∈ xs, netMark n x = true) :
    (unP op xs).all w (fun ms n' => ms.length = xs.length ∧ (∀ m ∈ ms, netMark n' m = true) ∧ (Obeys n' w → ms.map (netLit w) = unB op (xs.map (netLit w)))) n := by
  have hneg : ∀ m ∈ xs.map Neg.neg, netMark n m = true := fun m hm => by
    obtain ⟨x, hx', rfl⟩ := List.mem_map.1 hm
    exact netMark_neg (hx x hx')
  have hval : Obeys n w → (xs.map Neg.neg).map (netLit w) = (xs.map (netLit w)).map not := fun hw => by
    rw [List.map_map, List.map_map]
    exact List.map_congr_left fun x hx' => netLit_turn (hw.sig (hx x hx'))
  unfold unP
  split
  · rename_i e
    refine ⟨by simp, hneg, fun hw => ?_⟩
    rw [hval hw]; unfold unB; rw [if_pos e]
  · rename_i e
    refine all_sum _ _ 1 _ n (by simp) h0 (fun x hx' => by rw [List.eq_of_mem_replicate hx']; exact netMark_neg (one_mark9 h0)) hneg (one_mark9 h0) fun ms n' e1 l1 m1 v1 => ⟨by rw [l1]; simp, m1, fun hw => ?_⟩
    have hw0 := e1.obeys hw
    rw [v1 hw, hval hw0, netLit_one hw.one]
    unfold unB
    rw [if_neg e]
    congr 1
    rw [List.map_replicate, off_lit h0 hw0, List.map_const', List.length_map]
/-- What an answer tells. -/
structure GrU (op : Int) (n : N) (xs : List Int) (r : N × List Int) : Prop where
  ok : netOk n = true
  ext : Ext n r.1
  len : r.2.length = xs.length
  mks : ∀ m ∈ r.2, netMark r.1 m = true
  lx : 1 ≤ xs.length ∧ xs.length ≤ 4
  hop : op = 1 ∨ op = 2
  val : ∀ ins : List Bool, (ins.length : Int) = n.ins → bitsVal (netVals r.1 ins) r.2 = unV op xs.length (bitsVal (netVals r.1 ins) xs)
theorem bitsUn_law {n : N} {op : Int} {xs : List Int} {r : N × List Int} (hr : r = pickN (netOk n) (bitsUnR n op xs)) (h : r.2 ≠ []) : GrU op n xs r := by
  obtain ⟨hok, hb, he, hv⟩ := bitsOk_yes hr h
  simp only [Bool.and_eq_true] at hb
  obtain ⟨gx, ho⟩ := hb
  obtain ⟨l1, l2, m1⟩ := goodL_iff.1 gx
  have A := fun w => all_run (w := w) (unP op xs) n (un_all hok m1) hok he
  rw [hv]
  refine ⟨hok, (A []).2, (A []).1.1, (A []).1.2.1, ⟨l1, l2⟩, by unfold opUn at ho; simpa using ho, fun ins hi => ?_⟩
  have hx := (A []).2
  have hob := (obeys_vals hx.ok (by rw [hx.ins]; exact hi)).1
  have hm := (A (netVals (run opsP (unP op xs) ⟨n, none⟩).1.n ins)).1
  generalize netVals (run opsP (unP op xs) ⟨n, none⟩).1.n ins = v at *
  have hm2 := hm.2.2 hob
  have hlen := hm.1
  have bv : ∀ l : List Int, l.length ≤ 4 → bitsVal v l = bitsB (l.map (netLit v)) := fun l hl4 => by unfold bitsVal; rw [if_neg (by omega), bitsOf_map]
  dsimp only
  rw [bv _ (by omega), bv xs l2, hm2, unB_val, List.length_map]
theorem bitsUn_empty {n : N} {op : Int} {xs : List Int} {r : N × List Int} (hr : r = pickN (netOk n) (bitsUnR n op xs)) (h : r.2 = []) : r.1 = ⟨0, []⟩ := by
  by_cases hx : xs = []
  · rw [hr]
    cases netOk n
    · rfl
    · unfold pickN bitsUnR bitsOk
      rw [if_neg]
      simp only [Bool.and_eq_true]
      rintro ⟨gx, _⟩
      have := (goodL_iff.1 gx).1
      rw [hx] at this; simp at this
  · refine bitsOk_no hr (fun s e => ?_) h
    have := unP_len (o := opsP) op xs s
    rw [e] at this
    exact hx (List.eq_nil_of_length_eq_zero (by simpa using this.symm))
end Go.Proofs.YtjghcaghigebjaaDoor

/-! The program's bit vectors: VecOk, VecSigned, VecCmp where the vectors are right. -/
namespace Go.Proofs.YtjghcaghigebjaaDoor
open Go Go.RowKit

theorem four_of {m : Nat} (h : 1 ≤ m) (h' : m ≤ 4) : m = 1 ∨ m = 2 ∨ m = 3 ∨ m = 4 := by omega
theorem two_pow_cases {m : Nat} {n : Int} (h : 1 ≤ m) (h' : m ≤ 4) (hn : n < 2 ^ m) : (m = 1 ∧ n < 2) ∨ (m = 2 ∧ n < 4) ∨ (m = 3 ∧ n < 8) ∨ (m = 4 ∧ n < 16) := by
  rcases four_of h h' with rfl | rfl | rfl | rfl <;> simp at hn ⊢ <;> omega
set_option maxHeartbeats 2000000 in
theorem vecOk_any (m : Nat) (n : Int) (w : World) (h : 1 ≤ m) (h' : m ≤ 4) (n0 : 0 ≤ n) (hn : n < 2 ^ m) :
    Calls Tryd.prog 71 #[.agg #[.int .i64 (m : Int), .int .i64 n]] w (RetB w true) := by
  have hc := two_pow_cases h h' hn
  clear h h' hn
  have hal : Below w.heap.size w (w.alloc (.cells #[.int .i64 (m : Int), .int .i64 n] 54)) := (Below.refl _ _).alloc (Nat.le_refl _) _
  have HAL := Lib.hid hal
  clear hal
  rcases hc with ⟨rfl, hn⟩ | ⟨rfl, hn⟩ | ⟨rfl, hn⟩ | ⟨rfl, hn⟩
  all_goals
    simp only [Int.cast_ofNat_Int] at HAL ⊢
    go_enter Tryd.func71, Tryd.ntmps71
    go_wp2
    go_quiet (fail)
    go_wp2
    go_ret
    exact ⟨rfl, below_drewN HAL.out _⟩
theorem raw_any (m : Nat) (n : Int) (w : World) (n0 : 0 ≤ n) (hn : n < 16) :
    Calls Tryd.prog 74 #[.agg #[.int .i64 (m : Int), .int .i64 n]] w fun e w' => e = .returned (.int .u64 n) ∧ Below w.heap.size w w' := by
  have hal : Below w.heap.size w (w.alloc (.cells #[.int .i64 (m : Int), .int .i64 n] 54)) := (Below.refl _ _).alloc (Nat.le_refl _) _
  have HAL := Lib.hid hal
  clear hal
  go_enter Tryd.func74, Tryd.ntmps74
  go_wp2
  go_ret
  exact ⟨rfl, HAL.out⟩
theorem sixteen {n : Int} (h0 : 0 ≤ n) (h : n < 16) : n = 0 ∨ n = 1 ∨ n = 2 ∨ n = 3 ∨ n = 4 ∨ n = 5 ∨ n = 6 ∨ n = 7 ∨ n = 8 ∨ n = 9 ∨ n = 10 ∨ n = 11 ∨ n = 12 ∨ n = 13 ∨ n = 14 ∨ n = 15 := by omega
end Go.Proofs.YtjghcaghigebjaaDoor
