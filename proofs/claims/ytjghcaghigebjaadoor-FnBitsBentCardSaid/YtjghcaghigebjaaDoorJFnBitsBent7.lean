/- Draws of nets and of two numbers: l7Net, l7Two. Draws of a net and the marks of two numbers: l7Two, DrawBitsIf. Draws for the laws on bits: DrawBitsIf, DrawBitsCmp. Draws for the laws on bits: DrawBitsCmp. What programs of gates say of the values; what they say when they are run again. Sums, comparisons: what their programs say. The multiplexer's law, plain: what BitsIf answers is right. The program's bit vectors: VecOk, VecSigned, VecCmp where the vectors are right. The program's VecCmp where the vectors are right and of one width. The comparisons' law, plain: what BitsCmp answers is right. The program's signals turned, signals that are off. The reference's l7Fill and l7Turn. The reference's l7Add. The program's sums; its operations on one list. The program's signals that are off; its operations on one list. The program's rows of signals, one behind the other; bin at OpCat. The program's BitsBin, whatever its operation makes. -/
import Derived.Lib.Mul64
import Derived.Laws.Bits64b
import Derived.Laws.CopyOwn
import Derived.Deep.OwnRows
import Derived.Lib.AppendZeros
import Derived.Test.YtjghcaghigebjaaDoorJFnBitsBent0
import Derived.Test.YtjghcaghigebjaaDoorJFnBitsBent1
import Derived.Test.YtjghcaghigebjaaDoorJFnBitsBent2
import Derived.Test.YtjghcaghigebjaaDoorJFnBitsBent3
import Derived.Test.YtjghcaghigebjaaDoorJFnBitsBent4
import Derived.Test.YtjghcaghigebjaaDoorJFnBitsBent6
/-! Draws of nets and of two numbers: l7Net, l7Two. -/
namespace Go.Proofs.YtjghcaghigebjaaDoor
open Go Go.RowKit

/-- What a drawn net's slots say. -/
def SayT (S : Nat → Prop) (k : Nat) (v : Value) (y : World) : Prop := ∃ n' A' c' m', v = .tuple #[.agg #[.int .i64 (N.ins n'), .slice A' (N.gs n').length c'], .int .i64 m'] ∧ smallN k n' ∧ Lay.gate.Sl y (Ab S y) A' n'.gs
def SayN (S : Nat → Prop) (k : Nat) (v : Value) (y : World) : Prop := ∃ n' A' c', v = .agg #[.int .i64 (N.ins n'), .slice A' (N.gs n').length c'] ∧ smallN k n' ∧ Lay.gate.Sl y (Ab S y) A' n'.gs
def SayI (v : Value) : Prop := ∃ b, v = .int .i64 b ∧ -3000000 ≤ b ∧ b ≤ 3000000
theorem SayT.gr {S T : Nat → Prop} {k : Nat} {v : Value} {x y : World} (h : SayT S k v x) (hg : Gr T x y) (hT : ∀ b, T b → S b) : SayT S k v y := by
  obtain ⟨n', A', c', m', h1, h2, h3⟩ := h
  exact ⟨n', A', c', m', h1, h2, h3.gr (hg.mono hT)⟩
theorem SayN.gr {S T : Nat → Prop} {k : Nat} {v : Value} {x y : World} (h : SayN S k v x) (hg : Gr T x y) (hT : ∀ b, T b → S b) : SayN S k v y := by
  obtain ⟨n', A', c', h1, h2, h3⟩ := h
  exact ⟨n', A', c', h1, h2, h3.gr (hg.mono hT)⟩
/-- What is so while two marks are drawn and a gate is made of them. -/
def NetQ (S T : Nat → Prop) (r : Nat) (q0 : Int) (k : Nat) (w : World) (b3 : Nat) (o : Obj) (d1 d2 done : Bool) (x : World) : Prop :=
  Gr T w x ∧ (∃ q, Rdr x r q ∧ q0 ≤ q ∧ q ≤ q0 + (if d1 = true then 2 else 0) + (if d2 = true then 2 else 0)) ∧ (done = false → x.heap[b3]? = some o) ∧ NetIn (smallN k) S b3 x
theorem NetQ.low {S T : Nat → Prop} {r : Nat} {q0 : Int} {k : Nat} {w x x' : World} {b3 : Nat} {o : Obj} {d1 d2 done : Bool} (h : NetQ S T r q0 k w b3 o d1 d2 done x) (hb : Below x.heap.size x x') : NetQ S T r q0 k w b3 o d1 d2 done x' := by
  obtain ⟨h1, ⟨q, h2, h3, h4⟩, h5, h6⟩ := h
  exact ⟨h1.up hb, ⟨q, h2.up hb, h3, h4⟩, fun hd => (hb.block _ (Array.getElem?_eq_some_iff.1 (h5 hd)).1).trans (h5 hd), h6.gr (T := fun _ => False) (.below hb) (fun h => h) (fun _ h => h.elim)⟩
theorem NetQ.draw {S T : Nat → Prop} {r : Nat} {q0 q : Int} {k : Nat} {w x x' : World} {b3 : Nat} {o : Obj} {d1 d2 e1 e2 : Bool} {done : Bool} (h : NetQ S T r q0 k w b3 o d1 d2 done x) (hd : Drawn r q 2 x x') (hq0 : q0 ≤ q) (hq : q + 2 ≤ q0 + (if e1 = true then 2 else 0) + (if e2 = true then 2 else 0)) (hT : T r) (hTS : ∀ b, T b → S b) (hr : b3 ≠ r) : NetQ S T r q0 k w b3 o e1 e2 done x' ∧ Gr T x x' := by
  obtain ⟨h1, _, h5, h6⟩ := h
  obtain ⟨q', d1, d2, d3, d4⟩ := hd
  have hg : Gr T x x' := d4.mono fun b hb => by rw [hb]; exact hT
  exact ⟨⟨h1.trans hg, ⟨q', d3, by omega, by omega⟩, fun hd => d4.heap (by exact hr) (h5 hd), h6.gr d4 (by exact hr) (fun b hb => by rw [hb]; exact hTS r hT)⟩, hg⟩
set_option maxRecDepth 100000 in
set_option maxHeartbeats 4000000 in
theorem l7Net_any (S0 : Nat → Prop) (r : Nat) (p : Int) (w : World) (h : Rdr w r p) (hS0 : ∀ b, S0 b → b < w.heap.size) (hSr : S0 r) (p0 : 0 ≤ p) (p1 : p ≤ 600000000) :
    Calls Tryd.prog 89 #[.pointer (some ⟨r, 0, none⟩)] w (RetDN S0 r p 2000 (bentN 4) w) := by
  have hrl := h.lt
  have hal0 : Below w.heap.size w (w.alloc (.cells #[.int .i64 0, .slice none 0 0] 29)) := (Below.refl _ _).alloc (Nat.le_refl _) _
  have hb2 : (w.alloc (.cells #[.int .i64 0, .slice none 0 0] 29)).heap[w.heap.size]? = some (.cells #[.int .i64 0, .slice none 0 0] 29 (0, 0)) := heap_alloc_new _ _
  have hsz0 : (w.alloc (.cells #[.int .i64 0, .slice none 0 0] 29)).heap.size = w.heap.size + 1 := by simp
  have hR0 := h.up hal0
  have hg0 : Gr (IsR r) w (w.alloc (.cells #[.int .i64 0, .slice none 0 0] 29)) := .below hal0
  have hal1 : Below (w.alloc (.cells #[.int .i64 0, .slice none 0 0] 29)).heap.size (w.alloc (.cells #[.int .i64 0, .slice none 0 0] 29)) ((w.alloc (.cells #[.int .i64 0, .slice none 0 0] 29)).alloc (.cells #[.int .i64 8, .int .i64 8, .int .i64 6, .int .i64 4, .int .i64 3] 3)) := (Below.refl _ _).alloc (Nat.le_refl _) _
  have hsl := lit_sl (S := IsR r) (w.alloc (.cells #[.int .i64 0, .slice none 0 0] 29)) [8, 8, 6, 4, 3] _ 3 rfl (by show ¬ _ = r; rw [hsz0]; omega)
  have hnum := num_any r p _ 5 _ _ (hR0.up hal1) hsl (by simp) (by simp) (by omega) (by omega)
  rw [hsz0] at hnum
  have HN := Lib.hid hnum
  clear hnum
  have hb2 := (hal1.block _ (lt_of_block hb2)).trans hb2
  have hg1 := hg0.up hal1
  have HB2 := Lib.hid hb2
  clear hal0 hal1 h hsl hR0 hg0 hsz0 hb2
  go_enter Tryd.func89, Tryd.ntmps89
  go_wp2_with fail
  refine HN.out.mono ?_
  clear HN
  generalize (w.alloc (.cells #[.int .i64 0, .slice none 0 0] 29)).alloc (.cells #[.int .i64 8, .int .i64 8, .int .i64 6, .int .i64 4, .int .i64 3] 3) = w0 at *
  rintro e w1 ⟨k, hk, rfl, hR1, hg1'⟩
  have hk8 : 0 ≤ k ∧ k ≤ 8 := by simp at hk; omega
  obtain ⟨k0, k1⟩ := hk8
  have HB2 := Lib.hid (hg1'.heap (by show ¬ _ = r; omega) HB2.out)
  have hgg1 := hg1.trans hg1'
  have hsz1 := hgg1.size
  have hb2l := lt_of_block HB2.out
  clear hk hg1 hg1'
  have hal : Below w1.heap.size w1 (w1.alloc (.cells #[.int .i64 k, .slice none 0 0] 29)) := (Below.refl _ _).alloc (Nat.le_refl _) _
  have HB3 := Lib.hid (heap_alloc_new w1 (.cells #[.int .i64 k, .slice none 0 0] 29))
  have HB2 := Lib.hid ((hal.block _ (lt_of_block HB2.out)).trans HB2.out)
  have hR2 := hR1.up hal
  have hgg2 := hgg1.up hal
  have HSZ2 := Lib.hid (show (w1.alloc (.cells #[.int .i64 k, .slice none 0 0] 29)).heap.size = w1.heap.size + 1 by simp)
  clear hal hR1 hgg1
  go_wp2_with fail
  have hsz2 := HSZ2.out
  clear HSZ2
  generalize w1.alloc (.cells #[.int .i64 k, .slice none 0 0] 29) = w2 at *
  generalize hb3e : w1.heap.size = b3 at *
  generalize hb2e : w.heap.size = b2 at *
  have HB2E := Lib.hid hb2e
  have i3 : b2 < b3 := by omega
  have i4 : r < b2 := by omega
  clear hb2e hb3e hsz1 hrl
  refine (pick_any r (p + 1) 4 w2 hR2 (by omega) (by omega) (by omega) (by omega)).mono ?_
  rintro e w4 ⟨n, rfl, n0, n1, _, hR4, hg4⟩
  have hn1 : n ≤ 3 := by have := n1 (by omega); omega
  have hg4 := Gr.one (S := IsR r) hg4 rfl
  have HB2 := Lib.hid (hg4.heap (by show ¬ _ = r; omega) HB2.out)
  have HB3 := Lib.hid (hg4.heap (by show ¬ _ = r; omega) HB3.out)
  have hgg4 := hgg2.trans hg4
  have hsz4 := hg4.size
  obtain ⟨n, rfl⟩ := Int.eq_ofNat_of_zero_le n0
  clear hgg2 hg4 n1 hR2 hsz2
  obtain ⟨S, hS⟩ : ∃ S : Nat → Prop, ∀ b, S b ↔ S0 b ∨ b = b2 ∨ b = b3 := ⟨fun b => S0 b ∨ b = b2 ∨ b = b3, fun _ => Iff.rfl⟩
  have HS := Lib.hid hS
  have hSlt : ∀ b, S b → b < b3 + 1 := fun b hb => by
    rcases (hS b).1 hb with h9 | h9 | h9
    · have := hS0 b h9; omega
    · omega
    · omega
  have hTS : ∀ b, (b = r ∨ b = b3) → S b := fun b hb => by
    rcases hb with rfl | rfl
    · exact (hS _).2 (.inl hSr)
    · exact (hS _).2 (.inr (.inr rfl))
  have HS0 : Hid (∀ b, S0 b → S b) := Lib.hid fun b hb => (hS b).2 (.inl hb)
  have HSr : Hid (S r) := Lib.hid ((hS _).2 (.inl hSr))
  have HSL := Lib.hid (And.intro hSlt hTS)
  have hb3lt := lt_of_block HB3.out
  clear hSlt hTS hS hS0
  go_wp2
  go_loopw [4] (fun i wr => ∃ (j : Nat) (m : N) (A : Option Addr) (c : Nat) (q : Int), j ≤ n ∧ i = .int .i64 j ∧ smallN (n - j) m ∧ wr.heap[b3]? = some (.cells #[.int .i64 m.ins, .slice A m.gs.length c] 29 (0, 0)) ∧ wr.heap[b2]? = some (.cells #[.int .i64 0, .slice none 0 0] 29 (0, 0)) ∧
    Lay.gate.Sl wr (Ab S wr) A m.gs ∧ Rdr wr r q ∧ p ≤ q ∧ q ≤ p + 2 + 40 * (n - j) ∧ Gr (IsR r) w wr) (fun i _ => (intOf i).toNat)
  case atStart => exact ⟨n, ⟨k, []⟩, none, 0, p + 1 + 1, Nat.le_refl _, rfl, ⟨k0, k1, by simp, fun g hg => by cases hg⟩, HB3.out, HB2.out, .nil _ _ _ _, hR4, by omega, by omega, hgg4⟩
  case round =>
    obtain ⟨j, m, A, c, q, hj, rfl, hsm, hb3, hb2, hsl, hR, q0, q1, hg⟩ := hrel
    have HB3 := Lib.hid hb3
    have HB2 := Lib.hid hb2
    have HSM := Lib.hid hsm
    have hmi : 0 ≤ m.ins ∧ m.ins ≤ 8 ∧ m.gs.length ≤ 100 := ⟨hsm.1, hsm.2.1, by have := hsm.2.2.1; omega⟩
    have hlt3 := lt_of_block hb3
    have HSLR := Lib.hid hsl
    have HR := Lib.hid hR
    have HG := Lib.hid hg
    have HHA := Lib.hid (fun e => sl_none hsl e)
    clear hb3 hb2 hsm hsl hR hg
    by_cases hlt : 0 < j
    · have hj1 : (0 : Int) < j := by omega
      go_wp2
      refine wp_region_rel4 [[], [], [], [(1, 17), (2, 18)], [], [], [(4, 20), (5, 21)], [(0, 16), (3, 19), (6, 22)], [(7, 23)], [(8, 15)], [(8, 15)], [(9, 24)]]
        (Gr (fun b => b = r ∨ b = b3))
        []
        (fun f9 x9 => NetQ S (fun b => b = r ∨ b = b3) r q (n - j + 1) wr b3 (.cells #[.int .i64 m.ins, .slice A m.gs.length c] 29 (0, 0)) (f9 3) (f9 6) (f9 11) x9)
        [fun vs9 _ => vs9 0 = (.agg #[.int .i64 m.ins, .slice A m.gs.length c]),
    fun vs9 _ => vs9 1 = (.pointer (some ⟨r, 0, none⟩)),
    fun vs9 _ => vs9 2 = (.agg #[.int .i64 m.ins, .slice A m.gs.length c]),
    fun vs9 y9 => (fun v _ => SayI v) (vs9 3) y9,
    fun vs9 _ => vs9 4 = (.pointer (some ⟨r, 0, none⟩)),
    fun vs9 _ => vs9 5 = (.agg #[.int .i64 m.ins, .slice A m.gs.length c]),
    fun vs9 y9 => (fun v _ => SayI v) (vs9 6) y9,
    fun vs9 y9 => (fun v yy => SayT S (n - j + 1) v yy) (vs9 7) y9,
    fun vs9 y9 => (fun v yy => SayT S (n - j + 1) v yy) (vs9 8) y9,
    fun vs9 y9 => (fun v yy => SayN S (n - j + 1) v yy) (vs9 9) y9,
    fun _ _ => True,
    fun _ _ => True]
        [(0, 16), (1, 17), (2, 18), (3, 19), (4, 20), (5, 21), (6, 22), (7, 23), (8, 15), (9, 24), (10, 25)] (by kernel_rfl) (by kernel_rfl) (by kernel_rfl) (by kernel_rfl)
        (fun _ => Gr.refl _ _) trivial
        ⟨⟨.inr (fun _ _ _ h _ => h), trivial⟩,
    ⟨.inr (fun _ _ _ h _ => h), trivial⟩,
    ⟨.inr (fun _ _ _ h _ => h), trivial⟩,
    ⟨.inr (fun vs9 x9 y9 h9 hR9 => (show ∀ v9 y8 y7, (fun v _ => SayI v) v9 y8 → (Gr (fun b => b = r ∨ b = b3)) y8 y7 → (fun v _ => SayI v) v9 y7 from fun _ _ _ h _ => h) (vs9 3) x9 y9 h9 hR9), trivial⟩,
    ⟨.inr (fun _ _ _ h _ => h), trivial⟩,
    ⟨.inr (fun _ _ _ h _ => h), trivial⟩,
    ⟨.inr (fun vs9 x9 y9 h9 hR9 => (show ∀ v9 y8 y7, (fun v _ => SayI v) v9 y8 → (Gr (fun b => b = r ∨ b = b3)) y8 y7 → (fun v _ => SayI v) v9 y7 from fun _ _ _ h _ => h) (vs9 6) x9 y9 h9 hR9), trivial⟩,
    ⟨.inr (fun vs9 x9 y9 h9 hR9 => (show ∀ v9 y8 y7, (fun v yy => SayT S (n - j + 1) v yy) v9 y8 → (Gr (fun b => b = r ∨ b = b3)) y8 y7 → (fun v yy => SayT S (n - j + 1) v yy) v9 y7 from fun _ _ _ h hR => h.gr hR HSL.out.2) (vs9 7) x9 y9 h9 hR9), trivial⟩,
    ⟨.inr (fun vs9 x9 y9 h9 hR9 => (show ∀ v9 y8 y7, (fun v yy => SayT S (n - j + 1) v yy) v9 y8 → (Gr (fun b => b = r ∨ b = b3)) y8 y7 → (fun v yy => SayT S (n - j + 1) v yy) v9 y7 from fun _ _ _ h hR => h.gr hR HSL.out.2) (vs9 8) x9 y9 h9 hR9), trivial⟩,
    ⟨.inr (fun vs9 x9 y9 h9 hR9 => (show ∀ v9 y8 y7, (fun v yy => SayN S (n - j + 1) v yy) v9 y8 → (Gr (fun b => b = r ∨ b = b3)) y8 y7 → (fun v yy => SayN S (n - j + 1) v yy) v9 y7 from fun _ _ _ h hR => h.gr hR HSL.out.2) (vs9 9) x9 y9 h9 hR9), trivial⟩,
    ⟨.inr (fun _ _ _ h _ => h), trivial⟩,
    ⟨.inr (fun _ _ _ h _ => h), trivial⟩, trivial⟩ ⟨fun vs vs' x h _ hv => (by dsimp only at hv ⊢; first | (rw [← h]; exact hv) | exact hv),
    fun vs vs' x h _ hv => (by dsimp only at hv ⊢; first | (rw [← h]; exact hv) | exact hv),
    fun vs vs' x h _ hv => (by dsimp only at hv ⊢; first | (rw [← h]; exact hv) | exact hv),
    fun vs vs' x h _ hv => (by dsimp only at hv ⊢; first | (rw [← h]; exact hv) | exact hv),
    fun vs vs' x h _ hv => (by dsimp only at hv ⊢; first | (rw [← h]; exact hv) | exact hv),
    fun vs vs' x h _ hv => (by dsimp only at hv ⊢; first | (rw [← h]; exact hv) | exact hv),
    fun vs vs' x h _ hv => (by dsimp only at hv ⊢; first | (rw [← h]; exact hv) | exact hv),
    fun vs vs' x h _ hv => (by dsimp only at hv ⊢; first | (rw [← h]; exact hv) | exact hv),
    fun vs vs' x h _ hv => (by dsimp only at hv ⊢; first | (rw [← h]; exact hv) | exact hv),
    fun vs vs' x h _ hv => (by dsimp only at hv ⊢; first | (rw [← h]; exact hv) | exact hv),
    fun _ _ _ _ _ _ => trivial,
    fun _ _ _ _ _ _ => trivial, trivial⟩ (⟨.below (below_drewN (Below.refl _ _) 1), ⟨q, HR.out.up (below_drewN (Below.refl _ _) 1), by omega, by simp⟩, fun _ => ((below_drewN (Below.refl _ _) 1 : Below wr.heap.size wr _).block _ (lt_of_block HB3.out)).trans HB3.out, NetIn.gr (T := fun _ => False) (show NetIn (smallN (n - j + 1)) S b3 wr from ⟨m, A, c, HB3.out, HSM.out.mono (by omega), HSLR.out⟩) (.below (below_drewN (Below.refl _ _) 1)) (fun h => h) (fun _ h => h.elim)⟩) ⟨?_, ?_, ?_, ?_, ?_, ?_, ?_, ?_, ?_, ?_, ?_, ?_, trivial⟩ ?_
      · intro vals xw f hf1 hf2 hf3 hI hF
        have k11 : f 11 = false := hf3 11 (by kernel_rfl)
        clear hf2 hf3
        dsimp only [owes4, bare]
        simp only [putsD, Act.put, List.setIfInBounds_toArray, List.set_cons_zero, List.set_cons_succ]
        have hk9 := hI.2.2.1 k11
        have c0 : xw.cell? ⟨b3, 0, none⟩ = some (.int .i64 m.ins) := (cell_of_block hk9 0).1
        have c1 : xw.cell? ⟨b3, 1, none⟩ = some (.slice A m.gs.length c) := (cell_of_block hk9 1).1
        clear hk9
        go_wp2
        exact ⟨rfl, rfl, Gr.refl _ _, hI⟩
      · intro vals xw f hf1 hf2 hf3 hI hF
        clear hf2 hf3
        dsimp only [owes4, bare]
        simp only [putsD, Act.put, List.setIfInBounds_toArray, List.set_cons_zero, List.set_cons_succ]
        go_wp2
        exact ⟨rfl, rfl, Gr.refl _ _, hI⟩
      · intro vals xw f hf1 hf2 hf3 hI hF
        have k11 : f 11 = false := hf3 11 (by kernel_rfl)
        clear hf2 hf3
        dsimp only [owes4, bare]
        simp only [putsD, Act.put, List.setIfInBounds_toArray, List.set_cons_zero, List.set_cons_succ]
        have hk9 := hI.2.2.1 k11
        have c0 : xw.cell? ⟨b3, 0, none⟩ = some (.int .i64 m.ins) := (cell_of_block hk9 0).1
        have c1 : xw.cell? ⟨b3, 1, none⟩ = some (.slice A m.gs.length c) := (cell_of_block hk9 1).1
        clear hk9
        go_wp2
        exact ⟨rfl, rfl, Gr.refl _ _, hI⟩
      · intro vals xw f hf1 hf2 hf3 hI hF
        clear hf2 hf3
        simp only [saysD, List.getD_cons_zero, List.getD_cons_succ, and_true] at hF
        obtain ⟨e1, e2⟩ := hF
        dsimp only [owes4, bare]
        simp only [putsD, Act.put, List.setIfInBounds_toArray, List.set_cons_zero, List.set_cons_succ]
        simp only [e1, e2]
        have HI := Lib.hid hI
        obtain ⟨_, ⟨q', hq, q'0, q'1⟩, _, _⟩ := hI
        rw [hf1] at q'1
        have hq9 : q' ≤ q + 4 := by revert q'1; cases f 6 <;> simp <;> omega
        go_wp2_with fail
        refine (l6Lit_any r q' m A c xw hq (by omega) (by omega) (by omega) (by omega) (by omega)).mono ?_
        rintro e wx ⟨b, rfl, ⟨b0, b1, b2', _⟩, hd⟩
        have HD := Lib.hid (HI.out.draw (e1 := true) (e2 := (f 6)) hd q'0 (by revert q'1; cases f 6 <;> simp <;> omega) (.inl rfl) HSL.out.2 (by omega))
        clear hd
        go_wp2
        exact ⟨rfl, ⟨b, rfl, b1, b2'⟩, HD.out.2, HD.out.1⟩
      · intro vals xw f hf1 hf2 hf3 hI hF
        clear hf2 hf3
        dsimp only [owes4, bare]
        simp only [putsD, Act.put, List.setIfInBounds_toArray, List.set_cons_zero, List.set_cons_succ]
        go_wp2
        exact ⟨rfl, rfl, Gr.refl _ _, hI⟩
      · intro vals xw f hf1 hf2 hf3 hI hF
        have k11 : f 11 = false := hf3 11 (by kernel_rfl)
        clear hf2 hf3
        dsimp only [owes4, bare]
        simp only [putsD, Act.put, List.setIfInBounds_toArray, List.set_cons_zero, List.set_cons_succ]
        have hk9 := hI.2.2.1 k11
        have c0 : xw.cell? ⟨b3, 0, none⟩ = some (.int .i64 m.ins) := (cell_of_block hk9 0).1
        have c1 : xw.cell? ⟨b3, 1, none⟩ = some (.slice A m.gs.length c) := (cell_of_block hk9 1).1
        clear hk9
        go_wp2
        exact ⟨rfl, rfl, Gr.refl _ _, hI⟩
      · intro vals xw f hf1 hf2 hf3 hI hF
        clear hf2 hf3
        simp only [saysD, List.getD_cons_zero, List.getD_cons_succ, and_true] at hF
        obtain ⟨e1, e2⟩ := hF
        dsimp only [owes4, bare]
        simp only [putsD, Act.put, List.setIfInBounds_toArray, List.set_cons_zero, List.set_cons_succ]
        simp only [e1, e2]
        have HI := Lib.hid hI
        obtain ⟨_, ⟨q', hq, q'0, q'1⟩, _, _⟩ := hI
        rw [hf1] at q'1
        have hq9 : q' ≤ q + 4 := by revert q'1; cases f 3 <;> simp <;> omega
        go_wp2_with fail
        refine (l6Lit_any r q' m A c xw hq (by omega) (by omega) (by omega) (by omega) (by omega)).mono ?_
        rintro e wx ⟨b, rfl, ⟨b0, b1, b2', _⟩, hd⟩
        have HD := Lib.hid (HI.out.draw (e1 := (f 3)) (e2 := true) hd q'0 (by revert q'1; cases f 3 <;> simp <;> omega) (.inl rfl) HSL.out.2 (by omega))
        clear hd
        go_wp2
        exact ⟨rfl, ⟨b, rfl, b1, b2'⟩, HD.out.2, HD.out.1⟩
      · intro vals xw f hf1 hf2 hf3 hI hF
        clear hf2 hf3
        simp only [saysD, List.getD_cons_zero, List.getD_cons_succ, and_true] at hF
        obtain ⟨e1, ⟨a, e2, a1, a2⟩, b, e3, b1, b2'⟩ := hF
        dsimp only [owes4, bare]
        simp only [putsD, Act.put, List.setIfInBounds_toArray, List.set_cons_zero, List.set_cons_succ]
        simp only [e1, e2, e3]
        have HI := Lib.hid hI
        have hslx := HSLR.out.gr (hI.1.mono HSL.out.2)
        have hsx := hI.1.size
        clear hI
        go_wp2_with fail
        refine (l6And_any (Ab S xw) A c m a b xw hslx (fun b h => h.1) (by omega) HHA.out (by omega) (by omega) (by omega) (by omega)).mono ?_
        rintro e wx ⟨A', c', rfl, _, hs', hb'⟩
        have HM := Lib.hid (sl_made hs' (fun b hb => by have := HSL.out.1 b hb; omega) hb')
        have HI2 := Lib.hid (HI.out.low hb')
        have HSM2 : Hid (smallN (n - j + 1) (and1 m a b).1) := Lib.hid (and1_small HSM.out (by unfold okInt; omega) (by unfold okInt; omega))
        have HBB := Lib.hid hb'
        clear hs' hb' hslx
        go_wp2
        exact ⟨rfl, ⟨_, A', c', _, rfl, HSM2.out, HM.out⟩, .below HBB.out, HI2.out⟩
      · intro vals xw f hf1 hf2 hf3 hI hF
        clear hf2 hf3
        simp only [saysD, List.getD_cons_zero, List.getD_cons_succ, and_true] at hF
        obtain ⟨n', A', c', m', e1, hP⟩ := hF
        dsimp only [owes4, bare]
        simp only [putsD, Act.put, List.setIfInBounds_toArray, List.set_cons_zero, List.set_cons_succ]
        simp only [e1]
        go_wp2
        exact ⟨rfl, ⟨n', A', c', m', rfl, hP⟩, Gr.refl _ _, hI⟩
      · intro vals xw f hf1 hf2 hf3 hI hF
        clear hf2 hf3
        simp only [saysD, List.getD_cons_zero, List.getD_cons_succ, and_true] at hF
        obtain ⟨n', A', c', m', e1, hP⟩ := hF
        dsimp only [owes4, bare]
        simp only [putsD, Act.put, List.setIfInBounds_toArray, List.set_cons_zero, List.set_cons_succ]
        simp only [e1]
        go_wp2
        exact ⟨rfl, ⟨n', A', c', rfl, hP⟩, Gr.refl _ _, hI⟩
      · intro vals xw f hf1 hf2 hf3 hI hF
        clear hf2 hf3
        simp only [saysD, List.getD_cons_zero, List.getD_cons_succ, and_true] at hF
        obtain ⟨n', A', c', m', e1, hP⟩ := hF
        dsimp only [owes4, bare]
        simp only [putsD, Act.put, List.setIfInBounds_toArray, List.set_cons_zero, List.set_cons_succ]
        simp only [e1]
        go_wp2
        exact ⟨rfl, trivial, Gr.refl _ _, hI⟩
      · intro vals xw f hf1 hf2 hf3 hI hF
        clear hf2 hf3
        simp only [saysD, List.getD_cons_zero, List.getD_cons_succ, and_true] at hF
        obtain ⟨n', A', c', e1, hs', hl'⟩ := hF
        dsimp only [owes4, bare]
        simp only [putsD, Act.put, List.setIfInBounds_toArray, List.set_cons_zero, List.set_cons_succ]
        simp only [e1]
        obtain ⟨i1, ⟨q', i2, i3, i4⟩, i5, _⟩ := hI
        have hk := i5 hf1
        have v0 := (cell_of_block hk 0).1
        have v1 := (cell_of_block hk 1).1
        have f0 := (cell_of_block hk 0).2
        have f1 := (cell_of_block hk 1).2
        have hh := heap_set_same _ b3 1 (.slice A' n'.gs.length c') _ _ (heap_set_same xw b3 0 (.int .i64 n'.ins) _ _ hk)
        have hg : Gr (fun z => z = b3) xw ((xw.setCell ⟨b3, 0, none⟩ (.int .i64 n'.ins)).setCell ⟨b3, 1, none⟩ (.slice A' n'.gs.length c')) := ((Gr.refl (fun z => z = b3) xw).set _ _ _ (.inl (by rfl))).set _ _ _ (.inl (by rfl))
        have HL := Lib.hid (And.intro hh (And.intro hg (And.intro i1 (And.intro i2 (And.intro hs' hl')))))
        have HK := Lib.hid hk
        clear hk hg hs' hl' e1 hh i1 i2 i5
        go_wp2
        have hgT := HL.out.2.1.mono (T := (fun b => b = r ∨ b = b3)) fun z hz => .inr hz
        exact ⟨rfl, trivial, hgT, HL.out.2.2.1.trans hgT, ⟨q', HL.out.2.2.2.1.far HL.out.2.1 (by omega) ⟨_, _, _, HK.out, by simp⟩, i3, i4⟩, fun h => absurd ((did_same f 11).symm.trans h) (by simp), n', A', c', HL.out.1, HL.out.2.2.2.2.1, HL.out.2.2.2.2.2.gr (HL.out.2.1.mono fun b hb => HSL.out.2 b (.inr hb))⟩
      · intro vals xw f hall hI hF
        rw [show List.range _ = [0, 1, 2, 3, 4, 5, 6, 7, 8, 9, 10, 11] from rfl] at hF
        simp only [says, List.getD_cons_zero, List.getD_cons_succ, and_true] at hF
        obtain ⟨hgx, ⟨q', hq', q'0, q'1⟩, _, n', A', c', hk', hs', hl'⟩ := hI
        simp only [hall 3 (by decide), hall 6 (by decide), if_true] at q'1
        simp only [putsD, Act.put, List.setIfInBounds_toArray, List.set_cons_zero, List.set_cons_succ]
        have HB23 := Lib.hid (hgx.heap (by show ¬ (_ = r ∨ _ = b3); omega) HB2.out)
        have HGW := Lib.hid (HG.out.then hgx (fun b hb => hb.imp id (fun h => by rw [HB2E.out]; omega)))
        have HK' := Lib.hid hk'
        have HSM' := Lib.hid hs'
        clear hF hk' hs' hgx
        go_wp2
        go_roundw
        case rel => exact ⟨j - 1, n', A', c', q', by omega, by go_num, HSM'.out.mono (by omega), HK'.out, HB23.out, hl', hq', by omega, by omega, HGW.out⟩
        case measure => simp [intOf]; omega
    · have hj0 : j = 0 := by omega
      subst hj0
      have v0 := (cell_of_block HB3.out 0).1
      have v1 := (cell_of_block HB3.out 1).1
      have HC := Lib.hid (l6Bent_any S r 3 q m A c wr HR.out HSLR.out (fun b hb => by have := HSL.out.1 b hb; omega) HSr.out (HSM.out.mono (by omega)) (by omega) (by omega) (by omega))
      go_wp2_with fail
      clear v0 v1
      refine HC.out.mono ?_
      rintro e w5 ⟨y, A5, c5, rfl, hs5, hbn, q5, q50, q51, hR5, hg5⟩
      have HB2 := Lib.hid (hg5.heap (by show ¬ _ = r; omega) HB2.out)
      have HGG := Lib.hid (HG.out.trans hg5)
      have HS5 := Lib.hid hs5
      have HBN := Lib.hid hbn
      have HR5 := Lib.hid hR5
      clear hs5 hbn hR5 hg5 HC
      have u0 := (cell_of_block HB2.out 0).1
      have u1 := (cell_of_block HB2.out 1).1
      have f0 := (cell_of_block HB2.out 0).2
      have f1 := (cell_of_block HB2.out 1).2
      have hq1 := heap_set_same _ b2 0 (.int .i64 y.ins) _ _ HB2.out
      have hq2 := heap_set_same _ b2 1 (.slice A5 y.gs.length c5) _ _ hq1
      have HQ2 := Lib.hid hq2
      clear hq1 hq2
      go_wp2
      have k5 := (cell_of_block HQ2.out 0).1
      have k6 := (cell_of_block HQ2.out 1).1
      have kf5 := (cell_of_block HQ2.out 0).2
      have kf6 := (cell_of_block HQ2.out 1).2
      refine bodyPost_ret (v := .agg #[.int .i64 y.ins, .slice A5 y.gs.length c5]) (by simp [results, Tryd.results89, go_sem, k5, k6, kf5, kf6]) rfl ⟨y, A5, c5, rfl, ?_, HBN.out, q5, by omega, by omega, ?_, ?_⟩
      · have hset : Gr S w5 ((w5.setCell ⟨b2, 0, none⟩ (.int .i64 y.ins)).setCell ⟨b2, 1, none⟩ (.slice A5 y.gs.length c5)) := ((Gr.refl _ _).set _ _ _ (.inl ((HS.out b2).2 (.inr (.inl rfl))))).set _ _ _ (.inl ((HS.out b2).2 (.inr (.inl rfl))))
        exact (HS5.out.gr hset).ab_mono fun b _ hb => HS0.out b hb
      · exact (HR5.out.set (by omega)).set (by omega)
      · exact (HGG.out.set _ _ _ (.inr (by rw [HB2E.out]; exact Nat.le_refl _))).set _ _ _ (.inr (by rw [HB2E.out]; exact Nat.le_refl _))
end Go.Proofs.YtjghcaghigebjaaDoor

/-! Draws of a net and the marks of two numbers: l7Two, DrawBitsIf. -/
namespace Go.Proofs.YtjghcaghigebjaaDoor
open Go Go.RowKit

def RetT2 (S0 : Nat → Prop) (r : Nat) (p M : Int) (w : World) (e : Ending) (w' : World) : Prop :=
  ∃ (n : N) (A : Option Addr) (c : Nat) (xs : List Int) (X : Option Addr) (cx : Nat) (ys : List Int) (Y : Option Addr) (cy : Nat), e = .returned (.tuple #[.agg #[.int .i64 n.ins, .slice A n.gs.length c], .slice X xs.length cx, .slice Y ys.length cy]) ∧
    Lay.gate.Sl w' (Ab S0 w') A n.gs ∧ Lay.int.Sl w' (Ab S0 w') X xs ∧ Lay.int.Sl w' (Ab S0 w') Y ys ∧ bentN 4 n ∧ okMks xs ∧ okMks ys ∧ xs.length ≤ cx ∧ ys.length ≤ cy ∧ Drawn r p M w w'
def SayM (S : Nat → Prop) (v : Value) (y : World) : Prop := ∃ (ys : List Int) (Y : Option Addr) (cy : Nat), v = .slice Y ys.length cy ∧ okMks ys ∧ ys.length ≤ cy ∧ Lay.int.Sl y (Ab S y) Y ys
theorem SayM.gr {S T : Nat → Prop} {v : Value} {x y : World} (h : SayM S v x) (hg : Gr T x y) (hT : ∀ b, T b → S b) : SayM S v y := by
  obtain ⟨ys, Y, cy, h1, h2, h3, h4⟩ := h
  exact ⟨ys, Y, cy, h1, h2, h3, h4.gr (hg.mono hT)⟩
/-- What is so while the second number's marks are drawn. -/
def TwoQ (r b2 b5 : Nat) (q0 : Int) (w : World) (o2 o5 : Obj) (drawn done : Bool) (x : World) : Prop :=
  Gr (fun b => b = r ∨ b = b2) w x ∧ (∃ q, Rdr x r q ∧ q0 ≤ q ∧ q ≤ q0 + (if drawn = true then 20 else 0)) ∧ x.heap[b5]? = some o5 ∧ (done = false → x.heap[b2]? = some o2) ∧ (done = true → x.heap[b2]? = some o5)
theorem OwnI.capI {w : World} {base c : Nat} {A : Option Addr} {xs : List Int} (h : OwnI w base (.slice A xs.length c) xs) : xs.length ≤ c := by
  obtain ⟨A', c', e, hl, hs⟩ := h.form
  injection e with e1 e2 e3
  omega
set_option maxRecDepth 100000 in
set_option maxHeartbeats 4000000 in
theorem l7Two_any (S0 : Nat → Prop) (r : Nat) (p : Int) (w : World) (h : Rdr w r p) (hS0 : ∀ b, S0 b → b < w.heap.size) (hSr : S0 r) (p0 : 0 ≤ p) (p1 : p ≤ 500000000) :
    Calls Tryd.prog 56 #[.pointer (some ⟨r, 0, none⟩)] w (RetT2 S0 r p 10000 w) := by
  have hrl := h.lt
  have hal0 : Below w.heap.size w (w.alloc (.cells #[.int .i64 0, .slice none 0 0] 29)) := (Below.refl _ _).alloc (Nat.le_refl _) _
  have HB2 := Lib.hid (show (w.alloc (.cells #[.int .i64 0, .slice none 0 0] 29)).heap[w.heap.size]? = some (.cells #[.int .i64 0, .slice none 0 0] 29 (0, 0)) from heap_alloc_new _ _)
  have HSZ0 := Lib.hid (show (w.alloc (.cells #[.int .i64 0, .slice none 0 0] 29)).heap.size = w.heap.size + 1 by simp)
  have hR0 := h.up hal0
  have hg0 : Gr (IsR r) w (w.alloc (.cells #[.int .i64 0, .slice none 0 0] 29)) := .below hal0
  clear hal0 h
  go_enter Tryd.func56, Tryd.ntmps56
  go_wp2_with fail
  have hsz0 := HSZ0.out
  clear HSZ0
  generalize w.alloc (.cells #[.int .i64 0, .slice none 0 0] 29) = w0 at *
  obtain ⟨T, hT⟩ : ∃ T : Nat → Prop, ∀ b, T b ↔ S0 b ∨ b = w.heap.size := ⟨fun b => S0 b ∨ b = w.heap.size, fun _ => Iff.rfl⟩
  have HT := Lib.hid hT
  have HTL : Hid (∀ b, T b → b < w.heap.size + 1) := Lib.hid fun b hb => by
    rcases (hT b).1 hb with h9 | h9
    · have := hS0 b h9; omega
    · omega
  have HTr : Hid (T r) := Lib.hid ((hT r).2 (.inl hSr))
  clear hT
  refine (l7Net_any T r p w0 hR0 (fun b hb => by have := HTL.out b hb; omega) HTr.out p0 (by omega)).mono ?_
  rintro e w1 ⟨y, A2, c2, rfl, hs2, hbn, q2, q20, q21, hR2, hg2⟩
  have HB2 := Lib.hid (hg2.heap (by show ¬ _ = r; omega) HB2.out)
  have hgg2 := hg0.trans hg2
  have hz2 := hg2.size
  have i5 : w.heap.size < w1.heap.size := by omega
  have HBN := Lib.hid hbn
  have hyb : -1 ≤ y.ins ∧ y.ins ≤ 9 ∧ y.gs.length ≤ 4 := ⟨hbn.1, hbn.2.1, hbn.2.2.1⟩
  obtain ⟨hyb0, hyb1, hyb2⟩ := hyb
  clear hR0 hg2 hbn hg0
  have hal : Below w1.heap.size w1 (w1.alloc (.cells #[.int .i64 y.ins, .slice A2 y.gs.length c2] 29)) := (Below.refl _ _).alloc (Nat.le_refl _) _
  have HB5 := Lib.hid (show (w1.alloc (.cells #[.int .i64 y.ins, .slice A2 y.gs.length c2] 29)).heap[w1.heap.size]? = some (.cells #[.int .i64 y.ins, .slice A2 y.gs.length c2] 29 (0, 0)) from heap_alloc_new _ _)
  have HB2 := Lib.hid ((hal.block _ (lt_of_block HB2.out)).trans HB2.out)
  have hR3 := hR2.up hal
  have hgg3 := hgg2.up hal
  have HS := Lib.hid (hs2.gr (.below hal))
  have HSZ3 := Lib.hid (show (w1.alloc (.cells #[.int .i64 y.ins, .slice A2 y.gs.length c2] 29)).heap.size = w1.heap.size + 1 by simp)
  clear hal hR2 hgg2 hs2 hsz0
  go_wp2_with fail
  have hz3 := HSZ3.out
  clear HSZ3
  generalize w1.alloc (.cells #[.int .i64 y.ins, .slice A2 y.gs.length c2] 29) = w3 at *
  have hb2l := lt_of_block HB2.out
  generalize hb5e : w1.heap.size = b5 at *
  generalize hb2e : w.heap.size = b2 at *
  have HB2E := Lib.hid hb2e
  clear hb5e hb2e hz2
  refine (pick_any r q2 4 w3 hR3 (by omega) (by omega) (by omega) (by omega)).mono ?_
  rintro e w4 ⟨k, rfl, k0, k1, _, hR4, hg4⟩
  have k1 := k1 (by omega)
  have hg4 := Gr.one (S := IsR r) hg4 rfl
  have HB2 := Lib.hid (hg4.heap (by show ¬ _ = r; omega) HB2.out)
  have HB5 := Lib.hid (hg4.heap (by show ¬ _ = r; omega) HB5.out)
  have HS := Lib.hid (HS.out.gr (hg4.mono fun b hb => by rw [show b = r from hb]; exact HTr.out))
  have hgg4 := hgg3.trans hg4
  have hz4 := hg4.size
  obtain ⟨m, hm⟩ := Int.eq_ofNat_of_zero_le (show (0 : Int) ≤ 1 + k by omega)
  have hm1 : 1 ≤ m ∧ m ≤ 4 := by omega
  obtain ⟨m1, m4⟩ := hm1
  have HM := Lib.hid hm
  clear hR3 hgg3 hg4
  have v0 := (cell_of_block HB5.out 0).1
  have v1 := (cell_of_block HB5.out 1).1
  go_wp2_with fail
  clear v0 v1
  clear hm
  refine (l7Marks_any r (q2 + 1) y A2 c2 m w4 hR4 (by omega) (by omega) (by omega) (by omega) (by omega) m1 m4).mono ?_
  rintro e w5 ⟨A5, c5, xs, rfl, ho5, hok5, q5, q50, q51, hR5, hg5⟩
  have HB2 := Lib.hid (hg5.heap (by show ¬ _ = r; omega) HB2.out)
  have HB5 := Lib.hid (hg5.heap (by show ¬ _ = r; omega) HB5.out)
  have HS := Lib.hid (HS.out.gr (hg5.mono fun b hb => by rw [hb]; exact HTr.out))
  have hgg5 := hgg4.trans hg5
  have hz5 := hg5.size
  have HOK := Lib.hid hok5
  have HCX := Lib.hid ho5.capI
  have HXS := Lib.hid (ho5.ab (S := T) (fun b hb => by have := HTL.out b hb; omega))
  clear hR4 hgg4 hg5 hok5 ho5
  go_wp2_with fail
  refine (pick_any r q5 16 w5 hR5 (by omega) (by omega) (by omega) (by omega)).mono ?_
  rintro e w6 ⟨k6, rfl, k60, _, _, hR6, hg6⟩
  have hg6 := Gr.one (S := IsR r) hg6 rfl
  have HB2 := Lib.hid (hg6.heap (by show ¬ _ = r; omega) HB2.out)
  have HB5 := Lib.hid (hg6.heap (by show ¬ _ = r; omega) HB5.out)
  have HS := Lib.hid (HS.out.gr (hg6.mono fun b hb => by rw [show b = r from hb]; exact HTr.out))
  have HXS := Lib.hid (HXS.out.gr (hg6.mono fun b hb => by rw [show b = r from hb]; exact HTr.out))
  have hgg6 := hgg5.trans hg6
  have hz6 := hg6.size
  clear hR5 hgg5 hg6
  by_cases hk6 : k6 = 0
  · have hkb : (k6 == 0) = true := by simpa using hk6
    clear hk6
    go_wp2_with fail
    refine (pick_any r (q5 + 1) 4 w6 hR6 (by omega) (by omega) (by omega) (by omega)).mono ?_
    rintro e w7 ⟨k7, rfl, k70, k71, _, hR7, hg7⟩
    have k71 := k71 (by omega)
    have hg7 := Gr.one (S := IsR r) hg7 rfl
    have HB2 := Lib.hid (hg7.heap (by show ¬ _ = r; omega) HB2.out)
    have HB5 := Lib.hid (hg7.heap (by show ¬ _ = r; omega) HB5.out)
    have HS := Lib.hid (HS.out.gr (hg7.mono fun b hb => by rw [show b = r from hb]; exact HTr.out))
    have HXS := Lib.hid (HXS.out.gr (hg7.mono fun b hb => by rw [show b = r from hb]; exact HTr.out))
    have hgg7 := hgg6.trans hg7
    have hz7 := hg7.size
    obtain ⟨m7, hm7⟩ := Int.eq_ofNat_of_zero_le (show (0 : Int) ≤ 1 + k7 by omega)
    have hm71 : 1 ≤ m7 ∧ m7 ≤ 4 := by omega
    obtain ⟨m71, m74⟩ := hm71
    have HR7 := Lib.hid hR7
    have HGG7 := Lib.hid hgg7
    clear hR6 hgg6 hg7 hR7 hgg7
    go_wp2
    clear hm7
    refine wp_region_rel4 [[], [], [], [], [], [(2, 25), (3, 26), (4, 27)], [(0, 23)], [(1, 24)], [(5, 28)]]
      (Gr (fun b => b = r ∨ b = b2))
      []
      (fun f9 x9 => TwoQ r b2 b5 (q5 + 1 + 1) w7 (.cells #[.int .i64 0, .slice none 0 0] 29 (0, 0)) (.cells #[.int .i64 y.ins, .slice A2 y.gs.length c2] 29 (0, 0)) (f9 5) (f9 6) x9)
      [fun vs9 _ => vs9 0 = (.agg #[.int .i64 y.ins, .slice A2 y.gs.length c2]),
    fun vs9 _ => vs9 1 = (.slice A5 xs.length c5),
    fun vs9 _ => vs9 2 = (.pointer (some ⟨r, 0, none⟩)),
    fun vs9 _ => vs9 3 = (.agg #[.int .i64 y.ins, .slice A2 y.gs.length c2]),
    fun vs9 _ => vs9 4 = (.int .i64 (m7 : Int)),
    fun vs9 y9 => (fun v yy => SayM T v yy) (vs9 5) y9,
    fun _ _ => True,
    fun vs9 _ => vs9 7 = (.slice A5 xs.length c5),
    fun vs9 _ => vs9 8 = vs9 5]
      [(0, 23), (1, 24), (2, 25), (3, 26), (4, 27), (5, 28), (7, 3), (8, 4)] (by kernel_rfl) (by kernel_rfl) (by kernel_rfl) (by kernel_rfl)
      (fun _ => Gr.refl _ _) trivial
      ⟨⟨.inr (fun _ _ _ h _ => h), trivial⟩,
    ⟨.inr (fun _ _ _ h _ => h), trivial⟩,
    ⟨.inr (fun _ _ _ h _ => h), trivial⟩,
    ⟨.inr (fun _ _ _ h _ => h), trivial⟩,
    ⟨.inr (fun _ _ _ h _ => h), trivial⟩,
    ⟨.inr (fun vs9 x9 y9 h9 hR9 => (show ∀ v9 y8 y7, (fun v yy => SayM T v yy) v9 y8 → (Gr (fun b => b = r ∨ b = b2)) y8 y7 → (fun v yy => SayM T v yy) v9 y7 from fun _ _ _ h hR => h.gr hR (fun b hb => hb.elim (fun h => by rw [h]; exact HTr.out) (fun h => by rw [h]; exact (HT.out _).2 (.inr rfl)))) (vs9 5) x9 y9 h9 hR9), trivial⟩,
    ⟨.inr (fun _ _ _ h _ => h), trivial⟩,
    ⟨.inr (fun _ _ _ h _ => h), trivial⟩,
    ⟨.inr (fun _ _ _ h _ => h), trivial⟩, trivial⟩ ⟨fun vs vs' x h _ hv => (by dsimp only at hv ⊢; first | (rw [← h]; exact hv) | exact hv),
    fun vs vs' x h _ hv => (by dsimp only at hv ⊢; first | (rw [← h]; exact hv) | exact hv),
    fun vs vs' x h _ hv => (by dsimp only at hv ⊢; first | (rw [← h]; exact hv) | exact hv),
    fun vs vs' x h _ hv => (by dsimp only at hv ⊢; first | (rw [← h]; exact hv) | exact hv),
    fun vs vs' x h _ hv => (by dsimp only at hv ⊢; first | (rw [← h]; exact hv) | exact hv),
    fun vs vs' x h _ hv => (by dsimp only at hv ⊢; first | (rw [← h]; exact hv) | exact hv),
    fun _ _ _ _ _ _ => trivial,
    fun vs vs' x h _ hv => (by dsimp only at hv ⊢; first | (rw [← h]; exact hv) | exact hv),
    fun vs vs' x h hd hv => (by have h2 := hd 5 (by decide); show vs' 8 = vs' 5; exact h.symm.trans (Eq.trans hv h2)), trivial⟩ (⟨.below (below_drewN (Below.refl _ _) 1), ⟨q5 + 1 + 1, HR7.out.up (below_drewN (Below.refl _ _) 1), by omega, by simp⟩, ((below_drewN (Below.refl _ _) 1 : Below w7.heap.size w7 _).block _ (lt_of_block HB5.out)).trans HB5.out, (fun _ => ((below_drewN (Below.refl _ _) 1 : Below w7.heap.size w7 _).block _ (lt_of_block HB2.out)).trans HB2.out), fun h => by cases h⟩) ⟨?_, ?_, ?_, ?_, ?_, ?_, ?_, ?_, ?_, trivial⟩ ?_
    · intro vals xw f hf1 hf2 hf3 hI hF
      clear hf2 hf3
      dsimp only [owes4, bare]
      simp only [putsD, Act.put, List.setIfInBounds_toArray, List.set_cons_zero, List.set_cons_succ]
      have hk9 := hI.2.2.1
      have c0 := (cell_of_block hk9 0).1
      have c1 := (cell_of_block hk9 1).1
      clear hk9
      go_wp2
      exact ⟨rfl, rfl, Gr.refl _ _, hI⟩
    · intro vals xw f hf1 hf2 hf3 hI hF
      clear hf2 hf3
      dsimp only [owes4, bare]
      simp only [putsD, Act.put, List.setIfInBounds_toArray, List.set_cons_zero, List.set_cons_succ]
      go_wp2
      exact ⟨rfl, rfl, Gr.refl _ _, hI⟩
    · intro vals xw f hf1 hf2 hf3 hI hF
      clear hf2 hf3
      dsimp only [owes4, bare]
      simp only [putsD, Act.put, List.setIfInBounds_toArray, List.set_cons_zero, List.set_cons_succ]
      go_wp2
      exact ⟨rfl, rfl, Gr.refl _ _, hI⟩
    · intro vals xw f hf1 hf2 hf3 hI hF
      clear hf2 hf3
      dsimp only [owes4, bare]
      simp only [putsD, Act.put, List.setIfInBounds_toArray, List.set_cons_zero, List.set_cons_succ]
      have hk9 := hI.2.2.1
      have c0 := (cell_of_block hk9 0).1
      have c1 := (cell_of_block hk9 1).1
      clear hk9
      go_wp2
      exact ⟨rfl, rfl, Gr.refl _ _, hI⟩
    · intro vals xw f hf1 hf2 hf3 hI hF
      clear hf2 hf3
      dsimp only [owes4, bare]
      simp only [putsD, Act.put, List.setIfInBounds_toArray, List.set_cons_zero, List.set_cons_succ]
      go_wp2
      exact ⟨rfl, rfl, Gr.refl _ _, hI⟩
    · intro vals xw f hf1 hf2 hf3 hI hF
      clear hf2 hf3
      simp only [saysD, List.getD_cons_zero, List.getD_cons_succ, and_true] at hF
      obtain ⟨e1, e2, e3⟩ := hF
      dsimp only [owes4, bare]
      simp only [putsD, Act.put, List.setIfInBounds_toArray, List.set_cons_zero, List.set_cons_succ]
      simp only [e1, e2, e3]
      obtain ⟨i1, ⟨q', hq, q'0, q'1⟩, i3, i4, i5⟩ := hI
      rw [hf1, if_neg (by simp)] at q'1
      have hsz9 := i1.size
      have I1 := Lib.hid i1
      have I3 := Lib.hid i3
      have I4 := Lib.hid i4
      have I5 := Lib.hid i5
      clear i1 i3 i4 i5
      go_wp2_with fail
      refine (l7Marks_any r q' y A2 c2 m7 xw hq (by omega) (by omega) (by omega) (by omega) (by omega) (by omega) (by omega)).mono ?_
      rintro e wx ⟨B9, d9, ys, rfl, ho9, hk9, q9, q90, q91, hR9, hg9⟩
      have HG9 := Lib.hid (hg9.mono (T := fun b => b = r ∨ b = b2) fun b hb => .inl hb)
      have HSM := Lib.hid (show SayM T (.slice B9 ys.length d9) wx from ⟨ys, B9, d9, rfl, hk9, ho9.capI, ho9.ab (fun b hb => by have := HTL.out b hb; omega)⟩)
      have HQ9 := Lib.hid (show TwoQ r b2 b5 (q5 + 1 + 1) w7 (.cells #[.int .i64 0, .slice none 0 0] 29 (0, 0)) (.cells #[.int .i64 y.ins, .slice A2 y.gs.length c2] 29 (0, 0)) true (f 6) wx from ⟨I1.out.trans HG9.out, ⟨q9, hR9, by omega, by simp; omega⟩, hg9.heap (by show ¬ _ = r; omega) I3.out, fun h => hg9.heap (by show ¬ _ = r; omega) (I4.out h), fun h => hg9.heap (by show ¬ _ = r; omega) (I5.out h)⟩)
      clear ho9 hk9 hR9 hg9
      go_wp2
      exact ⟨rfl, HSM.out, HG9.out, HQ9.out⟩
    · intro vals xw f hf1 hf2 hf3 hI hF
      clear hf2 hf3
      simp only [saysD, List.getD_cons_zero, List.getD_cons_succ, and_true] at hF
      have e23 := hF
      dsimp only [owes4, bare]
      simp only [putsD, Act.put, List.setIfInBounds_toArray, List.set_cons_zero, List.set_cons_succ]
      simp only [e23]
      obtain ⟨i1, ⟨q', i2, q'0, q'1⟩, i3, i4, i5⟩ := hI
      have j4 := i4 hf1
      have v0 := (cell_of_block j4 0).1
      have v1 := (cell_of_block j4 1).1
      have f0 := (cell_of_block j4 0).2
      have f1 := (cell_of_block j4 1).2
      have hh := heap_set_same _ b2 1 (.slice A2 y.gs.length c2) _ _ (heap_set_same xw b2 0 (.int .i64 y.ins) _ _ j4)
      have hg : Gr (fun z => z = b2) xw ((xw.setCell ⟨b2, 0, none⟩ (.int .i64 y.ins)).setCell ⟨b2, 1, none⟩ (.slice A2 y.gs.length c2)) := ((Gr.refl (fun z => z = b2) xw).set _ _ _ (.inl (by rfl))).set _ _ _ (.inl (by rfl))
      have HH := Lib.hid hh
      have HG9 := Lib.hid hg
      have J4 := Lib.hid j4
      have I1 := Lib.hid i1
      have I2 := Lib.hid i2
      have I3 := Lib.hid i3
      clear i1 i2 i3 i4 i5 j4 hh hg
      go_wp2
      have hgT := HG9.out.mono (T := fun b => b = r ∨ b = b2) fun z hz => .inr hz
      exact ⟨rfl, trivial, hgT, I1.out.trans hgT, ⟨q', I2.out.far HG9.out (by omega) ⟨_, _, _, J4.out, by simp⟩, q'0, q'1⟩, HG9.out.heap (by show ¬ _ = b2; omega) I3.out, fun h => absurd ((did_same f 6).symm.trans h) (by simp), fun _ => HH.out⟩
    · intro vals xw f hf1 hf2 hf3 hI hF
      clear hf2 hf3
      simp only [saysD, List.getD_cons_zero, List.getD_cons_succ, and_true] at hF
      have e24 := hF
      dsimp only [owes4, bare]
      simp only [putsD, Act.put, List.setIfInBounds_toArray, List.set_cons_zero, List.set_cons_succ]
      simp only [e24]
      go_wp2
      exact ⟨rfl, rfl, Gr.refl _ _, hI⟩
    · intro vals xw f hf1 hf2 hf3 hI hF
      clear hf2 hf3
      simp only [saysD, List.getD_cons_zero, List.getD_cons_succ, and_true] at hF
      obtain ⟨ys, B8, d8, e28, _⟩ := hF
      dsimp only [owes4, bare]
      simp only [putsD, Act.put, List.setIfInBounds_toArray, List.set_cons_zero, List.set_cons_succ]
      simp only [e28]
      go_wp2
      exact ⟨rfl, e28.symm, Gr.refl _ _, hI⟩
    · intro vals xw f hall hI hF
      rw [show List.range _ = [0, 1, 2, 3, 4, 5, 6, 7, 8] from rfl] at hF
      simp only [says, List.getD_cons_zero, List.getD_cons_succ, and_true] at hF
      obtain ⟨i1, ⟨q', i2, q'0, q'1⟩, _, _, i5⟩ := hI
      rw [hall 5 (by decide), if_pos rfl] at q'1
      have j5 := i5 (hall 6 (by decide))
      obtain ⟨_, _, _, _, _, ⟨ys, Y, cy, e28, hk9, hcy, hs9⟩, _, e3, e4⟩ := hF
      rw [e28] at e4
      have k5 := (cell_of_block j5 0).1
      have k6 := (cell_of_block j5 1).1
      have kf5 := (cell_of_block j5 0).2
      have kf6 := (cell_of_block j5 1).2
      have I1 := Lib.hid i1
      have I2 := Lib.hid i2
      have HK9 := Lib.hid hk9
      have HCY := Lib.hid hcy
      have HS9 := Lib.hid hs9
      clear i1 i2 i5 j5 hk9 hs9 hcy e28
      simp only [putsD, Act.put, List.setIfInBounds_toArray, List.set_cons_zero, List.set_cons_succ]
      simp only [e3, e4]
      clear e3 e4
      go_wp2
      refine bodyPost_ret (v := .tuple #[.agg #[.int .i64 y.ins, .slice A2 y.gs.length c2], .slice A5 xs.length c5, .slice Y ys.length cy]) (by simp [results, Tryd.results56, go_sem, k5, k6, kf5, kf6]) rfl ?_
      have hgx : Gr T w7 xw := I1.out.mono (fun b hb => hb.elim (fun h => by rw [h]; exact HTr.out) (fun h => by rw [h]; exact (HT.out _).2 (.inr rfl)))
      exact ⟨y, A2, c2, xs, A5, c5, ys, Y, cy, rfl, (HS.out.gr hgx).ab_mono fun b _ hb => (HT.out b).2 (.inl hb), (HXS.out.gr hgx).ab_mono fun b _ hb => (HT.out b).2 (.inl hb), HS9.out.ab_mono fun b _ hb => (HT.out b).2 (.inl hb), HBN.out, HOK.out, HK9.out, HCX.out, HCY.out, q', by omega, by omega, I2.out, HGG7.out.then I1.out (fun b hb => hb.imp id (fun h => by rw [HB2E.out]; omega))⟩
  · have hkb : (k6 == 0) = false := by simpa using hk6
    clear hk6
    have HR6 := Lib.hid hR6
    have HGG6 := Lib.hid hgg6
    clear hR6 hgg6
    go_wp2
    refine wp_region_rel4 [[], [], [], [], [], [(2, 25), (3, 26), (4, 27)], [(0, 23)], [(1, 24)], [(5, 28)]]
      (Gr (fun b => b = r ∨ b = b2))
      []
      (fun f9 x9 => TwoQ r b2 b5 (q5 + 1) w6 (.cells #[.int .i64 0, .slice none 0 0] 29 (0, 0)) (.cells #[.int .i64 y.ins, .slice A2 y.gs.length c2] 29 (0, 0)) (f9 5) (f9 6) x9)
      [fun vs9 _ => vs9 0 = (.agg #[.int .i64 y.ins, .slice A2 y.gs.length c2]),
    fun vs9 _ => vs9 1 = (.slice A5 xs.length c5),
    fun vs9 _ => vs9 2 = (.pointer (some ⟨r, 0, none⟩)),
    fun vs9 _ => vs9 3 = (.agg #[.int .i64 y.ins, .slice A2 y.gs.length c2]),
    fun vs9 _ => vs9 4 = (.int .i64 (m : Int)),
    fun vs9 y9 => (fun v yy => SayM T v yy) (vs9 5) y9,
    fun _ _ => True,
    fun vs9 _ => vs9 7 = (.slice A5 xs.length c5),
    fun vs9 _ => vs9 8 = vs9 5]
      [(0, 23), (1, 24), (2, 25), (3, 26), (4, 27), (5, 28), (7, 3), (8, 4)] (by kernel_rfl) (by kernel_rfl) (by kernel_rfl) (by kernel_rfl)
      (fun _ => Gr.refl _ _) trivial
      ⟨⟨.inr (fun _ _ _ h _ => h), trivial⟩,
    ⟨.inr (fun _ _ _ h _ => h), trivial⟩,
    ⟨.inr (fun _ _ _ h _ => h), trivial⟩,
    ⟨.inr (fun _ _ _ h _ => h), trivial⟩,
    ⟨.inr (fun _ _ _ h _ => h), trivial⟩,
    ⟨.inr (fun vs9 x9 y9 h9 hR9 => (show ∀ v9 y8 y7, (fun v yy => SayM T v yy) v9 y8 → (Gr (fun b => b = r ∨ b = b2)) y8 y7 → (fun v yy => SayM T v yy) v9 y7 from fun _ _ _ h hR => h.gr hR (fun b hb => hb.elim (fun h => by rw [h]; exact HTr.out) (fun h => by rw [h]; exact (HT.out _).2 (.inr rfl)))) (vs9 5) x9 y9 h9 hR9), trivial⟩,
    ⟨.inr (fun _ _ _ h _ => h), trivial⟩,
    ⟨.inr (fun _ _ _ h _ => h), trivial⟩,
    ⟨.inr (fun _ _ _ h _ => h), trivial⟩, trivial⟩ ⟨fun vs vs' x h _ hv => (by dsimp only at hv ⊢; first | (rw [← h]; exact hv) | exact hv),
    fun vs vs' x h _ hv => (by dsimp only at hv ⊢; first | (rw [← h]; exact hv) | exact hv),
    fun vs vs' x h _ hv => (by dsimp only at hv ⊢; first | (rw [← h]; exact hv) | exact hv),
    fun vs vs' x h _ hv => (by dsimp only at hv ⊢; first | (rw [← h]; exact hv) | exact hv),
    fun vs vs' x h _ hv => (by dsimp only at hv ⊢; first | (rw [← h]; exact hv) | exact hv),
    fun vs vs' x h _ hv => (by dsimp only at hv ⊢; first | (rw [← h]; exact hv) | exact hv),
    fun _ _ _ _ _ _ => trivial,
    fun vs vs' x h _ hv => (by dsimp only at hv ⊢; first | (rw [← h]; exact hv) | exact hv),
    fun vs vs' x h hd hv => (by have h2 := hd 5 (by decide); show vs' 8 = vs' 5; exact h.symm.trans (Eq.trans hv h2)), trivial⟩ (⟨.below (below_drewN (Below.refl _ _) 1), ⟨q5 + 1, HR6.out.up (below_drewN (Below.refl _ _) 1), by omega, by simp⟩, ((below_drewN (Below.refl _ _) 1 : Below w6.heap.size w6 _).block _ (lt_of_block HB5.out)).trans HB5.out, (fun _ => ((below_drewN (Below.refl _ _) 1 : Below w6.heap.size w6 _).block _ (lt_of_block HB2.out)).trans HB2.out), fun h => by cases h⟩) ⟨?_, ?_, ?_, ?_, ?_, ?_, ?_, ?_, ?_, trivial⟩ ?_
    · intro vals xw f hf1 hf2 hf3 hI hF
      clear hf2 hf3
      dsimp only [owes4, bare]
      simp only [putsD, Act.put, List.setIfInBounds_toArray, List.set_cons_zero, List.set_cons_succ]
      have hk9 := hI.2.2.1
      have c0 := (cell_of_block hk9 0).1
      have c1 := (cell_of_block hk9 1).1
      clear hk9
      go_wp2
      exact ⟨rfl, rfl, Gr.refl _ _, hI⟩
    · intro vals xw f hf1 hf2 hf3 hI hF
      clear hf2 hf3
      dsimp only [owes4, bare]
      simp only [putsD, Act.put, List.setIfInBounds_toArray, List.set_cons_zero, List.set_cons_succ]
      go_wp2
      exact ⟨rfl, rfl, Gr.refl _ _, hI⟩
    · intro vals xw f hf1 hf2 hf3 hI hF
      clear hf2 hf3
      dsimp only [owes4, bare]
      simp only [putsD, Act.put, List.setIfInBounds_toArray, List.set_cons_zero, List.set_cons_succ]
      go_wp2
      exact ⟨rfl, rfl, Gr.refl _ _, hI⟩
    · intro vals xw f hf1 hf2 hf3 hI hF
      clear hf2 hf3
      dsimp only [owes4, bare]
      simp only [putsD, Act.put, List.setIfInBounds_toArray, List.set_cons_zero, List.set_cons_succ]
      have hk9 := hI.2.2.1
      have c0 := (cell_of_block hk9 0).1
      have c1 := (cell_of_block hk9 1).1
      clear hk9
      go_wp2
      exact ⟨rfl, rfl, Gr.refl _ _, hI⟩
    · intro vals xw f hf1 hf2 hf3 hI hF
      clear hf2 hf3
      dsimp only [owes4, bare]
      simp only [putsD, Act.put, List.setIfInBounds_toArray, List.set_cons_zero, List.set_cons_succ]
      go_wp2
      exact ⟨rfl, rfl, Gr.refl _ _, hI⟩
    · intro vals xw f hf1 hf2 hf3 hI hF
      clear hf2 hf3
      simp only [saysD, List.getD_cons_zero, List.getD_cons_succ, and_true] at hF
      obtain ⟨e1, e2, e3⟩ := hF
      dsimp only [owes4, bare]
      simp only [putsD, Act.put, List.setIfInBounds_toArray, List.set_cons_zero, List.set_cons_succ]
      simp only [e1, e2, e3]
      obtain ⟨i1, ⟨q', hq, q'0, q'1⟩, i3, i4, i5⟩ := hI
      rw [hf1, if_neg (by simp)] at q'1
      have hsz9 := i1.size
      have I1 := Lib.hid i1
      have I3 := Lib.hid i3
      have I4 := Lib.hid i4
      have I5 := Lib.hid i5
      clear i1 i3 i4 i5
      go_wp2_with fail
      refine (l7Marks_any r q' y A2 c2 m xw hq (by omega) (by omega) (by omega) (by omega) (by omega) (by omega) (by omega)).mono ?_
      rintro e wx ⟨B9, d9, ys, rfl, ho9, hk9, q9, q90, q91, hR9, hg9⟩
      have HG9 := Lib.hid (hg9.mono (T := fun b => b = r ∨ b = b2) fun b hb => .inl hb)
      have HSM := Lib.hid (show SayM T (.slice B9 ys.length d9) wx from ⟨ys, B9, d9, rfl, hk9, ho9.capI, ho9.ab (fun b hb => by have := HTL.out b hb; omega)⟩)
      have HQ9 := Lib.hid (show TwoQ r b2 b5 (q5 + 1) w6 (.cells #[.int .i64 0, .slice none 0 0] 29 (0, 0)) (.cells #[.int .i64 y.ins, .slice A2 y.gs.length c2] 29 (0, 0)) true (f 6) wx from ⟨I1.out.trans HG9.out, ⟨q9, hR9, by omega, by simp; omega⟩, hg9.heap (by show ¬ _ = r; omega) I3.out, fun h => hg9.heap (by show ¬ _ = r; omega) (I4.out h), fun h => hg9.heap (by show ¬ _ = r; omega) (I5.out h)⟩)
      clear ho9 hk9 hR9 hg9
      go_wp2
      exact ⟨rfl, HSM.out, HG9.out, HQ9.out⟩
    · intro vals xw f hf1 hf2 hf3 hI hF
      clear hf2 hf3
      simp only [saysD, List.getD_cons_zero, List.getD_cons_succ, and_true] at hF
      have e23 := hF
      dsimp only [owes4, bare]
      simp only [putsD, Act.put, List.setIfInBounds_toArray, List.set_cons_zero, List.set_cons_succ]
      simp only [e23]
      obtain ⟨i1, ⟨q', i2, q'0, q'1⟩, i3, i4, i5⟩ := hI
      have j4 := i4 hf1
      have v0 := (cell_of_block j4 0).1
      have v1 := (cell_of_block j4 1).1
      have f0 := (cell_of_block j4 0).2
      have f1 := (cell_of_block j4 1).2
      have hh := heap_set_same _ b2 1 (.slice A2 y.gs.length c2) _ _ (heap_set_same xw b2 0 (.int .i64 y.ins) _ _ j4)
      have hg : Gr (fun z => z = b2) xw ((xw.setCell ⟨b2, 0, none⟩ (.int .i64 y.ins)).setCell ⟨b2, 1, none⟩ (.slice A2 y.gs.length c2)) := ((Gr.refl (fun z => z = b2) xw).set _ _ _ (.inl (by rfl))).set _ _ _ (.inl (by rfl))
      have HH := Lib.hid hh
      have HG9 := Lib.hid hg
      have J4 := Lib.hid j4
      have I1 := Lib.hid i1
      have I2 := Lib.hid i2
      have I3 := Lib.hid i3
      clear i1 i2 i3 i4 i5 j4 hh hg
      go_wp2
      have hgT := HG9.out.mono (T := fun b => b = r ∨ b = b2) fun z hz => .inr hz
      exact ⟨rfl, trivial, hgT, I1.out.trans hgT, ⟨q', I2.out.far HG9.out (by omega) ⟨_, _, _, J4.out, by simp⟩, q'0, q'1⟩, HG9.out.heap (by show ¬ _ = b2; omega) I3.out, fun h => absurd ((did_same f 6).symm.trans h) (by simp), fun _ => HH.out⟩
    · intro vals xw f hf1 hf2 hf3 hI hF
      clear hf2 hf3
      simp only [saysD, List.getD_cons_zero, List.getD_cons_succ, and_true] at hF
      have e24 := hF
      dsimp only [owes4, bare]
      simp only [putsD, Act.put, List.setIfInBounds_toArray, List.set_cons_zero, List.set_cons_succ]
      simp only [e24]
      go_wp2
      exact ⟨rfl, rfl, Gr.refl _ _, hI⟩
    · intro vals xw f hf1 hf2 hf3 hI hF
      clear hf2 hf3
      simp only [saysD, List.getD_cons_zero, List.getD_cons_succ, and_true] at hF
      obtain ⟨ys, B8, d8, e28, _⟩ := hF
      dsimp only [owes4, bare]
      simp only [putsD, Act.put, List.setIfInBounds_toArray, List.set_cons_zero, List.set_cons_succ]
      simp only [e28]
      go_wp2
      exact ⟨rfl, e28.symm, Gr.refl _ _, hI⟩
    · intro vals xw f hall hI hF
      rw [show List.range _ = [0, 1, 2, 3, 4, 5, 6, 7, 8] from rfl] at hF
      simp only [says, List.getD_cons_zero, List.getD_cons_succ, and_true] at hF
      obtain ⟨i1, ⟨q', i2, q'0, q'1⟩, _, _, i5⟩ := hI
      rw [hall 5 (by decide), if_pos rfl] at q'1
      have j5 := i5 (hall 6 (by decide))
      obtain ⟨_, _, _, _, _, ⟨ys, Y, cy, e28, hk9, hcy, hs9⟩, _, e3, e4⟩ := hF
      rw [e28] at e4
      have k5 := (cell_of_block j5 0).1
      have k6 := (cell_of_block j5 1).1
      have kf5 := (cell_of_block j5 0).2
      have kf6 := (cell_of_block j5 1).2
      have I1 := Lib.hid i1
      have I2 := Lib.hid i2
      have HK9 := Lib.hid hk9
      have HCY := Lib.hid hcy
      have HS9 := Lib.hid hs9
      clear i1 i2 i5 j5 hk9 hs9 hcy e28
      simp only [putsD, Act.put, List.setIfInBounds_toArray, List.set_cons_zero, List.set_cons_succ]
      simp only [e3, e4]
      clear e3 e4
      go_wp2
      refine bodyPost_ret (v := .tuple #[.agg #[.int .i64 y.ins, .slice A2 y.gs.length c2], .slice A5 xs.length c5, .slice Y ys.length cy]) (by simp [results, Tryd.results56, go_sem, k5, k6, kf5, kf6]) rfl ?_
      have hgx : Gr T w6 xw := I1.out.mono (fun b hb => hb.elim (fun h => by rw [h]; exact HTr.out) (fun h => by rw [h]; exact (HT.out _).2 (.inr rfl)))
      exact ⟨y, A2, c2, xs, A5, c5, ys, Y, cy, rfl, (HS.out.gr hgx).ab_mono fun b _ hb => (HT.out b).2 (.inl hb), (HXS.out.gr hgx).ab_mono fun b _ hb => (HT.out b).2 (.inl hb), HS9.out.ab_mono fun b _ hb => (HT.out b).2 (.inl hb), HBN.out, HOK.out, HK9.out, HCX.out, HCY.out, q', by omega, by omega, I2.out, HGG6.out.then I1.out (fun b hb => hb.imp id (fun h => by rw [HB2E.out]; omega))⟩
end Go.Proofs.YtjghcaghigebjaaDoor

/-! Draws for the laws on bits: DrawBitsIf, DrawBitsCmp. -/
namespace Go.Proofs.YtjghcaghigebjaaDoor
open Go Go.RowKit

def DrawB4 (w : World) (e : Ending) (w' : World) : Prop :=
  ∃ (n : N) (A : Option Addr) (c : Nat) (m : Int) (xs : List Int) (X : Option Addr) (cx : Nat) (ys : List Int) (Y : Option Addr) (cy : Nat), e = .returned (.tuple #[.agg #[.int .i64 n.ins, .slice A n.gs.length c], .int .i64 m, .slice X xs.length cx, .slice Y ys.length cy]) ∧
    Lay.gate.Rd w' A n.gs ∧ Lay.int.Rd w' X xs ∧ Lay.int.Rd w' Y ys ∧ bentN 4 n ∧ okInt m ∧ okMks xs ∧ okMks ys ∧ xs.length ≤ cx ∧ ys.length ≤ cy ∧ Below w.heap.size w w'
end Go.Proofs.YtjghcaghigebjaaDoor

/-! Draws for the laws on bits: DrawBitsCmp. -/
namespace Go.Proofs.YtjghcaghigebjaaDoor
open Go Go.RowKit

def litCmp : List Int := [15, 16, 17, 15, 16, 17, 14, 18]
def SayL (S : Nat → Prop) (v : Value) (y : World) : Prop := ∃ b : Nat, v = .slice (some ⟨b, 0, none⟩) 8 8 ∧ Lay.int.Sl y (Ab S y) (some ⟨b, 0, none⟩) litCmp
theorem SayL.gr {S T : Nat → Prop} {v : Value} {x y : World} (h : SayL S v x) (hg : Gr T x y) (hT : ∀ b, T b → S b) : SayL S v y := by
  obtain ⟨b, h1, h2⟩ := h
  exact ⟨b, h1, h2.gr (hg.mono hT)⟩
def SayZ (v : Value) : Prop := ∃ z : Int, v = .int .i64 z ∧ 14 ≤ z ∧ z ≤ 18

set_option maxRecDepth 100000 in
set_option maxHeartbeats 2000000 in
theorem drawBitsCmp_any (A : Option Addr) (c : Nat) (bs : List UInt8) (w : World) (h : Lay.byte.Rd w A bs) (hc : bs.length ≤ c) (hn : bs.length ≤ 9223372036854775807) :
    Calls Tryd.prog 34 #[.slice A bs.length c] w (DrawB4 w) := by
  have hal0 : Below w.heap.size w (w.alloc (.cells #[.int .i64 0, .slice none 0 0] 29)) := (Below.refl _ _).alloc (Nat.le_refl _) _
  have HB2 := Lib.hid (show (w.alloc (.cells #[.int .i64 0, .slice none 0 0] 29)).heap[w.heap.size]? = some (.cells #[.int .i64 0, .slice none 0 0] 29 (0, 0)) from heap_alloc_new _ _)
  have HO := Lib.hid (open_any A c bs _ (h.up hal0) hc hn)
  have HAL := Lib.hid hal0
  have HS0 := Lib.hid (show (w.alloc (.cells #[.int .i64 0, .slice none 0 0] 29)).heap.size = w.heap.size + 1 by simp)
  clear hal0 h
  go_enter Tryd.func34, Tryd.ntmps34
  go_wp2_with fail
  have hs0 := HS0.out
  clear HS0
  generalize w.alloc (.cells #[.int .i64 0, .slice none 0 0] 29) = w0 at *
  refine HO.out.mono ?_
  clear HO
  rintro e w1 ⟨r, rfl, hr, hR1, hb1⟩
  have HB2 := Lib.hid ((hb1.block _ (lt_of_block HB2.out)).trans HB2.out)
  have HBW := Lib.hid (bthen HAL.out hb1)
  have hr2 : w.heap.size < r := by omega
  have hrl := hR1.lt
  obtain ⟨T, hT⟩ : ∃ T : Nat → Prop, ∀ b, T b ↔ b = r ∨ b = w.heap.size := ⟨fun b => b = r ∨ b = w.heap.size, fun _ => Iff.rfl⟩
  have HT := Lib.hid hT
  have HTL : Hid (∀ b, T b → b < w1.heap.size) := Lib.hid fun b hb => by have := (hT b).1 hb; omega
  have hT9 : T r := (hT r).2 (.inl rfl)
  have HTr := Lib.hid hT9
  clear hT hb1 HAL hs0
  go_wp2_with fail
  refine (l7Two_any T r 0 w1 hR1 HTL.out hT9 (by omega) (by omega)).mono ?_
  rintro e w2 ⟨n, A2, c2, xs, X, cx, ys, Y, cy, rfl, hs2, hx2, hy2, hbn, hkx, hky, hcx, hcy, q2, q20, q21, hR2, hg2⟩
  have HB2 := Lib.hid (hg2.heap (by show ¬ _ = r; omega) HB2.out)
  have HBN := Lib.hid hbn
  have hyb : -1 ≤ n.ins ∧ n.ins ≤ 9 ∧ n.gs.length ≤ 4 := ⟨hbn.1, hbn.2.1, hbn.2.2.1⟩
  obtain ⟨hyb0, hyb1, hyb2⟩ := hyb
  have HK := Lib.hid (And.intro hkx hky)
  have HCC := Lib.hid (And.intro hcx hcy)
  have hz2 := hg2.size
  have hal : Below w2.heap.size w2 (w2.alloc (.cells #[.int .i64 n.ins, .slice A2 n.gs.length c2] 29)) := (Below.refl _ _).alloc (Nat.le_refl _) _
  have HB5 := Lib.hid (show (w2.alloc (.cells #[.int .i64 n.ins, .slice A2 n.gs.length c2] 29)).heap[w2.heap.size]? = some (.cells #[.int .i64 n.ins, .slice A2 n.gs.length c2] 29 (0, 0)) from heap_alloc_new _ _)
  have HB2 := Lib.hid ((hal.block _ (lt_of_block HB2.out)).trans HB2.out)
  have hR3 := hR2.up hal
  have HG3 := Lib.hid (hg2.up hal)
  have HS := Lib.hid (hs2.gr (.below hal))
  have HX := Lib.hid (hx2.gr (.below hal))
  have HY := Lib.hid (hy2.gr (.below hal))
  have i5 : r < w2.heap.size := by omega
  have i6 : w.heap.size < w2.heap.size := by omega
  clear hal hR1 hR2 hs2 hx2 hy2 hbn hkx hky hcx hcy hg2 hT9
  go_wp2
  generalize w2.alloc (.cells #[.int .i64 n.ins, .slice A2 n.gs.length c2] 29) = w3 at *
  generalize hb5e : w2.heap.size = b5 at *
  clear hb5e
  have HR3 := Lib.hid hR3
  clear hR3
  refine wp_region_rel4 [[], [], [], [(1, 19), (2, 20)], [], [], [(0, 18)], [(3, 21)], [(4, 22)], [(5, 23)]]
    (Gr (fun b => b = r ∨ b = w.heap.size))
    []
    (fun f9 x9 => TwoQ r (w.heap.size) b5 q2 w3 (.cells #[.int .i64 0, .slice none 0 0] 29 (0, 0)) (.cells #[.int .i64 n.ins, .slice A2 n.gs.length c2] 29 (0, 0)) (f9 3) (f9 6) x9)
    [fun vs9 _ => vs9 0 = (.agg #[.int .i64 n.ins, .slice A2 n.gs.length c2]),
    fun vs9 _ => vs9 1 = (.pointer (some ⟨r, 0, none⟩)),
    fun vs9 y9 => (fun v yy => SayL T v yy) (vs9 2) y9,
    fun vs9 y9 => (fun v _ => SayZ v) (vs9 3) y9,
    fun vs9 _ => vs9 4 = (.slice X xs.length cx),
    fun vs9 _ => vs9 5 = (.slice Y ys.length cy),
    fun _ _ => True,
    fun vs9 _ => vs9 7 = vs9 3,
    fun vs9 _ => vs9 8 = (.slice X xs.length cx),
    fun vs9 _ => vs9 9 = (.slice Y ys.length cy)]
    [(0, 18), (1, 19), (2, 20), (3, 21), (4, 22), (5, 23), (7, 3), (8, 4), (9, 5)] (by kernel_rfl) (by kernel_rfl) (by kernel_rfl) (by kernel_rfl)
    (fun _ => Gr.refl _ _) trivial
    ⟨⟨.inr (fun _ _ _ h _ => h), trivial⟩,
    ⟨.inr (fun _ _ _ h _ => h), trivial⟩,
    ⟨.inr (fun vs9 x9 y9 h9 hR9 => (show ∀ v9 y8 y7, (fun v yy => SayL T v yy) v9 y8 → (Gr (fun b => b = r ∨ b = w.heap.size)) y8 y7 → (fun v yy => SayL T v yy) v9 y7 from fun _ _ _ h hR => h.gr hR (fun b hb => (HT.out b).2 hb)) (vs9 2) x9 y9 h9 hR9), trivial⟩,
    ⟨.inr (fun vs9 x9 y9 h9 hR9 => (show ∀ v9 y8 y7, (fun v _ => SayZ v) v9 y8 → (Gr (fun b => b = r ∨ b = w.heap.size)) y8 y7 → (fun v _ => SayZ v) v9 y7 from fun _ _ _ h _ => h) (vs9 3) x9 y9 h9 hR9), trivial⟩,
    ⟨.inr (fun _ _ _ h _ => h), trivial⟩,
    ⟨.inr (fun _ _ _ h _ => h), trivial⟩,
    ⟨.inr (fun _ _ _ h _ => h), trivial⟩,
    ⟨.inr (fun _ _ _ h _ => h), trivial⟩,
    ⟨.inr (fun _ _ _ h _ => h), trivial⟩,
    ⟨.inr (fun _ _ _ h _ => h), trivial⟩, trivial⟩ ⟨fun vs vs' x h _ hv => (by dsimp only at hv ⊢; first | (rw [← h]; exact hv) | exact hv),
    fun vs vs' x h _ hv => (by dsimp only at hv ⊢; first | (rw [← h]; exact hv) | exact hv),
    fun vs vs' x h _ hv => (by dsimp only at hv ⊢; first | (rw [← h]; exact hv) | exact hv),
    fun vs vs' x h _ hv => (by dsimp only at hv ⊢; first | (rw [← h]; exact hv) | exact hv),
    fun vs vs' x h _ hv => (by dsimp only at hv ⊢; first | (rw [← h]; exact hv) | exact hv),
    fun vs vs' x h _ hv => (by dsimp only at hv ⊢; first | (rw [← h]; exact hv) | exact hv),
    fun _ _ _ _ _ _ => trivial,
    fun vs vs' x h hd hv => (by have h2 := hd 3 (by decide); show vs' 7 = vs' 3; exact h.symm.trans (Eq.trans hv h2)),
    fun vs vs' x h _ hv => (by dsimp only at hv ⊢; first | (rw [← h]; exact hv) | exact hv),
    fun vs vs' x h _ hv => (by dsimp only at hv ⊢; first | (rw [← h]; exact hv) | exact hv), trivial⟩ (⟨.below (below_drewN (Below.refl _ _) 1), ⟨q2, HR3.out.up (below_drewN (Below.refl _ _) 1), by omega, by simp⟩, ((below_drewN (Below.refl _ _) 1 : Below w3.heap.size w3 _).block _ (lt_of_block HB5.out)).trans HB5.out, (fun _ => ((below_drewN (Below.refl _ _) 1 : Below w3.heap.size w3 _).block _ (lt_of_block HB2.out)).trans HB2.out), fun h => by cases h⟩) ⟨?_, ?_, ?_, ?_, ?_, ?_, ?_, ?_, ?_, ?_, trivial⟩ ?_
  · intro vals xw f hf1 hf2 hf3 hI hF
    clear hf2 hf3
    dsimp only [owes4, bare]
    simp only [putsD, Act.put, List.setIfInBounds_toArray, List.set_cons_zero, List.set_cons_succ]
    have hk9 := hI.2.2.1
    have c0 := (cell_of_block hk9 0).1
    have c1 := (cell_of_block hk9 1).1
    clear hk9
    go_wp2
    exact ⟨rfl, rfl, Gr.refl _ _, hI⟩
  · intro vals xw f hf1 hf2 hf3 hI hF
    clear hf2 hf3
    dsimp only [owes4, bare]
    simp only [putsD, Act.put, List.setIfInBounds_toArray, List.set_cons_zero, List.set_cons_succ]
    go_wp2
    exact ⟨rfl, rfl, Gr.refl _ _, hI⟩
  · intro vals xw f hf1 hf2 hf3 hI hF
    clear hf2 hf3
    dsimp only [owes4, bare]
    simp only [putsD, Act.put, List.setIfInBounds_toArray, List.set_cons_zero, List.set_cons_succ]
    obtain ⟨i1, ⟨q', i2, q'0, q'1⟩, i3, i4, i5⟩ := hI
    have hal : Below xw.heap.size xw (xw.alloc (.cells #[.int .i64 15, .int .i64 16, .int .i64 17, .int .i64 15, .int .i64 16, .int .i64 17, .int .i64 14, .int .i64 18] 3)) := (Below.refl _ _).alloc (Nat.le_refl _) _
    have hsl := lit_sl (S := T) xw [15, 16, 17, 15, 16, 17, 14, 18] _ 3 rfl (by intro h9; have h8 := i1.size; have := (HT.out _).1 h9; have := lt_of_block HB5.out; omega)
    have HSL := Lib.hid hsl
    have HGL := Lib.hid (Gr.below (S := fun b => b = r ∨ b = w.heap.size) hal)
    have HQ := Lib.hid (show TwoQ r (w.heap.size) b5 q2 w3 (.cells #[.int .i64 0, .slice none 0 0] 29 (0, 0)) (.cells #[.int .i64 n.ins, .slice A2 n.gs.length c2] 29 (0, 0)) (f 3) (f 6) (xw.alloc (.cells #[.int .i64 15, .int .i64 16, .int .i64 17, .int .i64 15, .int .i64 16, .int .i64 17, .int .i64 14, .int .i64 18] 3)) from ⟨i1.up hal, ⟨q', i2.up hal, q'0, q'1⟩, (hal.block _ (lt_of_block i3)).trans i3, fun h => (hal.block _ (lt_of_block (i4 h))).trans (i4 h), fun h => (hal.block _ (lt_of_block (i5 h))).trans (i5 h)⟩)
    clear i1 i2 i3 i4 i5 hal hsl
    go_wp2
    exact ⟨rfl, ⟨_, rfl, HSL.out⟩, HGL.out, HQ.out⟩
  · intro vals xw f hf1 hf2 hf3 hI hF
    clear hf2 hf3
    simp only [saysD, List.getD_cons_zero, List.getD_cons_succ, and_true] at hF
    obtain ⟨e19, b9, e20, hs9⟩ := hF
    dsimp only [owes4, bare]
    simp only [putsD, Act.put, List.setIfInBounds_toArray, List.set_cons_zero, List.set_cons_succ]
    simp only [e19, e20]
    obtain ⟨i1, ⟨q', i2, q'0, q'1⟩, i3, i4, i5⟩ := hI
    rw [hf1, if_neg (by simp)] at q'1
    have HN := Lib.hid (num_any r q' _ 8 litCmp xw i2 (hs9.ab_mono fun b _ hb => by rw [hb]; exact HTr.out) (by simp [litCmp]) (by simp [litCmp]) (by omega) (by omega))
    have I1 := Lib.hid i1
    have I3 := Lib.hid i3
    have I4 := Lib.hid i4
    have I5 := Lib.hid i5
    clear i1 i2 i3 i4 i5 hs9
    go_wp2_with fail
    refine HN.out.mono ?_
    rintro e wx ⟨z, hz, rfl, hR9, hg9⟩
    have HZ : Hid (14 ≤ z ∧ z ≤ 18) := Lib.hid (by simp [litCmp] at hz; omega)
    have HG9 := Lib.hid (hg9.mono (T := fun b => b = r ∨ b = w.heap.size) fun b hb => .inl hb)
    have HQ9 := Lib.hid (show TwoQ r (w.heap.size) b5 q2 w3 (.cells #[.int .i64 0, .slice none 0 0] 29 (0, 0)) (.cells #[.int .i64 n.ins, .slice A2 n.gs.length c2] 29 (0, 0)) true (f 6) wx from ⟨I1.out.trans HG9.out, ⟨q' + 1, hR9, by omega, by simp; omega⟩, hg9.heap (by show ¬ _ = r; omega) I3.out, fun h => hg9.heap (by show ¬ _ = r; omega) (I4.out h), fun h => hg9.heap (by show ¬ _ = r; omega) (I5.out h)⟩)
    clear hz hR9 hg9 HN
    go_wp2
    exact ⟨rfl, ⟨z, rfl, HZ.out⟩, HG9.out, HQ9.out⟩
  · intro vals xw f hf1 hf2 hf3 hI hF
    clear hf2 hf3
    dsimp only [owes4, bare]
    simp only [putsD, Act.put, List.setIfInBounds_toArray, List.set_cons_zero, List.set_cons_succ]
    go_wp2
    exact ⟨rfl, rfl, Gr.refl _ _, hI⟩
  · intro vals xw f hf1 hf2 hf3 hI hF
    clear hf2 hf3
    dsimp only [owes4, bare]
    simp only [putsD, Act.put, List.setIfInBounds_toArray, List.set_cons_zero, List.set_cons_succ]
    go_wp2
    exact ⟨rfl, rfl, Gr.refl _ _, hI⟩
  · intro vals xw f hf1 hf2 hf3 hI hF
    clear hf2 hf3
    simp only [saysD, List.getD_cons_zero, List.getD_cons_succ, and_true] at hF
    have e18 := hF
    dsimp only [owes4, bare]
    simp only [putsD, Act.put, List.setIfInBounds_toArray, List.set_cons_zero, List.set_cons_succ]
    simp only [e18]
    obtain ⟨i1, ⟨q', i2, q'0, q'1⟩, i3, i4, i5⟩ := hI
    have j4 := i4 hf1
    have v0 := (cell_of_block j4 0).1
    have v1 := (cell_of_block j4 1).1
    have f0 := (cell_of_block j4 0).2
    have f1 := (cell_of_block j4 1).2
    have hh := heap_set_same _ (w.heap.size) 1 (.slice A2 n.gs.length c2) _ _ (heap_set_same xw (w.heap.size) 0 (.int .i64 n.ins) _ _ j4)
    have hg : Gr (fun z => z = w.heap.size) xw ((xw.setCell ⟨w.heap.size, 0, none⟩ (.int .i64 n.ins)).setCell ⟨w.heap.size, 1, none⟩ (.slice A2 n.gs.length c2)) := ((Gr.refl (fun z => z = w.heap.size) xw).set _ _ _ (.inl (by rfl))).set _ _ _ (.inl (by rfl))
    have HH := Lib.hid hh
    have HG9 := Lib.hid hg
    have J4 := Lib.hid j4
    have I1 := Lib.hid i1
    have I2 := Lib.hid i2
    have I3 := Lib.hid i3
    clear i1 i2 i3 i4 i5 j4 hh hg
    go_wp2
    have hgT := HG9.out.mono (T := fun b => b = r ∨ b = w.heap.size) fun z hz => .inr hz
    exact ⟨rfl, trivial, hgT, I1.out.trans hgT, ⟨q', I2.out.far HG9.out (by omega) ⟨_, _, _, J4.out, by simp⟩, q'0, q'1⟩, HG9.out.heap (by show ¬ _ = w.heap.size; omega) I3.out, fun h => absurd ((did_same f 6).symm.trans h) (by simp), fun _ => HH.out⟩
  · intro vals xw f hf1 hf2 hf3 hI hF
    clear hf2 hf3
    simp only [saysD, List.getD_cons_zero, List.getD_cons_succ, and_true] at hF
    obtain ⟨z, e21, _⟩ := hF
    dsimp only [owes4, bare]
    simp only [putsD, Act.put, List.setIfInBounds_toArray, List.set_cons_zero, List.set_cons_succ]
    simp only [e21]
    go_wp2
    exact ⟨rfl, e21.symm, Gr.refl _ _, hI⟩
  · intro vals xw f hf1 hf2 hf3 hI hF
    clear hf2 hf3
    simp only [saysD, List.getD_cons_zero, List.getD_cons_succ, and_true] at hF
    have e22 := hF
    dsimp only [owes4, bare]
    simp only [putsD, Act.put, List.setIfInBounds_toArray, List.set_cons_zero, List.set_cons_succ]
    simp only [e22]
    go_wp2
    exact ⟨rfl, rfl, Gr.refl _ _, hI⟩
  · intro vals xw f hf1 hf2 hf3 hI hF
    clear hf2 hf3
    simp only [saysD, List.getD_cons_zero, List.getD_cons_succ, and_true] at hF
    have e23 := hF
    dsimp only [owes4, bare]
    simp only [putsD, Act.put, List.setIfInBounds_toArray, List.set_cons_zero, List.set_cons_succ]
    simp only [e23]
    go_wp2
    exact ⟨rfl, rfl, Gr.refl _ _, hI⟩
  · intro vals xw f hall hI hF
    rw [show List.range _ = [0, 1, 2, 3, 4, 5, 6, 7, 8, 9] from rfl] at hF
    simp only [says, List.getD_cons_zero, List.getD_cons_succ, and_true] at hF
    obtain ⟨i1, ⟨q', i2, q'0, q'1⟩, _, _, i5⟩ := hI
    have j5 := i5 (hall 6 (by decide))
    obtain ⟨_, _, _, ⟨z, e21, z0, z1⟩, _, _, _, e3, e4, e5⟩ := hF
    rw [e21] at e3
    have k5 := (cell_of_block j5 0).1
    have k6 := (cell_of_block j5 1).1
    have kf5 := (cell_of_block j5 0).2
    have kf6 := (cell_of_block j5 1).2
    have I1 := Lib.hid i1
    clear i1 i2 i5 j5 e21
    simp only [putsD, Act.put, List.setIfInBounds_toArray, List.set_cons_zero, List.set_cons_succ]
    simp only [e3, e4, e5]
    clear e3 e4 e5
    go_wp2
    refine bodyPost_ret (v := .tuple #[.agg #[.int .i64 n.ins, .slice A2 n.gs.length c2], .int .i64 z, .slice X xs.length cx, .slice Y ys.length cy]) (by simp [results, Tryd.results34, go_sem, k5, k6, kf5, kf6]) rfl ?_
    have hgx : Gr T w3 xw := I1.out.mono (fun b hb => (HT.out b).2 hb)
    exact ⟨n, A2, c2, z, xs, X, cx, ys, Y, cy, rfl, (HS.out.gr hgx).ab_rd, (HX.out.gr hgx).ab_rd, (HY.out.gr hgx).ab_rd, HBN.out, by unfold okInt; omega, HK.out.1, HK.out.2, HCC.out.1, HCC.out.2, (((Gr.below (S := T) HBW.out).trans (HG3.out.mono fun b hb => (HT.out b).2 (.inl hb))).trans hgx).to_below fun b hb => by rcases (HT.out b).1 hb with h9 | h9 <;> omega⟩
end Go.Proofs.YtjghcaghigebjaaDoor

/-! What programs of gates say of the values; what they say when they are run again. -/
namespace Go.Proofs.YtjghcaghigebjaaDoor
open Go Go.RowKit

/-- A right net that has the gates of another one, and maybe more behind them. -/
structure Ext (n x : N) : Prop where
  ok : netOk x = true
  ins : x.ins = n.ins
  ext : ∃ t, x.gs = n.gs ++ t
theorem Ext.refl {n : N} (h : netOk n = true) : Ext n n := ⟨h, rfl, [], by simp⟩
theorem Ext.trans {n x y : N} (h : Ext n x) (k : Ext x y) : Ext n y := by
  obtain ⟨t, ht⟩ := h.ext
  obtain ⟨u, hu⟩ := k.ext
  exact ⟨k.ok, k.ins.trans h.ins, t ++ u, by rw [hu, ht, List.append_assoc]⟩
theorem Ext.has {n x : N} (h : Ext n x) {m : Int} (hm : netMark n m = true) : netMark x m = true := by
  obtain ⟨t, ht⟩ := h.ext
  have := netMark_iff.1 hm
  have hl : x.gs.length = n.gs.length + t.length := by rw [ht]; simp
  exact netMark_iff.2 (by have := h.ins; omega)
theorem Ext.obeys {n x : N} (h : Ext n x) {w : List Bool} (hw : Obeys x w) : Obeys n w := by
  obtain ⟨t, ht⟩ := h.ext
  obtain ⟨u, hu⟩ : ∃ u : List G, u = [] := ⟨_, rfl⟩
  refine ⟨?_, hw.one, fun k g hk j hj => hw.gate k g ?_ j (by rw [h.ins]; exact hj)⟩
  · have := hw.len; rw [h.ins, ht] at this; simp at this; omega
  · rw [ht]; exact (List.getElem?_append_left (List.getElem?_eq_some_iff.1 hk).1).trans hk
theorem Grows.to {n : N} {r : N × Int} (h : Grows n r) : Ext n r.1 := by
  obtain ⟨t, ht, _⟩ := h.ext
  exact ⟨h.ok, h.ins, t, ht⟩
theorem netMark_neg {n : N} {m : Int} (h : netMark n m = true) : netMark n (-m) = true := by
  have := netMark_iff.1 h
  exact netMark_iff.2 (by omega)

/-- Whatever marks the gates get: they are marks of the net, and they say what the gates say. -/
def PG.all {α : Type} (w : List Bool) (Φ : α → N → Prop) : PG α → N → Prop
  | .ret a, n => Φ a n
  | .and x y k, n => (netMark n x = true ∧ netMark n y = true) ∧ ∀ m n', Ext n n' → netMark n' m = true → (Obeys n' w → netLit w m = (netLit w x && netLit w y)) → (k m).all w Φ n'
  | .xor x y k, n => (netMark n x = true ∧ netMark n y = true) ∧ ∀ m n', Ext n n' → netMark n' m = true → (Obeys n' w → netLit w m = (netLit w x != netLit w y)) → (k m).all w Φ n'
theorem step_none {n : N} {r : N × Int} (h : (stepP ⟨n, none⟩ r).1.e = none) : r.2 ≠ 0 ∧ stepP ⟨n, none⟩ r = (⟨r.1, none⟩, r.2) := by
  unfold stepP at h ⊢
  rw [if_neg (by simp)] at h ⊢
  by_cases hz : r.2 = 0
  · rw [if_pos hz] at h; cases h
  · rw [if_neg hz]; exact ⟨hz, rfl⟩
theorem all_run {α : Type} {w : List Bool} {Φ : α → N → Prop} : ∀ (p : PG α) (n : N), p.all w Φ n → netOk n = true → (run opsP p ⟨n, none⟩).1.e = none → Φ (run opsP p ⟨n, none⟩).2 (run opsP p ⟨n, none⟩).1.n ∧ Ext n (run opsP p ⟨n, none⟩).1.n
  | .ret a, n, h, hn, _ => ⟨h, .refl hn⟩
  | .and x y k, n, h, hn, he => by
    obtain ⟨⟨hx, hy⟩, hk⟩ := h
    by_cases hs : (stepP ⟨n, none⟩ (and1 n x y)).1.e = none
    · obtain ⟨hz, e⟩ := step_none hs
      obtain ⟨hg, hv⟩ := and1_says hn hx hy hz
      have e1 : run opsP (.and x y k) ⟨n, none⟩ = run opsP (k (and1 n x y).2) ⟨(and1 n x y).1, none⟩ := by
        show run opsP (k (stepP ⟨n, none⟩ (and1 n x y)).2) (stepP ⟨n, none⟩ (and1 n x y)).1 = _
        rw [e]
      rw [e1] at he ⊢
      obtain ⟨h1, h2⟩ := all_run (k _) _ (hk _ _ hg.to hg.mark (hv w)) hg.ok he
      exact ⟨h1, hg.to.trans h2⟩
    · exact absurd he (run_failP (k (stepP ⟨n, none⟩ (and1 n x y)).2) _ hs)
  | .xor x y k, n, h, hn, he => by
    obtain ⟨⟨hx, hy⟩, hk⟩ := h
    by_cases hs : (stepP ⟨n, none⟩ (xor1 n x y)).1.e = none
    · obtain ⟨hz, e⟩ := step_none hs
      obtain ⟨hg, hv⟩ := xor1_says hn hx hy hz
      have e1 : run opsP (.xor x y k) ⟨n, none⟩ = run opsP (k (xor1 n x y).2) ⟨(xor1 n x y).1, none⟩ := by
        show run opsP (k (stepP ⟨n, none⟩ (xor1 n x y)).2) (stepP ⟨n, none⟩ (xor1 n x y)).1 = _
        rw [e]
      rw [e1] at he ⊢
      obtain ⟨h1, h2⟩ := all_run (k _) _ (hk _ _ hg.to hg.mark (hv w)) hg.ok he
      exact ⟨h1, hg.to.trans h2⟩
    · exact absurd he (run_failP (k (stepP ⟨n, none⟩ (xor1 n x y)).2) _ hs)
theorem all_bind {α β : Type} {w : List Bool} {Φ : β → N → Prop} (f : α → PG β) : ∀ (p : PG α) (n : N), p.all w (fun a n' => (f a).all w Φ n') n → (p.bind f).all w Φ n
  | .ret _, _, h => h
  | .and x y k, n, h => ⟨h.1, fun m n' h1 h2 h3 => all_bind f (k m) n' (h.2 m n' h1 h2 h3)⟩
  | .xor x y k, n, h => ⟨h.1, fun m n' h1 h2 h3 => all_bind f (k m) n' (h.2 m n' h1 h2 h3)⟩
theorem all_or {w : List Bool} {Φ : Int → N → Prop} {n : N} {x y : Int} (hx : netMark n x = true) (hy : netMark n y = true)
    (h : ∀ m n', Ext n n' → netMark n' m = true → (Obeys n' w → netLit w m = (netLit w x || netLit w y)) → Φ m n') : (orP x y).all w Φ n := by
  refine ⟨⟨netMark_neg hx, netMark_neg hy⟩, fun m n' he hm hv => h _ _ he (netMark_neg hm) fun hw => ?_⟩
  have := hv hw
  rw [netLit_turn ((he.obeys hw).sig hx), netLit_turn ((he.obeys hw).sig hy)] at this
  rw [netLit_turn (hw.sig hm), this]
  cases netLit w x <;> cases netLit w y <;> rfl
theorem all_mux {w : List Bool} {Φ : Int → N → Prop} {n : N} {c x y : Int} (hc : netMark n c = true) (hx : netMark n x = true) (hy : netMark n y = true)
    (h : ∀ m n', Ext n n' → netMark n' m = true → (Obeys n' w → netLit w m = if netLit w c then netLit w x else netLit w y) → Φ m n') : (muxP c x y).all w Φ n := by
  refine ⟨⟨hc, hx⟩, fun p n1 e1 m1 v1 => ⟨⟨netMark_neg (e1.has hc), e1.has hy⟩, fun q n2 e2 m2 v2 => all_or (e2.has m1) m2 fun m n3 e3 m3 v3 => h m n3 (e1.trans (e2.trans e3)) m3 fun hw => ?_⟩⟩
  have w2 := e3.obeys hw
  have w1 := e2.obeys w2
  rw [v3 hw, v1 w1, v2 w2, netLit_turn ((e1.obeys w1).sig hc)]
  cases netLit w c <;> cases netLit w x <;> cases netLit w y <;> rfl
/-! Run again. -/
end Go.Proofs.YtjghcaghigebjaaDoor

/-! Sums, comparisons: what their programs say. -/
namespace Go.Proofs.YtjghcaghigebjaaDoor
open Go Go.RowKit

def lessB : List Bool → List Bool → Bool → Bool
  | x :: xs, y :: ys, r => lessB xs ys (if x != y then y else r)
  | _, _, r => r
def sameB : List Bool → List Bool → Bool → Bool
  | x :: xs, y :: ys, r => sameB xs ys (r && !(x != y))
  | _, _, r => r
theorem all_less {w : List Bool} : ∀ (xs ys : List Int) (r : Int) (Φ : Int → N → Prop) (n : N), xs.length = ys.length → netOk n = true → (∀ x ∈ xs, netMark n x = true) → (∀ y ∈ ys, netMark n y = true) → netMark n r = true →
    (∀ m n', Ext n n' → netMark n' m = true → (Obeys n' w → netLit w m = lessB (xs.map (netLit w)) (ys.map (netLit w)) (netLit w r)) → Φ m n') → (lessP xs ys r).all w Φ n
  | [], [], r, _, n, _, h0, _, _, hr, h => h r n (.refl h0) hr fun _ => rfl
  | x :: xs, y :: ys, r, Φ, n, hl, h0, hx, hy, hr, h => by
    have x0 := hx _ (.head _)
    have y0 := hy _ (.head _)
    refine ⟨⟨x0, y0⟩, fun d n1 e1 m1 v1 => all_bind _ _ _ (all_mux m1 (e1.has y0) (e1.has hr) fun r' n2 e2 m2 v2 => ?_)⟩
    have e12 := e1.trans e2
    refine all_less xs ys r' Φ n2 (by simpa using hl) e2.ok (fun z hz => e12.has (hx z (.tail _ hz))) (fun z hz => e12.has (hy z (.tail _ hz))) m2 fun m n3 e3 m3 v3 => h m n3 (e12.trans e3) m3 fun hw => ?_
    have w2 := e3.obeys hw
    rw [v3 hw, v2 w2, v1 (e2.obeys w2)]
    rfl
  | [], _ :: _, _, _, _, hl, _, _, _, _, _ => by simp at hl
  | _ :: _, [], _, _, _, hl, _, _, _, _, _ => by simp at hl
theorem all_same {w : List Bool} : ∀ (xs ys : List Int) (r : Int) (Φ : Int → N → Prop) (n : N), xs.length = ys.length → netOk n = true → (∀ x ∈ xs, netMark n x = true) → (∀ y ∈ ys, netMark n y = true) → netMark n r = true →
    (∀ m n', Ext n n' → netMark n' m = true → (Obeys n' w → netLit w m = sameB (xs.map (netLit w)) (ys.map (netLit w)) (netLit w r)) → Φ m n') → (sameP xs ys r).all w Φ n
  | [], [], r, _, n, _, h0, _, _, hr, h => h r n (.refl h0) hr fun _ => rfl
  | x :: xs, y :: ys, r, Φ, n, hl, h0, hx, hy, hr, h => by
    have x0 := hx _ (.head _)
    have y0 := hy _ (.head _)
    refine ⟨⟨x0, y0⟩, fun d n1 e1 m1 v1 => ⟨⟨e1.has hr, netMark_neg m1⟩, fun r' n2 e2 m2 v2 => ?_⟩⟩
    have e12 := e1.trans e2
    refine all_same xs ys r' Φ n2 (by simpa using hl) e2.ok (fun z hz => e12.has (hx z (.tail _ hz))) (fun z hz => e12.has (hy z (.tail _ hz))) m2 fun m n3 e3 m3 v3 => h m n3 (e12.trans e3) m3 fun hw => ?_
    have w2 := e3.obeys hw
    have w1 := e2.obeys w2
    rw [v3 hw, v2 w2, netLit_turn (w1.sig m1), v1 w1]
    rfl
  | [], _ :: _, _, _, _, hl, _, _, _, _, _ => by simp at hl
  | _ :: _, [], _, _, _, hl, _, _, _, _, _ => by simp at hl

/-! Numbers. -/
def bitsB : List Bool → Int
  | [] => 0
  | b :: bs => (if b then 1 else 0) + 2 * bitsB bs
theorem bitsB_cons (b : Bool) (bs : List Bool) : bitsB (b :: bs) = (if b then 1 else 0) + 2 * bitsB bs := rfl
theorem bitsOf_map (f : Int → Bool) : ∀ a : List Int, bitsOf f a = bitsB (a.map f)
  | [] => rfl
  | m :: ms => by rw [List.map_cons]; unfold bitsOf bitsB; rw [bitsOf_map f ms]
theorem bitsB_lt : ∀ a : List Bool, 0 ≤ bitsB a ∧ bitsB a < 2 ^ a.length
  | [] => by simp [bitsB]
  | b :: bs => by
    have := bitsB_lt bs
    rw [bitsB_cons, List.length_cons, Int.pow_succ]
    cases b <;> simp only [Bool.false_eq_true, if_false, if_true] <;> omega
theorem lessB_val : ∀ (xs ys : List Bool) (r : Bool), xs.length = ys.length → lessB xs ys r = if bitsB xs = bitsB ys then r else decide (bitsB xs < bitsB ys)
  | [], [], r, _ => rfl
  | x :: xs, y :: ys, r, h => by
    have ih := lessB_val xs ys (if x != y then y else r) (by simpa using h)
    show lessB xs ys _ = _
    rw [ih, bitsB_cons, bitsB_cons]
    by_cases e : bitsB xs = bitsB ys
    · rw [if_pos e, e]
      cases x <;> cases y <;> cases r <;> simp <;> omega
    · rw [if_neg e, if_neg (by cases x <;> cases y <;> simp <;> omega)]
      by_cases hl : bitsB xs < bitsB ys
      · rw [decide_eq_true hl, eq_comm]; exact decide_eq_true (by cases x <;> cases y <;> simp <;> omega)
      · rw [decide_eq_false hl, eq_comm]; exact decide_eq_false (by cases x <;> cases y <;> simp <;> omega)
  | [], _ :: _, _, h => by simp at h
  | _ :: _, [], _, h => by simp at h
theorem sameB_val : ∀ (xs ys : List Bool) (r : Bool), xs.length = ys.length → sameB xs ys r = (r && decide (bitsB xs = bitsB ys))
  | [], [], r, _ => by simp [sameB, bitsB]
  | x :: xs, y :: ys, r, h => by
    have ih := sameB_val xs ys (r && !(x != y)) (by simpa using h)
    show sameB xs ys _ = _
    rw [ih, bitsB_cons, bitsB_cons]
    by_cases e : bitsB xs = bitsB ys
    · rw [e]
      cases x <;> cases y <;> cases r <;> simp <;> omega
    · rw [decide_eq_false e, decide_eq_false (by cases x <;> cases y <;> simp <;> omega)]; simp
  | [], _ :: _, _, h => by simp at h
  | _ :: _, [], _, h => by simp at h
end Go.Proofs.YtjghcaghigebjaaDoor

/-! The multiplexer's law, plain: what BitsIf answers is right. -/
namespace Go.Proofs.YtjghcaghigebjaaDoor
open Go Go.RowKit

/-- What an answer that is not empty tells of the call. -/
theorem bitsOk_yes {n : N} {b : Bool} {p : PG (List Int)} {r : N × List Int} (hr : r = pickN (netOk n) (bitsOk n b p)) (h : r.2 ≠ []) : netOk n = true ∧ b = true ∧ (run opsP p ⟨n, none⟩).1.e = none ∧ r = ((run opsP p ⟨n, none⟩).1.n, (run opsP p ⟨n, none⟩).2) := by
  cases hk : netOk n
  · rw [hr, hk] at h; exact absurd rfl h
  · rw [hk] at hr
    unfold pickN bitsOk at hr
    cases b
    · rw [hr] at h; exact absurd rfl h
    · simp only [if_true] at hr
      unfold bitsOut at hr
      split at hr
      · rename_i he; exact ⟨rfl, rfl, he, hr⟩
      · rw [hr] at h; exact absurd rfl h
end Go.Proofs.YtjghcaghigebjaaDoor

/-! The program's bit vectors: VecOk, VecSigned, VecCmp where the vectors are right. -/
namespace Go.Proofs.YtjghcaghigebjaaDoor
open Go Go.RowKit

/-- A number's bit. -/
def bitV (n : Int) (k : Nat) : Bool := n.toNat.testBit k
/-- As a signed number. -/
def sgnV (m : Nat) (n : Int) : Int := if bitV n (m - 1) = true then n - 2 ^ m else n
/-- A comparison of two numbers. -/
def cmpV (op : Int) (m : Nat) (p q : Int) : Bool := if op = 15 then decide (p = q) else if op = 16 then decide (p < q) else decide (sgnV m p < sgnV m q)
end Go.Proofs.YtjghcaghigebjaaDoor

/-! The program's VecCmp where the vectors are right and of one width. -/
namespace Go.Proofs.YtjghcaghigebjaaDoor
open Go Go.RowKit

end Go.Proofs.YtjghcaghigebjaaDoor

/-! The comparisons' law, plain: what BitsCmp answers is right. -/
namespace Go.Proofs.YtjghcaghigebjaaDoor
open Go Go.RowKit

theorem bitsB_end (l : List Bool) (b : Bool) : bitsB (l ++ [b]) = bitsB l + 2 ^ l.length * (if b then 1 else 0) := by
  induction l with
  | nil => simp [bitsB]
  | cons a l ih =>
    rw [List.cons_append, bitsB_cons, bitsB_cons, ih, List.length_cons, Int.pow_succ]
    cases b <;> simp <;> omega
theorem bitV_end (l : List Bool) (b : Bool) : bitV (bitsB (l ++ [b])) l.length = b := by
  unfold bitV
  rw [bitsB_end]
  obtain ⟨h0, h1⟩ := bitsB_lt l
  obtain ⟨a, ha⟩ := Int.eq_ofNat_of_zero_le h0
  rw [ha] at h1 ⊢
  have h2 : a < 2 ^ l.length := by exact_mod_cast h1
  have e : ((a : Int) + 2 ^ l.length * (if b then 1 else 0)) = ((a + 2 ^ l.length * (if b then 1 else 0) : Nat) : Int) := by
    cases b <;> simp
  rw [e, Int.toNat_natCast]
  cases b
  · simpa using Nat.testBit_lt_two_pow h2
  · rw [if_pos rfl, Nat.mul_one, Nat.add_comm, Nat.testBit_two_pow_add_eq, Nat.testBit_lt_two_pow h2]; rfl
theorem sgnV_end (l : List Bool) (b : Bool) : sgnV (l.length + 1) (bitsB (l ++ [b])) = bitsB l - 2 ^ l.length * (if b then 1 else 0) := by
  unfold sgnV
  rw [Nat.add_sub_cancel, bitV_end, bitsB_end, Int.pow_succ]
  cases b <;> simp <;> omega
theorem less_end (X Y : List Bool) (x y : Bool) (h : X.length = Y.length) : lessB (X ++ [y]) (Y ++ [x]) false = decide (sgnV (X.length + 1) (bitsB (X ++ [x])) < sgnV (X.length + 1) (bitsB (Y ++ [y]))) := by
  rw [lessB_val _ _ _ (by simp [h]), sgnV_end, h, sgnV_end, bitsB_end, bitsB_end, h]
  have h1 := bitsB_lt X
  have h2 := bitsB_lt Y
  rw [h] at h1
  have h0 : ∀ a b : Int, (if a = b then false else decide (a < b)) = decide (a < b) := fun a b => by
    split <;> rename_i e
    · rw [e]; simp
    · rfl
  rw [h0, decide_eq_decide]
  generalize (2 : Int) ^ Y.length = k at *
  cases x <;> cases y <;> simp only [Bool.false_eq_true, if_false, if_true] <;> omega
theorem topL_end (X Y : List Int) (x y : Int) (h : X.length = Y.length) : topL (X ++ [x]) (Y ++ [y]) = X ++ [y] := by
  unfold topL
  simp [h]
theorem end_of {l : List Int} (h : 1 ≤ l.length) : ∃ X x, l = X ++ [x] := ⟨l.dropLast, l.getLast (by intro e; rw [e] at h; simp at h), (List.dropLast_concat_getLast _).symm⟩
/-- The marks' comparison, told of the marks' values. -/
def cmpB (op : Int) (w : List Bool) (xs ys : List Int) : Bool := if op = 15 then sameB (xs.map (netLit w)) (ys.map (netLit w)) true else if op = 16 then lessB (xs.map (netLit w)) (ys.map (netLit w)) false else lessB ((topL xs ys).map (netLit w)) ((topL ys xs).map (netLit w)) false
theorem cmpB_val {op : Int} {w : List Bool} {xs ys : List Int} (h : xs.length = ys.length) (h1 : 1 ≤ xs.length) : cmpB op w xs ys = cmpV op xs.length (bitsB (xs.map (netLit w))) (bitsB (ys.map (netLit w))) := by
  unfold cmpB cmpV
  split
  · rw [sameB_val _ _ _ (by simp [h])]; simp
  · split
    · rw [lessB_val _ _ _ (by simp [h])]
      split <;> rename_i e
      · rw [e]; simp
      · rfl
    · obtain ⟨X, x, rfl⟩ := end_of h1
      obtain ⟨Y, y, rfl⟩ := end_of (h ▸ h1)
      have hl : X.length = Y.length := by simpa using h
      rw [topL_end _ _ _ _ hl, topL_end _ _ _ _ hl.symm]
      have := less_end (X.map (netLit w)) (Y.map (netLit w)) (netLit w x) (netLit w y) (by simp [hl])
      simpa using this
theorem one_mark {n : N} (h : netOk n = true) : netMark n 1 = true := netMark_iff.2 (by have := (netOk_all.1 h).1; omega)
theorem cmp_all {op : Int} {w : List Bool} {n : N} {xs ys : List Int} (h : xs.length = ys.length) (h1 : 1 ≤ xs.length) (h0 : netOk n = true) (hx : ∀ x ∈ xs, netMark n x = true) (hy : ∀ y ∈ ys, netMark n y = true) (Φ : Int → N → Prop)
    (k : ∀ m n', Ext n n' → netMark n' m = true → (Obeys n' w → netLit w m = cmpB op w xs ys) → Φ m n') : (cmpP op xs ys).all w Φ n := by
  unfold cmpP
  unfold cmpB at k
  split
  · rename_i e
    rw [if_pos e] at k
    exact all_same xs ys 1 Φ n h h0 hx hy (one_mark h0) fun m n' e1 m1 v1 => k m n' e1 m1 fun hw => by rw [v1 hw, netLit_one hw.one]
  · rename_i e
    rw [if_neg e] at k
    have hm1 : netMark n (-1) = true := netMark_neg (one_mark h0)
    have hv : ∀ n', Ext n n' → Obeys n' w → netLit w (-1) = false := fun n' e1 hw => by
      rw [netLit_turn ((e1.obeys hw).sig (one_mark h0)), netLit_one hw.one]; rfl
    split
    · rename_i e
      rw [if_pos e] at k
      exact all_less xs ys (-1) Φ n h h0 hx hy hm1 fun m n' e1 m1 v1 => k m n' e1 m1 fun hw => by rw [v1 hw, hv n' e1 hw]
    · rename_i e
      rw [if_neg e] at k
      exact all_less _ _ (-1) Φ n (by rw [topL_len, topL_len, h]) h0 (topL_mem hx hy h h1) (topL_mem hy hx h.symm (h ▸ h1)) hm1 fun m n' e1 m1 v1 => k m n' e1 m1 fun hw => by rw [v1 hw, hv n' e1 hw]
/-- What an answer of a comparison tells. -/
structure GrC (op : Int) (n : N) (xs ys : List Int) (r : N × Int) : Prop where
  ok : netOk n = true
  ext : Ext n r.1
  mark : netMark r.1 r.2 = true
  lx : 1 ≤ xs.length ∧ xs.length ≤ 4
  ly : ys.length = xs.length
  hop : 15 ≤ op ∧ op ≤ 17
  val : ∀ ins : List Bool, (ins.length : Int) = n.ins → netLit (netVals r.1 ins) r.2 = cmpV op xs.length (bitsVal (netVals r.1 ins) xs) (bitsVal (netVals r.1 ins) ys)
theorem bitsCmp_law {n : N} {op : Int} {xs ys : List Int} {r : N × Int} (hr : r = cmpOut (pickN (netOk n) (bitsCmp1R n op xs ys))) : r = (⟨0, []⟩, 0) ∨ GrC op n xs ys r := by
  by_cases h : (pickN (netOk n) (bitsCmp1R n op xs ys)).2 = []
  · left; rw [hr]; unfold cmpOut; rw [if_pos h]
  · right
    obtain ⟨hok, hb, he, hv⟩ := bitsOk_yes rfl h
    simp only [Bool.and_eq_true, decide_eq_true_eq] at hb
    obtain ⟨⟨⟨gx, gy⟩, hl⟩, ho⟩ := hb
    obtain ⟨l1, l2, m1⟩ := goodL_iff.1 gx
    obtain ⟨l3, l4, m2⟩ := goodL_iff.1 gy
    unfold opCmp at ho
    simp only [Bool.and_eq_true, decide_eq_true_eq] at ho
    have A := fun w => all_run (w := w) (Φ := fun ms n' => ∃ m, ms = [m] ∧ netMark n' m = true ∧ (Obeys n' w → netLit w m = cmpB op w xs ys)) ((cmpP op xs ys).bind fun m => .ret [m]) n
      (all_bind _ _ _ (cmp_all hl l1 hok m1 m2 _ fun m n' _ hm hv => ⟨m, rfl, hm, hv⟩)) hok he
    have hrr : r = cmpOut ((run opsP ((cmpP op xs ys).bind fun m => .ret [m]) ⟨n, none⟩).1.n, (run opsP ((cmpP op xs ys).bind fun m => .ret [m]) ⟨n, none⟩).2) := by rw [hr]; exact congrArg cmpOut hv
    generalize run opsP ((cmpP op xs ys).bind fun m => .ret [m]) ⟨n, none⟩ = R at *
    obtain ⟨⟨m, hm, hk, _⟩, hx⟩ := A []
    have hr2 : r = (R.1.n, m) := by rw [hrr, hm]; unfold cmpOut; simp
    rw [hr2]
    refine ⟨hok, hx, hk, ⟨l1, l2⟩, hl.symm, ho, fun ins hi => ?_⟩
    have hob := (obeys_vals hx.ok (by rw [hx.ins]; exact hi)).1
    obtain ⟨⟨m', hm', _, hv'⟩, _⟩ := A (netVals R.1.n ins)
    rw [hm] at hm'
    obtain rfl : m = m' := by simpa using hm'
    have bv : ∀ l : List Int, l.length ≤ 4 → bitsVal (netVals R.1.n ins) l = bitsB (l.map (netLit (netVals R.1.n ins))) := fun l hl4 => by unfold bitsVal; rw [if_neg (by omega), bitsOf_map]
    dsimp only
    rw [hv' hob, cmpB_val hl l1, bv xs l2, bv ys l4]
theorem GrC.pos {op : Int} {n : N} {xs ys : List Int} {r : N × Int} (h : GrC op n xs ys r) : r.2 ≠ 0 := fun e => by
  have := netMark_iff.1 h.mark
  omega
end Go.Proofs.YtjghcaghigebjaaDoor

/-! The program's signals turned, signals that are off. -/
namespace Go.Proofs.YtjghcaghigebjaaDoor
open Go Go.RowKit

/-! negated -/
/-! offs -/
/-- A new row of signals. -/
def RetOw (xs : List Int) (w : World) (e : Ending) (w' : World) : Prop := ∃ A c, e = .returned (.slice A xs.length c) ∧ OwnSg w' w.heap.size (.slice A xs.length c) xs ∧ Below w.heap.size w w'
end Go.Proofs.YtjghcaghigebjaaDoor

/-! The reference's l7Fill and l7Turn. -/
namespace Go.Proofs.YtjghcaghigebjaaDoor
open Go Go.RowKit

end Go.Proofs.YtjghcaghigebjaaDoor

/-! The reference's l7Add. -/
namespace Go.Proofs.YtjghcaghigebjaaDoor
open Go Go.RowKit

/-- The variable of a net with room, the result's cells, and a row of the call's own. -/
structure AddI (F : Nat → Prop) (w x : World) (k : N × Bool) (A : Option Addr) (c : Nat) (B : Option Addr) (d : Nat) (l : List Int) : Prop where
  ks : KS2 F w x k A c (fun b => (Value.slice B l.length d).ownBlock = some b)
  own : OwnI x (w.heap.size + 2) (.slice B l.length d) l
theorem AddI.up {F : Nat → Prop} {w x x' : World} {k : N × Bool} {A : Option Addr} {c : Nat} {B : Option Addr} {d : Nat} {l : List Int} (h : AddI F w x k A c B d l) (hF : ∀ b, F b → b < w.heap.size) (hb : Below x.heap.size x x') : AddI F w x' k A c B d l := ⟨h.ks.up hF hb, h.own.up hb⟩
theorem AddI.set {F : Nat → Prop} {w x : World} {k k' : N × Bool} {A A' : Option Addr} {c c' : Nat} {B : Option Addr} {d : Nat} {l : List Int} (h : AddI F w x k A c B d l) (hF : ∀ b, F b → b < w.heap.size) (hs : Lay.gate.Sl x (G2 F w x (fun b => (Value.slice B l.length d).ownBlock = some b)) A' k'.1.gs) (hn : A' = none → k'.1.gs.length = 0) :
    AddI F w (st3 x w.heap.size (.int .i64 k'.1.ins) (.slice A' k'.1.gs.length c') (.bool k'.2)) k' A' c' B d l := by
  have hgr : x.grownBy (st3 x w.heap.size (.int .i64 k'.1.ins) (.slice A' k'.1.gs.length c') (.bool k'.2)) (some w.heap.size) := only_setCell (only_setCell (only_setCell (World.grownBy.refl _ _) _ _) _ _) _ _
  exact ⟨h.ks.set hF hs hn, own_of_heap h.own fun g hg => hgr.block g (h.own.lt g hg).2 (fun e => by injection e with e; have := (h.own.lt g hg).1; omega)⟩
theorem AddI.call {F : Nat → Prop} {w x x' : World} {k k' : N × Bool} {A A' : Option Addr} {c c' : Nat} {B : Option Addr} {d : Nat} {l : List Int} (h : AddI F w x k A c B d l) (hF : ∀ b, F b → b < w.heap.size) (hs : Lay.gate.Sl x' (fun b => G2 F w x (fun b => (Value.slice B l.length d).ownBlock = some b) b ∨ (x.heap.size ≤ b ∧ b < x'.heap.size)) A' k'.1.gs) (hb : Below x.heap.size x x') (hn : A' = none → k'.1.gs.length = 0) :
    AddI F w (st3 x' w.heap.size (.int .i64 k'.1.ins) (.slice A' k'.1.gs.length c') (.bool k'.2)) k' A' c' B d l := by
  refine (h.up hF hb).set hF (hs.mono fun b hb' => ?_) hn
  have hr := lt_of_block h.ks.res
  rcases hb' with (h9 | h9) | h9
  · exact .inl h9
  · exact .inr ⟨h9.1, Nat.lt_of_lt_of_le h9.2.1 hb.size, h9.2.2⟩
  · exact .inr ⟨by omega, h9.2, fun e => by have := (h.own.lt b e).2; omega⟩
def ATup (F S : Nat → Prop) (w : World) (m : (N × Bool) × Int) (v : Value) (z : World) : Prop := ∃ A2 c2, v = .tuple #[.agg #[.int .i64 m.1.1.ins, .slice A2 m.1.1.gs.length c2, .bool m.1.2], .int .i64 m.2] ∧ (A2 = none → m.1.1.gs.length = 0) ∧ Lay.gate.Sl z (G2 F w z S) A2 m.1.1.gs ∧ w.heap.size ≤ z.heap.size
def ANet (F S : Nat → Prop) (w : World) (m : (N × Bool) × Int) (v : Value) (z : World) : Prop := ∃ A2 c2, v = .agg #[.int .i64 m.1.1.ins, .slice A2 m.1.1.gs.length c2, .bool m.1.2] ∧ (A2 = none → m.1.1.gs.length = 0) ∧ Lay.gate.Sl z (G2 F w z S) A2 m.1.1.gs ∧ w.heap.size ≤ z.heap.size
theorem g2_stS {F S : Nat → Prop} {w x y : World} {A : Option Addr} {gs : List G} (hF : ∀ b, F b → b < w.heap.size) (h3 : Lay.gate.Sl x (G2 F w x S) A gs) (h4 : w.heap.size ≤ x.heap.size) (hR : x.grownBy y (some w.heap.size)) : Lay.gate.Sl y (G2 F w y S) A gs :=
  (h3.keep fun b hb => hR.block b (hb.elim (fun h9 => Nat.lt_of_lt_of_le (hF b h9) h4) (fun h9 => h9.2.1)) (fun e => by injection e with e; exact hb.elim (fun h9 => by have := hF b h9; omega) (fun h9 => by omega))).mono fun b hb => hb.imp id fun h9 => ⟨h9.1, Nat.lt_of_lt_of_le h9.2.1 hR.size, h9.2.2⟩
theorem ATup.up {F S : Nat → Prop} {w x y : World} {m : (N × Bool) × Int} {v : Value} (hF : ∀ b, F b → b < w.heap.size) (h : ATup F S w m v x) (hb : Below x.heap.size x y) : ATup F S w m v y := by
  obtain ⟨A2, c2, h1, h2, h3, h4⟩ := h
  exact ⟨A2, c2, h1, h2, G2.up2 h3 (fun b hb => Nat.lt_of_lt_of_le (hF b hb) h4) hb, Nat.le_trans h4 hb.size⟩
theorem ATup.st {F S : Nat → Prop} {w x y : World} {m : (N × Bool) × Int} {v : Value} (hF : ∀ b, F b → b < w.heap.size) (h : ATup F S w m v x) (hR : x.grownBy y (some w.heap.size)) : ATup F S w m v y := by
  obtain ⟨A2, c2, h1, h2, h3, h4⟩ := h
  exact ⟨A2, c2, h1, h2, g2_stS hF h3 h4 hR, Nat.le_trans h4 hR.size⟩
theorem ANet.up {F S : Nat → Prop} {w x y : World} {m : (N × Bool) × Int} {v : Value} (hF : ∀ b, F b → b < w.heap.size) (h : ANet F S w m v x) (hb : Below x.heap.size x y) : ANet F S w m v y := by
  obtain ⟨A2, c2, h1, h2, h3, h4⟩ := h
  exact ⟨A2, c2, h1, h2, G2.up2 h3 (fun b hb => Nat.lt_of_lt_of_le (hF b hb) h4) hb, Nat.le_trans h4 hb.size⟩
theorem ANet.st {F S : Nat → Prop} {w x y : World} {m : (N × Bool) × Int} {v : Value} (hF : ∀ b, F b → b < w.heap.size) (h : ANet F S w m v x) (hR : x.grownBy y (some w.heap.size)) : ANet F S w m v y := by
  obtain ⟨A2, c2, h1, h2, h3, h4⟩ := h
  exact ⟨A2, c2, h1, h2, g2_stS hF h3 h4 hR, Nat.le_trans h4 hR.size⟩
end Go.Proofs.YtjghcaghigebjaaDoor

/-! The program's sums; its operations on one list. -/
namespace Go.Proofs.YtjghcaghigebjaaDoor
open Go Go.RowKit

/-- What is so while a sum's gates are made. -/
def SumI (a0 a1 : Addr) (lo : Nat) (W : World) (q r : Nat) (s s' : BS) (A : Option Addr) (c : Nat) (l : List Int) (called : Bool) (x : World) : Prop := BelB lo W x ∧ Bd a0 a1 lo x q r (if called = true then s' else s) ∧ OwnSg x W.heap.size (.slice A l.length c) l
theorem SumI.up {a0 a1 : Addr} {lo : Nat} {W : World} {q r : Nat} {s s' : BS} {A : Option Addr} {c : Nat} {l : List Int} {called : Bool} {x x' : World} (h : SumI a0 a1 lo W q r s s' A c l called x) (hb : Below x.heap.size x x') : SumI a0 a1 lo W q r s s' A c l called x' := ⟨h.1.trans (.of hb h.2.1.size), h.2.1.up hb, own_below h.2.2 hb (Nat.le_refl _)⟩
end Go.Proofs.YtjghcaghigebjaaDoor

/-! The program's signals that are off; its operations on one list. -/
namespace Go.Proofs.YtjghcaghigebjaaDoor
open Go Go.RowKit

end Go.Proofs.YtjghcaghigebjaaDoor

/-! The program's rows of signals, one behind the other; bin at OpCat. -/
namespace Go.Proofs.YtjghcaghigebjaaDoor
open Go Go.RowKit

theorem grow_eq (n : Nat) (w : World) (h0 : 0 < n) (hn : n ≤ 4000) : ∃ c w2, (Builtin.append_ #[74, 3] 74 #[.slice none 0 0, .int .i64 (n : Int)]).run Tryd.prog w = .ok (.slice (some ⟨w.heap.size, 0, none⟩) n c) w2 ∧ n ≤ c ∧ c ≤ maxLen ∧ OwnSg w2 w.heap.size (.slice (some ⟨w.heap.size, 0, none⟩) 0 c) [] ∧ Below w.heap.size w w2 := by
  obtain ⟨i0, hi0, hz0, hz1, hz2⟩ := info_parts signal_info
  have hr := Lib.run_append_nil_zeros (P := Tryd.prog) w 74 3 74 83 i0 _ .i64 .i64 Tryd.underlying74 Tryd.underlying3 hi0 hz0 n h0 (by omega) (by omega) (by rw [hz2]; omega)
  have hg := grownCap_ge w n 0 83
  have hl := grownCap_le_maxLen w n 0 83 (by unfold maxLen; omega)
  generalize grownCap w n 0 83 = c at *
  have hsz : (Builtin.zeroCells (Value.int .i64 0).cells n ++ Builtin.zeroCells (Value.int .i64 0).cells (c - n)).size = c := by
    rw [Array.size_append, size_zeroCells, size_zeroCells, show (Value.int .i64 0).cells.size = 1 from rfl]; omega
  generalize Builtin.zeroCells (Value.int .i64 0).cells n ++ Builtin.zeroCells (Value.int .i64 0).cells (c - n) = cur at *
  refine ⟨c, _, hr, hg, hl, ⟨by simp, .inr ⟨w.heap.size, c, cur, rfl, Nat.le_refl _, heap_alloc_new w.drew _, Nat.zero_le _, hl, by rw [hsz, Nat.mul_one], by simp⟩⟩, ?_⟩
  exact (below_drewN (Below.refl _ _) 1).alloc (Nat.le_refl _) _
set_option maxRecDepth 100000 in
set_option maxHeartbeats 2000000 in
theorem growNil_any (n : Nat) (w : World) (hn : n ≤ 4000) : Calls Tryd.prog 123 #[.slice none 0 0, .int .i64 (n : Int)] w (RetOw [] w) := by
  rcases Nat.eq_zero_or_pos n with rfl | h0
  · simp only [Int.cast_ofNat_Int]
    go_enter Tryd.func123, Tryd.ntmps123
    go_wp2
    go_ret
    exact ⟨none, 0, rfl, OwnSg.nil _ _, Below.refl _ _⟩
  · have hpos : (0 : Int) < n := by omega
    obtain ⟨c, w2, hr, hc, hm, ho, hb⟩ := grow_eq n w h0 hn
    have HR := Lib.hid hr
    have HO := Lib.hid ho
    have HB := Lib.hid hb
    unfold maxLen at hm
    clear hr ho hb
    go_enter Tryd.func123, Tryd.ntmps123
    go_wp2_with (at_builtin; refine Lib.wpList_append_run _ (by rfl) (.tmp 20) (.tmp 21) _ _ (by rfl) _ _ (by rfl) (by rfl) _ _ HR.out ?_)
    go_ret
    exact ⟨_, c, rfl, HO.out, HB.out⟩
/-- append of signals onto a row of the call's own. -/
theorem wpList_append_sigs {Q : Exit → Act → World → Prop} {ops : Array Oper} {rest : List Oper} {o : Oper} {a : Act} {w : World} {lo : Nat} {A Y : Option Addr} {c cy : Nat} {xs ys zs : List Int} (hgd : o.guard = none) (s y : Operand)
    (ho : o.op = .call { callee := .builtin .append, args := #[s, y], argTypes := #[74, 74] }) (hs : a.eval s = .slice A xs.length c) (hy : a.eval y = .slice Y ys.length cy)
    (hown : OwnSg w lo (.slice A xs.length c) xs) (hY : Lay.int.Rd w Y ys) (hYn : Y = none → ys.length = 0) (hn : xs.length + ys.length ≤ 1048576) (hlo : lo ≤ w.heap.size) (hzs : zs = xs ++ ys)
    (h : ∀ A' c' w', OwnSg w' lo (.slice A' zs.length c') zs → w.grownBy w' (Value.slice A xs.length c).ownBlock → wpList Tryd.prog ops Q rest (a.put o.dst (.slice A' zs.length c')) w') : wpList Tryd.prog ops Q (o :: rest) a w := by
  obtain ⟨i0, hi0, hz0, hz1, hz2⟩ := info_parts signal_info
  have hl : zs.length = xs.length + ys.length := by rw [hzs]; simp
  have hc : zs.map (Value.int .i64) = xs.map (Value.int .i64) ++ ys.map (Value.int .i64) := by rw [hzs]; simp
  refine wpList_append_src (P := Tryd.prog) w hgd s y 74 ho lo 83 i0 _ 1 8 Tryd.underlying74 hi0 hz0 hz1 hz2 (by rfl) (by omega) _ xs.length (xs.map (Value.int .i64)) hs hown Y ys.length cy (ys.map (Value.int .i64)) hy (src_ints hY) (ints_one _) zs.length hl.symm (by unfold maxLen; omega) (by omega) hlo hYn ?_
  intro A' c' w' h2 _ h3
  exact h A' c' w' (by unfold OwnSg; rw [hc]; exact h2) h3
set_option maxRecDepth 100000 in
set_option maxHeartbeats 4000000 in
theorem concat_any (X Y : Option Addr) (cx cy : Nat) (xs ys : List Int) (b : Nat) (t : TypeId) (w : World) (hb : w.heap[b]? = some (.cells #[.slice Y ys.length cy, .slice X xs.length cx] t (0, 0))) (hX : Lay.int.Rd w X xs) (hY : Lay.int.Rd w Y ys) (hXn : X = none → xs.length = 0) (hYn : Y = none → ys.length = 0) (hn : xs.length ≤ 1000) (hn' : ys.length ≤ 1000) :
    Calls Tryd.prog 104 #[.slice (some ⟨b, 0, none⟩) 2 2] w (RetOw (ys ++ xs) w) := by
  have z0 := (cell_of_block hb 0).1
  have z1 := (cell_of_block hb 1).1
  have HX := Lib.hid hX
  have HY := Lib.hid hY
  have HXN := Lib.hid hXn
  have HYN := Lib.hid hYn
  have HBX := Lib.hid hb
  have HG := Lib.hid (growNil_any (ys.length + xs.length) w (by omega))
  obtain ⟨zs, hzs⟩ : ∃ zs, zs = ys ++ xs := ⟨_, rfl⟩
  have HZ := Lib.hid hzs
  rw [← hzs]
  clear hb hX hY hXn hYn hzs
  go_enter Tryd.func104, Tryd.ntmps104
  go_wp2
  go_loop [3, 11] (fun sz i => (i = .int .i64 0 ∧ sz = .int .i64 0) ∨ (i = .int .i64 1 ∧ sz = .int .i64 (ys.length : Int)) ∨ (i = .int .i64 2 ∧ sz = .int .i64 ((ys.length : Int) + xs.length))) (fun _ i => 2 - (intOf i).toNat)
  case atStart => exact .inl ⟨rfl, rfl⟩
  case round =>
    rcases hrel with ⟨rfl, rfl⟩ | ⟨rfl, rfl⟩ | ⟨rfl, rfl⟩
    · go_wp2
      go_round
      case rel => exact .inr (.inl ⟨rfl, rfl⟩)
      case measure => simp [intOf]
    · go_wp2
      go_round
      case rel => exact .inr (.inr ⟨rfl, rfl⟩)
      case measure => simp [intOf]
    · rw [show (ys.length : Int) + (xs.length : Int) = ((ys.length + xs.length : Nat) : Int) by omega]
      clear z0 z1
      go_wp2_with fail
      refine HG.out.mono ?_
      rintro e w1 ⟨A1, c1, rfl, ho1, hb1⟩
      have HO1 := Lib.hid ho1
      have HB1 := Lib.hid hb1
      clear ho1 hb1 HG
      go_wp2
      go_loopw [6, 27] (fun nw i wr => ∃ (l : List Int) (A : Option Addr) (c : Nat), ((i = .int .i64 0 ∧ l = []) ∨ (i = .int .i64 1 ∧ l = ys) ∨ (i = .int .i64 2 ∧ l = zs)) ∧ nw = .slice A l.length c ∧ OwnSg wr w.heap.size (.slice A l.length c) l ∧ Below w.heap.size w wr) (fun _ i _ => 2 - (intOf i).toNat)
      case atStart => exact ⟨[], A1, c1, .inl ⟨rfl, rfl⟩, rfl, HO1.out, HB1.out⟩
      case round =>
        obtain ⟨l, A, c, hil, rfl, hown, hbr⟩ := hrel
        have hz := (hbr.block b (lt_of_block HBX.out)).trans HBX.out
        have z0 := (cell_of_block hz 0).1
        have z1 := (cell_of_block hz 1).1
        have HOWN := Lib.hid hown
        have HBR := Lib.hid hbr
        have hsz := hbr.size
        have HYR := Lib.hid (HY.out.up hbr)
        have HXR := Lib.hid (HX.out.up hbr)
        clear hz hown hbr
        rcases hil with ⟨rfl, hl⟩ | ⟨rfl, hl⟩ | ⟨rfl, hl⟩
        · have HL := Lib.hid (show ys = l ++ ys by rw [hl]; rfl)
          have hll : l.length + ys.length ≤ 1048576 := by rw [hl]; simp; omega
          clear hl
          go_wp2_with (at_builtin; refine wpList_append_sigs (zs := ys) (by rfl) (.tmp 31) (.tmp 32) (by rfl) (by rfl) (by rfl) HOWN.out HYR.out HYN.out hll hsz HL.out ?_; intro A2 c2 w2 hown2 hg2)
          have hb2 := HBR.out.grown hg2 hsz fun g e => (HOWN.out.lt g e).1
          go_roundw
          case rel => exact ⟨ys, A2, c2, .inr (.inl ⟨rfl, rfl⟩), rfl, hown2, hb2⟩
          case measure => simp [intOf]
        · have HL := Lib.hid (show zs = l ++ xs by rw [hl, HZ.out])
          have hll : l.length + xs.length ≤ 1048576 := by rw [hl]; omega
          clear hl
          go_wp2_with (at_builtin; refine wpList_append_sigs (zs := zs) (by rfl) (.tmp 31) (.tmp 32) (by rfl) (by rfl) (by rfl) HOWN.out HXR.out HXN.out hll hsz HL.out ?_; intro A2 c2 w2 hown2 hg2)
          have hb2 := HBR.out.grown hg2 hsz fun g e => (HOWN.out.lt g e).1
          go_roundw
          case rel => exact ⟨zs, A2, c2, .inr (.inr ⟨rfl, rfl⟩), rfl, hown2, hb2⟩
          case measure => simp [intOf]
        · subst hl
          go_wp2
          go_ret
          exact ⟨A, c, rfl, HOWN.out, HBR.out⟩
/-- What bin makes at OpCat. -/
def catS (n : N) (xs ys : List Int) : BS × List Int := (⟨n, failE none (decide (4 < xs.length + ys.length)) 0⟩, ys ++ xs)
set_option maxHeartbeats 2000000 in
theorem bCat_any (a0 a1 : Addr) (lo q r : Nat) (n : N) (X Y : Option Addr) (cx cy : Nat) (xs ys : List Int) (w : World) (h : Bd a0 a1 lo w q r ⟨n, none⟩) (hX : Lay.int.Pl w X xs) (hY : Lay.int.Pl w Y ys) (hXn : X = none → xs.length = 0) (hYn : Y = none → ys.length = 0) (hxm : ∀ x ∈ xs, MB x) (hym : ∀ y ∈ ys, MB y) (hn : xs.length ≤ 500) (hn' : ys.length ≤ 500) :
    Calls Tryd.prog 76 #[.pointer (some ⟨q, 0, none⟩), .int .i64 14, .slice X xs.length cx, .slice Y ys.length cy] w (RetL a0 a1 lo w q r (catS n xs ys)) := by
  have HBD := Lib.hid h
  have hlo := h.size
  have HX := Lib.hid hX
  have HY := Lib.hid hY
  have HXN := Lib.hid hXn
  have HYN := Lib.hid hYn
  obtain ⟨bb, hbb⟩ : ∃ bb, bb = decide (4 < xs.length + ys.length) := ⟨_, rfl⟩
  have hbI : decide ((4 : Int) < (xs.length : Int) + (ys.length : Int)) = bb := by rw [hbb, decide_eq_decide]; omega
  have HF := Lib.hid (fail_any a0 a1 lo q r none bb 0 w h.toBx)
  have g0 := h.g.c0
  have hv : errV a0 a1 (some 0) = sentV a0 := rfl
  rw [hv] at HF
  obtain ⟨zs, hzs⟩ : ∃ zs, zs = ys ++ xs := ⟨_, rfl⟩
  have HZM : Hid (∀ m ∈ zs, MB m) := Lib.hid fun m hm => by rw [hzs] at hm; exact (List.mem_append.1 hm).elim (hym m) (hxm m)
  have HZ := Lib.hid hzs
  rw [show catS n xs ys = (⟨n, failE none bb 0⟩, zs) by rw [hbb, hzs]; rfl]
  clear h hX hY hXn hYn hxm hym hv hzs hbb
  go_enter Tryd.func76, Tryd.ntmps76
  go_wp2_with fail
  refine HF.out.mono ?_
  rintro e w1 ⟨rfl, hb1, hx1, hk1⟩
  have hal : Below w1.heap.size w1 (w1.alloc (.cells #[.slice Y ys.length cy, .slice X xs.length cx] 74)) := (Below.refl _ _).alloc (Nat.le_refl _) _
  have HB1 := Lib.hid (hb1.trans (.of hal hx1.size))
  have HD1 := Lib.hid ((Bx.bd HBD.out hx1 hk1 (fun h => (failE_none h).1)).up hal)
  have HX := Lib.hid ((HX.out.upB hb1).upP hal)
  have HY := Lib.hid ((HY.out.upB hb1).upP hal)
  have HC := Lib.hid (concat_any X Y cx cy xs ys w1.heap.size 74 _ (heap_alloc_new w1 (.cells #[.slice Y ys.length cy, .slice X xs.length cx] 74)) HX.out.plrd HY.out.plrd HXN.out HYN.out (by omega) (by omega))
  rw [← HZ.out] at HC
  clear hb1 hx1 hk1 hal HF g0 hbI
  go_wp2_with fail
  refine HC.out.mono ?_
  rintro e w2 ⟨A2, c2, rfl, ho2, hb2⟩
  have HO2 := Lib.hid ho2
  have HB2 := Lib.hid hb2
  clear ho2 hb2 HC
  go_wp2
  go_ret
  exact ⟨A2, c2, rfl, HO2.out.pl.1, HO2.out.pl.2, HZM.out, HB1.out.trans (.of HB2.out HD1.out.size), HD1.out.up HB2.out⟩
end Go.Proofs.YtjghcaghigebjaaDoor

/-! The program's BitsBin, whatever its operation makes. -/
namespace Go.Proofs.YtjghcaghigebjaaDoor
open Go Go.RowKit

def binZ (n : N) (xs ys : List Int) (Z : BS × List Int) : N × List Int := if (goodL n xs && goodL n ys) = true then bitsOut Z else (⟨0, []⟩, [])
/-- The operation's contract, the lists being right. -/
def BinC (op : Int) (n : N) (xs ys : List Int) (Z : BS × List Int) : Prop := ∀ (a0 a1 : Addr) (lo q r : Nat) (X Y : Option Addr) (cx cy : Nat) (w : World), Bd a0 a1 lo w q r ⟨n, none⟩ → Lay.int.Pl w X xs → Lay.int.Pl w Y ys →
  Calls Tryd.prog 76 #[.pointer (some ⟨q, 0, none⟩), .int .i64 op, .slice X xs.length cx, .slice Y ys.length cy] w (RetL a0 a1 lo w q r Z)
theorem bin_out {n : N} {xs ys : List Int} {Z : BS × List Int} {e2 : Option Nat} (h3 : e2 = failE none (!goodL n xs || !goodL n ys) 0) : binZ n xs ys Z = if e2 = none then bitsOut Z else (⟨0, []⟩, []) := by
  rw [h3]
  unfold binZ
  cases goodL n xs <;> cases goodL n ys <;> simp [failE]
set_option maxRecDepth 100000 in
set_option maxHeartbeats 4000000 in
theorem bitsBin1_any (a0 a1 : Addr) (lo q r ba bb bc : Nat) (n : N) (A B : Option Addr) (ca cb : Nat) (xs ys : List Int) (op : Int) (Z : BS × List Int) (w : World) (h : Bd a0 a1 lo w q r ⟨n, none⟩) (hbin : goodL n xs = true → goodL n ys = true → BinC op n xs ys Z) (hZ : Z.2.length ≤ 1000)
    (ha : w.heap[ba]? = some (.cells #[.slice A xs.length ca] 25 (0, 0))) (hb : w.heap[bb]? = some (.cells #[.slice B ys.length cb] 25 (0, 0))) (hc : w.heap[bc]? = some (.cells #[.int .i64 op] 3 (0, 0)))
    (hX : Lay.int.Sl w (fun b => b < lo) A xs) (hY : Lay.int.Sl w (fun b => b < lo) B ys) (hxi : i64s xs) (hyi : i64s ys) (hlxs : xs.length ≤ 1048576) (hlys : ys.length ≤ 1048576) :
    Calls Tryd.prog 75 #[.pointer (some ⟨q, 0, none⟩), .pointer (some ⟨ba, 0, none⟩), .pointer (some ⟨bb, 0, none⟩), .pointer (some ⟨bc, 0, none⟩)] w (RetBC a0 a1 lo w q r (binZ n xs ys Z)) := by
  have HA := Lib.hid ha
  have HB := Lib.hid hb
  have HCc := Lib.hid hc
  have Hxs := Lib.hid hX
  have Hys := Lib.hid hY
  have HIxs := Lib.hid hxi
  have HIys := Lib.hid hyi
  have HBD := Lib.hid h
  have HNB := Lib.hid h.nb
  have HBIN := Lib.hid hbin
  have HZL := Lib.hid hZ
  have hlo := h.size
  obtain ⟨e1, he1⟩ : ∃ e1, e1 = listE n none xs := ⟨_, rfl⟩
  obtain ⟨e2, he2⟩ : ∃ e2, e2 = listE n e1 ys := ⟨_, rfl⟩
  have HE1 := Lib.hid he1
  have HE2 := Lib.hid he2
  have h3 : e2 = failE none (!goodL n xs || !goodL n ys) 0 := by rw [he2, he1]; unfold listE; rw [failE_twice]
  have HOUT := Lib.hid (bin_out (Z := Z) h3)
  have HGOOD : Hid (e2 = none → goodL n xs = true ∧ goodL n ys = true) := Lib.hid (fun h0 => by
    rw [h3] at h0
    have := (failE_none h0).2
    revert this
    cases goodL n xs <;> cases goodL n ys <;> simp)
  clear he1 he2 h3 h ha hb hc hX hY hxi hyi hbin hZ
  go_enter Tryd.func75, Tryd.ntmps75
  go_wp2
  refine wp_region_rel4 [[], [], [(0, 8), (1, 9)], [], [], [(3, 11), (4, 12)], [(2, 10)], [(5, 13)]]
    (fun x9 y9 => Below x9.heap.size x9 y9)
    [(2, fun x9 y9 => BelB lo x9 y9), (5, fun x9 y9 => BelB lo x9 y9)]
    (fun f9 x9 => TwoI a0 a1 lo w q r n (stE (f9 5) e2 (stE (f9 2) e1 none)) x9)
    [fun vs9 _ => vs9 0 = (.pointer (some ⟨q, 0, none⟩)),
    fun vs9 _ => vs9 1 = (.slice A xs.length ca),
    fun vs9 y9 => (fun v z => ∃ A9 c9, v = .slice A9 xs.length c9 ∧ xs.length ≤ c9 ∧ Lay.int.Pl z A9 xs) (vs9 2) y9,
    fun vs9 _ => vs9 3 = (.pointer (some ⟨q, 0, none⟩)),
    fun vs9 _ => vs9 4 = (.slice B ys.length cb),
    fun vs9 y9 => (fun v z => ∃ A9 c9, v = .slice A9 ys.length c9 ∧ ys.length ≤ c9 ∧ Lay.int.Pl z A9 ys) (vs9 5) y9,
    fun vs9 _ => vs9 6 = vs9 2,
    fun vs9 _ => vs9 7 = vs9 5]
    [(0, 8), (1, 9), (2, 10), (3, 11), (4, 12), (5, 13), (6, 6), (7, 7)] (by kernel_rfl) (by kernel_rfl) (by kernel_rfl) (by kernel_rfl)
    (fun _ => Below.refl _ _) ⟨fun _ => BelB.refl _ _, fun _ => BelB.refl _ _, trivial⟩
    ⟨⟨.inr (fun _ _ _ h _ => h), ⟨.inr (.inr (fun _ _ _ h _ => h)), .inr (.inr (fun _ _ _ h _ => h)), trivial⟩⟩,
    ⟨.inr (fun _ _ _ h _ => h), ⟨.inr (.inr (fun _ _ _ h _ => h)), .inr (.inr (fun _ _ _ h _ => h)), trivial⟩⟩,
    ⟨.inr (fun vs9 x9 y9 h9 hR9 => (show ∀ v9 y8 y7, (fun v z => ∃ A9 c9, v = .slice A9 xs.length c9 ∧ xs.length ≤ c9 ∧ Lay.int.Pl z A9 xs) v9 y8 → (fun x9 y9 => Below x9.heap.size x9 y9) y8 y7 → (fun v z => ∃ A9 c9, v = .slice A9 xs.length c9 ∧ xs.length ≤ c9 ∧ Lay.int.Pl z A9 xs) v9 y7 from fun _ _ _ ⟨A9, c9, h1, h2, h3⟩ hR => ⟨A9, c9, h1, h2, h3.upP hR⟩) (vs9 2) x9 y9 h9 hR9), ⟨.inr (.inl rfl), .inr (.inr (fun vs9 x9 y9 h9 hR9 => (show ∀ v9 y8 y7, (fun v z => ∃ A9 c9, v = .slice A9 xs.length c9 ∧ xs.length ≤ c9 ∧ Lay.int.Pl z A9 xs) v9 y8 → (fun x9 y9 => BelB lo x9 y9) y8 y7 → (fun v z => ∃ A9 c9, v = .slice A9 xs.length c9 ∧ xs.length ≤ c9 ∧ Lay.int.Pl z A9 xs) v9 y7 from fun _ _ _ ⟨A9, c9, h1, h2, h3⟩ hR => ⟨A9, c9, h1, h2, h3.upB hR⟩) (vs9 2) x9 y9 h9 hR9)), trivial⟩⟩,
    ⟨.inr (fun _ _ _ h _ => h), ⟨.inr (.inr (fun _ _ _ h _ => h)), .inr (.inr (fun _ _ _ h _ => h)), trivial⟩⟩,
    ⟨.inr (fun _ _ _ h _ => h), ⟨.inr (.inr (fun _ _ _ h _ => h)), .inr (.inr (fun _ _ _ h _ => h)), trivial⟩⟩,
    ⟨.inr (fun vs9 x9 y9 h9 hR9 => (show ∀ v9 y8 y7, (fun v z => ∃ A9 c9, v = .slice A9 ys.length c9 ∧ ys.length ≤ c9 ∧ Lay.int.Pl z A9 ys) v9 y8 → (fun x9 y9 => Below x9.heap.size x9 y9) y8 y7 → (fun v z => ∃ A9 c9, v = .slice A9 ys.length c9 ∧ ys.length ≤ c9 ∧ Lay.int.Pl z A9 ys) v9 y7 from fun _ _ _ ⟨A9, c9, h1, h2, h3⟩ hR => ⟨A9, c9, h1, h2, h3.upP hR⟩) (vs9 5) x9 y9 h9 hR9), ⟨.inl (by kernel_rfl), .inr (.inl rfl), trivial⟩⟩,
    ⟨.inr (fun _ _ _ h _ => h), ⟨.inr (.inr (fun _ _ _ h _ => h)), .inr (.inr (fun _ _ _ h _ => h)), trivial⟩⟩,
    ⟨.inr (fun _ _ _ h _ => h), ⟨.inr (.inr (fun _ _ _ h _ => h)), .inr (.inr (fun _ _ _ h _ => h)), trivial⟩⟩, trivial⟩ ⟨fun vs vs' x h _ hv => (by dsimp only at hv ⊢; first | (rw [← h]; exact hv) | exact hv),
    fun vs vs' x h _ hv => (by dsimp only at hv ⊢; first | (rw [← h]; exact hv) | exact hv),
    fun vs vs' x h _ hv => (by dsimp only at hv ⊢; first | (rw [← h]; exact hv) | exact hv),
    fun vs vs' x h _ hv => (by dsimp only at hv ⊢; first | (rw [← h]; exact hv) | exact hv),
    fun vs vs' x h _ hv => (by dsimp only at hv ⊢; first | (rw [← h]; exact hv) | exact hv),
    fun vs vs' x h _ hv => (by dsimp only at hv ⊢; first | (rw [← h]; exact hv) | exact hv),
    fun vs vs' x h hd hv => (by have h2 := hd 2 (by decide); show vs' 6 = vs' 2; exact h.symm.trans (Eq.trans hv h2)),
    fun vs vs' x h hd hv => (by have h2 := hd 5 (by decide); show vs' 7 = vs' 5; exact h.symm.trans (Eq.trans hv h2)), trivial⟩ (⟨BelB.of (below_drewN (Below.refl _ _) 1) hlo, HBD.out.toBx.up (below_drewN (Below.refl _ _) 1), (HBD.out.circ rfl).up (below_drewN (Below.refl _ _) 1)⟩) ⟨?_, ?_, ?_, ?_, ?_, ?_, ?_, ?_, trivial⟩ ?_
  · intro vals xw f hf1 hf2 hf3 hI hF
    clear hf2 hf3
    dsimp only [owes4, bare]
    simp only [putsD, Act.put, List.setIfInBounds_toArray, List.set_cons_zero, List.set_cons_succ]
    go_wp2
    exact ⟨rfl, rfl, ⟨fun h9 => absurd h9 (Nat.ne_of_beq_eq_false rfl), fun _ => ⟨fun h9 => absurd h9 (Nat.ne_of_beq_eq_false rfl), fun _ => Below.refl _ _⟩⟩, hI⟩
  · intro vals xw f hf1 hf2 hf3 hI hF
    clear hf2 hf3
    dsimp only [owes4, bare]
    simp only [putsD, Act.put, List.setIfInBounds_toArray, List.set_cons_zero, List.set_cons_succ]
    have c9 := (cell_of_block (kd_of hI.1 HA.out (by decide) (by decide) (by decide)) 0).1
    go_wp2
    exact ⟨rfl, rfl, ⟨fun h9 => absurd h9 (Nat.ne_of_beq_eq_false rfl), fun _ => ⟨fun h9 => absurd h9 (Nat.ne_of_beq_eq_false rfl), fun _ => Below.refl _ _⟩⟩, hI⟩
  · intro vals xw f hf1 hf2 hf3 hI hF
    have k5 : f 5 = false := hf3 5 (by kernel_rfl)
    clear hf2 hf3
    simp only [saysD, List.getD_cons_zero, List.getD_cons_succ, and_true] at hF
    obtain ⟨e8, e9⟩ := hF
    dsimp only [owes4, bare]
    simp only [putsD, Act.put, List.setIfInBounds_toArray, List.set_cons_zero, List.set_cons_succ]
    simp only [e8, e9]
    have hI := hI
    rw [hf1, k5] at hI
    have HX9 := Lib.hid (Hxs.out.below hI.1.bel (fun _ h => h))
    have I1 := Lib.hid hI.1
    have HC9 := Lib.hid (list_any a0 a1 lo q r n none A ca xs xw hI.2.1 hI.2.2 HNB.out HX9.out HIxs.out hlxs)
    clear hI HX9
    go_wp2_with fail
    refine HC9.out.mono ?_
    rintro e wx ⟨A9, c9, rfl, h1, h2, h3, h4, h5⟩
    have H2 := Lib.hid h2
    have H3 := Lib.hid h3
    have H4 := Lib.hid h4
    have H5 := Lib.hid h5
    clear h2 h3 h4 h5 HC9
    go_wp2
    exact ⟨rfl, ⟨A9, c9, rfl, h1, H2.out⟩, ⟨fun _ => H3.out, fun h9 => absurd rfl h9⟩, show TwoI a0 a1 lo w q r n (stE (did f 2 5) e2 (stE (did f 2 2) e1 none)) wx from (by rw [did_same, did_ne (by decide), k5]; exact ⟨I1.out.trans H3.out, by rw [HE1.out]; exact H4.out, H5.out⟩)⟩
  · intro vals xw f hf1 hf2 hf3 hI hF
    clear hf2 hf3
    dsimp only [owes4, bare]
    simp only [putsD, Act.put, List.setIfInBounds_toArray, List.set_cons_zero, List.set_cons_succ]
    go_wp2
    exact ⟨rfl, rfl, ⟨fun h9 => absurd h9 (Nat.ne_of_beq_eq_false rfl), fun _ => ⟨fun h9 => absurd h9 (Nat.ne_of_beq_eq_false rfl), fun _ => Below.refl _ _⟩⟩, hI⟩
  · intro vals xw f hf1 hf2 hf3 hI hF
    clear hf2 hf3
    dsimp only [owes4, bare]
    simp only [putsD, Act.put, List.setIfInBounds_toArray, List.set_cons_zero, List.set_cons_succ]
    have c9 := (cell_of_block (kd_of hI.1 HB.out (by decide) (by decide) (by decide)) 0).1
    go_wp2
    exact ⟨rfl, rfl, ⟨fun h9 => absurd h9 (Nat.ne_of_beq_eq_false rfl), fun _ => ⟨fun h9 => absurd h9 (Nat.ne_of_beq_eq_false rfl), fun _ => Below.refl _ _⟩⟩, hI⟩
  · intro vals xw f hf1 hf2 hf3 hI hF
    have k2 : f 2 = true := hf2 2 (by kernel_rfl)
    clear hf2 hf3
    simp only [saysD, List.getD_cons_zero, List.getD_cons_succ, and_true] at hF
    obtain ⟨e11, e12⟩ := hF
    dsimp only [owes4, bare]
    simp only [putsD, Act.put, List.setIfInBounds_toArray, List.set_cons_zero, List.set_cons_succ]
    simp only [e11, e12]
    have hI := hI
    rw [hf1, k2] at hI
    have HX9 := Lib.hid (Hys.out.below hI.1.bel (fun _ h => h))
    have I1 := Lib.hid hI.1
    have HC9 := Lib.hid (list_any a0 a1 lo q r n e1 B cb ys xw hI.2.1 hI.2.2 HNB.out HX9.out HIys.out hlys)
    clear hI HX9
    go_wp2_with fail
    refine HC9.out.mono ?_
    rintro e wx ⟨A9, c9, rfl, h1, h2, h3, h4, h5⟩
    have H2 := Lib.hid h2
    have H3 := Lib.hid h3
    have H4 := Lib.hid h4
    have H5 := Lib.hid h5
    clear h2 h3 h4 h5 HC9
    go_wp2
    exact ⟨rfl, ⟨A9, c9, rfl, h1, H2.out⟩, ⟨fun h9 => absurd h9 (Nat.ne_of_beq_eq_false rfl), fun _ => ⟨fun _ => H3.out, fun h9 => absurd rfl h9⟩⟩, show TwoI a0 a1 lo w q r n (stE (did f 5 5) e2 (stE (did f 5 2) e1 none)) wx from (by rw [did_same]; exact ⟨I1.out.trans H3.out, by rw [HE2.out]; exact H4.out, H5.out⟩)⟩
  · intro vals xw f hf1 hf2 hf3 hI hF
    clear hf2 hf3
    simp only [saysD, List.getD_cons_zero, List.getD_cons_succ, and_true] at hF
    obtain ⟨B8, d8, e10, _⟩ := hF
    dsimp only [owes4, bare]
    simp only [putsD, Act.put, List.setIfInBounds_toArray, List.set_cons_zero, List.set_cons_succ]
    simp only [e10]
    go_wp2
    exact ⟨rfl, e10.symm, ⟨fun h9 => absurd h9 (Nat.ne_of_beq_eq_false rfl), fun _ => ⟨fun h9 => absurd h9 (Nat.ne_of_beq_eq_false rfl), fun _ => Below.refl _ _⟩⟩, hI⟩
  · intro vals xw f hf1 hf2 hf3 hI hF
    clear hf2 hf3
    simp only [saysD, List.getD_cons_zero, List.getD_cons_succ, and_true] at hF
    obtain ⟨B8, d8, e13, _⟩ := hF
    dsimp only [owes4, bare]
    simp only [putsD, Act.put, List.setIfInBounds_toArray, List.set_cons_zero, List.set_cons_succ]
    simp only [e13]
    go_wp2
    exact ⟨rfl, e13.symm, ⟨fun h9 => absurd h9 (Nat.ne_of_beq_eq_false rfl), fun _ => ⟨fun h9 => absurd h9 (Nat.ne_of_beq_eq_false rfl), fun _ => Below.refl _ _⟩⟩, hI⟩
  · intro vals xw f hall hI hF
    rw [show List.range _ = [0, 1, 2, 3, 4, 5, 6, 7] from rfl] at hF
    simp only [says, List.getD_cons_zero, List.getD_cons_succ, and_true] at hF
    have i9 : TwoI a0 a1 lo w q r n (stE (f 5) e2 (stE (f 2) e1 none)) xw := hI
    rw [hall 5 (by decide)] at i9
    obtain ⟨_, _, ⟨A7, c7, e7, hc7, hp7⟩, _, _, ⟨B7, d7, e8, hd7, hq7⟩, e5, e6⟩ := hF
    rw [e7] at e5
    rw [e8] at e6
    simp only [putsD, Act.put, List.setIfInBounds_toArray, List.set_cons_zero, List.set_cons_succ]
    simp only [e5, e6]
    have I1 := Lib.hid i9.1
    have I2 := Lib.hid (show Bx a0 a1 lo xw q r e2 from i9.2.1)
    have I3 := Lib.hid i9.2.2
    have HP7 := Lib.hid hp7
    have HQ7 := Lib.hid hq7
    clear i9 hI e5 e6 e7 e8 hp7 hq7
    have y1 := (cell_of_block I2.out.box 1).1
    rcases e2 with _ | e2
    · simp only [errV] at y1
      obtain ⟨g1, g2⟩ := HGOOD.out rfl
      have y3 := (cell_of_block (kd_of I1.out HCc.out (by decide) (by decide) (by decide)) 0).1
      have HCH := Lib.hid (HBIN.out g1 g2 a0 a1 lo q r A7 B7 c7 d7 xw ⟨I2.out, HNB.out, fun _ => I3.out⟩ HP7.out HQ7.out)
      clear g1 g2
      go_wp2_with fail
      refine HCH.out.mono ?_
      rintro e w9 ⟨A8, c8, rfl, k1, k2, k3, k4, k5⟩
      have K2 := Lib.hid k2
      have K4 := Lib.hid (I1.out.trans k4)
      have K5 := Lib.hid k5
      clear k2 k3 k4 k5 HCH y1 y3
      go_wp2
      go_ret
      exact ⟨Z, A8, c8, rfl, HZL.out, K2.out, K4.out, K5.out, by rw [HOUT.out]; exact (if_pos trivial).symm⟩
    · obtain ⟨a, ha⟩ : ∃ a, errV a0 a1 (some e2) = sentV a := by rcases e2 with _ | e2 <;> exact ⟨_, rfl⟩
      simp only [ha] at y1
      clear ha
      go_wp2
      go_ret
      exact ⟨(⟨n, some e2⟩, []), none, 0, rfl, Nat.zero_le _, .nil _ _ _ _, I1.out, ⟨I2.out, HNB.out, fun h => by cases h⟩, by rw [HOUT.out, if_neg (by simp)]; rfl⟩
set_option maxRecDepth 100000 in
set_option maxHeartbeats 4000000 in
theorem built_bin (a0 a1 : Addr) (l0 : Nat) (ba bb bc : Nat) (A : Option Addr) (c : Nat) (n : N) (w : World) (out : N × List Int) (K : World → Prop) (hg : Glb a0 a1 l0 w) (hl0 : l0 ≤ w.heap.size) (hK : ∀ x, Below w.heap.size w x → K x) (h : Lay.gate.Rd w A n.gs) (hn : n.gs.length ≤ 1048576) (hA : A = none → n.gs.length = 0) (hi : okInts n)
    (hcall : ∀ (lo q r : Nat) (z : World), Bd a0 a1 lo z q r ⟨n, none⟩ → netOk n = true → K z → w.heap.size ≤ lo → Calls Tryd.prog 75 #[.pointer (some ⟨q, 0, none⟩), .pointer (some ⟨ba, 0, none⟩), .pointer (some ⟨bb, 0, none⟩), .pointer (some ⟨bc, 0, none⟩)] z (RetBC a0 a1 lo z q r out)) :
    Calls Tryd.prog 46 #[.agg #[.int .i64 n.ins, .slice A n.gs.length c], .func (.func 75) #[] #[.pointer (some ⟨ba, 0, none⟩), .pointer (some ⟨bb, 0, none⟩), .pointer (some ⟨bc, 0, none⟩)]] w (RetBits (pickN (netOk n) out) w) := by
  obtain ⟨hW, hB0, hB1, hWS⟩ := two_boxes w (.cells #[.int .i64 n.ins, .slice A n.gs.length c] 29) (.cells #[.int .i64 0, .slice none 0 0] 29)
  have HW := Lib.hid hW
  have HB1 := Lib.hid hB1
  have HG := Lib.hid hg
  have HK := Lib.hid hK
  have HCALL := Lib.hid hcall
  have HRN := Lib.hid (readNet_any A c n _ (h.up hW) hn hA hi)
  have HWS := Lib.hid hWS
  clear hg hK hcall h hi hB0 hB1 hWS hW
  go_enter Tryd.func46, Tryd.ntmps46
  go_wp2_with fail
  refine HRN.out.mono ?_
  generalize (w.alloc (.cells #[.int .i64 n.ins, .slice A n.gs.length c] 29)).alloc (.cells #[.int .i64 0, .slice none 0 0] 29) = w2 at *
  rintro e w3 ⟨hb3, hcase⟩
  have HB1 := Lib.hid ((hb3.block _ (lt_of_block HB1.out)).trans HB1.out)
  have HB3 := Lib.hid hb3
  clear hb3 HRN
  rcases hcase with ⟨hok, r, rfl, hC⟩ | ⟨hok, rfl⟩
  rotate_left
  · have k5 := (cell_of_block HB1.out 0).1
    have k6 := (cell_of_block HB1.out 1).1
    have kf5 := (cell_of_block HB1.out 0).2
    have kf6 := (cell_of_block HB1.out 1).2
    have HOK := Lib.hid hok
    clear hok
    go_wp2
    refine bodyPost_ret (v := .tuple #[.agg #[.int .i64 0, .slice none 0 0], .slice none 0 0]) (by simp [results, Tryd.results46, go_sem, k5, k6, kf5, kf6]) rfl ?_
    rw [show pickN (netOk n) out = (⟨0, []⟩, []) by rw [HOK.out]; rfl]
    refine ⟨none, none, 0, 0, rfl, Nat.zero_le _, Nat.zero_le _, .nil _ _ _ _, .nil _ _ _ _, ?_, apart_nil rfl⟩
    repeat (refine below_set ?_ (by show w.heap.size ≤ w.heap.size + 1; omega) _)
    exact bthen HW.out HB3.out
  have HOK := Lib.hid hok
  have hnb : NB n := by have := (netOk_iff n).1 hok; exact ⟨this.1, this.2.1, this.2.2.1⟩
  have HNB := Lib.hid hnb
  have HC := Lib.hid hC
  clear hok hnb hC
  have hal : Below w3.heap.size w3 (w3.alloc (.cells #[.pointer (some ⟨r, 0, none⟩), .nilIface] 82)) := (Below.refl _ _).alloc (Nat.le_refl _) _
  have hlo2 : l0 ≤ w2.heap.size := Nat.le_trans hl0 HW.out.size
  have hbd : Bd a0 a1 w2.heap.size (w3.alloc (.cells #[.pointer (some ⟨r, 0, none⟩), .nilIface] 82)) w3.heap.size r ⟨n, none⟩ :=
    ⟨⟨(HG.out.mono hl0).below (bthen HW.out (HB3.out.trans (hal.mono HB3.out.size))) |>.mono HW.out.size, heap_alloc_new _ _, HB3.out.size⟩, HNB.out, fun _ => HC.out.up hal⟩
  have HAL := Lib.hid hal
  have HC4 := Lib.hid (HCALL.out w2.heap.size w3.heap.size r _ hbd HOK.out (HK.out _ (bthen HW.out (HB3.out.trans (hal.mono HB3.out.size)))) HW.out.size)
  clear hal hbd HCALL HK
  go_wp2_with fail
  refine HC4.out.mono ?_
  rintro e w5 ⟨T, A5, c5, rfl, hl5, hp5, hb5, hd5, hT5⟩
  have HB5 : Hid (Below w2.heap.size w2 w5) := Lib.hid (HB3.out.trans ((HAL.out.mono HB3.out.size).trans hb5.bel))
  have HB1 : Hid (w5.heap[w.heap.size + 1]? = some (.cells #[.int .i64 0, .slice none 0 0] 29 (0, 0))) := Lib.hid (by
    have h9 : w.heap.size + 1 < w2.heap.size := by rw [HWS.out]; omega
    exact (hb5.bel.block _ h9).trans ((HAL.out.block _ (Nat.lt_of_lt_of_le h9 HB3.out.size)).trans HB1.out))
  have HP5 := Lib.hid hp5
  have HD5 := Lib.hid hd5
  have HT5 := Lib.hid hT5
  clear hp5 hd5 hT5 HC4 hb5 HAL HC HNB HB3
  have k5 := (cell_of_block HB1.out 0).1
  have k6 := (cell_of_block HB1.out 1).1
  have kf5 := (cell_of_block HB1.out 0).2
  have kf6 := (cell_of_block HB1.out 1).2
  have c0 := HD5.out.g.c0
  have c1 := HD5.out.g.c1
  have q0 := (cell_of_block HD5.out.box 0).1
  have q1 := (cell_of_block HD5.out.box 1).1
  have HGL := Lib.hid HD5.out.g
  obtain ⟨⟨n5, e5⟩, l5⟩ := T
  dsimp only at q1 hl5
  have hfin : ∀ X : World, Below w2.heap.size w2 X → Below w.heap.size w X := fun X hX => bthen HW.out hX
  have HFIN := Lib.hid hfin
  clear hfin
  rcases e5 with _ | e5
  · simp only [errV] at q1
    have hC5 := HD5.out.circ rfl
    obtain ⟨A6, c6, r0, r1, ho6⟩ := circ_cells hC5
    have HO6 := Lib.hid ho6
    have HN : Hid (∀ (b : Addr) (m : Nat), Calls Tryd.prog 82 #[.nilIface, sentV b] (w5.drewN m) fun e w' => e = .returned (.bool false) ∧ w5.drewN m = w') := Lib.hid fun b m => is_nil b _
    have HS5 := Lib.hid hC5.lt
    clear hC5 ho6
    go_wp2
    go_quiet ((go_at_call 82; with_reducible exact quiet_left (HN.out _ _)))
    go_wp2
    clear HN
    have HLT : Hid (w.heap.size + 1 < w2.heap.size) := Lib.hid (by rw [HWS.out]; omega)
    have HQ : Hid (∀ x : World, w5.grownBy x (some (w.heap.size + 1)) → x.cell? ⟨w3.heap.size, 0, none⟩ = some (.pointer (some ⟨r, 0, none⟩)) ∧ x.cell? ⟨r, 0, none⟩ = some (.int .i64 n5.ins) ∧ x.cell? ⟨r, 1, none⟩ = some (.slice A6 n5.gs.length c6)) := Lib.hid fun x hx => by
      have hq := (hx.block _ (lt_of_block HD5.out.box) (fun e => by injection e with e; have := HD5.out.low; have := HLT.out; omega)).trans HD5.out.box
      have hr := hx.block r HS5.out.2 (fun e => by injection e with e; have := HS5.out.1; have := HLT.out; omega)
      exact ⟨(cell_of_block hq 0).1, (World.cell?_of_block (w := w5) (a := ⟨r, 0, none⟩) hr).trans r0, (World.cell?_of_block (w := w5) (a := ⟨r, 1, none⟩) hr).trans r1⟩
    have HL5 : Hid (∀ x : World, w5.grownBy x (some (w.heap.size + 1)) → Lay.int.Rd x A5 l5) := Lib.hid fun x hx => by
      refine (HP5.out.keep fun b hb => hx.block b hb.lt fun e => ?_).mono fun b hb => Nat.lt_of_lt_of_le hb.lt hx.size
      injection e with e
      subst e
      obtain ⟨cs, fr, h9⟩ := hb
      rw [HB1.out] at h9
      injection h9 with h9
      injection h9 with _ h9 _
      exact absurd h9 (by decide)
    refine wp_region_rel4 [[], [(0, 39)], [(1, 40)], [(2, 41)], [(3, 42)], [(4, 43)], [(5, 44)], [], [(7, 46)], [(6, 45)], [(8, 47)]]
      (fun x9 y9 => Below x9.heap.size x9 y9)
      [(9, fun x9 y9 => x9.grownBy y9 (some (w.heap.size + 1)))]
      (fun f9 x9 => BuiltI w5 (w.heap.size + 1) (.agg #[.int .i64 n5.ins, .slice A6 n5.gs.length c6]) #[.int .i64 n5.ins, .slice A6 n5.gs.length c6] (f9 9) x9)
      [fun vs9 _ => vs9 0 = (.pointer (some ⟨w3.heap.size, 0, none⟩)),
    fun vs9 _ => vs9 1 = (.pointer (some ⟨w3.heap.size, 0, none⟩)),
    fun vs9 _ => vs9 2 = (.pointer (some ⟨w3.heap.size, 0, none⟩)),
    fun vs9 _ => vs9 3 = (.pointer (some ⟨r, 0, none⟩)),
    fun vs9 _ => vs9 4 = (.pointer (some ⟨r, 0, none⟩)),
    fun vs9 _ => vs9 5 = (.pointer (some ⟨r, 0, none⟩)),
    fun vs9 _ => vs9 6 = (.agg #[.int .i64 n5.ins, .slice A6 n5.gs.length c6]),
    fun vs9 _ => vs9 7 = (.slice A5 l5.length c5),
    fun vs9 y9 => (fun v z => ∃ B d, v = .slice B l5.length d ∧ l5.length ≤ d ∧ Lay.int.Sl z (Own w5.heap.size z) B l5) (vs9 8) y9,
    fun _ _ => True,
    fun vs9 _ => vs9 10 = vs9 8]
      [(0, 39), (1, 40), (2, 41), (3, 42), (4, 43), (5, 44), (6, 45), (7, 46), (8, 47), (10, 5)] (by kernel_rfl) (by kernel_rfl) (by kernel_rfl) (by kernel_rfl)
      (fun _ => Below.refl _ _) ⟨fun _ => World.grownBy.refl _ _, trivial⟩
      ⟨⟨.inr (fun _ _ _ h _ => h), ⟨.inr (.inr (fun _ _ _ h _ => h)), trivial⟩⟩,
    ⟨.inr (fun _ _ _ h _ => h), ⟨.inr (.inr (fun _ _ _ h _ => h)), trivial⟩⟩,
    ⟨.inr (fun _ _ _ h _ => h), ⟨.inr (.inr (fun _ _ _ h _ => h)), trivial⟩⟩,
    ⟨.inr (fun _ _ _ h _ => h), ⟨.inr (.inr (fun _ _ _ h _ => h)), trivial⟩⟩,
    ⟨.inr (fun _ _ _ h _ => h), ⟨.inr (.inr (fun _ _ _ h _ => h)), trivial⟩⟩,
    ⟨.inr (fun _ _ _ h _ => h), ⟨.inr (.inr (fun _ _ _ h _ => h)), trivial⟩⟩,
    ⟨.inr (fun _ _ _ h _ => h), ⟨.inr (.inr (fun _ _ _ h _ => h)), trivial⟩⟩,
    ⟨.inr (fun _ _ _ h _ => h), ⟨.inr (.inr (fun _ _ _ h _ => h)), trivial⟩⟩,
    ⟨.inr (fun vs9 x9 y9 h9 hR9 => (show ∀ v9 y8 y7, (fun v z => ∃ B d, v = .slice B l5.length d ∧ l5.length ≤ d ∧ Lay.int.Sl z (Own w5.heap.size z) B l5) v9 y8 → (fun x9 y9 => Below x9.heap.size x9 y9) y8 y7 → (fun v z => ∃ B d, v = .slice B l5.length d ∧ l5.length ≤ d ∧ Lay.int.Sl z (Own w5.heap.size z) B l5) v9 y7 from fun _ _ _ ⟨B, d, h1, h2, h3⟩ hR => ⟨B, d, h1, h2, h3.own_up hR⟩) (vs9 8) x9 y9 h9 hR9), ⟨.inr (.inr (fun vs9 x9 y9 h9 hR9 => (show ∀ v9 y8 y7, (fun v z => ∃ B d, v = .slice B l5.length d ∧ l5.length ≤ d ∧ Lay.int.Sl z (Own w5.heap.size z) B l5) v9 y8 → (fun x9 y9 => x9.grownBy y9 (some (w.heap.size + 1))) y8 y7 → (fun v z => ∃ B d, v = .slice B l5.length d ∧ l5.length ≤ d ∧ Lay.int.Sl z (Own w5.heap.size z) B l5) v9 y7 from fun _ _ _ ⟨B, d, h1, h2, h3⟩ hR => ⟨B, d, h1, h2, own_grown9 h3 hR (Nat.lt_of_lt_of_le HLT.out HB5.out.size)⟩) (vs9 8) x9 y9 h9 hR9)), trivial⟩⟩,
    ⟨.inr (fun _ _ _ h _ => h), ⟨.inr (.inl rfl), trivial⟩⟩,
    ⟨.inr (fun _ _ _ h _ => h), ⟨.inr (.inr (fun _ _ _ h _ => h)), trivial⟩⟩, trivial⟩ ⟨fun vs vs' x h _ hv => (by dsimp only at hv ⊢; first | (rw [← h]; exact hv) | exact hv),
    fun vs vs' x h _ hv => (by dsimp only at hv ⊢; first | (rw [← h]; exact hv) | exact hv),
    fun vs vs' x h _ hv => (by dsimp only at hv ⊢; first | (rw [← h]; exact hv) | exact hv),
    fun vs vs' x h _ hv => (by dsimp only at hv ⊢; first | (rw [← h]; exact hv) | exact hv),
    fun vs vs' x h _ hv => (by dsimp only at hv ⊢; first | (rw [← h]; exact hv) | exact hv),
    fun vs vs' x h _ hv => (by dsimp only at hv ⊢; first | (rw [← h]; exact hv) | exact hv),
    fun vs vs' x h _ hv => (by dsimp only at hv ⊢; first | (rw [← h]; exact hv) | exact hv),
    fun vs vs' x h _ hv => (by dsimp only at hv ⊢; first | (rw [← h]; exact hv) | exact hv),
    fun vs vs' x h _ hv => (by dsimp only at hv ⊢; first | (rw [← h]; exact hv) | exact hv),
    fun _ _ _ _ _ _ => trivial,
    fun vs vs' x h hd hv => (by have h2 := hd 8 (by decide); show vs' 10 = vs' 8; exact h.symm.trans (Eq.trans hv h2)), trivial⟩ (⟨grown_of9 (below_drewN (below_drewN (Below.refl _ _) nq) 1) _, fun _ => HB1.out, fun h => by cases h⟩) ⟨?_, ?_, ?_, ?_, ?_, ?_, ?_, ?_, ?_, ?_, ?_, trivial⟩ ?_
    · intro vals xw f hf1 hf2 hf3 hI hF
      clear hf2 hf3
      dsimp only [owes4, bare]
      simp only [putsD, Act.put, List.setIfInBounds_toArray, List.set_cons_zero, List.set_cons_succ]
      go_wp2
      exact ⟨rfl, rfl, ⟨fun h9 => absurd h9 (Nat.ne_of_beq_eq_false rfl), fun _ => Below.refl _ _⟩, hI⟩
    · intro vals xw f hf1 hf2 hf3 hI hF
      clear hf2 hf3
      simp only [saysD, List.getD_cons_zero, List.getD_cons_succ, and_true] at hF
      have e39 := hF
      dsimp only [owes4, bare]
      simp only [putsD, Act.put, List.setIfInBounds_toArray, List.set_cons_zero, List.set_cons_succ]
      simp only [e39]
      go_wp2
      exact ⟨rfl, rfl, ⟨fun h9 => absurd h9 (Nat.ne_of_beq_eq_false rfl), fun _ => Below.refl _ _⟩, hI⟩
    · intro vals xw f hf1 hf2 hf3 hI hF
      clear hf2 hf3
      simp only [saysD, List.getD_cons_zero, List.getD_cons_succ, and_true] at hF
      have e40 := hF
      dsimp only [owes4, bare]
      simp only [putsD, Act.put, List.setIfInBounds_toArray, List.set_cons_zero, List.set_cons_succ]
      simp only [e40]
      go_wp2
      exact ⟨rfl, rfl, ⟨fun h9 => absurd h9 (Nat.ne_of_beq_eq_false rfl), fun _ => Below.refl _ _⟩, hI⟩
    · intro vals xw f hf1 hf2 hf3 hI hF
      clear hf2 hf3
      simp only [saysD, List.getD_cons_zero, List.getD_cons_succ, and_true] at hF
      have e41 := hF
      have c9 := (HQ.out xw hI.1).1
      dsimp only [owes4, bare]
      simp only [putsD, Act.put, List.setIfInBounds_toArray, List.set_cons_zero, List.set_cons_succ]
      simp only [e41]
      go_wp2
      exact ⟨rfl, rfl, ⟨fun h9 => absurd h9 (Nat.ne_of_beq_eq_false rfl), fun _ => Below.refl _ _⟩, hI⟩
    · intro vals xw f hf1 hf2 hf3 hI hF
      clear hf2 hf3
      simp only [saysD, List.getD_cons_zero, List.getD_cons_succ, and_true] at hF
      have e42 := hF
      dsimp only [owes4, bare]
      simp only [putsD, Act.put, List.setIfInBounds_toArray, List.set_cons_zero, List.set_cons_succ]
      simp only [e42]
      go_wp2
      exact ⟨rfl, rfl, ⟨fun h9 => absurd h9 (Nat.ne_of_beq_eq_false rfl), fun _ => Below.refl _ _⟩, hI⟩
    · intro vals xw f hf1 hf2 hf3 hI hF
      clear hf2 hf3
      simp only [saysD, List.getD_cons_zero, List.getD_cons_succ, and_true] at hF
      have e43 := hF
      dsimp only [owes4, bare]
      simp only [putsD, Act.put, List.setIfInBounds_toArray, List.set_cons_zero, List.set_cons_succ]
      simp only [e43]
      go_wp2
      exact ⟨rfl, rfl, ⟨fun h9 => absurd h9 (Nat.ne_of_beq_eq_false rfl), fun _ => Below.refl _ _⟩, hI⟩
    · intro vals xw f hf1 hf2 hf3 hI hF
      clear hf2 hf3
      simp only [saysD, List.getD_cons_zero, List.getD_cons_succ, and_true] at hF
      have e44 := hF
      have c9 := (HQ.out xw hI.1).2.1
      have c8 := (HQ.out xw hI.1).2.2
      dsimp only [owes4, bare]
      simp only [putsD, Act.put, List.setIfInBounds_toArray, List.set_cons_zero, List.set_cons_succ]
      simp only [e44]
      go_wp2
      exact ⟨rfl, rfl, ⟨fun h9 => absurd h9 (Nat.ne_of_beq_eq_false rfl), fun _ => Below.refl _ _⟩, hI⟩
    · intro vals xw f hf1 hf2 hf3 hI hF
      clear hf2 hf3
      dsimp only [owes4, bare]
      simp only [putsD, Act.put, List.setIfInBounds_toArray, List.set_cons_zero, List.set_cons_succ]
      go_wp2
      exact ⟨rfl, rfl, ⟨fun h9 => absurd h9 (Nat.ne_of_beq_eq_false rfl), fun _ => Below.refl _ _⟩, hI⟩
    · intro vals xw f hf1 hf2 hf3 hI hF
      clear hf2 hf3
      simp only [saysD, List.getD_cons_zero, List.getD_cons_succ, and_true] at hF
      have e46 := hF
      dsimp only [owes4, bare]
      simp only [putsD, Act.put, List.setIfInBounds_toArray, List.set_cons_zero, List.set_cons_succ]
      simp only [e46]
      have HI := Lib.hid hI
      have hsz9 : w5.heap.size ≤ xw.heap.size := hI.1.size
      have HRD := Lib.hid (HL5.out xw hI.1)
      clear hI
      go_wp2_with fail
      refine (numbers_any A5 c5 l5 xw HRD.out (by omega)).mono ?_
      rintro e wx ⟨B, d, rfl, h1, h2, h3⟩
      have H3 := Lib.hid h3
      have H2 := Lib.hid (own_mono9 h2 hsz9)
      clear h2 h3
      go_wp2
      exact ⟨rfl, ⟨B, d, rfl, h1, H2.out⟩, ⟨fun h9 => absurd h9 (Nat.ne_of_beq_eq_false rfl), fun _ => H3.out⟩, HI.out.up H3.out⟩
    · intro vals xw f hf1 hf2 hf3 hI hF
      clear hf2 hf3
      simp only [saysD, List.getD_cons_zero, List.getD_cons_succ, and_true] at hF
      have e45 := hF
      dsimp only [owes4, bare]
      simp only [putsD, Act.put, List.setIfInBounds_toArray, List.set_cons_zero, List.set_cons_succ]
      simp only [e45]
      have hbx := hI.2.1 hf1
      have j6 := (cell_of_block hbx 0).1
      have j7 := (cell_of_block hbx 1).1
      have f6 := (cell_of_block hbx 0).2
      have f7 := (cell_of_block hbx 1).2
      have HG1 := Lib.hid hI.1
      have HBX := Lib.hid hbx
      clear hI hbx
      go_wp2
      have h1 := heap_set_same xw (w.heap.size + 1) 0 (.int .i64 n5.ins) _ _ HBX.out
      have h2 := heap_set_same _ (w.heap.size + 1) 1 (.slice A6 n5.gs.length c6) _ _ h1
      have h3 : xw.grownBy ((xw.setCell ⟨w.heap.size + 1, 0, none⟩ (.int .i64 n5.ins)).setCell ⟨w.heap.size + 1, 1, none⟩ (.slice A6 n5.gs.length c6)) (some (w.heap.size + 1)) := only_setCell (only_setCell (World.grownBy.refl _ _) _ _) _ _
      exact ⟨rfl, trivial, ⟨fun _ => h3, fun h9 => absurd rfl h9⟩, grown_trans9 HG1.out h3, fun h => absurd ((did_same f 9).symm.trans h) (by simp), fun _ => h2⟩
    · intro vals xw f hf1 hf2 hf3 hI hF
      clear hf2 hf3
      simp only [saysD, List.getD_cons_zero, List.getD_cons_succ, and_true] at hF
      obtain ⟨B8, d8, e47, _⟩ := hF
      dsimp only [owes4, bare]
      simp only [putsD, Act.put, List.setIfInBounds_toArray, List.set_cons_zero, List.set_cons_succ]
      simp only [e47]
      go_wp2
      exact ⟨rfl, e47.symm, ⟨fun h9 => absurd h9 (Nat.ne_of_beq_eq_false rfl), fun _ => Below.refl _ _⟩, hI⟩
    · intro vals xw f hall hI hF
      rw [show List.range _ = [0, 1, 2, 3, 4, 5, 6, 7, 8, 9, 10] from rfl] at hF
      simp only [says, List.getD_cons_zero, List.getD_cons_succ, and_true] at hF
      obtain ⟨_, _, _, _, _, _, _, _, ⟨B8, d8, e47, hd8, hs8⟩, e5⟩ := hF
      rw [e47] at e5
      have hbx := hI.2.2 (hall 9 (by decide))
      have k5 := (cell_of_block hbx 0).1
      have k6 := (cell_of_block hbx 1).1
      have kf5 := (cell_of_block hbx 0).2
      have kf6 := (cell_of_block hbx 1).2
      have HG1 := Lib.hid hI.1
      have HS8 := Lib.hid hs8
      have HD8 := Lib.hid hd8
      clear hI hbx hs8 hd8
      simp only [putsD, Act.put, List.setIfInBounds_toArray, List.set_cons_zero, List.set_cons_succ]
      simp only [e5]
      clear e5 e47
      go_wp2
      refine bodyPost_ret (v := .tuple #[.agg #[.int .i64 n5.ins, .slice A6 n5.gs.length c6], .slice B8 l5.length d8]) (by simp [results, Tryd.results46, go_sem, k5, k6, kf5, kf6]) rfl ?_
      rw [show pickN (netOk n) out = out by rw [HOK.out]; rfl, ← HT5.out]
      show RetBits (n5, l5) w _ _
      exact ⟨A6, B8, c6, d8, rfl, HO6.out.sl.1, HD8.out, own_mono9 (own_grown9 HO6.out.own HG1.out HLT.out) HW.out.size, own_mono9 HS8.out (Nat.le_trans HW.out.size HB5.out.size), (HFIN.out _ HB5.out).grown HG1.out (bthen HW.out HB5.out).size (fun k hk => by injection hk with hk; omega), apart_of HO6.out.own HS8.out (fun b h1 h2 => by have := h1.2.1; have := h2.1; omega)⟩
  · obtain ⟨a, ha⟩ : ∃ a, errV a0 a1 (some e5) = sentV a := by rcases e5 with _ | e5 <;> exact ⟨_, rfl⟩
    simp only [ha] at q1
    have hcase : (a = a0 ∧ True) ∨ a = a1 := by
      rcases e5 with _ | e5
      · injection ha with _ ha; injection ha with ha; injection ha with ha; exact .inl ⟨ha.symm, trivial⟩
      · injection ha with _ ha; injection ha with ha; injection ha with ha; exact .inr ha.symm
    clear ha
    have HT6 : Hid (out = (⟨0, []⟩, [])) := Lib.hid (by rw [← HT5.out]; exact if_neg (by simp))
    have HSM : Hid (∀ (b : Addr) (m : Nat), Calls Tryd.prog 82 #[sentV b, sentV b] (w5.drewN m) fun e w' => e = .returned (.bool true) ∧ w5.drewN m = w') := Lib.hid fun b m => is_same b _
    have HOT : Hid (∀ (m : Nat), Calls Tryd.prog 82 #[sentV a0, sentV a1] (w5.drewN m) fun e w' => e = .returned (.bool false) ∧ w5.drewN m = w') := Lib.hid fun m => by
      obtain ⟨ca, ta, h0⟩ := HGL.out.b0
      obtain ⟨cb, tb, h1⟩ := HGL.out.b1
      exact is_other a0 a1 ca cb ta tb _ HGL.out.ne h0 h1
    rcases hcase with ⟨rfl, _⟩ | rfl
    · go_wp2
      go_quiet ((go_at_call 82; first | with_reducible exact quiet_left (HOT.out _) | with_reducible exact quiet_left (HSM.out _ _)))
      clear HSM HOT
      go_wp2
      refine bodyPost_ret (v := .tuple #[.agg #[.int .i64 0, .slice none 0 0], .slice none 0 0]) (by simp [results, Tryd.results46, go_sem, k5, k6, kf5, kf6]) rfl ?_
      rw [show pickN (netOk n) out = out by rw [HOK.out]; rfl, HT6.out]
      refine ⟨none, none, 0, 0, rfl, Nat.zero_le _, Nat.zero_le _, .nil _ _ _ _, .nil _ _ _ _, ?_, apart_nil rfl⟩
      repeat (refine below_set ?_ (by show w.heap.size ≤ w.heap.size + 1; omega) _)
      exact below_drewN (HFIN.out _ HB5.out) _
    · go_wp2
      go_quiet ((go_at_call 82; first | with_reducible exact quiet_left (HSM.out _ _) | with_reducible exact quiet_left (HOT.out _)))
      clear HSM HOT
      go_wp2
      refine bodyPost_ret (v := .tuple #[.agg #[.int .i64 0, .slice none 0 0], .slice none 0 0]) (by simp [results, Tryd.results46, go_sem, k5, k6, kf5, kf6]) rfl ?_
      rw [show pickN (netOk n) out = out by rw [HOK.out]; rfl, HT6.out]
      refine ⟨none, none, 0, 0, rfl, Nat.zero_le _, Nat.zero_le _, .nil _ _ _ _, .nil _ _ _ _, ?_, apart_nil rfl⟩
      repeat (refine below_set ?_ (by show w.heap.size ≤ w.heap.size + 1; omega) _)
      exact below_drewN (HFIN.out _ HB5.out) _

set_option maxRecDepth 100000 in
set_option maxHeartbeats 4000000 in
theorem implBitsBin_any (a0 a1 : Addr) (l0 : Nat) (n : N) (c0 : Int) (xs ys : List Int) (A X Y : Option Addr) (c cx cy : Nat) (w : World) (hg : Glb a0 a1 l0 w) (hl0 : l0 ≤ w.heap.size) (h : Lay.gate.Rd w A n.gs) (hn : n.gs.length ≤ 1048576) (hA : A = none → n.gs.length = 0) (hi : okInts n)
    (hX : Lay.int.Rd w X xs) (hY : Lay.int.Rd w Y ys) (hxi : i64s xs) (hyi : i64s ys) (Z : BS × List Int) (hbin : netOk n = true → goodL n xs = true → goodL n ys = true → BinC c0 n xs ys Z) (hZ : Z.2.length ≤ 1000) (hlx : xs.length ≤ 1048576) (hly : ys.length ≤ 1048576) :
    Calls Tryd.prog 38 #[.agg #[.int .i64 n.ins, .slice A n.gs.length c], .int .i64 c0, .slice X xs.length cx, .slice Y ys.length cy] w (RetBits (pickN (netOk n) (binZ n xs ys Z)) w) := by
  obtain ⟨hW, hB0, hB1, hB2, hB3, hB4, hWS⟩ := five_boxes w (.cells #[.int .i64 n.ins, .slice A n.gs.length c] 29) (.cells #[.int .i64 c0] 3) (.cells #[.slice X xs.length cx] 25) (.cells #[.slice Y ys.length cy] 25) (.cells #[.int .i64 0, .slice none 0 0] 29)
  have HW := Lib.hid hW
  have HB0 := Lib.hid hB0
  have HB1 := Lib.hid hB1
  have HB2 := Lib.hid hB2
  have HB3 := Lib.hid hB3
  have HB4 := Lib.hid hB4
  have HWS := Lib.hid hWS
  have z0 := (cell_of_block hB0 0).1
  have z1 := (cell_of_block hB0 1).1
  have HCL := Lib.hid (built_bin a0 a1 l0 (w.heap.size + 1 + 1) (w.heap.size + 1 + 1 + 1) (w.heap.size + 1) A c n _ (binZ n xs ys Z)
    (fun z => z.heap[w.heap.size + 1 + 1]? = some (.cells #[.slice X xs.length cx] 25 (0, 0)) ∧ z.heap[w.heap.size + 1 + 1 + 1]? = some (.cells #[.slice Y ys.length cy] 25 (0, 0)) ∧ z.heap[w.heap.size + 1]? = some (.cells #[.int .i64 c0] 3 (0, 0)) ∧ Lay.int.Sl z (fun b => b < w.heap.size) X xs ∧ Lay.int.Sl z (fun b => b < w.heap.size) Y ys)
    (hg.below (hW.mono hl0)) (Nat.le_trans hl0 hW.size) (fun x hx => ⟨(hx.block _ (by rw [hWS]; omega)).trans hB2, (hx.block _ (by rw [hWS]; omega)).trans hB3, (hx.block _ (by rw [hWS]; omega)).trans hB1, (hX.below (bthen hW hx) (fun _ h => h)), hY.below (bthen hW hx) (fun _ h => h)⟩)
    (h.up hW) hn hA hi (fun lo q r z hz hok9 hk hlo => bitsBin1_any a0 a1 lo q r _ _ _ n X Y cx cy xs ys c0 Z z hz (hbin hok9) hZ hk.1 hk.2.1 hk.2.2.1 (hk.2.2.2.1.mono fun b hb => by rw [hWS] at hlo; omega) (hk.2.2.2.2.mono fun b hb => by rw [hWS] at hlo; omega) hxi hyi hlx hly))
  clear hg h hA hi hX hY hxi hyi hbin hB0 hB1 hB2 hB3 hB4 hW hWS
  generalize hout : pickN (netOk n) (binZ n xs ys Z) = out at *
  have HOUT := Lib.hid hout
  clear hout
  go_enter Tryd.func38, Tryd.ntmps38
  go_wp2_with fail
  refine HCL.out.mono ?_
  generalize ((((w.alloc (.cells #[.int .i64 n.ins, .slice A n.gs.length c] 29)).alloc (.cells #[.int .i64 c0] 3)).alloc (.cells #[.slice X xs.length cx] 25)).alloc (.cells #[.slice Y ys.length cy] 25)).alloc (.cells #[.int .i64 0, .slice none 0 0] 29) = W at *
  rintro e w1 ⟨A1, B1, c1, d1, rfl, h1, h2, h3, h4, h5, h6⟩
  have hb4 := (h5.block _ (lt_of_block HB4.out)).trans HB4.out
  have HX4 := Lib.hid hb4
  have j6 := (cell_of_block hb4 0).1
  have j7 := (cell_of_block hb4 1).1
  have f6 := (cell_of_block hb4 0).2
  have f7 := (cell_of_block hb4 1).2
  have H3 := Lib.hid h3
  have H4 := Lib.hid h4
  have H5 := Lib.hid h5
  clear hb4 h3 h4 h5 HCL
  go_wp2
  have hs1 := heap_set_same w1 (w.heap.size + 1 + 1 + 1 + 1) 0 (.int .i64 out.1.ins) _ _ HX4.out
  have hs2 := heap_set_same _ (w.heap.size + 1 + 1 + 1 + 1) 1 (.slice A1 out.1.gs.length c1) _ _ hs1
  have hs3 : w1.grownBy ((w1.setCell ⟨w.heap.size + 1 + 1 + 1 + 1, 0, none⟩ (.int .i64 out.1.ins)).setCell ⟨w.heap.size + 1 + 1 + 1 + 1, 1, none⟩ (.slice A1 out.1.gs.length c1)) (some (w.heap.size + 1 + 1 + 1 + 1)) := only_setCell (only_setCell (World.grownBy.refl _ _) _ _) _ _
  have k5 := (cell_of_block hs2 0).1
  have k6 := (cell_of_block hs2 1).1
  have kf5 := (cell_of_block hs2 0).2
  have kf6 := (cell_of_block hs2 1).2
  refine bodyPost_ret (v := .tuple #[.agg #[.int .i64 out.1.ins, .slice A1 out.1.gs.length c1], .slice B1 out.2.length d1]) (by simp [results, Tryd.results38, go_sem, k5, k6, kf5, kf6]) rfl ?_
  have hlt : w.heap.size + 1 + 1 + 1 + 1 < W.heap.size := by rw [HWS.out]; omega
  exact ⟨A1, B1, c1, d1, rfl, h1, h2, own_mono9 (own_grown9 H3.out hs3 hlt) HW.out.size, own_mono9 (own_grown9 H4.out hs3 hlt) HW.out.size, (bthen HW.out H5.out).grown hs3 (bthen HW.out H5.out).size (fun k hk => by injection hk with hk; omega), h6⟩
end Go.Proofs.YtjghcaghigebjaaDoor
