/- DrawUnitAll. -/
import Derived.Test.YtndolbplkjhooaaDrE
namespace Go.Proofs.Ytndolbplkjhooaa
open Go Go.RowKit

/-- What a drawn region of a reader's user does to memory: the blocks T may turn; result cells, once stored, stay. -/
def RG (T : Nat → Prop) (sts : List (Nat × Obj × Obj)) (x x' : World) : Prop := Gr T x x' ∧ ∀ s ∈ sts, x.heap[s.1]? = some s.2.2 → x'.heap[s.1]? = some s.2.2
def IG (T : Nat → Prop) (r : Nat) (q0 N : Int) (w : World) (sts : List (Nat × Obj × Obj)) (n : Nat) (x : World) : Prop :=
  Gr T w x ∧ (∃ q, Rdr x r q ∧ q0 ≤ q ∧ q ≤ q0 + N * n) ∧ ∀ s ∈ sts, x.heap[s.1]? = some s.2.1 ∨ x.heap[s.1]? = some s.2.2
theorem rg_refl (T : Nat → Prop) (sts : List (Nat × Obj × Obj)) (x : World) : RG T sts x x := ⟨Gr.refl _ _, fun _ _ h => h⟩
theorem ig_step {T : Nat → Prop} {r : Nat} {q0 N : Int} {w : World} {sts : List (Nat × Obj × Obj)} {n : Nat} {x : World} (h : IG T r q0 N w sts n x) (hN : 0 ≤ N) : IG T r q0 N w sts (n + 1) x := by
  obtain ⟨h1, ⟨q, h2, h3, h4⟩, h5⟩ := h
  refine ⟨h1, ⟨q, h2, h3, ?_⟩, h5⟩
  push_cast
  rw [Int.mul_add, Int.mul_one]
  omega
theorem ig_start {T : Nat → Prop} {r : Nat} {q0 N : Int} {w : World} {sts : List (Nat × Obj × Obj)} (h : Rdr w r q0) (hs : ∀ s ∈ sts, w.heap[s.1]? = some s.2.1) : IG T r q0 N w sts 0 (w.drewN 1) :=
  ⟨.below (below_drewN (Below.refl _ _) 1), ⟨q0, h.up (below_drewN (Below.refl _ _) 1), by omega, by simp⟩, fun s h => .inl (hs s h)⟩
/-- A call that draws. -/
theorem ig_draw {T : Nat → Prop} {r : Nat} {q0 N M q : Int} {w : World} {sts : List (Nat × Obj × Obj)} {n : Nat} {x x' : World} (h : IG T r q0 N w sts n x) (hd : Drawn r q M x x') (hq0 : q0 ≤ q) (hq : q ≤ q0 + N * n) (hM : M ≤ N) (hT : T r) (hs : ∀ s ∈ sts, s.1 ≠ r) :
    IG T r q0 N w sts (n + 1) x' ∧ RG T sts x x' := by
  obtain ⟨h1, _, h5⟩ := h
  obtain ⟨q', d1, d2, d3, d4⟩ := hd
  have hg : Gr T x x' := d4.mono fun b hb => by rw [hb]; exact hT
  have hh : ∀ s ∈ sts, ∀ o, x.heap[s.1]? = some o → x'.heap[s.1]? = some o := fun s h o => d4.heap (hs s h)
  refine ⟨⟨h1.trans hg, ⟨q', d3, by omega, ?_⟩, fun s hm => (h5 s hm).imp (hh s hm _) (hh s hm _)⟩, hg, fun s hm => hh s hm _⟩
  push_cast
  rw [Int.mul_add, Int.mul_one]
  omega
/-- A block without bytes may turn: the reader stays. -/
theorem Rdr.far {w w' : World} {r b : Nat} {p : Int} (h : Rdr w r p) (hg : Gr (fun y => y = b) w w') (hbr : b ≠ r) (hk : ∃ cs t fr, w.heap[b]? = some (.cells cs t fr) ∧ ∀ u ∈ cs.toList, ∀ z, u ≠ .int .u8 z) : Rdr w' r p := by
  obtain ⟨A, c, bs, hb, hl, hs⟩ := h
  obtain ⟨cs, t, fr, hkb, hku⟩ := hk
  refine ⟨A, c, bs, hg.heap (fun e => hbr e.symm) hb, hl, fun hn => ?_⟩
  obtain ⟨ad, e, hf, hc⟩ := hs hn
  have hne : ad.block ≠ b := fun e9 => by
    obtain ⟨vs, hr, hcell⟩ := hc 0 bs[0] (List.getElem?_eq_getElem hn)
    have h0 := hcell 0 (.int .u8 (bs[0].toNat : Int)) (by rw [hr]; rfl)
    unfold World.cell? at h0
    rw [block_of_add, e9, hkb] at h0
    dsimp only at h0
    split at h0
    · cases h0
    · exact hku _ (by rw [Array.mem_toList_iff]; exact Array.mem_of_getElem? h0) _ rfl
  refine ⟨ad, e, hf, fun k x hx => ?_⟩
  obtain ⟨vs, hr, hcell⟩ := hc k x hx
  refine ⟨vs, hr, fun j u hu => ?_⟩
  have h9 := hcell j u hu
  exact (World.cell?_of_block (hg.block _ (by have := World.block_lt_of_cell? w _ h9; exact this) (by rw [block_of_add]; exact hne))).trans h9
/-- A result cell is stored. -/
theorem ig_store {T : Nat → Prop} {r : Nat} {q0 N : Int} {w : World} {sts : List (Nat × Obj × Obj)} {n : Nat} {x x' : World} (h : IG T r q0 N w sts n x) (hN : 0 ≤ N) (b : Nat) (hg : Gr (fun y => y = b) x x') (hT : T b) (hr : b ≠ r) (hk : ∃ cs t fr, x.heap[b]? = some (.cells cs t fr) ∧ ∀ u ∈ cs.toList, ∀ z, u ≠ .int .u8 z) (hs : ∀ s ∈ sts, s.1 = b → x'.heap[b]? = some s.2.2) :
    IG T r q0 N w sts (n + 1) x' ∧ RG T sts x x' := by
  obtain ⟨h1, ⟨q, h2, h3, h4⟩, h5⟩ := ig_step h hN
  have hgT : Gr T x x' := hg.mono fun y hy => by rw [hy]; exact hT
  refine ⟨⟨h1.trans hgT, ⟨q, h2.far hg hr hk, h3, h4⟩, fun s hm => ?_⟩, hgT, fun s hm he => ?_⟩
  · by_cases e : s.1 = b
    · right; rw [e]; exact hs s hm e
    · exact (h5 s hm).imp (hg.heap e) (hg.heap e)
  · by_cases e : s.1 = b
    · rw [e]; exact hs s hm e
    · exact hg.heap e he
def DrawU (w : World) (e : Ending) (w' : World) : Prop := ∃ x A c put B d, e = .returned (.tuple #[.agg #[.int .i64 (C.many x), .slice A (C.list x).length c], .slice B (List.length put) d]) ∧ x.list.length ≤ c ∧ put.length ≤ d ∧ Lay.int.slice.Rd w' A x.list ∧ Lay.int.Rd w' B put ∧
  okInt x.many ∧ smallL 31 x.list ∧ put.length ≤ 60 ∧ (∀ l ∈ put, okInt l) ∧ Below w.heap.size w w'

set_option maxRecDepth 100000 in
set_option maxHeartbeats 4000000 in
theorem drawUnitAll_any (A : Option Addr) (c : Nat) (bs : List UInt8) (w : World) (h : Lay.byte.Rd w A bs) (hc : bs.length ≤ c) (hn : bs.length ≤ 9223372036854775807) :
    Calls Try.prog 16 #[.slice A bs.length c] w (DrawU w) := by
  have hal0 : Below w.heap.size w (w.alloc (.cells #[.int .i64 0, .slice none 0 0] 28)) := (Below.refl _ _).alloc (Nat.le_refl _) _
  have hb2 : (w.alloc (.cells #[.int .i64 0, .slice none 0 0] 28)).heap[w.heap.size]? = some (.cells #[.int .i64 0, .slice none 0 0] 28 (0, 0)) := heap_alloc_new _ _
  have HO := Lib.hid (open_any A c bs _ (h.up hal0) hc hn)
  have HAL := Lib.hid hal0
  have HB2 := Lib.hid hb2
  have hs0 : (w.alloc (.cells #[.int .i64 0, .slice none 0 0] 28)).heap.size = w.heap.size + 1 := by simp
  clear hal0 hb2 h
  go_enter Try.func16, Try.ntmps16
  go_wp2_with fail
  generalize w.alloc (.cells #[.int .i64 0, .slice none 0 0] 28) = w0 at *
  refine HO.out.mono ?_
  clear HO
  rintro e w1 ⟨r, rfl, hr, hR1, hb1⟩
  have hr2 : w.heap.size < r := by omega
  obtain ⟨T, hT⟩ : ∃ T : Nat → Prop, ∀ b, T b ↔ b = r ∨ b = w.heap.size := ⟨fun b => b = r ∨ b = w.heap.size, fun _ => Iff.rfl⟩
  have HT := Lib.hid hT
  have HTL : Hid (∀ b, T b → b < w1.heap.size) := Lib.hid fun b hb => by have := (hT b).1 hb; have := hR1.lt; omega
  clear hT
  have HB2 := Lib.hid ((hb1.block _ (by omega)).trans HB2.out)
  have hbw := bthen HAL.out hb1
  clear hb1 HAL
  go_wp2_with fail
  refine (l4Cnf_any T r 0 w1 hR1 HTL.out ((HT.out r).2 (.inl rfl)) (by omega) (by omega)).mono ?_
  rintro e w2 ⟨x, A2, c2, rfl, hc2, hs2, ⟨hm0, hm1, hsm2⟩, q2, q20, q21, hR2, hg2⟩
  have HB2 := Lib.hid (hg2.heap (by show ¬ _ = r; omega) HB2.out)
  have hgw := (Gr.below (S := IsR r) hbw).trans hg2
  have hsz2 := hg2.size
  clear hg2 hR1 hbw
  go_wp2_with fail
  refine (l4Bent_any T r 30 q2 x A2 c2 w2 hR2 hs2 (fun b hb => Nat.lt_of_lt_of_le (HTL.out b hb) hsz2) ((HT.out r).2 (.inl rfl)) hc2 hsm2 (by omega) (by omega) (by omega) (by omega) (by omega)).mono ?_
  rintro e w3 ⟨y, A3, c3, rfl, hc3, hs3, ⟨hmy, hsm3⟩, q3, q30, q31, hR3, hg3⟩
  have HB2 := Lib.hid (hg3.heap (by show ¬ _ = r; omega) HB2.out)
  have hgw := hgw.trans hg3
  clear hg3 hR2 hs2 hsm2
  have hal : Below w3.heap.size w3 (w3.alloc (.cells #[.int .i64 y.many, .slice A3 y.list.length c3] 28)) := (Below.refl _ _).alloc (Nat.le_refl _) _
  have hb5 : (w3.alloc (.cells #[.int .i64 y.many, .slice A3 y.list.length c3] 28)).heap[w3.heap.size]? = some (.cells #[.int .i64 y.many, .slice A3 y.list.length c3] 28 (0, 0)) := heap_alloc_new _ _
  have HB5 := Lib.hid hb5
  have HB2 := Lib.hid ((hal.block _ (lt_of_block HB2.out)).trans HB2.out)
  have HR4 := Lib.hid (hR3.up hal)
  have HG4 := Lib.hid (hgw.up hal)
  have HS4 := Lib.hid (hs3.gr (.below hal))
  have hrb5 := hR3.lt
  have hb5lt := lt_of_block hb5
  have HSM := Lib.hid hsm3
  have hmo := hmy
  unfold okInt at hmo
  have HMY := Lib.hid hmy
  clear hal hb5 hR3 hgw hs3 hsm3 hmy
  go_wp2
  generalize w3.alloc (.cells #[.int .i64 y.many, .slice A3 y.list.length c3] 28) = w4 at *
  generalize hb5e : w3.heap.size = b5 at *
  generalize hb2e : w.heap.size = b2 at *
  have HE2 := Lib.hid hb2e
  clear hb5e hb2e
  have hT := HT.out
  have hTb5 : ¬ T b5 := fun e => by have := (hT b5).1 e; omega
  have HTB := Lib.hid hTb5
  have hST : ∀ s ∈ [(b2, Obj.cells #[.int .i64 0, .slice none 0 0] 28 (0, 0), Obj.cells #[.int .i64 y.many, .slice A3 y.list.length c3] 28 (0, 0))], s.1 ≠ r := fun s hs => by rw [List.mem_singleton.1 hs]; show b2 ≠ r; omega
  have HST := Lib.hid hST
  clear hT hTb5 hST
  refine wp_region_rel [[], [], [], [(2, 14)], [(1, 13), (3, 15)], [(0, 12)], [(4, 16)]]
    (RG T [(b2, Obj.cells #[.int .i64 0, .slice none 0 0] 28 (0, 0), Obj.cells #[.int .i64 y.many, .slice A3 y.list.length c3] 28 (0, 0))])
    (IG T r q3 300 w4 [(b2, Obj.cells #[.int .i64 0, .slice none 0 0] 28 (0, 0), Obj.cells #[.int .i64 y.many, .slice A3 y.list.length c3] 28 (0, 0))])
    [fun vs _ => vs 0 = (.agg #[.int .i64 y.many, .slice A3 y.list.length c3]),
    fun vs _ => vs 1 = (.pointer (some ⟨r, 0, none⟩)),
    fun vs _ => vs 2 = (.pointer (some ⟨b5, 0, none⟩)),
    fun vs _ => vs 3 = (.int .i64 y.many),
    fun vs x => (fun v x => ∃ B d put, v = .slice B (List.length put) d ∧ put.length ≤ d ∧ Lay.int.Sl x (Ab T x) B put ∧ put.length ≤ 60 ∧ ∀ l ∈ put, okInt l) (vs 4) x,
    fun vs x => (fun _ x => x.heap[b2]? = some (.cells #[.int .i64 y.many, .slice A3 y.list.length c3] 28 (0, 0))) (vs 5) x,
    fun vs x => (fun v x => ∃ B d put, v = .slice B (List.length put) d ∧ put.length ≤ d ∧ Lay.int.Sl x (Ab T x) B put ∧ put.length ≤ 60 ∧ ∀ l ∈ put, okInt l) (vs 6) x]
    [(0, 12), (1, 13), (2, 14), (3, 15), (4, 16), (6, 3)] (by kernel_rfl) (by kernel_rfl) (by kernel_rfl) (by kernel_rfl)
    (fun _ => rg_refl _ _ _) ⟨.inr (fun _ _ _ h _ => h),
    .inr (fun _ _ _ h _ => h),
    .inr (fun _ _ _ h _ => h),
    .inr (fun _ _ _ h _ => h),
    .inr (fun vs9 x9 y9 h9 hR9 => (show ∀ v x x', (fun v x => ∃ B d put, v = .slice B (List.length put) d ∧ put.length ≤ d ∧ Lay.int.Sl x (Ab T x) B put ∧ put.length ≤ 60 ∧ ∀ l ∈ put, okInt l) v x → (RG T [(b2, Obj.cells #[.int .i64 0, .slice none 0 0] 28 (0, 0), Obj.cells #[.int .i64 y.many, .slice A3 y.list.length c3] 28 (0, 0))]) x x' → (fun v x => ∃ B d put, v = .slice B (List.length put) d ∧ put.length ≤ d ∧ Lay.int.Sl x (Ab T x) B put ∧ put.length ≤ 60 ∧ ∀ l ∈ put, okInt l) v x' from fun _ _ _ ⟨B, d, put, h1, h2, h3, h4⟩ hR => ⟨B, d, put, h1, h2, h3.gr hR.1, h4⟩) (vs9 4) x9 y9 h9 hR9),
    .inr (fun vs9 x9 y9 h9 hR9 => (show ∀ v x x', (fun _ x => x.heap[b2]? = some (.cells #[.int .i64 y.many, .slice A3 y.list.length c3] 28 (0, 0))) v x → (RG T [(b2, Obj.cells #[.int .i64 0, .slice none 0 0] 28 (0, 0), Obj.cells #[.int .i64 y.many, .slice A3 y.list.length c3] 28 (0, 0))]) x x' → (fun _ x => x.heap[b2]? = some (.cells #[.int .i64 y.many, .slice A3 y.list.length c3] 28 (0, 0))) v x' from fun _ _ _ h hR => hR.2 _ (List.mem_singleton.2 rfl) h) (vs9 5) x9 y9 h9 hR9),
    .inr (fun vs9 x9 y9 h9 hR9 => (show ∀ v x x', (fun v x => ∃ B d put, v = .slice B (List.length put) d ∧ put.length ≤ d ∧ Lay.int.Sl x (Ab T x) B put ∧ put.length ≤ 60 ∧ ∀ l ∈ put, okInt l) v x → (RG T [(b2, Obj.cells #[.int .i64 0, .slice none 0 0] 28 (0, 0), Obj.cells #[.int .i64 y.many, .slice A3 y.list.length c3] 28 (0, 0))]) x x' → (fun v x => ∃ B d put, v = .slice B (List.length put) d ∧ put.length ≤ d ∧ Lay.int.Sl x (Ab T x) B put ∧ put.length ≤ 60 ∧ ∀ l ∈ put, okInt l) v x' from fun _ _ _ ⟨B, d, put, h1, h2, h3, h4⟩ hR => ⟨B, d, put, h1, h2, h3.gr hR.1, h4⟩) (vs9 6) x9 y9 h9 hR9), trivial⟩ ⟨fun vs vs' x h _ hv => (by dsimp only at hv ⊢; first | (rw [← h]; exact hv) | exact hv),
    fun vs vs' x h _ hv => (by dsimp only at hv ⊢; first | (rw [← h]; exact hv) | exact hv),
    fun vs vs' x h _ hv => (by dsimp only at hv ⊢; first | (rw [← h]; exact hv) | exact hv),
    fun vs vs' x h _ hv => (by dsimp only at hv ⊢; first | (rw [← h]; exact hv) | exact hv),
    fun vs vs' x h _ hv => (by dsimp only at hv ⊢; first | (rw [← h]; exact hv) | exact hv),
    fun vs vs' x h _ hv => (by dsimp only at hv ⊢; first | (rw [← h]; exact hv) | exact hv),
    fun vs vs' x h _ hv => (by dsimp only at hv ⊢; first | (rw [← h]; exact hv) | exact hv), trivial⟩ (ig_start HR4.out (fun s hs => by rw [List.mem_singleton.1 hs]; exact HB2.out)) ⟨?_, ?_, ?_, ?_, ?_, ?_, ?_, trivial⟩ ?_
  · intro vals xw n hn hI hF
    dsimp only [owes, bare]
    simp only [putsD, Act.put, List.setIfInBounds_toArray, List.set_cons_zero, List.set_cons_succ]
    have b5x := hI.1.heap HTB.out HB5.out
    have c0 : xw.cell? ⟨b5, 0, none⟩ = some (.int .i64 y.many) := (cell_of_block b5x 0).1
    have c1 : xw.cell? ⟨b5, 1, none⟩ = some (.slice A3 y.list.length c3) := (cell_of_block b5x 1).1
    clear b5x
    go_wp2
    exact ⟨rfl, rfl, rg_refl _ _ _, ig_step hI (by omega)⟩
  · intro vals xw n hn hI hF
    dsimp only [owes, bare]
    simp only [putsD, Act.put, List.setIfInBounds_toArray, List.set_cons_zero, List.set_cons_succ]
    go_wp2
    exact ⟨rfl, rfl, rg_refl _ _ _, ig_step hI (by omega)⟩
  · intro vals xw n hn hI hF
    dsimp only [owes, bare]
    simp only [putsD, Act.put, List.setIfInBounds_toArray, List.set_cons_zero, List.set_cons_succ]
    go_wp2
    exact ⟨rfl, rfl, rg_refl _ _ _, ig_step hI (by omega)⟩
  · intro vals xw n hn hI hF
    simp only [saysD, List.getD_cons_zero, List.getD_cons_succ, and_true] at hF
    dsimp only [owes, bare]
    simp only [putsD, Act.put, List.setIfInBounds_toArray, List.set_cons_zero, List.set_cons_succ]
    simp only [hF]
    have b5x := hI.1.heap HTB.out HB5.out
    have c0 : xw.cell? ⟨b5, 0, none⟩ = some (.int .i64 y.many) := (cell_of_block b5x 0).1
    have c1 : xw.cell? ⟨b5, 1, none⟩ = some (.slice A3 y.list.length c3) := (cell_of_block b5x 1).1
    clear b5x
    go_wp2
    exact ⟨rfl, rfl, rg_refl _ _ _, ig_step hI (by omega)⟩
  · intro vals xw n hn hI hF
    simp only [saysD, List.getD_cons_zero, List.getD_cons_succ, and_true] at hF
    obtain ⟨e13, e15⟩ := hF
    dsimp only [owes, bare]
    simp only [putsD, Act.put, List.setIfInBounds_toArray, List.set_cons_zero, List.set_cons_succ]
    simp only [e13, e15]
    have HI := Lib.hid hI
    obtain ⟨_, ⟨q, hq, q0, q1⟩, _⟩ := hI
    have hnn : n < 7 := hn
    go_wp2_with fail
    refine (l5Clause_any r q y.many xw hq (by omega) (by omega) HMY.out).mono ?_
    rintro e wx ⟨B, d, put, rfl, ho, ⟨hl, hok⟩, hd⟩
    have hxr : r < xw.heap.size := hq.lt
    have hxb : b2 < xw.heap.size := by
      rcases HI.out.2.2 _ (List.mem_singleton.2 rfl) with h | h
      · exact lt_of_block h
      · exact lt_of_block h
    have HD := Lib.hid (ig_draw HI.out hd q0 q1 (by omega) ((HT.out r).2 (.inl rfl)) HST.out)
    have HF := Lib.hid (show ∃ B' d' put', Value.slice B put.length d = .slice B' (List.length put') d' ∧ put'.length ≤ d' ∧ Lay.int.Sl wx (Ab T wx) B' put' ∧ put'.length ≤ 60 ∧ ∀ l ∈ put', okInt l from ⟨B, d, put, rfl, ho.cap, ho.ab (fun b hb => by have := (HT.out b).1 hb; omega), hl, hok⟩)
    clear ho hl hok hd
    go_wp2
    exact ⟨rfl, HF.out, HD.out.2, HD.out.1⟩
  · intro vals xw n hn hI hF
    simp only [saysD, List.getD_cons_zero, List.getD_cons_succ, and_true] at hF
    dsimp only [owes, bare]
    simp only [putsD, Act.put, List.setIfInBounds_toArray, List.set_cons_zero, List.set_cons_succ]
    simp only [hF]
    have HI := Lib.hid hI
    have hcell := hI.2.2 _ (List.mem_singleton.2 rfl)
    have hk : ∃ z0 z1, xw.heap[b2]? = some (.cells #[z0, z1] 28 (0, 0)) ∧ ∀ u ∈ (#[z0, z1] : Array Value).toList, ∀ z, u ≠ .int .u8 z := hcell.elim (fun h => ⟨_, _, h, by simp⟩) (fun h => ⟨_, _, h, by simp⟩)
    obtain ⟨z0, z1, hk, hku⟩ := hk
    have v0 : xw.cell? ⟨b2, 0, none⟩ = some z0 := (cell_of_block hk 0).1
    have v1 : xw.cell? ⟨b2, 1, none⟩ = some z1 := (cell_of_block hk 1).1
    have f0 : xw.frozen? ⟨b2, 0, none⟩ = false := (cell_of_block hk 0).2
    have f1 : xw.frozen? ⟨b2, 1, none⟩ = false := (cell_of_block hk 1).2
    have HH := Lib.hid (heap_set_same _ b2 1 (.slice A3 y.list.length c3) _ _ (heap_set_same xw b2 0 (.int .i64 y.many) _ _ hk))
    have hg : Gr (fun z => z = b2) xw ((xw.setCell ⟨b2, 0, none⟩ (.int .i64 y.many)).setCell ⟨b2, 1, none⟩ (.slice A3 y.list.length c3)) := ((Gr.refl (fun z => z = b2) xw).set _ _ _ (.inl (by rfl))).set _ _ _ (.inl (by rfl))
    have HS := Lib.hid (ig_store HI.out (by omega) b2 hg ((HT.out b2).2 (.inr rfl)) (by omega) ⟨_, _, _, hk, hku⟩ (fun s hs _ => by rw [List.mem_singleton.1 hs]; exact HH.out))
    clear hI hk hcell hg hku
    go_wp2
    exact ⟨rfl, HH.out, HS.out.2, HS.out.1⟩
  · intro vals xw n hn hI hF
    simp only [saysD, List.getD_cons_zero, List.getD_cons_succ, and_true] at hF
    obtain ⟨B, d, put, e16, hrest⟩ := hF
    dsimp only [owes, bare]
    simp only [putsD, Act.put, List.setIfInBounds_toArray, List.set_cons_zero, List.set_cons_succ]
    simp only [e16]
    go_wp2
    exact ⟨rfl, ⟨B, d, put, rfl, hrest⟩, rg_refl _ _ _, ig_step hI (by omega)⟩
  · intro vals xw n hn hI hF
    rw [show List.range _ = [0, 1, 2, 3, 4, 5, 6] from rfl] at hF
    simp only [says, List.getD_cons_zero, List.getD_cons_succ, and_true] at hF
    obtain ⟨e12, e13, e14, e15, _, hst, B, d, put, e3, hpd, hps, hpl, hpo⟩ := hF
    have k0 : xw.cell? ⟨b2, 0, none⟩ = some (.int .i64 y.many) := (cell_of_block hst 0).1
    have k1 : xw.cell? ⟨b2, 1, none⟩ = some (.slice A3 y.list.length c3) := (cell_of_block hst 1).1
    simp only [putsD, Act.put, List.setIfInBounds_toArray, List.set_cons_zero, List.set_cons_succ]
    simp only [e3]
    have HP := Lib.hid (And.intro hpd (And.intro hps (And.intro hpl hpo)))
    have HI := Lib.hid hI
    clear e12 e13 e14 e15 e3 hst hpd hps hpl hpo hI
    go_wp2
    refine bodyPost_ret (v := .tuple #[.agg #[.int .i64 y.many, .slice A3 y.list.length c3], .slice B put.length d]) (by simp [results, Try.results16, go_sem, k0, k1]) rfl ⟨y, A3, c3, put, B, d, rfl, hc3, HP.out.1, ?_, HP.out.2.1.ab_rd, HMY.out, HSM.out, HP.out.2.2.1, HP.out.2.2.2, ?_⟩
    · exact (Lay.Sl.keep HS4.out fun b hb => HI.out.1.block b hb.1 hb.2).mono fun b hb => Nat.lt_of_lt_of_le hb.1 HI.out.1.size
    · refine (HG4.out.then HI.out.1 (fun b hb => ?_)).to_below fun b hb => ?_
      · rcases (HT.out b).1 hb with h2 | h2
        · exact .inl h2
        · right; rw [HE2.out, h2]; exact Nat.le_refl _
      · rw [hb, HE2.out]; omega
end Go.Proofs.Ytndolbplkjhooaa
