/- Drawn regions that draw from a reader; literals. -/
import Derived.Test.YtcdlfnhjpjpbjaaDr
import Derived.Test.YtcdlfnhjpjpbjaaRel
namespace Go.Proofs.Ytcdlfnhjpjpbjaa
open Go Go.RowKit

abbrev IsR (r : Nat) : Nat → Prop := fun b => b = r
theorem sl_none {α : Type} {L : Lay α} {w : World} {F : Nat → Prop} {A : Option Addr} {xs : List α} (h : L.Sl w F A xs) : A = none → xs.length = 0 := fun e => by
  rcases Nat.eq_zero_or_pos xs.length with h0 | h0
  · exact h0
  · obtain ⟨ad, e', _⟩ := h h0; rw [e] at e'; cases e'
theorem two_boxes (w : World) (o o' : Obj) : Below w.heap.size w ((w.alloc o).alloc o') ∧ ((w.alloc o).alloc o').heap[w.heap.size]? = some o ∧ ((w.alloc o).alloc o').heap[w.heap.size + 1]? = some o' ∧ ((w.alloc o).alloc o').heap.size = w.heap.size + 1 + 1 := by
  have h1 := heap_alloc_new w o
  have h2 := heap_alloc_new (w.alloc o) o'
  exact ⟨((Below.refl _ _).alloc (Nat.le_refl _) _).alloc (by simp) _, (((Below.refl _ _).alloc (Nat.le_refl _) _).block _ (by simp)).trans h1, by simpa using h2, by simp⟩
theorem mem_lit {xs : List Int} {x : Int} (h : x ∈ xs) (hx : ∀ y ∈ xs, okInt y) : okInt x := hx x h
/-- A row that was just written down. -/
theorem lit_sl {S : Nat → Prop} (w : World) (xs : List Int) (cs : Array Value) (t : TypeId) (hc : cs = (xs.map (Value.int .i64)).toArray) (hS : ¬ S w.heap.size) : Lay.int.Sl (w.alloc (.cells cs t)) (Ab S (w.alloc (.cells cs t))) (some ⟨w.heap.size, 0, none⟩) xs := by
  intro _
  refine ⟨_, rfl, ⟨by simp, hS⟩, fun k x hx => ⟨[.int .i64 x], rfl, fun j u hu => ?_⟩⟩
  rcases j with _ | j
  · injection hu with hu
    subst hu
    have hb := (cell_of_block (heap_alloc_new w (.cells cs t)) k).1
    have ha : (⟨w.heap.size, 0, none⟩ : Addr).add (k * Lay.int.size + 0) = ⟨w.heap.size, k, none⟩ := by
      show (⟨w.heap.size, 0, none⟩ : Addr).add (k * 1 + 0) = _
      rw [Nat.mul_one, Nat.add_zero]; unfold Addr.add; split
      · rename_i h; rw [h]
      · simp
    rw [ha, hb, hc]
    simp [hx]
  · simp at hu
/-- What a drawn region of a reader's user does to memory: the blocks T may turn; result cells, once stored, stay. -/
def RG (T : Nat → Prop) (sts : List (Nat × Obj × Obj)) (x x' : World) : Prop := Gr T x x' ∧ ∀ s ∈ sts, x.heap[s.1]? = some s.2.2 → x'.heap[s.1]? = some s.2.2
def IG (T : Nat → Prop) (r : Nat) (q0 N : Int) (w : World) (sts : List (Nat × Obj × Obj)) (n : Nat) (x : World) : Prop :=
  Gr T w x ∧ (∃ q, Rdr x r q ∧ q0 ≤ q ∧ q ≤ q0 + N * n) ∧ ∀ s ∈ sts, x.heap[s.1]? = some s.2.1 ∨ x.heap[s.1]? = some s.2.2
theorem rg_refl (T : Nat → Prop) (sts : List (Nat × Obj × Obj)) (x : World) : RG T sts x x := ⟨Gr.refl _ _, fun _ _ h => h⟩
theorem ig_step {T : Nat → Prop} {r : Nat} {q0 N : Int} {w : World} {sts : List (Nat × Obj × Obj)} {n : Nat} {x : World} (h : IG T r q0 N w sts n x) (hN : 0 ≤ N) : IG T r q0 N w sts (n + 1) x := by
  obtain ⟨h1, ⟨q, h2, h3, h4⟩, h5⟩ := h
  refine ⟨h1, ⟨q, h2, h3, ?_⟩, h5⟩
  push_cast
  rw [Int.mul_add, Int.mul_one]
  omega
theorem ig_start {T : Nat → Prop} {r : Nat} {q0 N : Int} {w : World} {sts : List (Nat × Obj × Obj)} (h : Rdr w r q0) (hs : ∀ s ∈ sts, w.heap[s.1]? = some s.2.1) : IG T r q0 N w sts 0 (w.drewN 1) :=
  ⟨.below (below_drewN (Below.refl _ _) 1), ⟨q0, h.up (below_drewN (Below.refl _ _) 1), by omega, by simp⟩, fun s h => .inl (hs s h)⟩
/-- A call that draws. -/
theorem ig_draw {T : Nat → Prop} {r : Nat} {q0 N M q : Int} {w : World} {sts : List (Nat × Obj × Obj)} {n : Nat} {x x' : World} (h : IG T r q0 N w sts n x) (hd : Drawn r q M x x') (hq0 : q0 ≤ q) (hq : q ≤ q0 + N * n) (hM : M ≤ N) (hT : T r) (hs : ∀ s ∈ sts, s.1 ≠ r) :
    IG T r q0 N w sts (n + 1) x' ∧ RG T sts x x' := by
  obtain ⟨h1, _, h5⟩ := h
  obtain ⟨q', d1, d2, d3, d4⟩ := hd
  have hg : Gr T x x' := d4.mono fun b hb => by rw [hb]; exact hT
  have hh : ∀ s ∈ sts, ∀ o, x.heap[s.1]? = some o → x'.heap[s.1]? = some o := fun s h o => d4.heap (hs s h)
  refine ⟨⟨h1.trans hg, ⟨q', d3, by omega, ?_⟩, fun s hm => (h5 s hm).imp (hh s hm _) (hh s hm _)⟩, hg, fun s hm => hh s hm _⟩
  push_cast
  rw [Int.mul_add, Int.mul_one]
  omega
/-- A block without bytes may turn: the reader stays. -/
theorem Rdr.far {w w' : World} {r b : Nat} {p : Int} (h : Rdr w r p) (hg : Gr (fun y => y = b) w w') (hbr : b ≠ r) (hk : ∃ cs t fr, w.heap[b]? = some (.cells cs t fr) ∧ ∀ u ∈ cs.toList, ∀ z, u ≠ .int .u8 z) : Rdr w' r p := by
  obtain ⟨A, c, bs, hb, hl, hs⟩ := h
  obtain ⟨cs, t, fr, hkb, hku⟩ := hk
  refine ⟨A, c, bs, hg.heap (fun e => hbr e.symm) hb, hl, fun hn => ?_⟩
  obtain ⟨ad, e, hf, hc⟩ := hs hn
  have hne : ad.block ≠ b := fun e9 => by
    obtain ⟨vs, hr, hcell⟩ := hc 0 bs[0] (List.getElem?_eq_getElem hn)
    have h0 := hcell 0 (.int .u8 (bs[0].toNat : Int)) (by rw [hr]; rfl)
    unfold World.cell? at h0
    rw [block_of_add, e9, hkb] at h0
    dsimp only at h0
    split at h0
    · cases h0
    · exact hku _ (by rw [Array.mem_toList_iff]; exact Array.mem_of_getElem? h0) _ rfl
  refine ⟨ad, e, hf, fun k x hx => ?_⟩
  obtain ⟨vs, hr, hcell⟩ := hc k x hx
  refine ⟨vs, hr, fun j u hu => ?_⟩
  have h9 := hcell j u hu
  exact (World.cell?_of_block (hg.block _ (by have := World.block_lt_of_cell? w _ h9; exact this) (by rw [block_of_add]; exact hne))).trans h9
/-- A result cell is stored. -/
theorem ig_store {T : Nat → Prop} {r : Nat} {q0 N : Int} {w : World} {sts : List (Nat × Obj × Obj)} {n : Nat} {x x' : World} (h : IG T r q0 N w sts n x) (hN : 0 ≤ N) (b : Nat) (hg : Gr (fun y => y = b) x x') (hT : T b) (hr : b ≠ r) (hk : ∃ cs t fr, x.heap[b]? = some (.cells cs t fr) ∧ ∀ u ∈ cs.toList, ∀ z, u ≠ .int .u8 z) (hs : ∀ s ∈ sts, s.1 = b → x'.heap[b]? = some s.2.2) :
    IG T r q0 N w sts (n + 1) x' ∧ RG T sts x x' := by
  obtain ⟨h1, ⟨q, h2, h3, h4⟩, h5⟩ := ig_step h hN
  have hgT : Gr T x x' := hg.mono fun y hy => by rw [hy]; exact hT
  refine ⟨⟨h1.trans hgT, ⟨q, h2.far hg hr hk, h3, h4⟩, fun s hm => ?_⟩, hgT, fun s hm he => ?_⟩
  · by_cases e : s.1 = b
    · right; rw [e]; exact hs s hm e
    · exact (h5 s hm).imp (hg.heap e) (hg.heap e)
  · by_cases e : s.1 = b
    · rw [e]; exact hs s hm e
    · exact hg.heap e he
end Go.Proofs.Ytcdlfnhjpjpbjaa
