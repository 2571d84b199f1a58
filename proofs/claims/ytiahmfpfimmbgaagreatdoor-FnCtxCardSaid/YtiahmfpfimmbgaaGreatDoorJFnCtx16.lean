/- Draws: what a reader's user leaves; a number of a list. Own rows of truth values; append. The reference's environments: EnvOk, l1Bit, BlastIns, l2Bool, BlastEnv. Declarations and inputs as arguments. Drawn regions that draw from a reader; literals. Rows of declarations of the call's own; readers of strings; the reference's l1Max and l1Min. What is drawn does not lie in the reader's block. The reference's draws of terms: l2Leafy. -/
import Derived.Test.YtiahmfpfimmbgaaGreatDoorJFnCtx1
import Derived.Test.YtiahmfpfimmbgaaGreatDoorJFnCtx2
import Derived.Test.YtiahmfpfimmbgaaGreatDoorJFnCtx3
import Derived.Test.YtiahmfpfimmbgaaGreatDoorJFnCtx5
import Derived.Test.YtiahmfpfimmbgaaGreatDoorJFnCtx8
import Derived.Test.YtiahmfpfimmbgaaGreatDoorJFnCtx14
import Derived.Test.YtiahmfpfimmbgaaGreatDoorJFnCtx15
/-! Draws: what a reader's user leaves; a number of a list. -/
namespace Go.Proofs.YtiahmfpfimmbgaaGreatDoor
open Go Go.RowKit

abbrev NotIn (S : Nat → Prop) : World → Nat → Prop := fun _ b => ¬ S b
theorem OwnL.gr {α : Type} {L : Lay α} {e : TypeId} {w w' : World} {lo : Nat} {S : Nat → Prop} {v : Value} {xs : List α} (h : OwnL L (NotIn S) e w lo v xs) (hg : Gr S w w') (hr : ∀ b, S b → b < lo) : OwnL L (NotIn S) e w' lo v xs := by
  obtain ⟨cs, h1, h2⟩ := h
  refine ⟨cs, own_of_heap h1 fun g hg' => hg.block g (h1.lt g hg').2 (fun e => by have := hr g e; have := (h1.lt g hg').1; omega), fun i x hx => ?_⟩
  obtain ⟨vs, hr, hu⟩ := h2 i x hx
  exact ⟨vs, L.mono (fun b hb => ⟨Nat.lt_of_lt_of_le hb.1 hg.size, hb.2.1, hb.2.2⟩) (L.keep (fun b hb => hg.block b hb.1 hb.2.2) hr), hu⟩
theorem Rdr.gr {S : Nat → Prop} {w w' : World} {r : Nat} {p : Int} (h : Rdr w r p) (k : Gr S w w') (hS : ∀ x, S x → r < x) : Rdr w' r p :=
  h.keep fun b hb => k.block b (Nat.lt_of_le_of_lt hb h.lt) (fun e => by have := hS b e; omega)
theorem Rdr.own {w w' : World} {r : Nat} {p : Int} {row : Option Nat} (h : Rdr w r p) (k : w.grownBy w' row) (hr : ∀ g, row = some g → r < g) : Rdr w' r p :=
  h.keep fun b hb => k.block b (Nat.lt_of_le_of_lt hb h.lt) (fun e => by have := hr b e.symm; omega)
theorem Rdr.set {w : World} {r g o : Nat} {p : Int} {u : Value} (h : Rdr w r p) (hg : r < g) : Rdr (w.setCell ⟨g, o, none⟩ u) r p :=
  h.keep fun b hb => Below.heap_setCell w ⟨g, o, none⟩ u b (fun e => by have : b = g := e; omega)
theorem Stay.notIn (S : Nat → Prop) : Stay (NotIn S) := fun _ _ _ _ h => h
theorem OwnL.ab {α : Type} {L : Lay α} {e : TypeId} {w : World} {lo : Nat} {S : Nat → Prop} {A : Option Addr} {c : Nat} {xs : List α} (h : OwnL L (NotIn S) e w lo (.slice A xs.length c) xs) (hr : ∀ b, S b → b < lo) : L.Sl w (Ab S w) A xs :=
  h.sl.mono fun b hb => ⟨hb.1, hb.2.elim (fun h e => by have := hr b e; have := h.1; omega) id⟩
/-- The reader has gone on by at most N places; but for its block nothing turned. -/
def Drawn (r : Nat) (p N : Int) (w w' : World) : Prop := ∃ p', p ≤ p' ∧ p' ≤ p + N ∧ Rdr w' r p' ∧ Gr (fun b => b = r) w w'
theorem num_any (r : Nat) (p : Int) (B : Option Addr) (d : Nat) (xs : List Int) (w : World) (h : Rdr w r p) (hs : Lay.int.Sl w (Ab (fun b => b = r) w) B xs) (h0 : 0 < xs.length) (hn : xs.length ≤ 1048576) (p0 : 0 ≤ p) (p1 : p ≤ 1000000000) :
    Calls Tryz.prog 89 #[.pointer (some ⟨r, 0, none⟩), .slice B xs.length d] w fun e w' => ∃ x ∈ xs, e = .returned (.int .i64 x) ∧ Rdr w' r (p + 1) ∧ Gr (fun b => b = r) w w' := by
  go_enter Tryz.func89, Tryz.ntmps89
  go_wp2_with fail
  refine (pick_any r p xs.length w h p0 p1 (by omega) (by omega)).mono ?_
  rintro e w' ⟨k, rfl, k0, k1, _, hR, hg⟩
  have hk := k1 (by omega)
  have hg := Gr.one (S := fun b => b = r) hg rfl
  obtain ⟨n, rfl⟩ := Int.eq_ofNat_of_zero_le k0
  have hnl : n < xs.length := by omega
  obtain ⟨ad, rfl, _, hc⟩ := (hs.gr hg).at_int hnl
  have hm : xs[n] ∈ xs := List.getElem_mem hnl
  generalize xs[n] = x at *
  have HR := Lib.hid (And.intro hm (And.intro hR hg))
  clear hR hg hm k1 hs h
  go_wp2
  go_ret
  exact ⟨x, HR.out.1, rfl, HR.out.2⟩
end Go.Proofs.YtiahmfpfimmbgaaGreatDoor

/-! Own rows of truth values; append. -/
namespace Go.Proofs.YtiahmfpfimmbgaaGreatDoor
open Go Go.RowKit

def OwnB (w : World) (lo : Nat) (v : Value) (bs : List Bool) : Prop := w.ownsRow lo 4 1 v bs.length (bs.map Value.bool)
theorem OwnB.rd {w : World} {lo c : Nat} {A : Option Addr} {bs : List Bool} (h : OwnB w lo (.slice A bs.length c) bs) : Lay.bool.Rd w A bs := (sl_bools_of_own h (fun g _ hg => hg)).1
theorem OwnB.gr {S : Nat → Prop} {w w' : World} {lo : Nat} {v : Value} {bs : List Bool} (h : OwnB w lo v bs) (hg : Gr S w w') (hr : ∀ b, S b → b < lo) : OwnB w' lo v bs :=
  own_of_heap h fun g hg' => hg.block g (h.lt g hg').2 (fun e => by have := hr g e; have := (h.lt g hg').1; omega)
theorem OwnB.up {w w' : World} {lo : Nat} {v : Value} {bs : List Bool} (h : OwnB w lo v bs) (hb : Below w.heap.size w w') : OwnB w' lo v bs := own_below h hb (Nat.le_refl _)
theorem OwnB.set {w : World} {lo g c k : Nat} {bs : List Bool} (h : OwnB w lo (.slice (some ⟨g, 0, none⟩) bs.length c) bs) (b : Bool) : OwnB (w.setCell ⟨g, k, none⟩ (.bool b)) lo (.slice (some ⟨g, 0, none⟩) bs.length c) (bs.set k b) := by
  have := (h.stored k (.bool b)).1
  unfold OwnB
  rw [List.length_set, List.map_set]
  exact this
theorem OwnB.cell {w : World} {lo g c k : Nat} {bs : List Bool} (h : OwnB w lo (.slice (some ⟨g, 0, none⟩) bs.length c) bs) (hk : k < bs.length) : w.cell? ⟨g, k, none⟩ = some (.bool bs[k]) ∧ w.frozen? ⟨g, k, none⟩ = false := by
  refine ⟨?_, h.frozenAt k⟩
  have hc := h.2
  rcases hc with ⟨e, _⟩ | ⟨g', cap, cur, e, _, _, h3, _⟩
  · cases e
  · have hx := h.cellAt k (by simp; omega)
    rw [hx, List.getElem?_map, List.getElem?_eq_getElem hk]; rfl
theorem OwnB.form {w : World} {lo : Nat} {v : Value} {bs : List Bool} (h : OwnB w lo v bs) : ∃ A c, v = .slice A bs.length c ∧ bs.length ≤ c := by
  rcases h.2 with ⟨h1, h2⟩ | ⟨g, cap, cur, h1, _, _, h3, _⟩
  · exact ⟨none, 0, by rw [h1, h2], by rw [h2]; exact Nat.le_refl _⟩
  · exact ⟨_, cap, h1, h3⟩
theorem OwnB.cap {w : World} {lo c n : Nat} {A : Option Addr} {bs : List Bool} (h : OwnB w lo (.slice A n c) bs) : n = bs.length ∧ bs.length ≤ c := by
  obtain ⟨A', c', e, hl⟩ := h.form
  injection e with e1 e2 e3
  exact ⟨e2, by omega⟩
end Go.Proofs.YtiahmfpfimmbgaaGreatDoor

/-! The reference's environments: EnvOk, l1Bit, BlastIns, l2Bool, BlastEnv. -/
namespace Go.Proofs.YtiahmfpfimmbgaaGreatDoor
open Go Go.RowKit

theorem OwnB.own {w : World} {base c : Nat} {A : Option Addr} {xs : List Bool} (h : OwnB w base (.slice A xs.length c) xs) : Lay.bool.Sl w (Own base w) A xs := fun hn => by
  obtain ⟨h1, _, h3⟩ := sl_bools_of_own (F := fun b => base ≤ b ∧ b < w.heap.size) h (fun g a b => ⟨a, b⟩)
  obtain ⟨ad, e, hf, hc⟩ := h1 hn
  subst e
  refine ⟨ad, rfl, ⟨hf.1, hf.2, fun o => ?_⟩, hc⟩
  rcases h.2 with ⟨e, _⟩ | ⟨g, cap, cur, e, _, hg, _⟩
  · cases e
  · injection e with e1 e2 e3
    injection e1 with e1
    subst e1
    unfold World.frozen?
    rw [hg]
    simp
end Go.Proofs.YtiahmfpfimmbgaaGreatDoor

/-! Declarations and inputs as arguments. -/
namespace Go.Proofs.YtiahmfpfimmbgaaGreatDoor
open Go Go.RowKit Go.ChangeShapes Go.WideShapes Go.ChangeAt Go.Deep

end Go.Proofs.YtiahmfpfimmbgaaGreatDoor

/-! Drawn regions that draw from a reader; literals. -/
namespace Go.Proofs.YtiahmfpfimmbgaaGreatDoor
open Go Go.RowKit

abbrev IsR (r : Nat) : Nat → Prop := fun b => b = r
/-- A row that was just written down. -/
theorem lit_sl {S : Nat → Prop} (w : World) (xs : List Int) (cs : Array Value) (t : TypeId) (hc : cs = (xs.map (Value.int .i64)).toArray) (hS : ¬ S w.heap.size) : Lay.int.Sl (w.alloc (.cells cs t)) (Ab S (w.alloc (.cells cs t))) (some ⟨w.heap.size, 0, none⟩) xs := by
  intro _
  refine ⟨_, rfl, ⟨by simp, hS⟩, fun k x hx => ⟨[.int .i64 x], rfl, fun j u hu => ?_⟩⟩
  rcases j with _ | j
  · injection hu with hu
    subst hu
    have hb := (cell_of_block (heap_alloc_new w (.cells cs t)) k).1
    have ha : (⟨w.heap.size, 0, none⟩ : Addr).add (k * Lay.int.size + 0) = ⟨w.heap.size, k, none⟩ := by
      show (⟨w.heap.size, 0, none⟩ : Addr).add (k * 1 + 0) = _
      rw [Nat.mul_one, Nat.add_zero]; unfold Addr.add; split
      · rename_i h; rw [h]
      · simp
    rw [ha, hb, hc]
    simp [hx]
  · simp at hu
/-- A block without bytes may turn: the reader stays. -/
theorem Rdr.far {w w' : World} {r b : Nat} {p : Int} (h : Rdr w r p) (hg : Gr (fun y => y = b) w w') (hbr : b ≠ r) (hk : ∃ cs t fr, w.heap[b]? = some (.cells cs t fr) ∧ ∀ u ∈ cs.toList, ∀ z, u ≠ .int .u8 z) : Rdr w' r p := by
  obtain ⟨A, c, bs, hb, hl, hs⟩ := h
  obtain ⟨cs, t, fr, hkb, hku⟩ := hk
  refine ⟨A, c, bs, hg.heap (fun e => hbr e.symm) hb, hl, fun hn => ?_⟩
  obtain ⟨ad, e, hf, hc⟩ := hs hn
  have hne : ad.block ≠ b := fun e9 => by
    obtain ⟨vs, hr, hcell⟩ := hc 0 bs[0] (List.getElem?_eq_getElem hn)
    have h0 := hcell 0 (.int .u8 (bs[0].toNat : Int)) (by rw [hr]; rfl)
    unfold World.cell? at h0
    rw [block_of_add, e9, hkb] at h0
    dsimp only at h0
    split at h0
    · cases h0
    · exact hku _ (by rw [Array.mem_toList_iff]; exact Array.mem_of_getElem? h0) _ rfl
  refine ⟨ad, e, hf, fun k x hx => ?_⟩
  obtain ⟨vs, hr, hcell⟩ := hc k x hx
  refine ⟨vs, hr, fun j u hu => ?_⟩
  have h9 := hcell j u hu
  exact (World.cell?_of_block (hg.block _ (by have := World.block_lt_of_cell? w _ h9; exact this) (by rw [block_of_add]; exact hne))).trans h9
end Go.Proofs.YtiahmfpfimmbgaaGreatDoor

/-! Rows of declarations of the call's own; readers of strings; the reference's l1Max and l1Min. -/
namespace Go.Proofs.YtiahmfpfimmbgaaGreatDoor
open Go Go.RowKit

theorem Lay.Sl.at_str {w : World} {F : Nat → Prop} {A : Option Addr} {xs : List ByteArray} (h : Lay.str.Sl w F A xs) {k : Nat} (hk : k < xs.length) :
    ∃ ad, A = some ad ∧ F ad.block ∧ w.cell? (ad.add k) = some (.string xs[k]) := by
  obtain ⟨ad, e, hf, hc⟩ := h (by omega)
  obtain ⟨vs, rfl, hcell⟩ := hc k xs[k] (List.getElem?_eq_getElem hk)
  exact ⟨ad, e, hf, by simpa [Lay.str, Lay.flat] using hcell 0 _ rfl⟩
/-- A row of strings that was just written down. -/
theorem lit_str {S : Nat → Prop} (w : World) (xs : List ByteArray) (cs : Array Value) (t : TypeId) (hc : cs = (xs.map Value.string).toArray) (hS : ¬ S w.heap.size) : Lay.str.Sl (w.alloc (.cells cs t)) (Ab S (w.alloc (.cells cs t))) (some ⟨w.heap.size, 0, none⟩) xs := by
  intro _
  refine ⟨_, rfl, ⟨by simp, hS⟩, fun k x hx => ⟨[.string x], rfl, fun j u hu => ?_⟩⟩
  rcases j with _ | j
  · injection hu with hu
    subst hu
    have hb := (cell_of_block (heap_alloc_new w (.cells cs t)) k).1
    have ha : (⟨w.heap.size, 0, none⟩ : Addr).add (k * Lay.str.size + 0) = ⟨w.heap.size, k, none⟩ := by
      show (⟨w.heap.size, 0, none⟩ : Addr).add (k * 1 + 0) = _
      rw [Nat.mul_one, Nat.add_zero]; unfold Addr.add; split
      · rename_i h; rw [h]
      · simp
    rw [ha, hb, hc]
    simp [hx]
  · simp at hu
set_option maxHeartbeats 1000000 in
theorem of_any (r : Nat) (p : Int) (B : Option Addr) (d : Nat) (xs : List ByteArray) (w : World) (h : Rdr w r p) (hs : Lay.str.Sl w (Ab (fun b => b = r) w) B xs) (h0 : 0 < xs.length) (hn : xs.length ≤ 1048576) (p0 : 0 ≤ p) (p1 : p ≤ 1000000000) :
    Calls Tryz.prog 90 #[.pointer (some ⟨r, 0, none⟩), .slice B xs.length d] w fun e w' => ∃ x ∈ xs, e = .returned (.string x) ∧ Rdr w' r (p + 1) ∧ Gr (fun b => b = r) w w' := by
  go_enter Tryz.func90, Tryz.ntmps90
  go_wp2_with fail
  refine (pick_any r p xs.length w h p0 p1 (by omega) (by omega)).mono ?_
  rintro e w' ⟨k, rfl, k0, k1, _, hR, hg⟩
  have hk := k1 (by omega)
  have hg := Gr.one (S := fun b => b = r) hg rfl
  obtain ⟨n, rfl⟩ := Int.eq_ofNat_of_zero_le k0
  have hnl : n < xs.length := by omega
  obtain ⟨ad, rfl, _, hc⟩ := (hs.gr hg).at_str hnl
  have hm : xs[n] ∈ xs := List.getElem_mem hnl
  generalize xs[n] = x at *
  have HR := Lib.hid (And.intro hm (And.intro hR hg))
  clear hR hg hm k1 hs h
  go_wp2
  go_ret
  exact ⟨x, HR.out.1, rfl, HR.out.2⟩
end Go.Proofs.YtiahmfpfimmbgaaGreatDoor

/-! What is drawn does not lie in the reader's block. -/
namespace Go.Proofs.YtiahmfpfimmbgaaGreatDoor
open Go Go.RowKit

theorem l1Two_tt (m : Int) (h0 : 0 ≤ m) (h1 : m ≤ 16) : ∃ T : Int, 1 ≤ T ∧ T ≤ 65536 ∧ ∀ w, Calls Tryz.prog 129 #[.int .i64 m] w fun e w' => e = .returned (.int .i64 T) ∧ w = w' := by
  refine ⟨((2 ^ m.toNat : Nat) : Int), ?_, ?_, fun w => ?_⟩
  · have := Nat.two_pow_pos m.toNat; omega
  · have := pow_small16 (n := m.toNat) (by omega); omega
  · have h9 := l1Two_q m.toNat w (by omega)
    rw [Int.toNat_of_nonneg h0] at h9
    exact h9
theorem rdr_cell {w : World} {r : Nat} {p : Int} (h : Rdr w r p) {a : Addr} {v : Value} (hc : w.cell? a = some v) (ha : a.block = r) : (a.off = 0 ∧ ∃ A n c, v = .slice A n c) ∨ (a.off = 1 ∧ ∃ z, v = .int .i64 z) := by
  obtain ⟨A, c, bs, hb, _⟩ := h
  unfold World.cell? at hc
  rw [ha, hb] at hc
  dsimp only at hc
  split at hc
  · cases hc
  · rcases ho : a.off with _ | _ | o
    · rw [ho] at hc; simp at hc; exact .inl ⟨rfl, A, _, c, hc.symm⟩
    · rw [ho] at hc; simp at hc; exact .inr ⟨rfl, p, hc.symm⟩
    · rw [ho] at hc; simp at hc
theorem decl_notR {w : World} {r : Nat} {p : Int} {A : Option Addr} {ds : List D} (h : Lay.decl.Rd w A ds) (hr : Rdr w r p) : Lay.decl.Sl w (Ab (IsR r) w) A ds := fun h0 => by
  obtain ⟨ad, e, hf, c0, _⟩ := h.at_decl h0
  obtain ⟨ad', e', _, hc⟩ := h h0
  rw [e] at e'; injection e' with e'; subst e'
  refine ⟨ad, e, ⟨hf, fun e9 => ?_⟩, fun k x hx => ?_⟩
  · rcases rdr_cell hr c0 (by rw [block_of_add]; exact e9) with ⟨_, _, _, _, h9⟩ | ⟨_, _, h9⟩ <;> cases h9
  · obtain ⟨vs, hr, hcell⟩ := hc k x hx
    exact ⟨vs, hr, hcell⟩
theorem term_notR {w : World} {r : Nat} {p : Int} (hr : Rdr w r p) (t : T) : ∀ (A : Option Addr), Lay.term.Rd w A t.kids → Lay.term.Sl w (Ab (IsR r) w) A t.kids := by
  refine T.ind (p := fun t => ∀ (A : Option Addr), Lay.term.Rd w A t.kids → Lay.term.Sl w (Ab (IsR r) w) A t.kids) (fun t ih A h => ?_) t
  intro h0
  obtain ⟨ad, A1, c1, e, hf, q0, q1, _⟩ := h.at_term h0
  obtain ⟨ad', e', _, hc⟩ := h h0
  rw [e] at e'; injection e' with e'; subst e'
  refine ⟨ad, e, ⟨hf, fun e9 => ?_⟩, fun k x hx => ?_⟩
  · rcases rdr_cell hr q0 (by rw [block_of_add]; exact e9) with ⟨_, _, _, _, h9⟩ | ⟨ho, _, _⟩
    · cases h9
    · rcases rdr_cell hr q1 (by show (ad.add (0 * 5)).block = r; rw [block_of_add]; exact e9) with ⟨ho2, _⟩ | ⟨ho2, _⟩
      · have ho2 : (ad.add (0 * 5)).off + 1 = 0 := ho2; omega
      · have ho2 : (ad.add (0 * 5)).off + 1 = 1 := ho2; omega
  · obtain ⟨vs, hr9, hcell⟩ := hc k x hx
    obtain ⟨A', c', rfl, hl, hs⟩ := TermR.form hr9
    exact ⟨_, TermR.of hl (ih x (List.mem_of_getElem? hx) A' hs), hcell⟩
theorem layer_notR {w : World} {r : Nat} {p : Int} {A : Option Addr} {c : List Ly} (h : Lay.layer.Rd w A c) (hr : Rdr w r p) : Lay.layer.Sl w (Ab (IsR r) w) A c := fun h0 => by
  obtain ⟨ad, A1, c1, A2, c2, e, hf, q0, q1, _⟩ := h.at_layer h0
  obtain ⟨ad', e', _, hc⟩ := h h0
  rw [e] at e'; injection e' with e'; subst e'
  refine ⟨ad, e, ⟨hf, fun e9 => ?_⟩, fun k x hx => ?_⟩
  · rcases rdr_cell hr q0 (by rw [block_of_add]; exact e9) with ⟨ho, _⟩ | ⟨_, _, h9⟩
    · rcases rdr_cell hr q1 (by show (ad.add (0 * 2)).block = r; rw [block_of_add]; exact e9) with ⟨ho2, _⟩ | ⟨_, _, h9⟩
      · have ho2 : (ad.add (0 * 2)).off + 1 = 0 := ho2; omega
      · cases h9
    · cases h9
  · obtain ⟨vs, ⟨A', c', B', d', rfl, h1, h2, h3, h4⟩, hcell⟩ := hc k x hx
    exact ⟨_, ⟨A', c', B', d', rfl, h1, h2, decl_notR h3 hr, term_notR hr (.mk 0 0 0 ⟨#[]⟩ x.ts) B' h4⟩, hcell⟩
/-- Names of a drawn context. -/
def okD5 (ds : List D) : Prop := ds.length ≤ 8 ∧ ∀ d ∈ ds, d.name.size ≤ 5 ∧ 1 ≤ d.wide ∧ d.wide ≤ 4
/-- Terms in blocks from lo on. -/
def TF (lo : Nat) (w : World) (A : Option Addr) (ks : List T) : Prop := Lay.term.Sl w (fun b => lo ≤ b ∧ b < w.heap.size) A ks
theorem TF.gr {lo r : Nat} {w w' : World} {A : Option Addr} {ks : List T} (h : TF lo w A ks) (hg : Gr (IsR r) w w') (hr : r < lo) : TF lo w' A ks :=
  (Lay.Sl.keep h fun b hb => hg.block b hb.2 (fun e => by have := hb.1; have e : b = r := e; omega)).mono fun b hb => ⟨hb.1, Nat.lt_of_lt_of_le hb.2 hg.size⟩
theorem TF.up {lo : Nat} {w w' : World} {A : Option Addr} {ks : List T} (h : TF lo w A ks) (hb : Below w.heap.size w w') : TF lo w' A ks :=
  (Lay.Sl.keep h fun b hb9 => hb.block b hb9.2).mono fun b hb9 => ⟨hb9.1, Nat.lt_of_lt_of_le hb9.2 hb.size⟩
theorem TF.low {lo lo' : Nat} {w : World} {A : Option Addr} {ks : List T} (h : TF lo w A ks) (hl : lo' ≤ lo) : TF lo' w A ks := Lay.Sl.mono h fun b hb => ⟨Nat.le_trans hl hb.1, hb.2⟩
theorem TF.rd {lo : Nat} {w : World} {A : Option Addr} {ks : List T} (h : TF lo w A ks) : Lay.term.Rd w A ks := Lay.Sl.mono h fun b hb => hb.2
/-- What a drawn term is: its kind is told. -/
def okT5 (t : T) : Prop := okT2 t ∧ (1 ≤ t.op ∧ t.op ≤ 9223372036854775807)
theorem T.All.five {t : T} (h : T.All okT5 t) : T.All okT3 t := h.imp fun _ h => ⟨h.1, by have := h.2.1; omega, h.2.2⟩
/-- A drawn term. -/
def RetDT (r : Nat) (p M : Int) (w : World) (e : Ending) (w' : World) : Prop :=
  ∃ (t : T) (A : Option Addr) (c : Nat), e = .returned (.agg #[.int .i64 t.op, .int .i64 t.a, .int .i64 t.b, .string t.name, .slice A t.kids.length c]) ∧ t.kids.length ≤ c ∧ TF w.heap.size w' A t.kids ∧ T.All okT5 t ∧ Drawn r p M w w'
theorem box5 {w : World} {b : Nat} {o0 o1 o2 o3 o4 v0 v1 v2 v3 v4 : Value} (h : w.heap[b]? = some (.cells #[o0, o1, o2, o3, o4] 48 (0, 0))) :
    (((((w.setCell ⟨b, 0, none⟩ v0).setCell ⟨b, 1, none⟩ v1).setCell ⟨b, 2, none⟩ v2).setCell ⟨b, 3, none⟩ v3).setCell ⟨b, 4, none⟩ v4).heap[b]? = some (.cells #[v0, v1, v2, v3, v4] 48 (0, 0)) := by
  have s0 := heap_set_same w b 0 v0 _ _ h
  have s1 := heap_set_same _ b 1 v1 _ _ s0
  have s2 := heap_set_same _ b 2 v2 _ _ s1
  have s3 := heap_set_same _ b 3 v3 _ _ s2
  have s4 := heap_set_same _ b 4 v4 _ _ s3
  simpa using s4
theorem box5_far {w : World} {b : Nat} {v0 v1 v2 v3 v4 : Value} {g : Nat} (hg : g ≠ b) :
    (((((w.setCell ⟨b, 0, none⟩ v0).setCell ⟨b, 1, none⟩ v1).setCell ⟨b, 2, none⟩ v2).setCell ⟨b, 3, none⟩ v3).setCell ⟨b, 4, none⟩ v4).heap[g]? = w.heap[g]? :=
  (Below.heap_setCell _ ⟨b, _, none⟩ _ g hg).trans ((Below.heap_setCell _ ⟨b, _, none⟩ _ g hg).trans ((Below.heap_setCell _ ⟨b, _, none⟩ _ g hg).trans ((Below.heap_setCell _ ⟨b, _, none⟩ _ g hg).trans (Below.heap_setCell _ ⟨b, _, none⟩ _ g hg))))
/-- The box of the answer is stored: the draw is done. -/
theorem drawn_store {r b : Nat} {p q M : Int} {w0 w : World} {v0 v1 v2 v3 v4 : Value} (h1 : p ≤ q) (h2 : q ≤ p + M) (hR : Rdr w r q) (hg : Gr (IsR r) w0 w) (hb : w0.heap.size ≤ b) (hr : r < w0.heap.size) :
    Drawn r p M w0 (((((w.setCell ⟨b, 0, none⟩ v0).setCell ⟨b, 1, none⟩ v1).setCell ⟨b, 2, none⟩ v2).setCell ⟨b, 3, none⟩ v3).setCell ⟨b, 4, none⟩ v4) :=
  have hgs : Gr (IsR r) w0 (((((w.setCell ⟨b, 0, none⟩ v0).setCell ⟨b, 1, none⟩ v1).setCell ⟨b, 2, none⟩ v2).setCell ⟨b, 3, none⟩ v3).setCell ⟨b, 4, none⟩ v4) :=
    ((((hg.set b 0 v0 (.inr hb)).set b 1 v1 (.inr hb)).set b 2 v2 (.inr hb)).set b 3 v3 (.inr hb)).set b 4 v4 (.inr hb)
  have hRs := ((((hR.set (g := b) (o := 0) (u := v0) (by omega)).set (g := b) (o := 1) (u := v1) (by omega)).set (g := b) (o := 2) (u := v2) (by omega)).set (g := b) (o := 3) (u := v3) (by omega)).set (g := b) (o := 4) (u := v4) (by omega)
  ⟨q, h1, h2, hRs, hgs⟩
theorem TF.box5 {lo b : Nat} {w : World} {A : Option Addr} {ks : List T} {v0 v1 v2 v3 v4 : Value} (h : TF lo w A ks) (hb : b < lo) :
    TF lo (((((w.setCell ⟨b, 0, none⟩ v0).setCell ⟨b, 1, none⟩ v1).setCell ⟨b, 2, none⟩ v2).setCell ⟨b, 3, none⟩ v3).setCell ⟨b, 4, none⟩ v4) A ks :=
  (Lay.Sl.keep h fun g hg => box5_far (by have := hg.1; omega)).mono fun g hg => ⟨hg.1, by simp only [size_setCell]; exact hg.2⟩
/-- Terms laid in a block of their own. -/
theorem lit_terms {lo : Nat} {w : World} {ks : List T} {cs : Array Value} {Ak : Nat → Option Addr} {ck : Nat → Nat} (hlo : lo ≤ w.heap.size) (hc : ∀ i k, ks[i]? = some k → k.kids.length ≤ ck i ∧ TF lo w (Ak i) k.kids ∧ ∀ j u, [Value.int .i64 k.op, .int .i64 k.a, .int .i64 k.b, .string k.name, .slice (Ak i) k.kids.length (ck i)][j]? = some u → cs[i * 5 + j]? = some u) :
    TF lo (w.alloc (.cells cs 48)) (some ⟨w.heap.size, 0, none⟩) ks := fun _ => by
  have hal : Below w.heap.size w (w.alloc (.cells cs 48)) := (Below.refl _ _).alloc (Nat.le_refl _) _
  refine ⟨_, rfl, ⟨hlo, by simp⟩, fun i k hk => ?_⟩
  obtain ⟨h1, h2, h3⟩ := hc i k hk
  refine ⟨_, TermR.of h1 (h2.up hal), fun j u hu => ?_⟩
  show (w.alloc _).cell? ((⟨w.heap.size, 0, none⟩ : Addr).add (i * 5 + j)) = some u
  rw [add_zero9, (cell_of_block (heap_alloc_new w _) _).1]
  exact h3 j u hu
end Go.Proofs.YtiahmfpfimmbgaaGreatDoor

/-! The reference's draws of terms: l2Leafy. -/
namespace Go.Proofs.YtiahmfpfimmbgaaGreatDoor
open Go Go.RowKit

/-- The box of the answer has been stored: what is handed back. -/
theorem ret_box {w0 w9 : World} {r : Nat} {p M : Int} {o a c : Int} {n : ByteArray} {kA : Option Addr} {kc : Nat} {ks : List T} (h : T.All okT5 (.mk o a c n ks)) (hc : ks.length ≤ kc) (hk : TF w0.heap.size w9 kA ks) (hd : Drawn r p M w0 w9) :
    RetDT r p M w0 (.returned (.agg #[.int .i64 o, .int .i64 a, .int .i64 c, .string n, .slice kA ks.length kc])) w9 := ⟨.mk o a c n ks, kA, kc, rfl, hc, hk, h, hd⟩
theorem okT_leaf {o a b : Int} {n : ByteArray} (h0 : 1 ≤ o) (h1 : o ≤ 9223372036854775807) (hn : n.size ≤ 1048576) : T.All okT5 (.mk o a b n []) := .mk _ ⟨⟨by show ([] : List T).length ≤ _; simp, hn⟩, h0, h1⟩ (fun k hk => by cases hk)
set_option maxRecDepth 100000 in
set_option maxHeartbeats 8000000 in
theorem l2Leafy_any (r : Nat) (p s : Int) (A : Option Addr) (c : Nat) (ds : List D) (w : World) (h : Rdr w r p) (hd : Lay.decl.Rd w A ds) (ho : okD5 ds) (s0 : 0 ≤ s) (s1 : s ≤ 8) (p0 : 0 ≤ p) (p1 : p ≤ 900000000) :
    Calls Tryz.prog 113 #[.pointer (some ⟨r, 0, none⟩), .slice A ds.length c, .int .i64 s] w (RetDT r p 16 w) := by
  have hrl := h.lt
  have hal : Below w.heap.size w (w.alloc (.cells #[.int .i64 0, .int .i64 0, .int .i64 0, .string ⟨#[]⟩, .slice none 0 0] 48)) := (Below.refl _ _).alloc (Nat.le_refl _) _
  have HBX := Lib.hid (heap_alloc_new w (.cells #[.int .i64 0, .int .i64 0, .int .i64 0, .string ⟨#[]⟩, .slice none 0 0] 48))
  have HR := Lib.hid (h.up hal)
  have HH := Lib.hid h
  have HD := Lib.hid (decl_notR (hd.up hal) HR.out)
  have HG : Hid (Gr (IsR r) w (w.alloc (.cells #[.int .i64 0, .int .i64 0, .int .i64 0, .string ⟨#[]⟩, .slice none 0 0] 48))) := Lib.hid (.below hal)
  obtain ⟨hdl, hdd⟩ := ho
  have HDD := Lib.hid hdd
  obtain ⟨T9, T0, T1, hT9⟩ := l1Two_tt s s0 (by omega)
  have HT9 := Lib.hid hT9
  clear hal h hd hdd hT9
  by_cases hs0 : s = 0
  · subst hs0
    go_enter Tryz.func113, Tryz.ntmps113
    go_wp2
    have hal9 : Below w.heap.size w (w.alloc (.cells #[.int .i64 24, .int .i64 0, .int .i64 0, .string ⟨#[]⟩, .slice none 0 0] 48)) := (Below.refl _ _).alloc (Nat.le_refl _) _
    refine bodyPost_ret (v := .agg #[.int .i64 24, .int .i64 0, .int .i64 0, .string ⟨#[]⟩, .slice none 0 0]) (by simp [results, Tryz.results113, go_sem]) rfl ?_
    exact ret_box (okT_leaf (by omega) (by omega) (by decide)) (by simp) (Lay.Sl.nil _ _ _ _) ⟨p, by omega, by omega, HH.out.up hal9, .below hal9⟩
  · have gs0 : (s == 0) = false := by simpa using hs0
    go_enter Tryz.func113, Tryz.ntmps113
    go_wp2_with fail
    generalize w.alloc (.cells #[.int .i64 0, .int .i64 0, .int .i64 0, .string ⟨#[]⟩, .slice none 0 0] 48) = w0 at *
    refine (pick_any r p ds.length w0 HR.out (by omega) (by omega) (by omega) (by omega)).mono ?_
    rintro e w2 ⟨k, rfl, k0, k1, k2, hR2, hg2⟩
    have hg2 := Gr.one (S := IsR r) hg2 rfl
    have HK1 := Lib.hid k1
    have HR2 := Lib.hid hR2
    have HG2 := Lib.hid (HG.out.trans hg2)
    have HD2 := Lib.hid (HD.out.gr hg2)
    have HBX2 := Lib.hid (hg2.heap (by show ¬ _ = r; omega) HBX.out)
    have hk8 : k ≤ 8 := by
      by_cases h9 : 1 ≤ (ds.length : Int)
      · have := k1 h9; omega
      · have := k2 (by omega); omega
    clear k1 k2 hR2 hg2 HD HG HR HBX
    go_wp2
    go_loopw [9] (fun i wr => ∃ (j : Nat) (q : Int), j ≤ ds.length ∧ i = .int .i64 j ∧ p + 1 ≤ q ∧ q ≤ p + 1 + j ∧ Hid (Rdr wr r q) ∧ Hid (Gr (IsR r) w wr) ∧ Hid (Lay.decl.Sl wr (Ab (IsR r) wr) A ds) ∧ Hid (wr.heap[w.heap.size]? = some (.cells #[.int .i64 0, .int .i64 0, .int .i64 0, .string ⟨#[]⟩, .slice none 0 0] 48 (0, 0)))) (fun i _ => ds.length - (intOf i).toNat)
    case atStart => exact ⟨0, p + 1, Nat.zero_le _, rfl, by omega, by omega, HR2, HG2, HD2, HBX2⟩
    case round =>
      obtain ⟨j, q, hj, rfl, q0, q1, HR3, HG3, HD3, HBX3⟩ := hrel
      by_cases hlt : j < ds.length
      · have hj1 : (j : Int) < ds.length := by omega
        have k1 := HK1.out (by omega)
        go_wp2_with fail
        refine (pick_any r q 4 wr HR3.out (by omega) (by omega) (by omega) (by omega)).mono ?_
        rintro e w4 ⟨z, rfl, z0, z1, _, hR4, hg4⟩
        have z1 := z1 (by omega)
        have hg4 := Gr.one (S := IsR r) hg4 rfl
        have HR4 := Lib.hid hR4
        have HG4 := Lib.hid (HG3.out.trans hg4)
        have HD4 := Lib.hid (HD3.out.gr hg4)
        have HBX4 := Lib.hid (hg4.heap (by show ¬ _ = r; omega) HBX3.out)
        clear hR4 hg4 HR3 HG3 HD3 HBX3
        by_cases hz : 0 < z
        · have gz : decide (0 < z) = true := decide_eq_true hz
          obtain ⟨m, hm, hml⟩ : ∃ m : Nat, Int.tmod (k + j) ds.length = (m : Int) ∧ m < ds.length := by
            rw [Int.tmod_eq_emod_of_nonneg (by omega)]
            have h1 := Int.emod_nonneg (k + j) (show (ds.length : Int) ≠ 0 by omega)
            have h2 := Int.emod_lt_of_pos (k + j) (show (0 : Int) < ds.length by omega)
            exact ⟨((k + j) % (ds.length : Int)).toNat, by omega, by omega⟩
          obtain ⟨ad, rfl, hf, d1, d2⟩ := HD4.out.at_decl hml
          obtain ⟨n5, w1, w4'⟩ := HDD.out _ (List.getElem_mem hml)
          have hml1 : (m : Int) < ds.length := by omega
          have hnz : ¬ (ds.length : Int) = 0 := by omega
          have hnz2 : ((ds.length : Int) == 0) = false := by simpa using hnz
          generalize ds[m] = dm at *
          by_cases hw : dm.wide = s
          · have gw : (dm.wide == s) = true := by simpa using hw
            have b0 : w4.cell? ⟨w.heap.size, 0, none⟩ = _ ∧ w4.frozen? ⟨w.heap.size, 0, none⟩ = false := cell_of_block HBX4.out 0
            obtain ⟨c0, g0⟩ := b0
            have b1 : w4.cell? ⟨w.heap.size, 1, none⟩ = _ ∧ w4.frozen? ⟨w.heap.size, 1, none⟩ = false := cell_of_block HBX4.out 1
            obtain ⟨c1, g1⟩ := b1
            have b2 : w4.cell? ⟨w.heap.size, 2, none⟩ = _ ∧ w4.frozen? ⟨w.heap.size, 2, none⟩ = false := cell_of_block HBX4.out 2
            obtain ⟨c2, g2⟩ := b2
            have b3 : w4.cell? ⟨w.heap.size, 3, none⟩ = _ ∧ w4.frozen? ⟨w.heap.size, 3, none⟩ = false := cell_of_block HBX4.out 3
            obtain ⟨c3, g3⟩ := b3
            have b4 : w4.cell? ⟨w.heap.size, 4, none⟩ = _ ∧ w4.frozen? ⟨w.heap.size, 4, none⟩ = false := cell_of_block HBX4.out 4
            obtain ⟨c4, g4⟩ := b4
            go_wp2
            have hb5 := box5 (v0 := .int .i64 21) (v1 := .int .i64 0) (v2 := .int .i64 0) (v3 := .string dm.name) (v4 := .slice none 0 0) HBX4.out
            have HDN := Lib.hid (drawn_store (M := 16) (v0 := .int .i64 21) (v1 := .int .i64 0) (v2 := .int .i64 0) (v3 := .string dm.name) (v4 := .slice none 0 0) (show p ≤ q + 1 by omega) (by omega) HR4.out HG4.out (Nat.le_refl _) hrl)
            generalize (((((w4.setCell ⟨w.heap.size, 0, none⟩ (.int .i64 21)).setCell ⟨w.heap.size, 1, none⟩ (.int .i64 0)).setCell ⟨w.heap.size, 2, none⟩ (.int .i64 0)).setCell ⟨w.heap.size, 3, none⟩ (.string dm.name)).setCell ⟨w.heap.size, 4, none⟩ (.slice none 0 0)) = w9 at *
            have e0 := (cell_of_block hb5 0).1
            have e1 := (cell_of_block hb5 1).1
            have e2 := (cell_of_block hb5 2).1
            have e3 := (cell_of_block hb5 3).1
            have e4 := (cell_of_block hb5 4).1
            simp at e0 e1 e2 e3 e4
            refine bodyPost_ret (v := .agg #[.int .i64 21, .int .i64 0, .int .i64 0, .string dm.name, .slice none 0 0]) (by simp [results, Tryz.results113, go_sem, e0, e1, e2, e3, e4]) rfl ?_
            exact ret_box (okT_leaf (by omega) (by omega) (by omega)) (by simp) (Lay.Sl.nil _ _ _ _) HDN.out
          · have gw : (dm.wide == s) = false := by simpa using hw
            go_wp2
            go_roundw
            case rel => exact ⟨j + 1, q + 1, by omega, by go_num, by omega, by omega, HR4, HG4, HD4, HBX4⟩
            case measure => simp [intOf]; omega
        · have gz : decide (0 < z) = false := decide_eq_false hz
          go_wp2_with fail
          refine (HT9.out w4).mono ?_
          rintro e w5 ⟨rfl, rfl⟩
          go_wp2_with fail
          refine (pick_any r (q + 1) T9 w4 HR4.out (by omega) (by omega) (by omega) (by omega)).mono ?_
          rintro e w6 ⟨y, rfl, y0, y1, _, hR6, hg6⟩
          have y1 := y1 (by omega)
          have hg6 := Gr.one (S := IsR r) hg6 rfl
          have HR6 := Lib.hid hR6
          have HG6 := Lib.hid (HG4.out.trans hg6)
          have HBX6 := Lib.hid (hg6.heap (by show ¬ _ = r; omega) HBX4.out)
          clear hR6 hg6
          have b0 : w6.cell? ⟨w.heap.size, 0, none⟩ = _ ∧ w6.frozen? ⟨w.heap.size, 0, none⟩ = false := cell_of_block HBX6.out 0
          obtain ⟨c0, g0⟩ := b0
          have b1 : w6.cell? ⟨w.heap.size, 1, none⟩ = _ ∧ w6.frozen? ⟨w.heap.size, 1, none⟩ = false := cell_of_block HBX6.out 1
          obtain ⟨c1, g1⟩ := b1
          have b2 : w6.cell? ⟨w.heap.size, 2, none⟩ = _ ∧ w6.frozen? ⟨w.heap.size, 2, none⟩ = false := cell_of_block HBX6.out 2
          obtain ⟨c2, g2⟩ := b2
          have b3 : w6.cell? ⟨w.heap.size, 3, none⟩ = _ ∧ w6.frozen? ⟨w.heap.size, 3, none⟩ = false := cell_of_block HBX6.out 3
          obtain ⟨c3, g3⟩ := b3
          have b4 : w6.cell? ⟨w.heap.size, 4, none⟩ = _ ∧ w6.frozen? ⟨w.heap.size, 4, none⟩ = false := cell_of_block HBX6.out 4
          obtain ⟨c4, g4⟩ := b4
          go_wp2
          have hb5 := box5 (v0 := .int .i64 20) (v1 := .int .i64 s) (v2 := .int .i64 y) (v3 := .string ⟨#[]⟩) (v4 := .slice none 0 0) HBX6.out
          have HDN := Lib.hid (drawn_store (M := 16) (v0 := .int .i64 20) (v1 := .int .i64 s) (v2 := .int .i64 y) (v3 := .string ⟨#[]⟩) (v4 := .slice none 0 0) (show p ≤ q + 1 + 1 by omega) (by omega) HR6.out HG6.out (Nat.le_refl _) hrl)
          generalize (((((w6.setCell ⟨w.heap.size, 0, none⟩ (.int .i64 20)).setCell ⟨w.heap.size, 1, none⟩ (.int .i64 s)).setCell ⟨w.heap.size, 2, none⟩ (.int .i64 y)).setCell ⟨w.heap.size, 3, none⟩ (.string ⟨#[]⟩)).setCell ⟨w.heap.size, 4, none⟩ (.slice none 0 0)) = w9 at *
          have e0 := (cell_of_block hb5 0).1
          have e1 := (cell_of_block hb5 1).1
          have e2 := (cell_of_block hb5 2).1
          have e3 := (cell_of_block hb5 3).1
          have e4 := (cell_of_block hb5 4).1
          simp at e0 e1 e2 e3 e4
          refine bodyPost_ret (v := .agg #[.int .i64 20, .int .i64 s, .int .i64 y, .string ⟨#[]⟩, .slice none 0 0]) (by simp [results, Tryz.results113, go_sem, e0, e1, e2, e3, e4]) rfl ?_
          exact ret_box (okT_leaf (by omega) (by omega) (by decide)) (by simp) (Lay.Sl.nil _ _ _ _) HDN.out
      · have hj1 : ¬ (j : Int) < ds.length := by omega
        go_wp2_with fail
        refine (HT9.out wr).mono ?_
        rintro e w5 ⟨rfl, rfl⟩
        go_wp2_with fail
        refine (pick_any r (q) T9 wr HR3.out (by omega) (by omega) (by omega) (by omega)).mono ?_
        rintro e w6 ⟨y, rfl, y0, y1, _, hR6, hg6⟩
        have y1 := y1 (by omega)
        have hg6 := Gr.one (S := IsR r) hg6 rfl
        have HR6 := Lib.hid hR6
        have HG6 := Lib.hid (HG3.out.trans hg6)
        have HBX6 := Lib.hid (hg6.heap (by show ¬ _ = r; omega) HBX3.out)
        clear hR6 hg6
        have b0 : w6.cell? ⟨w.heap.size, 0, none⟩ = _ ∧ w6.frozen? ⟨w.heap.size, 0, none⟩ = false := cell_of_block HBX6.out 0
        obtain ⟨c0, g0⟩ := b0
        have b1 : w6.cell? ⟨w.heap.size, 1, none⟩ = _ ∧ w6.frozen? ⟨w.heap.size, 1, none⟩ = false := cell_of_block HBX6.out 1
        obtain ⟨c1, g1⟩ := b1
        have b2 : w6.cell? ⟨w.heap.size, 2, none⟩ = _ ∧ w6.frozen? ⟨w.heap.size, 2, none⟩ = false := cell_of_block HBX6.out 2
        obtain ⟨c2, g2⟩ := b2
        have b3 : w6.cell? ⟨w.heap.size, 3, none⟩ = _ ∧ w6.frozen? ⟨w.heap.size, 3, none⟩ = false := cell_of_block HBX6.out 3
        obtain ⟨c3, g3⟩ := b3
        have b4 : w6.cell? ⟨w.heap.size, 4, none⟩ = _ ∧ w6.frozen? ⟨w.heap.size, 4, none⟩ = false := cell_of_block HBX6.out 4
        obtain ⟨c4, g4⟩ := b4
        go_wp2
        have hb5 := box5 (v0 := .int .i64 20) (v1 := .int .i64 s) (v2 := .int .i64 y) (v3 := .string ⟨#[]⟩) (v4 := .slice none 0 0) HBX6.out
        have HDN := Lib.hid (drawn_store (M := 16) (v0 := .int .i64 20) (v1 := .int .i64 s) (v2 := .int .i64 y) (v3 := .string ⟨#[]⟩) (v4 := .slice none 0 0) (show p ≤ q + 1 by omega) (by omega) HR6.out HG6.out (Nat.le_refl _) hrl)
        generalize (((((w6.setCell ⟨w.heap.size, 0, none⟩ (.int .i64 20)).setCell ⟨w.heap.size, 1, none⟩ (.int .i64 s)).setCell ⟨w.heap.size, 2, none⟩ (.int .i64 y)).setCell ⟨w.heap.size, 3, none⟩ (.string ⟨#[]⟩)).setCell ⟨w.heap.size, 4, none⟩ (.slice none 0 0)) = w9 at *
        have e0 := (cell_of_block hb5 0).1
        have e1 := (cell_of_block hb5 1).1
        have e2 := (cell_of_block hb5 2).1
        have e3 := (cell_of_block hb5 3).1
        have e4 := (cell_of_block hb5 4).1
        simp at e0 e1 e2 e3 e4
        refine bodyPost_ret (v := .agg #[.int .i64 20, .int .i64 s, .int .i64 y, .string ⟨#[]⟩, .slice none 0 0]) (by simp [results, Tryz.results113, go_sem, e0, e1, e2, e3, e4]) rfl ?_
        exact ret_box (okT_leaf (by omega) (by omega) (by decide)) (by simp) (Lay.Sl.nil _ _ _ _) HDN.out
end Go.Proofs.YtiahmfpfimmbgaaGreatDoor
