/- The reference's draws of layers with a term, and with a name. A popped layer is built again: plain laws. No program is named here. Malformed contexts: plain laws. No program is named here. Contexts stay right: plain laws. No program is named here. What the rows list of the library's variables: tables that the proofs do not read. -/
import Derived.Test.YtiahmfpfimmbgaaGreatDoorRows
import Derived.Test.YtiahmfpfimmbgaaGreatDoorTie
import Derived.Test.YtiahmfpfimmbgaaGreatDoorCards
import Derived.ProofKit
import Derived.OpenShut
import Derived.LaidMore
import Derived.Lay
import Derived.LaidOnce
import Derived.SevenTiedAt
import Derived.Stop.Joined
import Derived.Test.YtiahmfpfimmbgaaGreatDoorJFnCtx2
import Derived.Test.YtiahmfpfimmbgaaGreatDoorJFnCtx8
import Derived.Test.YtiahmfpfimmbgaaGreatDoorJFnCtx13
import Derived.Test.YtiahmfpfimmbgaaGreatDoorJFnCtx21
import Derived.Test.YtiahmfpfimmbgaaGreatDoorJFnCtx25
/-! The reference's draws of layers with a term, and with a name. -/
namespace Go.Proofs.YtiahmfpfimmbgaaGreatDoor
open Go Go.RowKit Go.ChangeShapes Go.WideShapes Go.ChangeAt Go.Deep

theorem cell_z {w : World} {z : Nat} {cs : Array Value} {ty : TypeId} (hb : w.heap[z]? = some (.cells cs ty (0, 0))) {a : Addr} {v : Value} (hc : w.cell? a = some v) (ha : a.block = z) : cs[a.off]? = some v := by
  unfold World.cell? at hc
  rw [ha, hb] at hc
  dsimp only at hc
  split at hc
  · cases hc
  · exact hc
/-- The block z holds nothing of terms whose kind is told, of right declarations, of layers. -/
structure NoZ (w : World) (z : Nat) : Prop where
  term : ∀ (a : Addr) (o x : Int) (n : ByteArray), a.block = z → w.cell? a = some (.int .i64 o) → w.cell? ⟨a.block, a.off + 1, none⟩ = some (.int .i64 x) → w.cell? ⟨a.block, a.off + 3, none⟩ = some (.string n) → o = 0
  decl : ∀ (a : Addr) (n : ByteArray) (x : Int), a.block = z → w.cell? a = some (.string n) → w.cell? ⟨a.block, a.off + 1, none⟩ = some (.int .i64 x) → x = 0
  layer : ∀ (a : Addr) (A B : Option Addr) (n c m d : Nat), a.block = z → w.cell? a = some (.slice A n c) → w.cell? ⟨a.block, a.off + 1, none⟩ = some (.slice B m d) → False
theorem noZ_term {w : World} {z : Nat} (hb : w.heap[z]? = some (.cells #[.int .i64 0, .int .i64 0, .int .i64 0, .string ⟨#[]⟩, .slice none 0 0] 48 (0, 0))) : NoZ w z where
  term := fun a o x n ha h0 h1 h3 => by
    have c0 := cell_z hb h0 ha
    have c3 : _ = _ := cell_z hb h3 ha
    dsimp only at c3
    generalize a.off = k at *
    rcases k with _ | _ | _ | _ | _ | k <;> simp at c0 c3
    · omega
  decl := fun a n x ha h0 h1 => by
    have c0 := cell_z hb h0 ha
    have c1 : _ = _ := cell_z hb h1 ha
    dsimp only at c1
    generalize a.off = k at *
    rcases k with _ | _ | _ | _ | _ | k <;> simp at c0 c1
  layer := fun a A B n c m d ha h0 h1 => by
    have c0 := cell_z hb h0 ha
    have c1 : _ = _ := cell_z hb h1 ha
    dsimp only at c1
    generalize a.off = k at *
    rcases k with _ | _ | _ | _ | _ | k <;> simp at c0 c1
theorem noZ_decl {w : World} {z : Nat} (hb : w.heap[z]? = some (.cells #[.string ⟨#[]⟩, .int .i64 0] 39 (0, 0))) : NoZ w z where
  term := fun a o x n ha h0 h1 h3 => by
    have c0 := cell_z hb h0 ha
    have c1 : _ = _ := cell_z hb h1 ha
    dsimp only at c1
    generalize a.off = k at *
    rcases k with _ | _ | k <;> simp at c0 c1
  decl := fun a n x ha h0 h1 => by
    have c0 := cell_z hb h0 ha
    have c1 : _ = _ := cell_z hb h1 ha
    dsimp only at c1
    generalize a.off = k at *
    rcases k with _ | _ | k <;> simp at c0 c1
    · omega
  layer := fun a A B n c m d ha h0 h1 => by
    have c0 := cell_z hb h0 ha
    generalize a.off = k at *
    rcases k with _ | _ | k <;> simp at c0
section
variable {w : World} {z : Nat} {F : Nat → Prop}
theorem decl_notZ (hz : NoZ w z) {A : Option Addr} {ds : List D} (ho : ∀ d ∈ ds, 1 ≤ d.wide) (h : Lay.decl.Sl w F A ds) : Lay.decl.Sl w (fun b => F b ∧ ¬ b = z) A ds := fun h0 => by
  obtain ⟨ad, e, hf, c0, c1⟩ := h.at_decl h0
  obtain ⟨ad', e', _, hc⟩ := h h0
  rw [e] at e'; injection e' with e'; subst e'
  refine ⟨ad, e, ⟨hf, fun e9 => ?_⟩, fun k x hx => ?_⟩
  · have := hz.decl (ad.add (0 * 2)) _ _ (by rw [block_of_add]; exact e9) c0 c1
    have := ho _ (List.getElem_mem h0)
    omega
  · obtain ⟨vs, hr, hcell⟩ := hc k x hx
    exact ⟨vs, hr, hcell⟩
theorem term_notZ (hz : NoZ w z) (t : T) : (∀ k ∈ t.kids, T.All okT5 k) → ∀ (A : Option Addr), Lay.term.Sl w F A t.kids → Lay.term.Sl w (fun b => F b ∧ ¬ b = z) A t.kids := by
  refine T.ind (p := fun t => (∀ k ∈ t.kids, T.All okT5 k) → ∀ (A : Option Addr), Lay.term.Sl w F A t.kids → Lay.term.Sl w (fun b => F b ∧ ¬ b = z) A t.kids) (fun t ih ho A h => ?_) t
  intro h0
  obtain ⟨ad, A1, c1, e, hf, q0, q1, q2, q3, _⟩ := h.at_term h0
  obtain ⟨ad', e', _, hc⟩ := h h0
  rw [e] at e'; injection e' with e'; subst e'
  refine ⟨ad, e, ⟨hf, fun e9 => ?_⟩, fun k x hx => ?_⟩
  · have h1 := hz.term (ad.add (0 * 5)) _ _ _ (by rw [block_of_add]; exact e9) q0 q1 q3
    have h2 := (ho _ (List.getElem_mem h0)).here.2.1
    omega
  · obtain ⟨vs, hr9, hcell⟩ := hc k x hx
    obtain ⟨A', c', rfl, hl, hs⟩ := TermR.form hr9
    exact ⟨_, TermR.of hl (ih x (List.mem_of_getElem? hx) (ho x (List.mem_of_getElem? hx)).kid A' hs), hcell⟩
theorem layer_notZ (hz : NoZ w z) {A : Option Addr} {c : List Ly} (hd : ∀ d ∈ dsAll c, 1 ≤ d.wide) (ht : ∀ t ∈ tsAll c, T.All okT5 t) (h : Lay.layer.Sl w F A c) : Lay.layer.Sl w (fun b => F b ∧ ¬ b = z) A c := fun h0 => by
  obtain ⟨ad, A1, c1, A2, c2, e, hf, q0, q1, _⟩ := h.at_layer h0
  obtain ⟨ad', e', _, hc⟩ := h h0
  rw [e] at e'; injection e' with e'; subst e'
  refine ⟨ad, e, ⟨hf, fun e9 => ?_⟩, fun k x hx => ?_⟩
  · exact hz.layer (ad.add (0 * 2)) _ _ _ _ _ _ (by rw [block_of_add]; exact e9) q0 q1
  · obtain ⟨vs, ⟨A', c', B', d', rfl, h1, h2, h3, h4⟩, hcell⟩ := hc k x hx
    have hm := List.mem_of_getElem? hx
    exact ⟨_, ⟨A', c', B', d', rfl, h1, h2, decl_notZ hz (fun d hd9 => hd d (List.mem_flatMap.2 ⟨x, hm, hd9⟩)) h3, term_notZ hz (.mk 0 0 0 ⟨#[]⟩ x.ts) (fun t ht9 => ht t (List.mem_flatMap.2 ⟨x, hm, ht9⟩)) B' h4⟩, hcell⟩
end
/-- Neither the reader nor the answer's box. -/
def S2 (r z : Nat) : Nat → Prop := fun x => x = r ∨ x = z
theorem layer_S2 {w : World} {r z : Nat} {p : Int} {A : Option Addr} {c : List Ly} (h : Lay.layer.Rd w A c) (hr : Rdr w r p) (hz : NoZ w z) (ho : okDC c) : Lay.layer.Sl w (Ab (S2 r z) w) A c :=
  (layer_notZ hz (fun d hd => (ho.2.1.2 d hd).2.1) ho.2.2 (layer_notR h hr)).mono fun _ hb => ⟨hb.1.1, fun e => e.elim hb.1.2 hb.2⟩
theorem set_below {B : Nat} {w w' : World} (h : Below B w w') (g o : Nat) (v : Value) (hg : B ≤ g) : Below B w (w'.setCell ⟨g, o, none⟩ v) := below_set9 (p := ⟨g, o, none⟩) h hg v
/-- Drawn layers and a term. -/
def DrawCT (w : World) (e : Ending) (w' : World) : Prop := ∃ (c : List Ly) (A : Option Addr) (q : Nat) (t : T) (B : Option Addr) (d : Nat), e = .returned (.tuple #[.slice A c.length q, .agg #[.int .i64 t.op, .int .i64 t.a, .int .i64 t.b, .string t.name, .slice B t.kids.length d]]) ∧ c.length ≤ q ∧ Lay.layer.Rd w' A c ∧ okDC c ∧ t.kids.length ≤ d ∧ Lay.term.Rd w' B t.kids ∧ T.All okT3 t ∧ Below w.heap.size w w'
set_option maxRecDepth 100000 in
set_option maxHeartbeats 8000000 in
theorem drawCtxAssert_any (A : Option Addr) (c : Nat) (bs : List UInt8) (w : World) (h : Lay.byte.Rd w A bs) (hc : bs.length ≤ c) (hn : bs.length ≤ 9223372036854775807) :
    Calls Tryz.prog 48 #[.slice A bs.length c] w (DrawCT w) := by
  have hal : Below w.heap.size w (w.alloc (.cells #[.int .i64 0, .int .i64 0, .int .i64 0, .string ⟨#[]⟩, .slice none 0 0] 48)) := (Below.refl _ _).alloc (Nat.le_refl _) _
  have HBX := Lib.hid (heap_alloc_new w (.cells #[.int .i64 0, .int .i64 0, .int .i64 0, .string ⟨#[]⟩, .slice none 0 0] 48))
  have HO := Lib.hid (open_any A c bs (w.alloc (.cells #[.int .i64 0, .int .i64 0, .int .i64 0, .string ⟨#[]⟩, .slice none 0 0] 48)) (h.up hal) hc hn)
  have HAL := Lib.hid hal
  have HSZ : Hid ((w.alloc (.cells #[.int .i64 0, .int .i64 0, .int .i64 0, .string ⟨#[]⟩, .slice none 0 0] 48)).heap.size = w.heap.size + 1) := Lib.hid (by show (w.heap.push _).size = _; rw [Array.size_push])
  clear h hal
  go_enter Tryz.func48, Tryz.ntmps48
  go_wp2_with fail
  refine HO.out.mono ?_
  clear HO
  rintro e w1 ⟨r, rfl, hr, hR1, hb1⟩
  have hzr : w.heap.size < r := by rw [HSZ.out] at hr; omega
  have HBX1 := Lib.hid ((hb1.block _ (lt_of_block HBX.out)).trans HBX.out)
  have HB1 := Lib.hid (bthen HAL.out hb1)
  have HS := Lib.hid (l10Some_any r 0 w1 hR1 (by omega) (by omega))
  obtain ⟨z, hz⟩ : ∃ z, z = w.heap.size := ⟨_, rfl⟩
  rw [← hz] at HBX1 hzr ⊢
  have HZ := Lib.hid hz
  clear hr hR1 hb1 HAL HBX HSZ hz
  go_wp2_with fail
  refine HS.out.mono ?_
  clear HS
  rintro e w2 ⟨c2, A2, q2, rfl, h1, h2, h3, s, s0, s1, hR2, hg2⟩
  have HQ2 := Lib.hid h1
  have hBX2 := hg2.heap (by show ¬ _ = r; omega) HBX1.out
  have HC2 := Lib.hid (layer_S2 (z := z) h2 hR2 (noZ_term hBX2) h3)
  have HBX2 := Lib.hid hBX2
  have HK := Lib.hid h3
  have HR2 := Lib.hid hR2
  have HB2 := Lib.hid (HB1.out.trans (hg2.to_below' HB1.out.size (fun b e => by rw [show b = r from e, ← HZ.out]; omega)))
  clear h1 h2 h3 hR2 hg2 HBX1 HB1 hBX2
  have HL := Lib.hid (l10Decls_any A2 q2 c2 w2 HC2.out.ab_rd HK.out.1.len HK.out.1.ds)
  obtain ⟨ds, hds⟩ : ∃ ds, ds = dsAll c2 := ⟨_, rfl⟩
  rw [← hds] at HL
  have HDO : Hid (okD5 ds) := Lib.hid (by rw [hds]; exact HK.out.2.1)
  clear hds
  go_wp2_with fail
  refine HL.out.mono ?_
  clear HL
  rintro e w3 ⟨A3, c3, rfl, hown, hb3⟩
  have HD3 := Lib.hid (And.intro (OwnDs.cap hown).2 hown.rd)
  have HR3 := Lib.hid (HR2.out.up hb3)
  have HC3 := Lib.hid (HC2.out.gr (.below hb3))
  have HBX3 := Lib.hid ((hb3.block _ (lt_of_block HBX2.out)).trans HBX2.out)
  have HB3 := Lib.hid (bthen HB2.out hb3)
  clear hown hb3 HR2 HC2 HBX2 HB2
  have hal4 := (Below.refl w3.heap.size w3).alloc (Nat.le_refl _) (.cells #[.int .i64 0, .int .i64 0, .int .i64 0, .int .i64 0, .int .i64 2] 3)
  have HLT := Lib.hid (lit_sl (S := fun x => x = r) w3 [0, 0, 0, 0, 2] #[.int .i64 0, .int .i64 0, .int .i64 0, .int .i64 0, .int .i64 2] 3 rfl (by have := HR3.out.lt; omega))
  obtain ⟨w4, hw4⟩ : ∃ w4, w4 = w3.alloc (.cells #[.int .i64 0, .int .i64 0, .int .i64 0, .int .i64 0, .int .i64 2] 3) := ⟨_, rfl⟩
  rw [← hw4] at hal4 HLT
  have HD4 := Lib.hid (And.intro HD3.out.1 (HD3.out.2.up hal4))
  have HR4 := Lib.hid (HR3.out.up hal4)
  have HC4 := Lib.hid (HC3.out.gr (.below hal4))
  have HBX4 := Lib.hid ((hal4.block _ (lt_of_block HBX3.out)).trans HBX3.out)
  have HB4 := Lib.hid (bthen HB3.out hal4)
  clear hal4 HD3 HR3 HC3 HBX3 HB3
  go_wp2_with fail
  rw [← hw4]
  clear hw4
  refine (num_any r s _ 5 [0, 0, 0, 0, 2] w4 HR4.out HLT.out (by simp) (by simp) (by omega) (by omega)).mono ?_
  clear HLT
  rintro e w5 ⟨x, hx, rfl, hR5, hg5⟩
  have hx9 : 0 ≤ x ∧ x ≤ 2 := by simp at hx; omega
  have hg5 : Gr (IsR r) w4 w5 := hg5
  have HD5 := Lib.hid (And.intro HD4.out.1 ((decl_notR HD4.out.2 HR4.out).gr hg5).ab_rd)
  have HR5 := Lib.hid hR5
  have HC5 := Lib.hid (HC4.out.gr (hg5.mono fun x hx => .inl hx))
  have HBX5 := Lib.hid (hg5.heap (by show ¬ _ = r; omega) HBX4.out)
  have HB5 := Lib.hid (HB4.out.trans (hg5.to_below' HB4.out.size (fun b e => by rw [show b = r from e, ← HZ.out]; omega)))
  clear hx hR5 hg5 HD4 HR4 HC4 HBX4 HB4
  have HS := Lib.hid (l8SomeK_any r (s + 1) x A3 c3 ds w5 HR5.out HD5.out.2 HD5.out.1 HDO.out (by omega) (by omega) (by omega) (by omega))
  go_wp2_with fail
  refine HS.out.mono ?_
  clear HS
  rintro e w6 ⟨t0, A6, c6, rfl, hc6, hk6, ho6, hkb6, q6, qa6, qb6, hR6, hg6⟩
  have hg6 : Gr (IsR r) w5 w6 := hg6
  have HC6 := Lib.hid (HC5.out.gr (hg6.mono fun x hx => .inl hx))
  have HBX6 := Lib.hid (hg6.heap (by show ¬ _ = r; omega) HBX5.out)
  have HB6 := Lib.hid (HB5.out.trans (hg6.to_below' HB5.out.size (fun b e => by rw [show b = r from e, ← HZ.out]; omega)))
  have hz5 := lt_of_block HBX5.out
  have hr5 := HR5.out.lt
  have HS := Lib.hid (l2Bent_any r z q6 t0 A6 c6 w6 hR6 (lt_of_block HBX6.out) hk6 hr5 hz5 hc6 ho6.five hkb6 (by omega) (by omega))
  clear hc6 hk6 ho6 hkb6 hR6 hg6 HC5 HBX5 HB5 HR5 HD5 hz5 hr5 HDO
  go_wp2_with fail
  refine HS.out.mono ?_
  clear HS
  rintro e w7 ⟨t, A7, c7, rfl, hc7, hk7, ho7, q7, qa7, qb7, hR7, hg7⟩
  have hg7 : Gr (IsR r) w6 w7 := hg7
  have HC7 := Lib.hid (HC6.out.gr (hg7.mono fun x hx => .inl hx))
  have HBX7 := Lib.hid (hg7.heap (by show ¬ _ = r; omega) HBX6.out)
  have HB7 := Lib.hid (HB6.out.trans (hg7.to_below' HB6.out.size (fun b e => by rw [show b = r from e, ← HZ.out]; omega)))
  have HK7 := Lib.hid (And.intro hc7 (And.intro hk7 ho7))
  clear hc7 hk7 ho7 hR7 hg7 HC6 HBX6 HB6
  obtain ⟨cc0, gg0⟩ := (show w7.cell? ⟨z, 0, none⟩ = _ ∧ w7.frozen? ⟨z, 0, none⟩ = false from cell_of_block HBX7.out 0)
  obtain ⟨cc1, gg1⟩ := (show w7.cell? ⟨z, 1, none⟩ = _ ∧ w7.frozen? ⟨z, 1, none⟩ = false from cell_of_block HBX7.out 1)
  obtain ⟨cc2, gg2⟩ := (show w7.cell? ⟨z, 2, none⟩ = _ ∧ w7.frozen? ⟨z, 2, none⟩ = false from cell_of_block HBX7.out 2)
  obtain ⟨cc3, gg3⟩ := (show w7.cell? ⟨z, 3, none⟩ = _ ∧ w7.frozen? ⟨z, 3, none⟩ = false from cell_of_block HBX7.out 3)
  obtain ⟨cc4, gg4⟩ := (show w7.cell? ⟨z, 4, none⟩ = _ ∧ w7.frozen? ⟨z, 4, none⟩ = false from cell_of_block HBX7.out 4)
  go_wp2
  have hb5 := box5 (v0 := .int .i64 t.op) (v1 := .int .i64 t.a) (v2 := .int .i64 t.b) (v3 := .string t.name) (v4 := .slice A7 t.kids.length c7) HBX7.out
  have HCR : Hid (Lay.layer.Rd (((((w7.setCell ⟨z, 0, none⟩ (.int .i64 t.op)).setCell ⟨z, 1, none⟩ (.int .i64 t.a)).setCell ⟨z, 2, none⟩ (.int .i64 t.b)).setCell ⟨z, 3, none⟩ (.string t.name)).setCell ⟨z, 4, none⟩ (.slice A7 t.kids.length c7)) A2 c2) := Lib.hid (HC7.out.gr (((((Gr.refl (S2 r z) w7).set z _ _ (.inl (.inr rfl))).set z _ _ (.inl (.inr rfl))).set z _ _ (.inl (.inr rfl))).set z _ _ (.inl (.inr rfl)) |>.set z _ _ (.inl (.inr rfl)))).ab_rd
  have HKR : Hid (Lay.term.Rd (((((w7.setCell ⟨z, 0, none⟩ (.int .i64 t.op)).setCell ⟨z, 1, none⟩ (.int .i64 t.a)).setCell ⟨z, 2, none⟩ (.int .i64 t.b)).setCell ⟨z, 3, none⟩ (.string t.name)).setCell ⟨z, 4, none⟩ (.slice A7 t.kids.length c7)) A7 t.kids) := Lib.hid (HK7.out.2.1.gr (((((Gr.refl (fun x => x = z) w7).set z _ _ (.inl rfl)).set z _ _ (.inl rfl)).set z _ _ (.inl rfl)).set z _ _ (.inl rfl) |>.set z _ _ (.inl rfl))).ab_rd
  have HBR : Hid (Below w.heap.size w (((((w7.setCell ⟨z, 0, none⟩ (.int .i64 t.op)).setCell ⟨z, 1, none⟩ (.int .i64 t.a)).setCell ⟨z, 2, none⟩ (.int .i64 t.b)).setCell ⟨z, 3, none⟩ (.string t.name)).setCell ⟨z, 4, none⟩ (.slice A7 t.kids.length c7))) := Lib.hid (set_below (set_below (set_below (set_below (set_below HB7.out z _ _ (by rw [HZ.out]; exact Nat.le_refl _)) z _ _ (by rw [HZ.out]; exact Nat.le_refl _)) z _ _ (by rw [HZ.out]; exact Nat.le_refl _)) z _ _ (by rw [HZ.out]; exact Nat.le_refl _)) z _ _ (by rw [HZ.out]; exact Nat.le_refl _))
  generalize (((((w7.setCell ⟨z, 0, none⟩ (.int .i64 t.op)).setCell ⟨z, 1, none⟩ (.int .i64 t.a)).setCell ⟨z, 2, none⟩ (.int .i64 t.b)).setCell ⟨z, 3, none⟩ (.string t.name)).setCell ⟨z, 4, none⟩ (.slice A7 t.kids.length c7)) = w9 at *
  have e0 := (cell_of_block hb5 0).1
  have e1 := (cell_of_block hb5 1).1
  have e2 := (cell_of_block hb5 2).1
  have e3 := (cell_of_block hb5 3).1
  have e4 := (cell_of_block hb5 4).1
  simp at e0 e1 e2 e3 e4
  refine bodyPost_ret (v := .tuple #[.slice A2 c2.length q2, .agg #[.int .i64 t.op, .int .i64 t.a, .int .i64 t.b, .string t.name, .slice A7 t.kids.length c7]]) (by simp [results, Tryz.results48, go_sem, e0, e1, e2, e3, e4]) rfl ?_
  exact ⟨c2, A2, q2, t, A7, c7, rfl, HQ2.out, HCR.out, HK.out, HK7.out.1, HKR.out, HK7.out.2.2, HBR.out⟩
/-- Drawn layers and a declaration. -/
def DrawCN (w : World) (e : Ending) (w' : World) : Prop := ∃ (c : List Ly) (A : Option Addr) (q : Nat) (d : D), e = .returned (.tuple #[.slice A c.length q, .agg #[.string d.name, .int .i64 d.wide]]) ∧ c.length ≤ q ∧ Lay.layer.Rd w' A c ∧ okDC c ∧ smD d ∧ Below w.heap.size w w'
set_option maxRecDepth 100000 in
set_option maxHeartbeats 8000000 in
theorem drawCtxName_any (A : Option Addr) (c : Nat) (bs : List UInt8) (w : World) (h : Lay.byte.Rd w A bs) (hc : bs.length ≤ c) (hn : bs.length ≤ 9223372036854775807) :
    Calls Tryz.prog 49 #[.slice A bs.length c] w (DrawCN w) := by
  have hal : Below w.heap.size w (w.alloc (.cells #[.string ⟨#[]⟩, .int .i64 0] 39)) := (Below.refl _ _).alloc (Nat.le_refl _) _
  have HBX := Lib.hid (heap_alloc_new w (.cells #[.string ⟨#[]⟩, .int .i64 0] 39))
  have HO := Lib.hid (open_any A c bs (w.alloc (.cells #[.string ⟨#[]⟩, .int .i64 0] 39)) (h.up hal) hc hn)
  have HAL := Lib.hid hal
  have HSZ : Hid ((w.alloc (.cells #[.string ⟨#[]⟩, .int .i64 0] 39)).heap.size = w.heap.size + 1) := Lib.hid (by show (w.heap.push _).size = _; rw [Array.size_push])
  clear h hal
  go_enter Tryz.func49, Tryz.ntmps49
  go_wp2_with fail
  refine HO.out.mono ?_
  clear HO
  rintro e w1 ⟨r, rfl, hr, hR1, hb1⟩
  have hzr : w.heap.size < r := by rw [HSZ.out] at hr; omega
  have HBX1 := Lib.hid ((hb1.block _ (lt_of_block HBX.out)).trans HBX.out)
  have HB1 := Lib.hid (bthen HAL.out hb1)
  have HS := Lib.hid (l10Some_any r 0 w1 hR1 (by omega) (by omega))
  obtain ⟨z, hz⟩ : ∃ z, z = w.heap.size := ⟨_, rfl⟩
  rw [← hz] at HBX1 hzr ⊢
  have HZ := Lib.hid hz
  clear hr hR1 hb1 HAL HBX HSZ hz
  go_wp2_with fail
  refine HS.out.mono ?_
  clear HS
  rintro e w2 ⟨c2, A2, q2, rfl, h1, h2, h3, s, s0, s1, hR2, hg2⟩
  have HQ2 := Lib.hid h1
  have hBX2 := hg2.heap (by show ¬ _ = r; omega) HBX1.out
  have HC2 := Lib.hid (layer_S2 (z := z) h2 hR2 (noZ_decl hBX2) h3)
  have HBX2 := Lib.hid hBX2
  have HK := Lib.hid h3
  have HR2 := Lib.hid hR2
  have HB2 := Lib.hid (HB1.out.trans (hg2.to_below' HB1.out.size (fun b e => by rw [show b = r from e, ← HZ.out]; omega)))
  clear h1 h2 h3 hR2 hg2 HBX1 HB1 hBX2
  have hal4 := (Below.refl w2.heap.size w2).alloc (Nat.le_refl _) (.cells #[.string ⟨#[120]⟩, .string ⟨#[121]⟩, .string ⟨#[122]⟩, .string ⟨#[119]⟩, .string ⟨#[118]⟩, .string ⟨#[116, 114, 117, 101]⟩, .string ⟨#[]⟩] 9)
  have HLT := Lib.hid (lit_str (S := fun x => x = r) w2 [⟨#[120]⟩, ⟨#[121]⟩, ⟨#[122]⟩, ⟨#[119]⟩, ⟨#[118]⟩, ⟨#[116, 114, 117, 101]⟩, ⟨#[]⟩] #[.string ⟨#[120]⟩, .string ⟨#[121]⟩, .string ⟨#[122]⟩, .string ⟨#[119]⟩, .string ⟨#[118]⟩, .string ⟨#[116, 114, 117, 101]⟩, .string ⟨#[]⟩] 9 rfl (by have := HR2.out.lt; omega))
  obtain ⟨w4, hw4⟩ : ∃ w4, w4 = w2.alloc (.cells #[.string ⟨#[120]⟩, .string ⟨#[121]⟩, .string ⟨#[122]⟩, .string ⟨#[119]⟩, .string ⟨#[118]⟩, .string ⟨#[116, 114, 117, 101]⟩, .string ⟨#[]⟩] 9) := ⟨_, rfl⟩
  rw [← hw4] at hal4 HLT
  have HR4 := Lib.hid (HR2.out.up hal4)
  have HC4 := Lib.hid (HC2.out.gr (.below hal4))
  have HBX4 := Lib.hid ((hal4.block _ (lt_of_block HBX2.out)).trans HBX2.out)
  have HB4 := Lib.hid (bthen HB2.out hal4)
  clear hal4 HR2 HC2 HBX2 HB2
  go_wp2_with fail
  rw [← hw4]
  clear hw4
  refine (of_any r s _ 7 [⟨#[120]⟩, ⟨#[121]⟩, ⟨#[122]⟩, ⟨#[119]⟩, ⟨#[118]⟩, ⟨#[116, 114, 117, 101]⟩, ⟨#[]⟩] w4 HR4.out HLT.out (by simp) (by simp) (by omega) (by omega)).mono ?_
  clear HLT
  rintro e w5 ⟨n9, hn9, rfl, hR5, hg5⟩
  have hn5 : n9.size ≤ 5 := by
    simp only [List.mem_cons, List.not_mem_nil, or_false] at hn9
    rcases hn9 with rfl | rfl | rfl | rfl | rfl | rfl | rfl <;> decide
  have hg5 : Gr (IsR r) w4 w5 := hg5
  have HR5 := Lib.hid hR5
  have HC5 := Lib.hid (HC4.out.gr (hg5.mono fun x hx => .inl hx))
  have HBX5 := Lib.hid (hg5.heap (by show ¬ _ = r; omega) HBX4.out)
  have HB5 := Lib.hid (HB4.out.trans (hg5.to_below' HB4.out.size (fun b e => by rw [show b = r from e, ← HZ.out]; omega)))
  clear hn9 hR5 hg5 HR4 HC4 HBX4 HB4
  go_wp2_with fail
  refine (pick_any r (s + 1) 6 w5 HR5.out (by omega) (by omega) (by omega) (by omega)).mono ?_
  rintro e w7 ⟨y, rfl, y0, y1, _, hR7, hg7⟩
  have y1 := y1 (by omega)
  have hg7 := Gr.one (S := IsR r) hg7 rfl
  have HC7 := Lib.hid (HC5.out.gr (hg7.mono fun x hx => .inl hx))
  have HBX7 := Lib.hid (hg7.heap (by show ¬ _ = r; omega) HBX5.out)
  have HB7 := Lib.hid (HB5.out.trans (hg7.to_below' HB5.out.size (fun b e => by rw [show b = r from e, ← HZ.out]; omega)))
  have HSD : Hid (smD ⟨n9, y⟩) := Lib.hid ⟨by show n9.size ≤ _; omega, by show -9223372036854775808 ≤ y ∧ y ≤ 9223372036854775807; omega⟩
  clear hR7 hg7 HR5 HC5 HBX5 HB5 hn5
  obtain ⟨cc0, gg0⟩ := (show w7.cell? ⟨z, 0, none⟩ = _ ∧ w7.frozen? ⟨z, 0, none⟩ = false from cell_of_block HBX7.out 0)
  obtain ⟨cc1, gg1⟩ := (show w7.cell? ⟨z, 1, none⟩ = _ ∧ w7.frozen? ⟨z, 1, none⟩ = false from cell_of_block HBX7.out 1)
  go_wp2
  have hb5 : ((w7.setCell ⟨z, 0, none⟩ (.string n9)).setCell ⟨z, 1, none⟩ (.int .i64 y)).heap[z]? = some (.cells #[.string n9, .int .i64 y] 39 (0, 0)) := by
    have s0 := heap_set_same w7 z 0 (.string n9) _ _ HBX7.out
    have s1 := heap_set_same _ z 1 (.int .i64 y) _ _ s0
    simpa using s1
  have HCR : Hid (Lay.layer.Rd ((w7.setCell ⟨z, 0, none⟩ (.string n9)).setCell ⟨z, 1, none⟩ (.int .i64 y)) A2 c2) := Lib.hid (HC7.out.gr (((Gr.refl (S2 r z) w7).set z _ _ (.inl (.inr rfl))).set z _ _ (.inl (.inr rfl)))).ab_rd
  have HBR : Hid (Below w.heap.size w ((w7.setCell ⟨z, 0, none⟩ (.string n9)).setCell ⟨z, 1, none⟩ (.int .i64 y))) := Lib.hid (set_below (set_below HB7.out z _ _ (by rw [HZ.out]; exact Nat.le_refl _)) z _ _ (by rw [HZ.out]; exact Nat.le_refl _))
  generalize ((w7.setCell ⟨z, 0, none⟩ (.string n9)).setCell ⟨z, 1, none⟩ (.int .i64 y)) = w9 at *
  have e0 := (cell_of_block hb5 0).1
  have e1 := (cell_of_block hb5 1).1
  simp at e0 e1
  refine bodyPost_ret (v := .tuple #[.slice A2 c2.length q2, .agg #[.string n9, .int .i64 y]]) (by simp [results, Tryz.results49, go_sem, e0, e1]) rfl ?_
  exact ⟨c2, A2, q2, ⟨n9, y⟩, rfl, HQ2.out, HCR.out, HK.out, HSD.out, HBR.out⟩
end Go.Proofs.YtiahmfpfimmbgaaGreatDoor

/-! A popped layer is built again: plain laws. No program is named here. -/
namespace Go.Proofs.YtiahmfpfimmbgaaGreatDoor
open Go Go.RowKit

theorem dGo_pre : ∀ (xs ys seen : List D) (b : Int), dGo seen b (xs ++ ys) = true → dGo seen b xs = true
  | [], ys, seen, b, h => by
    obtain ⟨h1, h2⟩ := dGo_facts ys seen b (by simpa using h)
    have := dsum_nn (ds := ys) fun x hx => (h1 x hx).2.1
    simp only [dGo, decide_eq_true_eq]; omega
  | x :: xs, ys, seen, b, h => by
    simp only [List.cons_append, dGo, Bool.and_eq_true] at h ⊢
    exact ⟨h.1, dGo_pre xs ys _ _ h.2⟩
theorem declOk_pre {xs ys : List D} (h : declOk (xs ++ ys) = true) : declOk xs = true := by
  unfold declOk at h ⊢
  simp only [Bool.and_eq_true, decide_eq_true_eq, List.length_append] at h ⊢
  exact ⟨by omega, dGo_pre xs ys _ _ h.2⟩
/-- Part of the last layer. -/
abbrev upto (xs : List Ly) (l : Ly) (i j : Nat) : List Ly := xs ++ [⟨l.ds.take i, l.ts.take j⟩]
end Go.Proofs.YtiahmfpfimmbgaaGreatDoor

/-! Malformed contexts: plain laws. No program is named here. -/
namespace Go.Proofs.YtiahmfpfimmbgaaGreatDoor
open Go Go.RowKit

end Go.Proofs.YtiahmfpfimmbgaaGreatDoor

/-! Contexts stay right: plain laws. No program is named here. -/
namespace Go.Proofs.YtiahmfpfimmbgaaGreatDoor
open Go Go.RowKit

theorem ctxOk_push {c : List Ly} (h : ctxOk c = true) : ctxOk (c ++ [⟨[], []⟩]) = decide ((c.length : Int) < 6) := by
  obtain ⟨h1, h2, h3, h4, h5⟩ := ctxOk_parts h
  have e1 : dsAll (c ++ [⟨[], []⟩]) = dsAll c := by rw [dsAll_app, dsAll_one]; simp
  have e2 : tsAll (c ++ [⟨[], []⟩]) = tsAll c := by rw [tsAll_app, tsAll_one]; simp
  by_cases h6 : c.length < 6
  · rw [decide_eq_true (by omega), ctxOk_go (by simp) (by simp; omega) (by rw [e1]; exact h3) (by rw [e2]; exact h4), ctxGo_app, h5]
    rfl
  · rw [decide_eq_false (by omega)]
    exact ctxOk_long (by simp; omega)
theorem ctxOk_pop {c : List Ly} (h : ctxOk c = true) : ctxOk c.dropLast = decide ((1 : Int) < (c.length : Int)) := by
  obtain ⟨h1, h2, h3, h4, h5⟩ := ctxOk_parts h
  obtain ⟨xs, l, rfl⟩ := last_of h1
  rw [dropLast_app9]
  rw [List.length_append, List.length_singleton] at h2 ⊢
  by_cases h6 : 1 ≤ xs.length
  · rw [decide_eq_true (by omega)]
    rw [dsAll_app] at h3
    rw [tsAll_app, List.length_append] at h4
    rw [ctxGo_app, Bool.and_eq_true] at h5
    rw [ctxOk_go h6 (by omega) (declOk_pre h3) (by omega)]
    exact h5.1
  · rw [decide_eq_false (by omega)]
    exact ctxOk_short h6
theorem ctxCh_no {c x : List Ly} (h : ¬ ctxOk c = true) : ctxCh c x = ([], false) := by unfold ctxCh; rw [if_neg h]
theorem ctxCh_snd {c x : List Ly} (h : ctxOk c = true) : (ctxCh c x).2 = ctxOk x := by
  unfold ctxCh
  rw [if_pos h]
  cases hx : ctxOk x <;> simp
/-- What was not turned is what was. -/
theorem ctxCh_same {c x : List Ly} (h : ctxOk c = true) (h' : (ctxCh c x).2 = false) : allSame Ly.same (ctxCh c x).1 c = true := by
  rw [ctxCh_snd h] at h'
  unfold ctxCh
  rw [if_pos h, h']
  exact allSame_self Ly.same_self c
theorem ctxCh_right {c x : List Ly} (h : ctxOk c = true) : ctxOk (ctxCh c x).1 = true := by
  unfold ctxCh
  rw [if_pos h]
  by_cases hx : ctxOk x = true
  · rw [if_pos hx]; exact hx
  · rw [if_neg hx]; exact h
end Go.Proofs.YtiahmfpfimmbgaaGreatDoor

/-! What the rows list of the library's variables: tables that the proofs do not read. -/
namespace Go.Proofs.YtiahmfpfimmbgaaGreatDoor
open Go

theorem dr_own : ownKnob Tryz.prog.godebug = none := by kernel_rfl
abbrev laidU : List (String × DataW Unit) := [("unicode/utf8.acceptRanges", Rows.laid_unicode_utf8_acceptRanges), ("unicode/utf8.first", Rows.laid_unicode_utf8_first)]
end Go.Proofs.YtiahmfpfimmbgaaGreatDoor
