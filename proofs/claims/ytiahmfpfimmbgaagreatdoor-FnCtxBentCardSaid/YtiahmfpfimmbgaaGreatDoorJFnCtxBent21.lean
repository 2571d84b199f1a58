/- FnCtxBent: malformed contexts are refused: for any bytes the law says true. -/
import Derived.Test.YtiahmfpfimmbgaaGreatDoorRows
import Derived.Test.YtiahmfpfimmbgaaGreatDoorJFnCtxBent1
import Derived.Test.YtiahmfpfimmbgaaGreatDoorJFnCtxBent3
import Derived.Test.YtiahmfpfimmbgaaGreatDoorJFnCtxBent8
import Derived.Test.YtiahmfpfimmbgaaGreatDoorJFnCtxBent12
import Derived.Test.YtiahmfpfimmbgaaGreatDoorJFnCtxBent20
/-! FnCtxBent: malformed contexts are refused: for any bytes the law says true. -/
namespace Go.Proofs.YtiahmfpfimmbgaaGreatDoor
open Go Go.RowKit Go.ChangeShapes Go.WideShapes Go.ChangeAt Go.Deep

theorem opens_bytes : Opens Tryz.prog 53 Lay.byte.slice (fun xs => xs.length ≤ maxLen ∧ ∀ x ∈ xs, True) := Opens.slice Tryz.underlying53 (by kernel_rfl) (by decide) (Opens.byte Tryz.underlying5)
theorem layer_at {w : World} {A : Option Addr} {c : List Ly} {l : Ly} {n : Nat} (h : Lay.layer.Rd w A c) (hl : c[n]? = some l) :
    ∃ ad A1 c1 A2 c2, A = some ad ∧ w.cell? (ad.add (n * 2)) = some (.slice A1 l.ds.length c1) ∧ w.cell? ⟨(ad.add (n * 2)).block, (ad.add (n * 2)).off + 1, none⟩ = some (.slice A2 l.ts.length c2) ∧
      l.ds.length ≤ c1 ∧ l.ts.length ≤ c2 ∧ Lay.decl.Rd w A1 l.ds ∧ Lay.term.Rd w A2 l.ts := by
  obtain ⟨hn, rfl⟩ := List.getElem?_eq_some_iff.1 hl
  obtain ⟨ad, A1, c1, A2, c2, h1, _, h2, h3, h4, h5, h6, h7⟩ := h.at_layer hn
  exact ⟨ad, A1, c1, A2, c2, h1, h2, h3, h4, h5, h6, h7⟩
theorem implCtxNew_d (w : World) : Calls Tryz.prog 46 #[] w fun e w' => ∃ g, e = .returned (.slice (some ⟨g, 0, none⟩) 1 1) ∧ w'.heap[g]? = some (.cells #[.slice none 0 0, .slice none 0 0] 58 (0, 0)) ∧ Below w.heap.size w w' := by
  go_enter Tryz.func46, Tryz.ntmps46
  go_wp2
  go_ret
  exact ⟨_, rfl, heap_alloc_new w _, (Below.refl _ _).alloc (Nat.le_refl _) _⟩

/-- What an alloc leaves. -/
theorem alloc_step {w : World} {n : Nat} (hn : w.heap.size = n) (vs : Array Value) (ty : TypeId) :
    ∃ w1, w1 = w.alloc (.cells vs ty) ∧ w1.heap.size = n + 1 ∧ w1.heap[n]? = some (.cells vs ty (0, 0)) ∧ (∀ (i : Nat) (v : Obj), w.heap[i]? = some v → w1.heap[i]? = some v) ∧ Below w.heap.size w w1 := by
  refine ⟨_, rfl, by show (w.heap.push _).size = n + 1; rw [Array.size_push, hn], ?_, fun i v hv => ?_, (Below.refl _ _).alloc (Nat.le_refl _) _⟩
  · rw [← hn]; exact heap_alloc_new w _
  · have hi : i < w.heap.size := (Array.getElem?_eq_some_iff.1 hv).1
    rw [((Below.refl w.heap.size w).alloc (Nat.le_refl _) _).block i hi]
    exact hv
theorem lit_rd {α : Type} {L : Lay α} {w : World} {g : Nat} {vs : Array Value} {ty : TypeId} (hb : w.heap[g]? = some (.cells vs ty (0, 0))) (xs : List α)
    (h : ∀ k x, xs[k]? = some x → ∃ us, L.R w (fun b => b < w.heap.size) x us ∧ ∀ j u, us[j]? = some u → vs[k * L.size + j]? = some u) : L.Rd w (some ⟨g, 0, none⟩) xs := fun _ => by
  refine ⟨_, rfl, lt_of_block hb, fun k x hx => ?_⟩
  obtain ⟨us, h1, h2⟩ := h k x hx
  refine ⟨us, h1, fun j u hu => ?_⟩
  have e : (⟨g, 0, none⟩ : Addr).add (k * L.size + j) = ⟨g, k * L.size + j, none⟩ := by
    unfold Addr.add
    split
    · rename_i e; rw [e]
    · simp
  rw [e, (cell_of_block hb _).1]
  exact h2 j u hu
theorem two_layers_rd {w : World} {g : Nat} {A B A' B' : Option Addr} {l l' : Ly} {q r q' r' n m n' m' : Nat} (hb : w.heap[g]? = some (.cells #[.slice A n q, .slice B m r, .slice A' n' q', .slice B' m' r'] 58 (0, 0)))
    (e1 : l.ds.length = n) (e2 : l.ts.length = m) (e3 : l'.ds.length = n') (e4 : l'.ts.length = m') (hq : n ≤ q) (hr : m ≤ r) (hq' : n' ≤ q') (hr' : m' ≤ r')
    (h1 : Lay.decl.Rd w A l.ds) (h2 : Lay.term.Rd w B l.ts) (h3 : Lay.decl.Rd w A' l'.ds) (h4 : Lay.term.Rd w B' l'.ts) : Lay.layer.Rd w (some ⟨g, 0, none⟩) [l, l'] := lit_rd hb _ fun k x hx => by
  subst e1 e2 e3 e4
  match k, hx with
  | 0, hx =>
    injection hx with hx
    subst hx
    refine ⟨_, ⟨A, q, B, r, rfl, hq, hr, h1, h2⟩, fun j u hu => ?_⟩
    match j, hu with
    | 0, hu => exact hu
    | 1, hu => exact hu
    | j + 2, hu => simp at hu
  | 1, hx =>
    injection hx with hx
    subst hx
    refine ⟨_, ⟨A', q', B', r', rfl, hq', hr', h3, h4⟩, fun j u hu => ?_⟩
    match j, hu with
    | 0, hu => exact hu
    | 1, hu => exact hu
    | j + 2, hu => simp at hu
  | k + 2, hx => simp at hx
theorem one_decl_rd {w : World} {g : Nat} {d : D} (hb : w.heap[g]? = some (.cells #[.string d.name, .int .i64 d.wide] 39 (0, 0))) : Lay.decl.Rd w (some ⟨g, 0, none⟩) [d] := lit_rd hb _ fun k x hx => by
  match k, hx with
  | 0, hx =>
    injection hx with hx
    subst hx
    refine ⟨_, rfl, fun j u hu => ?_⟩
    match j, hu with
    | 0, hu => exact hu
    | 1, hu => exact hu
    | j + 2, hu => simp at hu
  | k + 1, hx => simp at hx
theorem term_R {w : World} {F : Nat → Prop} {A : Option Addr} {c : Nat} {t : T} (hc : t.kids.length ≤ c) (h : Lay.term.Sl w F A t.kids) :
    Lay.term.R w F t [.int .i64 t.op, .int .i64 t.a, .int .i64 t.b, .string t.name, .slice A t.kids.length c] := TermR.of hc h
theorem late_terms_rd {w : World} {g : Nat} (hb : w.heap[g]? = some (.cells #[.int .i64 21, .int .i64 0, .int .i64 0, .string ⟨#[108, 97, 116, 101]⟩, .slice none 0 0, .int .i64 21, .int .i64 0, .int .i64 0, .string ⟨#[108, 97, 116, 101]⟩, .slice none 0 0] 48 (0, 0))) :
    Lay.term.Rd w (some ⟨g, 0, none⟩) [lateN, lateN] := lit_rd hb _ fun k x hx => by
  have hk : k < 2 := (List.getElem?_eq_some_iff.1 hx).1
  have hx9 : x = lateN := by
    match k, hx with
    | 0, hx => injection hx with hx; exact hx.symm
    | 1, hx => injection hx with hx; exact hx.symm
  subst hx9
  refine ⟨_, term_R (A := none) (c := 0) (Nat.le_refl _) (Lay.Sl.nil _ _ _ _), fun j u hu => ?_⟩
  match k, hk, j, hu with
  | 0, _, 0, hu => exact hu
  | 0, _, 1, hu => exact hu
  | 0, _, 2, hu => exact hu
  | 0, _, 3, hu => exact hu
  | 0, _, 4, hu => exact hu
  | 1, _, 0, hu => exact hu
  | 1, _, 1, hu => exact hu
  | 1, _, 2, hu => exact hu
  | 1, _, 3, hu => exact hu
  | 1, _, 4, hu => exact hu
  | 0, _, j + 5, hu => simp at hu
  | 1, _, j + 5, hu => simp at hu
theorem late_term_rd {w : World} {g h : Nat} (hb : w.heap[g]? = some (.cells #[.int .i64 15, .int .i64 0, .int .i64 0, .string ⟨#[]⟩, .slice (some ⟨h, 0, none⟩) 2 2] 48 (0, 0))) (hk : Lay.term.Rd w (some ⟨h, 0, none⟩) [lateN, lateN]) :
    Lay.term.Rd w (some ⟨g, 0, none⟩) [lateT] := lit_rd hb _ fun k x hx => by
  match k, hx with
  | 0, hx =>
    injection hx with hx
    subst hx
    refine ⟨_, term_R (t := lateT) (A := some ⟨h, 0, none⟩) (c := 2) (Nat.le_refl _) hk, fun j u hu => ?_⟩
    match j, hu with
    | 0, hu => exact hu
    | 1, hu => exact hu
    | 2, hu => exact hu
    | 3, hu => exact hu
    | 4, hu => exact hu
    | j + 5, hu => simp at hu
  | k + 1, hx => simp at hx
def noughts (n : Nat) : Array Value := (List.replicate (n * 2) (Value.slice none 0 0)).toArray
theorem noughts_rd (n : Nat) {w : World} {g : Nat} (hb : w.heap[g]? = some (.cells (noughts n) 58 (0, 0))) : Lay.layer.Rd w (some ⟨g, 0, none⟩) (List.replicate n ⟨[], []⟩) := lit_rd hb _ fun k x hx => by
  obtain ⟨hk, hx9⟩ := List.getElem?_eq_some_iff.1 hx
  rw [List.getElem_replicate] at hx9
  rw [List.length_replicate] at hk
  subst hx9
  refine ⟨_, ⟨none, 0, none, 0, rfl, Nat.le_refl _, Nat.le_refl _, Lay.Sl.nil _ _ _ _, Lay.Sl.nil _ _ _ _⟩, fun j u hu => ?_⟩
  have hv : ∀ i, i < n * 2 → (noughts n)[i]? = some (Value.slice none 0 0) := fun i hi => by
    unfold noughts
    rw [List.getElem?_toArray, List.getElem?_replicate, if_pos hi]
  match j, hu with
  | 0, hu =>
    rw [hv _ (by show k * 2 + 0 < n * 2; omega)]
    exact hu
  | 1, hu =>
    rw [hv _ (by show k * 2 + 1 < n * 2; omega)]
    exact hu
  | j + 2, hu => simp at hu
theorem made7 : madeCells (Value.agg #[.slice none 0 0, .slice none 0 0]).cells (7 * 2) = noughts 7 := by kernel_rfl
theorem made6 : madeCells (Value.agg #[.slice none 0 0, .slice none 0 0]).cells (6 * 2) = noughts 6 := by kernel_rfl
theorem run_make_layers (n : Nat) (hn : n ≤ 10) (hc : madeCells (Value.agg #[.slice none 0 0, .slice none 0 0]).cells (n * 2) = noughts n) (w : World) :
    (Instr.makeSlice 26 (.int .i64 (n : Int)) (.int .i64 (n : Int))).run Tryz.prog w = .ok (.slice (some ⟨w.heap.size, 0, none⟩) n n) (w.alloc (.cells (noughts n) 58)) := by
  obtain ⟨i0, hi0, hz0, hz1, hz2⟩ := info_parts layer_info
  have hr := run_make (P := Tryz.prog) w 26 58 i0 _ Tryz.underlying26 hi0 hz0 .i64 .i64 n n (by omega) (Int.le_refl _) (by rw [hz2]; omega) (by omega)
  simp only [Int.toNat_natCast, hz1, hc] at hr
  exact hr
/-- The program's CtxOk of layers that are at hand. -/
theorem ctxOk_of (c : List Ly) (A : Option Addr) (n q : Nat) (b : Bool) (w : World) (h : Lay.layer.Rd w A c) (hn : c.length = n) (hq : n ≤ q) (hc : okC c) (hb : ctxOk c = b) :
    Calls Tryz.prog 45 #[.slice A n q] w (RetB w b) := by
  subst hn hb
  exact implCtxOk_u c A q w h hq hc

set_option maxRecDepth 100000 in
set_option maxHeartbeats 8000000 in
theorem fnCtxBent_walk (W : World) {A0 : Option Addr} {c0 : Nat} {x0 : List UInt8} (hc0 : x0.length ≤ c0) (hok0 : x0.length ≤ maxLen ∧ ∀ z ∈ x0, True) (h0 : Lay.byte.Rd W A0 x0) :
    Calls Tryz.prog 9 #[.slice A0 x0.length c0] W (LawC W) := by
  have hm0 : x0.length ≤ 9223372036854775807 := by have := hok0.1; unfold maxLen at this; omega
  clear hok0
  by_cases hbig0 : (1048576 : Int) < x0.length
  · go_enter Tryz.func9, Tryz.ntmps9
    go_wp2
    go_ret
    exact ⟨rfl, Below.refl _ _⟩
  have HD := Lib.hid (drawCtxSame_any A0 c0 x0 W h0 hc0 hm0)
  clear h0 hc0 hm0
  go_enter Tryz.func9, Tryz.ntmps9
  go_wp2_with fail
  refine HD.out.mono ?_
  clear HD
  rintro e w1 ⟨c, A1, q1, x, A2, q2, rfl, hq1, hc1, hok, hq2, hx1, hox, hb1⟩
  have HC := Lib.hid (And.intro hc1 hx1)
  have HB := Lib.hid hb1
  have hcl : c.length ≤ 1048576 := hok.1.len
  have hxl : x.length ≤ 1048576 := hox.1.len
  obtain ⟨s, hs⟩ : ∃ s, s = allSame Ly.same c x := ⟨_, rfl⟩
  obtain ⟨k, hk⟩ : ∃ k, k = ctxOk x := ⟨_, rfl⟩
  have hcx := okC_l2 hok.1
  have hxx := okC_l2 hox.1
  have hi1 : ∀ (z : World), Lay.layer.Rd z A1 c ∧ Lay.layer.Rd z A2 x → Calls Tryz.prog 38 #[.slice A1 c.length q1, .slice A2 x.length q2] z (RetB z s) := fun z hz => by
    rw [hs]; exact implCtxSame_any A1 A2 q1 q2 c x _ _ z hz.1 hz.2 (fun _ h => h) (fun _ h => h) hcl hxl hcx hxx
  have hi2 : ∀ (z : World), Lay.layer.Rd z A1 c ∧ Lay.layer.Rd z A2 x → Calls Tryz.prog 38 #[.slice A2 x.length q2, .slice A1 c.length q1] z (RetB z s) := fun z hz => by
    rw [hs, ctx_comm]; exact implCtxSame_any A2 A1 q2 q1 x c _ _ z hz.2 hz.1 (fun _ h => h) (fun _ h => h) hxl hcl hxx hcx
  have hi3 : ∀ (z : World), Lay.layer.Rd z A1 c ∧ Lay.layer.Rd z A2 x → Calls Tryz.prog 38 #[.slice A1 c.length q1, .slice A1 c.length q1] z (RetB z true) := fun z hz => by
    have := implCtxSame_any A1 A1 q1 q1 c c _ _ z hz.1 hz.1 (fun _ h => h) (fun _ h => h) hcl hcl hcx hcx
    rw [allSame_self Ly.same_self] at this
    exact this
  have hs1 : ∀ (z : World), Lay.layer.Rd z A1 c ∧ Lay.layer.Rd z A2 x → Calls Tryz.prog 44 #[.slice A1 c.length q1, .slice A2 x.length q2] z (RetB z s) := fun z hz => by
    rw [hs]; exact specCtxSame_any A1 A2 q1 q2 c x _ _ z hz.1 hz.2 (fun _ h => h) (fun _ h => h) hcl hxl hcx hxx
  have ho1 : ∀ (z : World), Lay.layer.Rd z A1 c ∧ Lay.layer.Rd z A2 x → Calls Tryz.prog 45 #[.slice A2 x.length q2] z (RetB z k) := fun z hz => by
    rw [hk]; exact implCtxOk_u x A2 q2 z hz.2 hq2 hox.1
  have ho2 : ∀ (z : World), Lay.layer.Rd z A1 c ∧ Lay.layer.Rd z A2 x → Calls Tryz.prog 40 #[.slice A2 x.length q2] z (RetB z k) := fun z hz => by
    rw [hk]; exact specCtxOk_any A2 q2 x z hz.2 hq2 hox.1
  have HI1 := Lib.hid hi1
  have HI2 := Lib.hid hi2
  have HI3 := Lib.hid hi3
  have HS1 := Lib.hid hs1
  have HO1 := Lib.hid ho1
  have HO2 := Lib.hid ho2
  have hss : (s != s) = false := by simp
  have hkk : (k != k) = false := by simp
  clear hc1 hx1 hb1 hq1 hq2 hok hox hs hk hcx hxx hi1 hi2 hi3 hs1 ho1 ho2
  go_wp2_with fail
  refine (HI1.out w1 HC.out).mono ?_
  rintro e w2 ⟨rfl, hb2⟩
  have HC := Lib.hid (And.intro (HC.out.1.up hb2) (HC.out.2.up hb2))
  have HB := Lib.hid (bthen HB.out hb2)
  clear hb2
  go_wp2_with fail
  refine (HS1.out w2 HC.out).mono ?_
  rintro e w3 ⟨rfl, hb3⟩
  have HC := Lib.hid (And.intro (HC.out.1.up hb3) (HC.out.2.up hb3))
  have HB := Lib.hid (bthen HB.out hb3)
  clear hb3
  go_wp2_with fail
  refine (HI1.out w3 HC.out).mono ?_
  rintro e w4 ⟨rfl, hb4⟩
  have HC := Lib.hid (And.intro (HC.out.1.up hb4) (HC.out.2.up hb4))
  have HB := Lib.hid (bthen HB.out hb4)
  clear hb4
  go_wp2_with fail
  refine (HI2.out w4 HC.out).mono ?_
  rintro e w5 ⟨rfl, hb5⟩
  have HC := Lib.hid (And.intro (HC.out.1.up hb5) (HC.out.2.up hb5))
  have HB := Lib.hid (bthen HB.out hb5)
  clear hb5
  go_wp2_with fail
  refine (HI3.out w5 HC.out).mono ?_
  rintro e w6 ⟨rfl, hb6⟩
  have HC := Lib.hid (And.intro (HC.out.1.up hb6) (HC.out.2.up hb6))
  have HB := Lib.hid (bthen HB.out hb6)
  clear hb6
  go_wp2_with fail
  refine (HO1.out w6 HC.out).mono ?_
  rintro e w7 ⟨rfl, hb7⟩
  have HC := Lib.hid (And.intro (HC.out.1.up hb7) (HC.out.2.up hb7))
  have HB := Lib.hid (bthen HB.out hb7)
  clear hb7
  go_wp2_with fail
  refine (HO2.out w7 HC.out).mono ?_
  rintro e w8 ⟨rfl, hb8⟩
  have HC := Lib.hid (And.intro (HC.out.1.up hb8) (HC.out.2.up hb8))
  have HB := Lib.hid (bthen HB.out hb8)
  clear hb8
  clear HI1 HI2 HI3 HS1 HO1 HO2 HC
  have HN := Lib.hid (implCtxNew_d w8)
  go_wp2_with fail
  refine HN.out.mono ?_
  clear HN
  rintro e w ⟨gn, rfl, hrn, hbn⟩
  have HRN := Lib.hid hrn
  have HB := Lib.hid (bthen HB.out hbn)
  clear hrn hbn hss hkk
  go_wp2
  obtain ⟨v1, e1, s1, b1, k1, l1⟩ := alloc_step (w := w) rfl #[.int .i64 21, .int .i64 0, .int .i64 0, .string ⟨#[108, 97, 116, 101]⟩, .slice none 0 0] 48
  rw [← e1]
  clear e1
  have HB := Lib.hid (bthen HB.out l1)
  have HRN := Lib.hid (k1 _ _ HRN.out)
  clear k1 l1
  obtain ⟨v2, e2, s2, b2, k2, l2⟩ := alloc_step (w := v1) s1 #[.int .i64 21, .int .i64 0, .int .i64 0, .string ⟨#[108, 97, 116, 101]⟩, .slice none 0 0, .int .i64 21, .int .i64 0, .int .i64 0, .string ⟨#[108, 97, 116, 101]⟩, .slice none 0 0] 48
  rw [← e2]
  clear e2
  have b1 := k2 _ _ b1
  have HB := Lib.hid (bthen HB.out l2)
  have HRN := Lib.hid (k2 _ _ HRN.out)
  clear k2 l2
  obtain ⟨v3, e3, s3, b3, k3, l3⟩ := alloc_step (w := v2) s2 #[.int .i64 15, .int .i64 0, .int .i64 0, .string ⟨#[]⟩, .slice (some ⟨w.heap.size + 1, 0, none⟩) 2 2] 48
  rw [← e3]
  clear e3
  have b1 := k3 _ _ b1
  have b2 := k3 _ _ b2
  have HB := Lib.hid (bthen HB.out l3)
  have HRN := Lib.hid (k3 _ _ HRN.out)
  clear k3 l3
  obtain ⟨v4, e4, s4, b4, k4, l4⟩ := alloc_step (w := v3) s3 #[.string ⟨#[108, 97, 116, 101]⟩, .int .i64 1] 39
  rw [← e4]
  clear e4
  have b1 := k4 _ _ b1
  have b2 := k4 _ _ b2
  have b3 := k4 _ _ b3
  have HB := Lib.hid (bthen HB.out l4)
  have HRN := Lib.hid (k4 _ _ HRN.out)
  clear k4 l4
  obtain ⟨v5, e5, s5, b5, k5, l5⟩ := alloc_step (w := v4) s4 #[.slice none 0 0, .slice (some ⟨w.heap.size + 1 + 1, 0, none⟩) 1 1, .slice (some ⟨w.heap.size + 1 + 1 + 1, 0, none⟩) 1 1, .slice none 0 0] 58
  rw [← e5]
  clear e5
  have b1 := k5 _ _ b1
  have b2 := k5 _ _ b2
  have b3 := k5 _ _ b3
  have b4 := k5 _ _ b4
  have HB := Lib.hid (bthen HB.out l5)
  have HRN := Lib.hid (k5 _ _ HRN.out)
  clear k5 l5
  obtain ⟨v6, e6, s6, b6, k6, l6⟩ := alloc_step (w := v5) s5 #[.string ⟨#[97]⟩, .int .i64 1] 39
  rw [← e6]
  clear e6
  have b1 := k6 _ _ b1
  have b2 := k6 _ _ b2
  have b3 := k6 _ _ b3
  have b4 := k6 _ _ b4
  have b5 := k6 _ _ b5
  have HB := Lib.hid (bthen HB.out l6)
  have HRN := Lib.hid (k6 _ _ HRN.out)
  clear k6 l6
  obtain ⟨v7, e7, s7, b7, k7, l7⟩ := alloc_step (w := v6) s6 #[.string ⟨#[97]⟩, .int .i64 1] 39
  rw [← e7]
  clear e7
  have b1 := k7 _ _ b1
  have b2 := k7 _ _ b2
  have b3 := k7 _ _ b3
  have b4 := k7 _ _ b4
  have b5 := k7 _ _ b5
  have b6 := k7 _ _ b6
  have HB := Lib.hid (bthen HB.out l7)
  have HRN := Lib.hid (k7 _ _ HRN.out)
  clear k7 l7
  obtain ⟨v8, e8, s8, b8, k8, l8⟩ := alloc_step (w := v7) s7 #[.slice (some ⟨w.heap.size + 1 + 1 + 1 + 1 + 1, 0, none⟩) 1 1, .slice none 0 0, .slice (some ⟨w.heap.size + 1 + 1 + 1 + 1 + 1 + 1, 0, none⟩) 1 1, .slice none 0 0] 58
  rw [← e8]
  clear e8
  have b1 := k8 _ _ b1
  have b2 := k8 _ _ b2
  have b3 := k8 _ _ b3
  have b4 := k8 _ _ b4
  have b5 := k8 _ _ b5
  have b6 := k8 _ _ b6
  have b7 := k8 _ _ b7
  have HB := Lib.hid (bthen HB.out l8)
  have HRN := Lib.hid (k8 _ _ HRN.out)
  clear k8 l8
  generalize w.heap.size = g at *
  have hk2 := late_terms_rd b2
  have hk3 := late_term_rd b3 hk2
  have hd4 := one_decl_rd (d := lateD) b4
  have hd6 := one_decl_rd (d := aD) b6
  have hd7 := one_decl_rd (d := aD) b7
  have hLT := two_layers_rd (l := ⟨[], [lateT]⟩) (l' := ⟨[lateD], []⟩) b5 rfl rfl rfl rfl (Nat.le_refl _) (Nat.le_refl _) (Nat.le_refl _) (Nat.le_refl _) (Lay.Sl.nil _ _ _ _) hk3 hd4 (Lay.Sl.nil _ _ _ _)
  have hTW := two_layers_rd (l := ⟨[aD], []⟩) (l' := ⟨[aD], []⟩) b8 rfl rfl rfl rfl (Nat.le_refl _) (Nat.le_refl _) (Nat.le_refl _) (Nat.le_refl _) hd6 (Lay.Sl.nil _ _ _ _) hd7 (Lay.Sl.nil _ _ _ _)
  have HLT : Hid (Lay.layer.Rd v8 _ lateC) := Lib.hid hLT
  have HTW : Hid (Lay.layer.Rd v8 _ twoC) := Lib.hid hTW
  have HPT := Lib.hid (And.intro hk3 hd4)
  have m0 := Later.cell (show v8.cell? ⟨g + 1 + 1 + 1 + 1, 0, none⟩ = some (.slice none 0 0) from (cell_of_block b5 0).1)
  have m1 := Later.cell (show v8.cell? ⟨g + 1 + 1 + 1 + 1, 1, none⟩ = some (.slice (some ⟨g + 1 + 1, 0, none⟩) 1 1) from (cell_of_block b5 1).1)
  have m2 := Later.cell (show v8.cell? ⟨g + 1 + 1 + 1 + 1, 2, none⟩ = some (.slice (some ⟨g + 1 + 1 + 1, 0, none⟩) 1 1) from (cell_of_block b5 2).1)
  have m3 := Later.cell (show v8.cell? ⟨g + 1 + 1 + 1 + 1, 3, none⟩ = some (.slice none 0 0) from (cell_of_block b5 3).1)
  clear b1 b2 b3 b4 b5 b6 b7 b8 s1 s2 s3 s4 s5 s6 s7 s8 hk2 hk3 hd4 hd6 hd7 hLT hTW
  refine wp_region_rel4 [[], [(0, 66)], [(1, 67)], [], [(3, 69)], [(4, 70)], [(2, 68), (5, 71)], [(6, 72)]]
    (fun y y' => Below y.heap.size y y')
    []
    (fun _ yy => Below v8.heap.size v8 yy)
    [fun vs9 _ => vs9 0 = (.slice (some ⟨g + 1 + 1 + 1 + 1, 0, none⟩) 2 2),
    fun vs9 _ => vs9 1 = (.pointer (some ⟨g + 1 + 1 + 1 + 1, 2, none⟩)),
    fun vs9 _ => vs9 2 = (.agg #[.slice (some ⟨g + 1 + 1 + 1, 0, none⟩) 1 1, .slice none 0 0]),
    fun vs9 _ => vs9 3 = (.slice (some ⟨g + 1 + 1 + 1 + 1, 0, none⟩) 2 2),
    fun vs9 _ => vs9 4 = (.pointer (some ⟨g + 1 + 1 + 1 + 1, 0, none⟩)),
    fun vs9 _ => vs9 5 = (.agg #[.slice none 0 0, .slice (some ⟨g + 1 + 1, 0, none⟩) 1 1]),
    fun vs9 y9 => (fun v y => ∃ b, v = .slice (some ⟨b, 0, none⟩) 2 2 ∧ Lay.layer.Rd y (some ⟨b, 0, none⟩) turnC) (vs9 6) y9,
    fun vs9 y9 => (fun v y => ∃ b, v = .slice (some ⟨b, 0, none⟩) 2 2 ∧ Lay.layer.Rd y (some ⟨b, 0, none⟩) turnC) (vs9 7) y9]
    [(0, 66), (1, 67), (2, 68), (3, 69), (4, 70), (5, 71), (6, 72), (7, 9)] (by kernel_rfl) (by kernel_rfl) (by kernel_rfl) (by kernel_rfl)
    (fun _ => Below.refl _ _) trivial
    ⟨⟨.inr (fun _ _ _ h _ => h), trivial⟩,
    ⟨.inr (fun _ _ _ h _ => h), trivial⟩,
    ⟨.inr (fun _ _ _ h _ => h), trivial⟩,
    ⟨.inr (fun _ _ _ h _ => h), trivial⟩,
    ⟨.inr (fun _ _ _ h _ => h), trivial⟩,
    ⟨.inr (fun _ _ _ h _ => h), trivial⟩,
    ⟨.inr (fun vs9 x9 y9 h9 hR9 => (show ∀ v9 y8 y7, (fun v y => ∃ b, v = .slice (some ⟨b, 0, none⟩) 2 2 ∧ Lay.layer.Rd y (some ⟨b, 0, none⟩) turnC) v9 y8 → (fun y y' => Below y.heap.size y y') y8 y7 → (fun v y => ∃ b, v = .slice (some ⟨b, 0, none⟩) 2 2 ∧ Lay.layer.Rd y (some ⟨b, 0, none⟩) turnC) v9 y7 from fun _ _ _ ⟨b, h1, h2⟩ hR => ⟨b, h1, h2.up hR⟩) (vs9 6) x9 y9 h9 hR9), trivial⟩,
    ⟨.inr (fun vs9 x9 y9 h9 hR9 => (show ∀ v9 y8 y7, (fun v y => ∃ b, v = .slice (some ⟨b, 0, none⟩) 2 2 ∧ Lay.layer.Rd y (some ⟨b, 0, none⟩) turnC) v9 y8 → (fun y y' => Below y.heap.size y y') y8 y7 → (fun v y => ∃ b, v = .slice (some ⟨b, 0, none⟩) 2 2 ∧ Lay.layer.Rd y (some ⟨b, 0, none⟩) turnC) v9 y7 from fun _ _ _ ⟨b, h1, h2⟩ hR => ⟨b, h1, h2.up hR⟩) (vs9 7) x9 y9 h9 hR9), trivial⟩, trivial⟩ ⟨fun vs vs' x h _ hv => (by dsimp only at hv ⊢; first | (rw [← h]; exact hv) | exact hv),
    fun vs vs' x h _ hv => (by dsimp only at hv ⊢; first | (rw [← h]; exact hv) | exact hv),
    fun vs vs' x h _ hv => (by dsimp only at hv ⊢; first | (rw [← h]; exact hv) | exact hv),
    fun vs vs' x h _ hv => (by dsimp only at hv ⊢; first | (rw [← h]; exact hv) | exact hv),
    fun vs vs' x h _ hv => (by dsimp only at hv ⊢; first | (rw [← h]; exact hv) | exact hv),
    fun vs vs' x h _ hv => (by dsimp only at hv ⊢; first | (rw [← h]; exact hv) | exact hv),
    fun vs vs' x h _ hv => (by dsimp only at hv ⊢; first | (rw [← h]; exact hv) | exact hv),
    fun vs vs' x h _ hv => (by dsimp only at hv ⊢; first | (rw [← h]; exact hv) | exact hv), trivial⟩ (below_drewN (Below.refl _ _) 1) ⟨?_, ?_, ?_, ?_, ?_, ?_, ?_, ?_, trivial⟩ ?_
  · intro vals xw f hf1 hf2 hf3 hI hF
    clear hf2 hf3
    dsimp only [owes4, bare]
    simp only [putsD, Act.put, List.setIfInBounds_toArray, List.set_cons_zero, List.set_cons_succ]
    go_wp2
    exact ⟨rfl, rfl, Below.refl _ _, hI⟩
  · intro vals xw f hf1 hf2 hf3 hI hF
    clear hf2 hf3
    simp only [saysD, List.getD_cons_zero, List.getD_cons_succ, and_true] at hF
    have e66 := hF
    dsimp only [owes4, bare]
    simp only [putsD, Act.put, List.setIfInBounds_toArray, List.set_cons_zero, List.set_cons_succ]
    simp only [e66]
    go_wp2
    exact ⟨rfl, rfl, Below.refl _ _, hI⟩
  · intro vals xw f hf1 hf2 hf3 hI hF
    clear hf2 hf3
    simp only [saysD, List.getD_cons_zero, List.getD_cons_succ, and_true] at hF
    have e67 := hF
    dsimp only [owes4, bare]
    simp only [putsD, Act.put, List.setIfInBounds_toArray, List.set_cons_zero, List.set_cons_succ]
    simp only [e67]
    have c90 : xw.cell? _ = _ := m2 ⟨xw, hI⟩
    have c91 : xw.cell? _ = _ := m3 ⟨xw, hI⟩
    go_wp2
    exact ⟨rfl, rfl, Below.refl _ _, hI⟩
  · intro vals xw f hf1 hf2 hf3 hI hF
    clear hf2 hf3
    dsimp only [owes4, bare]
    simp only [putsD, Act.put, List.setIfInBounds_toArray, List.set_cons_zero, List.set_cons_succ]
    go_wp2
    exact ⟨rfl, rfl, Below.refl _ _, hI⟩
  · intro vals xw f hf1 hf2 hf3 hI hF
    clear hf2 hf3
    simp only [saysD, List.getD_cons_zero, List.getD_cons_succ, and_true] at hF
    have e69 := hF
    dsimp only [owes4, bare]
    simp only [putsD, Act.put, List.setIfInBounds_toArray, List.set_cons_zero, List.set_cons_succ]
    simp only [e69]
    go_wp2
    exact ⟨rfl, rfl, Below.refl _ _, hI⟩
  · intro vals xw f hf1 hf2 hf3 hI hF
    clear hf2 hf3
    simp only [saysD, List.getD_cons_zero, List.getD_cons_succ, and_true] at hF
    have e70 := hF
    dsimp only [owes4, bare]
    simp only [putsD, Act.put, List.setIfInBounds_toArray, List.set_cons_zero, List.set_cons_succ]
    simp only [e70]
    have c90 : xw.cell? _ = _ := m0 ⟨xw, hI⟩
    have c91 : xw.cell? _ = _ := m1 ⟨xw, hI⟩
    go_wp2
    exact ⟨rfl, rfl, Below.refl _ _, hI⟩
  · intro vals xw f hf1 hf2 hf3 hI hF
    clear hf2 hf3
    simp only [saysD, List.getD_cons_zero, List.getD_cons_succ, and_true] at hF
    obtain ⟨e68, e71⟩ := hF
    dsimp only [owes4, bare]
    simp only [putsD, Act.put, List.setIfInBounds_toArray, List.set_cons_zero, List.set_cons_succ]
    simp only [e68, e71]
    have hal := (Below.refl xw.heap.size xw).alloc (Nat.le_refl _) (.cells #[.slice (some ⟨g + 1 + 1 + 1, 0, none⟩) 1 1, .slice none 0 0, .slice none 0 0, .slice (some ⟨g + 1 + 1, 0, none⟩) 1 1] 58)
    have hbx := heap_alloc_new xw (.cells #[.slice (some ⟨g + 1 + 1 + 1, 0, none⟩) 1 1, .slice none 0 0, .slice none 0 0, .slice (some ⟨g + 1 + 1, 0, none⟩) 1 1] 58)
    have HTT : Hid (Lay.layer.Rd _ _ turnC) := Lib.hid (two_layers_rd (l := ⟨[lateD], []⟩) (l' := ⟨[], [lateT]⟩) hbx rfl rfl rfl rfl (Nat.le_refl _) (Nat.le_refl _) (Nat.le_refl _) (Nat.le_refl _) ((HPT.out.2.up hI).up hal) (Lay.Sl.nil _ _ _ _) (Lay.Sl.nil _ _ _ _) ((HPT.out.1.up hI).up hal))
    have HAL := Lib.hid hal
    have HII := Lib.hid hI
    clear hbx hal hI
    go_wp2
    exact ⟨rfl, ⟨_, rfl, HTT.out⟩, HAL.out, bthen HII.out HAL.out⟩
  · intro vals xw f hf1 hf2 hf3 hI hF
    clear hf2 hf3
    simp only [saysD, List.getD_cons_zero, List.getD_cons_succ, and_true] at hF
    obtain ⟨b, e72, h9⟩ := hF
    dsimp only [owes4, bare]
    simp only [putsD, Act.put, List.setIfInBounds_toArray, List.set_cons_zero, List.set_cons_succ]
    simp only [e72]
    have HTT := Lib.hid h9
    clear h9
    go_wp2
    exact ⟨rfl, ⟨b, rfl, HTT.out⟩, Below.refl _ _, hI⟩
  · intro vals xw f hall hI hF
    rw [show List.range _ = [0, 1, 2, 3, 4, 5, 6, 7] from rfl] at hF
    simp only [says, List.getD_cons_zero, List.getD_cons_succ, and_true] at hF
    obtain ⟨t, e72, ht9⟩ := hF.2.2.2.2.2.2.2
    have HTN := Lib.hid ht9
    have HB := Lib.hid (HB.out.trans (hI.mono HB.out.size))
    have HLT := Lib.hid (HLT.out.up hI)
    have HTW := Lib.hid (HTW.out.up hI)
    have HRN := Lib.hid ((hI.block _ (lt_of_block HRN.out)).trans HRN.out)
    simp only [putsD, Act.put, List.setIfInBounds_toArray, List.set_cons_zero, List.set_cons_succ]
    simp only [e72]
    clear hF e72 ht9 hI m0 m1 m2 m3 HPT
    go_wp2
    obtain ⟨y0, hy0⟩ : ∃ y0, y0 = xw := ⟨_, rfl⟩
    rw [← hy0] at HB HLT HTW HRN HTN ⊢
    clear hy0
    have HRY := Lib.hid (empty_layer_rd HRN.out)
    have HC1 := Lib.hid (fun (y : World) (hy : Below y0.heap.size y0 y) => ctxOk_of [⟨[], []⟩] _ 1 1 true y (HRY.out.up hy) rfl (Nat.le_refl _) okDC_new.1 ctxOk_new)
    have HCN := Lib.hid (fun (y : World) (hy : Below y0.heap.size y0 y) => ctxOk_of [] none 0 0 false y (Lay.Sl.nil _ _ _ _) rfl (Nat.le_refl _) okDC_nil.1 nil_no)
    have HCL := Lib.hid (fun (y : World) (hy : Below y0.heap.size y0 y) => ctxOk_of lateC _ 2 2 false y (HLT.out.up hy) rfl (Nat.le_refl _) late_ok late_no)
    have HCT := Lib.hid (fun (y : World) (hy : Below y0.heap.size y0 y) => ctxOk_of turnC _ 2 2 true y (HTN.out.up hy) rfl (Nat.le_refl _) turn_ok turn_yes)
    have HCW := Lib.hid (fun (y : World) (hy : Below y0.heap.size y0 y) => ctxOk_of twoC _ 2 2 false y (HTW.out.up hy) rfl (Nat.le_refl _) two_ok two_no)
    have n0 := Later.cell (show y0.cell? ⟨gn, 0, none⟩ = some (.slice none 0 0) from (cell_of_block HRN.out 0).1)
    have n1 := Later.cell (show y0.cell? ⟨gn, 1, none⟩ = some (.slice none 0 0) from (cell_of_block HRN.out 1).1)
    refine wp_region_rel4 [[], [(0, 73)], [(1, 74)], [(2, 75)], [(2, 75), (3, 76)], [(2, 75), (4, 77)], [(2, 75), (5, 78)], [(6, 79)], [(7, 80)], [(7, 80), (8, 81)], [(7, 80), (9, 82)], [(7, 80), (10, 83)], [(7, 80), (11, 84)], [(7, 80)], [(7, 80), (13, 86)], [(7, 80), (14, 87)], [(7, 80), (15, 88)], [(7, 80), (16, 89)], [(7, 80), (12, 85), (17, 90)], [(7, 80), (18, 91)], [(7, 80), (19, 92)], [(20, 93)], [(21, 94)], [(21, 94), (22, 95)], [(21, 94), (23, 96)], [(24, 97)], [(25, 98)], [(25, 98), (26, 99)], [(25, 98), (27, 100)], [(25, 98), (28, 101)], [(29, 102)], [(30, 103)], [(30, 103), (31, 104)], [(30, 103), (32, 105)], [(33, 106)], [(34, 107)], [(34, 107), (35, 108)], [(34, 107), (36, 109)], [(34, 107), (37, 110)], [(38, 111)], [(39, 112)], [(39, 112), (40, 113)], [(39, 112), (41, 114)], [(39, 112), (42, 115)], [(43, 116)], [(44, 117)], [(44, 117), (45, 118)], [(44, 117), (46, 119)], [(47, 120)]]
      (fun y y' => Below y.heap.size y y')
      []
      (fun _ yy => Below y0.heap.size y0 yy)
      [fun vs9 _ => vs9 0 = (.slice (some ⟨gn, 0, none⟩) 1 1),
    fun vs9 _ => vs9 1 = (.bool true),
    fun vs9 _ => vs9 2 = (.bool true),
    fun vs9 _ => vs9 3 = (.slice (some ⟨gn, 0, none⟩) 1 1),
    fun vs9 _ => vs9 4 = (.int .i64 1),
    fun vs9 _ => vs9 5 = (.bool true),
    fun vs9 _ => vs9 6 = (.bool true),
    fun vs9 _ => vs9 7 = (.bool true),
    fun vs9 _ => vs9 8 = (.slice (some ⟨gn, 0, none⟩) 1 1),
    fun vs9 _ => vs9 9 = (.pointer (some ⟨gn, 0, none⟩)),
    fun vs9 _ => vs9 10 = (.pointer (some ⟨gn, 0, none⟩)),
    fun vs9 _ => vs9 11 = (.slice none 0 0),
    fun vs9 _ => vs9 12 = (.int .i64 0),
    fun vs9 _ => vs9 13 = (.slice (some ⟨gn, 0, none⟩) 1 1),
    fun vs9 _ => vs9 14 = (.pointer (some ⟨gn, 0, none⟩)),
    fun vs9 _ => vs9 15 = (.pointer (some ⟨gn, 1, none⟩)),
    fun vs9 _ => vs9 16 = (.slice none 0 0),
    fun vs9 _ => vs9 17 = (.int .i64 0),
    fun vs9 _ => vs9 18 = (.int .i64 0),
    fun vs9 _ => vs9 19 = (.bool true),
    fun vs9 _ => vs9 20 = (.bool true),
    fun vs9 _ => vs9 21 = (.bool true),
    fun vs9 _ => vs9 22 = (.bool false),
    fun vs9 _ => vs9 23 = (.bool true),
    fun vs9 _ => vs9 24 = (.bool true),
    fun vs9 _ => vs9 25 = (.bool true),
    fun vs9 _ => vs9 26 = (.slice (some ⟨g + 1 + 1 + 1 + 1, 0, none⟩) 2 2),
    fun vs9 _ => vs9 27 = (.bool false),
    fun vs9 _ => vs9 28 = (.bool true),
    fun vs9 _ => vs9 29 = (.bool true),
    fun vs9 _ => vs9 30 = (.bool true),
    fun vs9 _ => vs9 31 = (.slice (some ⟨t, 0, none⟩) 2 2),
    fun vs9 _ => vs9 32 = (.bool true),
    fun vs9 _ => vs9 33 = (.bool true),
    fun vs9 _ => vs9 34 = (.bool true),
    fun vs9 _ => vs9 35 = (.slice (some ⟨g + 1 + 1 + 1 + 1 + 1 + 1 + 1, 0, none⟩) 2 2),
    fun vs9 _ => vs9 36 = (.bool false),
    fun vs9 _ => vs9 37 = (.bool true),
    fun vs9 _ => vs9 38 = (.bool true),
    fun vs9 _ => vs9 39 = (.bool true),
    fun vs9 y9 => (fun v y => ∃ b, v = .slice (some ⟨b, 0, none⟩) 7 7 ∧ Lay.layer.Rd y (some ⟨b, 0, none⟩) (List.replicate 7 ⟨[], []⟩)) (vs9 40) y9,
    fun vs9 _ => vs9 41 = (.bool false),
    fun vs9 _ => vs9 42 = (.bool true),
    fun vs9 _ => vs9 43 = (.bool true),
    fun vs9 _ => vs9 44 = (.bool true),
    fun vs9 y9 => (fun v y => ∃ b, v = .slice (some ⟨b, 0, none⟩) 6 6 ∧ Lay.layer.Rd y (some ⟨b, 0, none⟩) (List.replicate 6 ⟨[], []⟩)) (vs9 45) y9,
    fun vs9 _ => vs9 46 = (.bool true),
    fun vs9 _ => vs9 47 = (.bool true),
    fun vs9 _ => vs9 48 = (.bool true)]
      [(0, 73), (1, 74), (2, 75), (3, 76), (4, 77), (5, 78), (6, 79), (7, 80), (8, 81), (9, 82), (10, 83), (11, 84), (12, 85), (13, 86), (14, 87), (15, 88), (16, 89), (17, 90), (18, 91), (19, 92), (20, 93), (21, 94), (22, 95), (23, 96), (24, 97), (25, 98), (26, 99), (27, 100), (28, 101), (29, 102), (30, 103), (31, 104), (32, 105), (33, 106), (34, 107), (35, 108), (36, 109), (37, 110), (38, 111), (39, 112), (40, 113), (41, 114), (42, 115), (43, 116), (44, 117), (45, 118), (46, 119), (47, 120), (48, 2)] (by kernel_rfl) (by kernel_rfl) (by kernel_rfl) (by kernel_rfl)
      (fun _ => Below.refl _ _) trivial
      ⟨⟨.inr (fun vs9 _ _ (h9 : vs9 0 = (.slice (some ⟨gn, 0, none⟩) 1 1)) _ => h9), trivial⟩,
    ⟨.inr (fun vs9 _ _ (h9 : vs9 1 = (.bool true)) _ => h9), trivial⟩,
    ⟨.inr (fun vs9 _ _ (h9 : vs9 2 = (.bool true)) _ => h9), trivial⟩,
    ⟨.inr (fun vs9 _ _ (h9 : vs9 3 = (.slice (some ⟨gn, 0, none⟩) 1 1)) _ => h9), trivial⟩,
    ⟨.inr (fun vs9 _ _ (h9 : vs9 4 = (.int .i64 1)) _ => h9), trivial⟩,
    ⟨.inr (fun vs9 _ _ (h9 : vs9 5 = (.bool true)) _ => h9), trivial⟩,
    ⟨.inr (fun vs9 _ _ (h9 : vs9 6 = (.bool true)) _ => h9), trivial⟩,
    ⟨.inr (fun vs9 _ _ (h9 : vs9 7 = (.bool true)) _ => h9), trivial⟩,
    ⟨.inr (fun vs9 _ _ (h9 : vs9 8 = (.slice (some ⟨gn, 0, none⟩) 1 1)) _ => h9), trivial⟩,
    ⟨.inr (fun vs9 _ _ (h9 : vs9 9 = (.pointer (some ⟨gn, 0, none⟩))) _ => h9), trivial⟩,
    ⟨.inr (fun vs9 _ _ (h9 : vs9 10 = (.pointer (some ⟨gn, 0, none⟩))) _ => h9), trivial⟩,
    ⟨.inr (fun vs9 _ _ (h9 : vs9 11 = (.slice none 0 0)) _ => h9), trivial⟩,
    ⟨.inr (fun vs9 _ _ (h9 : vs9 12 = (.int .i64 0)) _ => h9), trivial⟩,
    ⟨.inr (fun vs9 _ _ (h9 : vs9 13 = (.slice (some ⟨gn, 0, none⟩) 1 1)) _ => h9), trivial⟩,
    ⟨.inr (fun vs9 _ _ (h9 : vs9 14 = (.pointer (some ⟨gn, 0, none⟩))) _ => h9), trivial⟩,
    ⟨.inr (fun vs9 _ _ (h9 : vs9 15 = (.pointer (some ⟨gn, 1, none⟩))) _ => h9), trivial⟩,
    ⟨.inr (fun vs9 _ _ (h9 : vs9 16 = (.slice none 0 0)) _ => h9), trivial⟩,
    ⟨.inr (fun vs9 _ _ (h9 : vs9 17 = (.int .i64 0)) _ => h9), trivial⟩,
    ⟨.inr (fun vs9 _ _ (h9 : vs9 18 = (.int .i64 0)) _ => h9), trivial⟩,
    ⟨.inr (fun vs9 _ _ (h9 : vs9 19 = (.bool true)) _ => h9), trivial⟩,
    ⟨.inr (fun vs9 _ _ (h9 : vs9 20 = (.bool true)) _ => h9), trivial⟩,
    ⟨.inr (fun vs9 _ _ (h9 : vs9 21 = (.bool true)) _ => h9), trivial⟩,
    ⟨.inr (fun vs9 _ _ (h9 : vs9 22 = (.bool false)) _ => h9), trivial⟩,
    ⟨.inr (fun vs9 _ _ (h9 : vs9 23 = (.bool true)) _ => h9), trivial⟩,
    ⟨.inr (fun vs9 _ _ (h9 : vs9 24 = (.bool true)) _ => h9), trivial⟩,
    ⟨.inr (fun vs9 _ _ (h9 : vs9 25 = (.bool true)) _ => h9), trivial⟩,
    ⟨.inr (fun vs9 _ _ (h9 : vs9 26 = (.slice (some ⟨g + 1 + 1 + 1 + 1, 0, none⟩) 2 2)) _ => h9), trivial⟩,
    ⟨.inr (fun vs9 _ _ (h9 : vs9 27 = (.bool false)) _ => h9), trivial⟩,
    ⟨.inr (fun vs9 _ _ (h9 : vs9 28 = (.bool true)) _ => h9), trivial⟩,
    ⟨.inr (fun vs9 _ _ (h9 : vs9 29 = (.bool true)) _ => h9), trivial⟩,
    ⟨.inr (fun vs9 _ _ (h9 : vs9 30 = (.bool true)) _ => h9), trivial⟩,
    ⟨.inr (fun vs9 _ _ (h9 : vs9 31 = (.slice (some ⟨t, 0, none⟩) 2 2)) _ => h9), trivial⟩,
    ⟨.inr (fun vs9 _ _ (h9 : vs9 32 = (.bool true)) _ => h9), trivial⟩,
    ⟨.inr (fun vs9 _ _ (h9 : vs9 33 = (.bool true)) _ => h9), trivial⟩,
    ⟨.inr (fun vs9 _ _ (h9 : vs9 34 = (.bool true)) _ => h9), trivial⟩,
    ⟨.inr (fun vs9 _ _ (h9 : vs9 35 = (.slice (some ⟨g + 1 + 1 + 1 + 1 + 1 + 1 + 1, 0, none⟩) 2 2)) _ => h9), trivial⟩,
    ⟨.inr (fun vs9 _ _ (h9 : vs9 36 = (.bool false)) _ => h9), trivial⟩,
    ⟨.inr (fun vs9 _ _ (h9 : vs9 37 = (.bool true)) _ => h9), trivial⟩,
    ⟨.inr (fun vs9 _ _ (h9 : vs9 38 = (.bool true)) _ => h9), trivial⟩,
    ⟨.inr (fun vs9 _ _ (h9 : vs9 39 = (.bool true)) _ => h9), trivial⟩,
    ⟨.inr (fun vs9 x9 y9 h9 hR9 => (show ∀ v9 y8 y7, (fun v y => ∃ b, v = .slice (some ⟨b, 0, none⟩) 7 7 ∧ Lay.layer.Rd y (some ⟨b, 0, none⟩) (List.replicate 7 ⟨[], []⟩)) v9 y8 → (fun y y' => Below y.heap.size y y') y8 y7 → (fun v y => ∃ b, v = .slice (some ⟨b, 0, none⟩) 7 7 ∧ Lay.layer.Rd y (some ⟨b, 0, none⟩) (List.replicate 7 ⟨[], []⟩)) v9 y7 from fun _ _ _ ⟨b, h1, h2⟩ hR => ⟨b, h1, h2.up hR⟩) (vs9 40) x9 y9 h9 hR9), trivial⟩,
    ⟨.inr (fun vs9 _ _ (h9 : vs9 41 = (.bool false)) _ => h9), trivial⟩,
    ⟨.inr (fun vs9 _ _ (h9 : vs9 42 = (.bool true)) _ => h9), trivial⟩,
    ⟨.inr (fun vs9 _ _ (h9 : vs9 43 = (.bool true)) _ => h9), trivial⟩,
    ⟨.inr (fun vs9 _ _ (h9 : vs9 44 = (.bool true)) _ => h9), trivial⟩,
    ⟨.inr (fun vs9 x9 y9 h9 hR9 => (show ∀ v9 y8 y7, (fun v y => ∃ b, v = .slice (some ⟨b, 0, none⟩) 6 6 ∧ Lay.layer.Rd y (some ⟨b, 0, none⟩) (List.replicate 6 ⟨[], []⟩)) v9 y8 → (fun y y' => Below y.heap.size y y') y8 y7 → (fun v y => ∃ b, v = .slice (some ⟨b, 0, none⟩) 6 6 ∧ Lay.layer.Rd y (some ⟨b, 0, none⟩) (List.replicate 6 ⟨[], []⟩)) v9 y7 from fun _ _ _ ⟨b, h1, h2⟩ hR => ⟨b, h1, h2.up hR⟩) (vs9 45) x9 y9 h9 hR9), trivial⟩,
    ⟨.inr (fun vs9 _ _ (h9 : vs9 46 = (.bool true)) _ => h9), trivial⟩,
    ⟨.inr (fun vs9 _ _ (h9 : vs9 47 = (.bool true)) _ => h9), trivial⟩,
    ⟨.inr (fun vs9 _ _ (h9 : vs9 48 = (.bool true)) _ => h9), trivial⟩, trivial⟩ ⟨fun vs vs' x h _ hv => (by dsimp only at hv ⊢; first | (rw [← h]; exact hv) | exact hv),
    fun vs vs' x h _ hv => (by dsimp only at hv ⊢; first | (rw [← h]; exact hv) | exact hv),
    fun vs vs' x h _ hv => (by dsimp only at hv ⊢; first | (rw [← h]; exact hv) | exact hv),
    fun vs vs' x h _ hv => (by dsimp only at hv ⊢; first | (rw [← h]; exact hv) | exact hv),
    fun vs vs' x h _ hv => (by dsimp only at hv ⊢; first | (rw [← h]; exact hv) | exact hv),
    fun vs vs' x h _ hv => (by dsimp only at hv ⊢; first | (rw [← h]; exact hv) | exact hv),
    fun vs vs' x h _ hv => (by dsimp only at hv ⊢; first | (rw [← h]; exact hv) | exact hv),
    fun vs vs' x h _ hv => (by dsimp only at hv ⊢; first | (rw [← h]; exact hv) | exact hv),
    fun vs vs' x h _ hv => (by dsimp only at hv ⊢; first | (rw [← h]; exact hv) | exact hv),
    fun vs vs' x h _ hv => (by dsimp only at hv ⊢; first | (rw [← h]; exact hv) | exact hv),
    fun vs vs' x h _ hv => (by dsimp only at hv ⊢; first | (rw [← h]; exact hv) | exact hv),
    fun vs vs' x h _ hv => (by dsimp only at hv ⊢; first | (rw [← h]; exact hv) | exact hv),
    fun vs vs' x h _ hv => (by dsimp only at hv ⊢; first | (rw [← h]; exact hv) | exact hv),
    fun vs vs' x h _ hv => (by dsimp only at hv ⊢; first | (rw [← h]; exact hv) | exact hv),
    fun vs vs' x h _ hv => (by dsimp only at hv ⊢; first | (rw [← h]; exact hv) | exact hv),
    fun vs vs' x h _ hv => (by dsimp only at hv ⊢; first | (rw [← h]; exact hv) | exact hv),
    fun vs vs' x h _ hv => (by dsimp only at hv ⊢; first | (rw [← h]; exact hv) | exact hv),
    fun vs vs' x h _ hv => (by dsimp only at hv ⊢; first | (rw [← h]; exact hv) | exact hv),
    fun vs vs' x h _ hv => (by dsimp only at hv ⊢; first | (rw [← h]; exact hv) | exact hv),
    fun vs vs' x h _ hv => (by dsimp only at hv ⊢; first | (rw [← h]; exact hv) | exact hv),
    fun vs vs' x h _ hv => (by dsimp only at hv ⊢; first | (rw [← h]; exact hv) | exact hv),
    fun vs vs' x h _ hv => (by dsimp only at hv ⊢; first | (rw [← h]; exact hv) | exact hv),
    fun vs vs' x h _ hv => (by dsimp only at hv ⊢; first | (rw [← h]; exact hv) | exact hv),
    fun vs vs' x h _ hv => (by dsimp only at hv ⊢; first | (rw [← h]; exact hv) | exact hv),
    fun vs vs' x h _ hv => (by dsimp only at hv ⊢; first | (rw [← h]; exact hv) | exact hv),
    fun vs vs' x h _ hv => (by dsimp only at hv ⊢; first | (rw [← h]; exact hv) | exact hv),
    fun vs vs' x h _ hv => (by dsimp only at hv ⊢; first | (rw [← h]; exact hv) | exact hv),
    fun vs vs' x h _ hv => (by dsimp only at hv ⊢; first | (rw [← h]; exact hv) | exact hv),
    fun vs vs' x h _ hv => (by dsimp only at hv ⊢; first | (rw [← h]; exact hv) | exact hv),
    fun vs vs' x h _ hv => (by dsimp only at hv ⊢; first | (rw [← h]; exact hv) | exact hv),
    fun vs vs' x h _ hv => (by dsimp only at hv ⊢; first | (rw [← h]; exact hv) | exact hv),
    fun vs vs' x h _ hv => (by dsimp only at hv ⊢; first | (rw [← h]; exact hv) | exact hv),
    fun vs vs' x h _ hv => (by dsimp only at hv ⊢; first | (rw [← h]; exact hv) | exact hv),
    fun vs vs' x h _ hv => (by dsimp only at hv ⊢; first | (rw [← h]; exact hv) | exact hv),
    fun vs vs' x h _ hv => (by dsimp only at hv ⊢; first | (rw [← h]; exact hv) | exact hv),
    fun vs vs' x h _ hv => (by dsimp only at hv ⊢; first | (rw [← h]; exact hv) | exact hv),
    fun vs vs' x h _ hv => (by dsimp only at hv ⊢; first | (rw [← h]; exact hv) | exact hv),
    fun vs vs' x h _ hv => (by dsimp only at hv ⊢; first | (rw [← h]; exact hv) | exact hv),
    fun vs vs' x h _ hv => (by dsimp only at hv ⊢; first | (rw [← h]; exact hv) | exact hv),
    fun vs vs' x h _ hv => (by dsimp only at hv ⊢; first | (rw [← h]; exact hv) | exact hv),
    fun vs vs' x h _ hv => (by dsimp only at hv ⊢; first | (rw [← h]; exact hv) | exact hv),
    fun vs vs' x h _ hv => (by dsimp only at hv ⊢; first | (rw [← h]; exact hv) | exact hv),
    fun vs vs' x h _ hv => (by dsimp only at hv ⊢; first | (rw [← h]; exact hv) | exact hv),
    fun vs vs' x h _ hv => (by dsimp only at hv ⊢; first | (rw [← h]; exact hv) | exact hv),
    fun vs vs' x h _ hv => (by dsimp only at hv ⊢; first | (rw [← h]; exact hv) | exact hv),
    fun vs vs' x h _ hv => (by dsimp only at hv ⊢; first | (rw [← h]; exact hv) | exact hv),
    fun vs vs' x h _ hv => (by dsimp only at hv ⊢; first | (rw [← h]; exact hv) | exact hv),
    fun vs vs' x h _ hv => (by dsimp only at hv ⊢; first | (rw [← h]; exact hv) | exact hv),
    fun vs vs' x h _ hv => (by dsimp only at hv ⊢; first | (rw [← h]; exact hv) | exact hv), trivial⟩ (below_drewN (Below.refl _ _) 1) ⟨?_, ?_, ?_, ?_, ?_, ?_, ?_, ?_, ?_, ?_, ?_, ?_, ?_, ?_, ?_, ?_, ?_, ?_, ?_, ?_, ?_, ?_, ?_, ?_, ?_, ?_, ?_, ?_, ?_, ?_, ?_, ?_, ?_, ?_, ?_, ?_, ?_, ?_, ?_, ?_, ?_, ?_, ?_, ?_, ?_, ?_, ?_, ?_, ?_, trivial⟩ ?_
    · intro vals xw f hf1 hf2 hf3 hI hF
      clear hf2 hf3
      dsimp only [owes4, bare]
      simp only [putsD, Act.put, List.setIfInBounds_toArray, List.set_cons_zero, List.set_cons_succ]
      go_wp2
      exact ⟨rfl, rfl, Below.refl _ _, hI⟩
    · intro vals xw f hf1 hf2 hf3 hI hF
      clear hf2 hf3
      simp only [saysD, List.getD_cons_zero, List.getD_cons_succ, and_true] at hF
      have e73 := hF
      dsimp only [owes4, bare]
      simp only [putsD, Act.put, List.setIfInBounds_toArray, List.set_cons_zero, List.set_cons_succ]
      simp only [e73]
      have HWF := Lib.hid (HC1.out xw hI)
      have HII := Lib.hid hI
      clear hI
      go_wp2_with fail
      refine HWF.out.mono ?_
      rintro e w9 ⟨rfl, hb9⟩
      have HB9 := Lib.hid hb9
      clear hb9
      go_wp2
      exact ⟨rfl, rfl, HB9.out, bthen HII.out HB9.out⟩
    · intro vals xw f hf1 hf2 hf3 hI hF
      clear hf2 hf3
      simp only [saysD, List.getD_cons_zero, List.getD_cons_succ, and_true] at hF
      have e74 := hF
      dsimp only [owes4, bare]
      simp only [putsD, Act.put, List.setIfInBounds_toArray, List.set_cons_zero, List.set_cons_succ]
      simp only [e74]
      go_wp2
      exact ⟨rfl, rfl, Below.refl _ _, hI⟩
    · intro vals xw f hf1 hf2 hf3 hI hF
      clear hf2 hf3
      simp only [saysD, List.getD_cons_zero, List.getD_cons_succ, and_true] at hF
      have e75 := hF
      dsimp only [owes4, bare]
      refine ⟨fun _ => ?_, fun h => absurd e75 h⟩
      simp only [putsD, Act.put, List.setIfInBounds_toArray, List.set_cons_zero, List.set_cons_succ]
      simp only [e75]
      go_wp2
      exact ⟨rfl, rfl, Below.refl _ _, hI⟩
    · intro vals xw f hf1 hf2 hf3 hI hF
      clear hf2 hf3
      simp only [saysD, List.getD_cons_zero, List.getD_cons_succ, and_true] at hF
      obtain ⟨e75, e76⟩ := hF
      dsimp only [owes4, bare]
      refine ⟨fun _ => ?_, fun h => absurd e75 h⟩
      simp only [putsD, Act.put, List.setIfInBounds_toArray, List.set_cons_zero, List.set_cons_succ]
      simp only [e75, e76]
      go_wp2
      exact ⟨rfl, rfl, Below.refl _ _, hI⟩
    · intro vals xw f hf1 hf2 hf3 hI hF
      clear hf2 hf3
      simp only [saysD, List.getD_cons_zero, List.getD_cons_succ, and_true] at hF
      obtain ⟨e75, e77⟩ := hF
      dsimp only [owes4, bare]
      refine ⟨fun _ => ?_, fun h => absurd e75 h⟩
      simp only [putsD, Act.put, List.setIfInBounds_toArray, List.set_cons_zero, List.set_cons_succ]
      simp only [e75, e77]
      go_wp2
      exact ⟨rfl, rfl, Below.refl _ _, hI⟩
    · intro vals xw f hf1 hf2 hf3 hI hF
      clear hf2 hf3
      simp only [saysD, List.getD_cons_zero, List.getD_cons_succ, and_true] at hF
      obtain ⟨e75, e78⟩ := hF
      dsimp only [owes4, bare]
      simp only [putsD, Act.put, List.setIfInBounds_toArray, List.set_cons_zero, List.set_cons_succ]
      simp only [e75, e78]
      go_wp2
      exact ⟨rfl, rfl, Below.refl _ _, hI⟩
    · intro vals xw f hf1 hf2 hf3 hI hF
      clear hf2 hf3
      simp only [saysD, List.getD_cons_zero, List.getD_cons_succ, and_true] at hF
      have e79 := hF
      dsimp only [owes4, bare]
      simp only [putsD, Act.put, List.setIfInBounds_toArray, List.set_cons_zero, List.set_cons_succ]
      simp only [e79]
      go_wp2
      exact ⟨rfl, rfl, Below.refl _ _, hI⟩
    · intro vals xw f hf1 hf2 hf3 hI hF
      clear hf2 hf3
      simp only [saysD, List.getD_cons_zero, List.getD_cons_succ, and_true] at hF
      have e80 := hF
      dsimp only [owes4, bare]
      refine ⟨fun _ => ?_, fun h => absurd e80 h⟩
      simp only [putsD, Act.put, List.setIfInBounds_toArray, List.set_cons_zero, List.set_cons_succ]
      simp only [e80]
      go_wp2
      exact ⟨rfl, rfl, Below.refl _ _, hI⟩
    · intro vals xw f hf1 hf2 hf3 hI hF
      clear hf2 hf3
      simp only [saysD, List.getD_cons_zero, List.getD_cons_succ, and_true] at hF
      obtain ⟨e80, e81⟩ := hF
      dsimp only [owes4, bare]
      refine ⟨fun _ => ?_, fun h => absurd e80 h⟩
      simp only [putsD, Act.put, List.setIfInBounds_toArray, List.set_cons_zero, List.set_cons_succ]
      simp only [e80, e81]
      go_wp2
      exact ⟨rfl, rfl, Below.refl _ _, hI⟩
    · intro vals xw f hf1 hf2 hf3 hI hF
      clear hf2 hf3
      simp only [saysD, List.getD_cons_zero, List.getD_cons_succ, and_true] at hF
      obtain ⟨e80, e82⟩ := hF
      dsimp only [owes4, bare]
      refine ⟨fun _ => ?_, fun h => absurd e80 h⟩
      simp only [putsD, Act.put, List.setIfInBounds_toArray, List.set_cons_zero, List.set_cons_succ]
      simp only [e80, e82]
      go_wp2
      exact ⟨rfl, rfl, Below.refl _ _, hI⟩
    · intro vals xw f hf1 hf2 hf3 hI hF
      clear hf2 hf3
      simp only [saysD, List.getD_cons_zero, List.getD_cons_succ, and_true] at hF
      obtain ⟨e80, e83⟩ := hF
      dsimp only [owes4, bare]
      refine ⟨fun _ => ?_, fun h => absurd e80 h⟩
      simp only [putsD, Act.put, List.setIfInBounds_toArray, List.set_cons_zero, List.set_cons_succ]
      simp only [e80, e83]
      have c90 : xw.cell? _ = _ := n0 ⟨xw, hI⟩
      go_wp2
      exact ⟨rfl, rfl, Below.refl _ _, hI⟩
    · intro vals xw f hf1 hf2 hf3 hI hF
      clear hf2 hf3
      simp only [saysD, List.getD_cons_zero, List.getD_cons_succ, and_true] at hF
      obtain ⟨e80, e84⟩ := hF
      dsimp only [owes4, bare]
      refine ⟨fun _ => ?_, fun h => absurd e80 h⟩
      simp only [putsD, Act.put, List.setIfInBounds_toArray, List.set_cons_zero, List.set_cons_succ]
      simp only [e80, e84]
      go_wp2
      exact ⟨rfl, rfl, Below.refl _ _, hI⟩
    · intro vals xw f hf1 hf2 hf3 hI hF
      clear hf2 hf3
      simp only [saysD, List.getD_cons_zero, List.getD_cons_succ, and_true] at hF
      have e80 := hF
      dsimp only [owes4, bare]
      refine ⟨fun _ => ?_, fun h => absurd e80 h⟩
      simp only [putsD, Act.put, List.setIfInBounds_toArray, List.set_cons_zero, List.set_cons_succ]
      simp only [e80]
      go_wp2
      exact ⟨rfl, rfl, Below.refl _ _, hI⟩
    · intro vals xw f hf1 hf2 hf3 hI hF
      clear hf2 hf3
      simp only [saysD, List.getD_cons_zero, List.getD_cons_succ, and_true] at hF
      obtain ⟨e80, e86⟩ := hF
      dsimp only [owes4, bare]
      refine ⟨fun _ => ?_, fun h => absurd e80 h⟩
      simp only [putsD, Act.put, List.setIfInBounds_toArray, List.set_cons_zero, List.set_cons_succ]
      simp only [e80, e86]
      go_wp2
      exact ⟨rfl, rfl, Below.refl _ _, hI⟩
    · intro vals xw f hf1 hf2 hf3 hI hF
      clear hf2 hf3
      simp only [saysD, List.getD_cons_zero, List.getD_cons_succ, and_true] at hF
      obtain ⟨e80, e87⟩ := hF
      dsimp only [owes4, bare]
      refine ⟨fun _ => ?_, fun h => absurd e80 h⟩
      simp only [putsD, Act.put, List.setIfInBounds_toArray, List.set_cons_zero, List.set_cons_succ]
      simp only [e80, e87]
      go_wp2
      exact ⟨rfl, rfl, Below.refl _ _, hI⟩
    · intro vals xw f hf1 hf2 hf3 hI hF
      clear hf2 hf3
      simp only [saysD, List.getD_cons_zero, List.getD_cons_succ, and_true] at hF
      obtain ⟨e80, e88⟩ := hF
      dsimp only [owes4, bare]
      refine ⟨fun _ => ?_, fun h => absurd e80 h⟩
      simp only [putsD, Act.put, List.setIfInBounds_toArray, List.set_cons_zero, List.set_cons_succ]
      simp only [e80, e88]
      have c90 : xw.cell? _ = _ := n1 ⟨xw, hI⟩
      go_wp2
      exact ⟨rfl, rfl, Below.refl _ _, hI⟩
    · intro vals xw f hf1 hf2 hf3 hI hF
      clear hf2 hf3
      simp only [saysD, List.getD_cons_zero, List.getD_cons_succ, and_true] at hF
      obtain ⟨e80, e89⟩ := hF
      dsimp only [owes4, bare]
      refine ⟨fun _ => ?_, fun h => absurd e80 h⟩
      simp only [putsD, Act.put, List.setIfInBounds_toArray, List.set_cons_zero, List.set_cons_succ]
      simp only [e80, e89]
      go_wp2
      exact ⟨rfl, rfl, Below.refl _ _, hI⟩
    · intro vals xw f hf1 hf2 hf3 hI hF
      clear hf2 hf3
      simp only [saysD, List.getD_cons_zero, List.getD_cons_succ, and_true] at hF
      obtain ⟨e80, e85, e90⟩ := hF
      dsimp only [owes4, bare]
      refine ⟨fun _ => ?_, fun h => absurd e80 h⟩
      simp only [putsD, Act.put, List.setIfInBounds_toArray, List.set_cons_zero, List.set_cons_succ]
      simp only [e80, e85, e90]
      go_wp2
      exact ⟨rfl, rfl, Below.refl _ _, hI⟩
    · intro vals xw f hf1 hf2 hf3 hI hF
      clear hf2 hf3
      simp only [saysD, List.getD_cons_zero, List.getD_cons_succ, and_true] at hF
      obtain ⟨e80, e91⟩ := hF
      dsimp only [owes4, bare]
      refine ⟨fun _ => ?_, fun h => absurd e80 h⟩
      simp only [putsD, Act.put, List.setIfInBounds_toArray, List.set_cons_zero, List.set_cons_succ]
      simp only [e80, e91]
      go_wp2
      exact ⟨rfl, rfl, Below.refl _ _, hI⟩
    · intro vals xw f hf1 hf2 hf3 hI hF
      clear hf2 hf3
      simp only [saysD, List.getD_cons_zero, List.getD_cons_succ, and_true] at hF
      obtain ⟨e80, e92⟩ := hF
      dsimp only [owes4, bare]
      simp only [putsD, Act.put, List.setIfInBounds_toArray, List.set_cons_zero, List.set_cons_succ]
      simp only [e80, e92]
      go_wp2
      exact ⟨rfl, rfl, Below.refl _ _, hI⟩
    · intro vals xw f hf1 hf2 hf3 hI hF
      clear hf2 hf3
      simp only [saysD, List.getD_cons_zero, List.getD_cons_succ, and_true] at hF
      have e93 := hF
      dsimp only [owes4, bare]
      simp only [putsD, Act.put, List.setIfInBounds_toArray, List.set_cons_zero, List.set_cons_succ]
      simp only [e93]
      go_wp2
      exact ⟨rfl, rfl, Below.refl _ _, hI⟩
    · intro vals xw f hf1 hf2 hf3 hI hF
      clear hf2 hf3
      simp only [saysD, List.getD_cons_zero, List.getD_cons_succ, and_true] at hF
      have e94 := hF
      dsimp only [owes4, bare]
      refine ⟨fun _ => ?_, fun h => absurd e94 h⟩
      simp only [putsD, Act.put, List.setIfInBounds_toArray, List.set_cons_zero, List.set_cons_succ]
      simp only [e94]
      have HWF := Lib.hid (HCN.out xw hI)
      have HII := Lib.hid hI
      clear hI
      go_wp2_with fail
      refine HWF.out.mono ?_
      rintro e w9 ⟨rfl, hb9⟩
      have HB9 := Lib.hid hb9
      clear hb9
      go_wp2
      exact ⟨rfl, rfl, HB9.out, bthen HII.out HB9.out⟩
    · intro vals xw f hf1 hf2 hf3 hI hF
      clear hf2 hf3
      simp only [saysD, List.getD_cons_zero, List.getD_cons_succ, and_true] at hF
      obtain ⟨e94, e95⟩ := hF
      dsimp only [owes4, bare]
      refine ⟨fun _ => ?_, fun h => absurd e94 h⟩
      simp only [putsD, Act.put, List.setIfInBounds_toArray, List.set_cons_zero, List.set_cons_succ]
      simp only [e94, e95]
      go_wp2
      exact ⟨rfl, rfl, Below.refl _ _, hI⟩
    · intro vals xw f hf1 hf2 hf3 hI hF
      clear hf2 hf3
      simp only [saysD, List.getD_cons_zero, List.getD_cons_succ, and_true] at hF
      obtain ⟨e94, e96⟩ := hF
      dsimp only [owes4, bare]
      simp only [putsD, Act.put, List.setIfInBounds_toArray, List.set_cons_zero, List.set_cons_succ]
      simp only [e94, e96]
      go_wp2
      exact ⟨rfl, rfl, Below.refl _ _, hI⟩
    · intro vals xw f hf1 hf2 hf3 hI hF
      clear hf2 hf3
      simp only [saysD, List.getD_cons_zero, List.getD_cons_succ, and_true] at hF
      have e97 := hF
      dsimp only [owes4, bare]
      simp only [putsD, Act.put, List.setIfInBounds_toArray, List.set_cons_zero, List.set_cons_succ]
      simp only [e97]
      go_wp2
      exact ⟨rfl, rfl, Below.refl _ _, hI⟩
    · intro vals xw f hf1 hf2 hf3 hI hF
      clear hf2 hf3
      simp only [saysD, List.getD_cons_zero, List.getD_cons_succ, and_true] at hF
      have e98 := hF
      dsimp only [owes4, bare]
      refine ⟨fun _ => ?_, fun h => absurd e98 h⟩
      simp only [putsD, Act.put, List.setIfInBounds_toArray, List.set_cons_zero, List.set_cons_succ]
      simp only [e98]
      go_wp2
      exact ⟨rfl, rfl, Below.refl _ _, hI⟩
    · intro vals xw f hf1 hf2 hf3 hI hF
      clear hf2 hf3
      simp only [saysD, List.getD_cons_zero, List.getD_cons_succ, and_true] at hF
      obtain ⟨e98, e99⟩ := hF
      dsimp only [owes4, bare]
      refine ⟨fun _ => ?_, fun h => absurd e98 h⟩
      simp only [putsD, Act.put, List.setIfInBounds_toArray, List.set_cons_zero, List.set_cons_succ]
      simp only [e98, e99]
      have HWF := Lib.hid (HCL.out xw hI)
      have HII := Lib.hid hI
      clear hI
      go_wp2_with fail
      refine HWF.out.mono ?_
      rintro e w9 ⟨rfl, hb9⟩
      have HB9 := Lib.hid hb9
      clear hb9
      go_wp2
      exact ⟨rfl, rfl, HB9.out, bthen HII.out HB9.out⟩
    · intro vals xw f hf1 hf2 hf3 hI hF
      clear hf2 hf3
      simp only [saysD, List.getD_cons_zero, List.getD_cons_succ, and_true] at hF
      obtain ⟨e98, e100⟩ := hF
      dsimp only [owes4, bare]
      refine ⟨fun _ => ?_, fun h => absurd e98 h⟩
      simp only [putsD, Act.put, List.setIfInBounds_toArray, List.set_cons_zero, List.set_cons_succ]
      simp only [e98, e100]
      go_wp2
      exact ⟨rfl, rfl, Below.refl _ _, hI⟩
    · intro vals xw f hf1 hf2 hf3 hI hF
      clear hf2 hf3
      simp only [saysD, List.getD_cons_zero, List.getD_cons_succ, and_true] at hF
      obtain ⟨e98, e101⟩ := hF
      dsimp only [owes4, bare]
      simp only [putsD, Act.put, List.setIfInBounds_toArray, List.set_cons_zero, List.set_cons_succ]
      simp only [e98, e101]
      go_wp2
      exact ⟨rfl, rfl, Below.refl _ _, hI⟩
    · intro vals xw f hf1 hf2 hf3 hI hF
      clear hf2 hf3
      simp only [saysD, List.getD_cons_zero, List.getD_cons_succ, and_true] at hF
      have e102 := hF
      dsimp only [owes4, bare]
      simp only [putsD, Act.put, List.setIfInBounds_toArray, List.set_cons_zero, List.set_cons_succ]
      simp only [e102]
      go_wp2
      exact ⟨rfl, rfl, Below.refl _ _, hI⟩
    · intro vals xw f hf1 hf2 hf3 hI hF
      clear hf2 hf3
      simp only [saysD, List.getD_cons_zero, List.getD_cons_succ, and_true] at hF
      have e103 := hF
      dsimp only [owes4, bare]
      refine ⟨fun _ => ?_, fun h => absurd e103 h⟩
      simp only [putsD, Act.put, List.setIfInBounds_toArray, List.set_cons_zero, List.set_cons_succ]
      simp only [e103]
      go_wp2
      exact ⟨rfl, rfl, Below.refl _ _, hI⟩
    · intro vals xw f hf1 hf2 hf3 hI hF
      clear hf2 hf3
      simp only [saysD, List.getD_cons_zero, List.getD_cons_succ, and_true] at hF
      obtain ⟨e103, e104⟩ := hF
      dsimp only [owes4, bare]
      refine ⟨fun _ => ?_, fun h => absurd e103 h⟩
      simp only [putsD, Act.put, List.setIfInBounds_toArray, List.set_cons_zero, List.set_cons_succ]
      simp only [e103, e104]
      have HWF := Lib.hid (HCT.out xw hI)
      have HII := Lib.hid hI
      clear hI
      go_wp2_with fail
      refine HWF.out.mono ?_
      rintro e w9 ⟨rfl, hb9⟩
      have HB9 := Lib.hid hb9
      clear hb9
      go_wp2
      exact ⟨rfl, rfl, HB9.out, bthen HII.out HB9.out⟩
    · intro vals xw f hf1 hf2 hf3 hI hF
      clear hf2 hf3
      simp only [saysD, List.getD_cons_zero, List.getD_cons_succ, and_true] at hF
      obtain ⟨e103, e105⟩ := hF
      dsimp only [owes4, bare]
      simp only [putsD, Act.put, List.setIfInBounds_toArray, List.set_cons_zero, List.set_cons_succ]
      simp only [e103, e105]
      go_wp2
      exact ⟨rfl, rfl, Below.refl _ _, hI⟩
    · intro vals xw f hf1 hf2 hf3 hI hF
      clear hf2 hf3
      simp only [saysD, List.getD_cons_zero, List.getD_cons_succ, and_true] at hF
      have e106 := hF
      dsimp only [owes4, bare]
      simp only [putsD, Act.put, List.setIfInBounds_toArray, List.set_cons_zero, List.set_cons_succ]
      simp only [e106]
      go_wp2
      exact ⟨rfl, rfl, Below.refl _ _, hI⟩
    · intro vals xw f hf1 hf2 hf3 hI hF
      clear hf2 hf3
      simp only [saysD, List.getD_cons_zero, List.getD_cons_succ, and_true] at hF
      have e107 := hF
      dsimp only [owes4, bare]
      refine ⟨fun _ => ?_, fun h => absurd e107 h⟩
      simp only [putsD, Act.put, List.setIfInBounds_toArray, List.set_cons_zero, List.set_cons_succ]
      simp only [e107]
      go_wp2
      exact ⟨rfl, rfl, Below.refl _ _, hI⟩
    · intro vals xw f hf1 hf2 hf3 hI hF
      clear hf2 hf3
      simp only [saysD, List.getD_cons_zero, List.getD_cons_succ, and_true] at hF
      obtain ⟨e107, e108⟩ := hF
      dsimp only [owes4, bare]
      refine ⟨fun _ => ?_, fun h => absurd e107 h⟩
      simp only [putsD, Act.put, List.setIfInBounds_toArray, List.set_cons_zero, List.set_cons_succ]
      simp only [e107, e108]
      have HWF := Lib.hid (HCW.out xw hI)
      have HII := Lib.hid hI
      clear hI
      go_wp2_with fail
      refine HWF.out.mono ?_
      rintro e w9 ⟨rfl, hb9⟩
      have HB9 := Lib.hid hb9
      clear hb9
      go_wp2
      exact ⟨rfl, rfl, HB9.out, bthen HII.out HB9.out⟩
    · intro vals xw f hf1 hf2 hf3 hI hF
      clear hf2 hf3
      simp only [saysD, List.getD_cons_zero, List.getD_cons_succ, and_true] at hF
      obtain ⟨e107, e109⟩ := hF
      dsimp only [owes4, bare]
      refine ⟨fun _ => ?_, fun h => absurd e107 h⟩
      simp only [putsD, Act.put, List.setIfInBounds_toArray, List.set_cons_zero, List.set_cons_succ]
      simp only [e107, e109]
      go_wp2
      exact ⟨rfl, rfl, Below.refl _ _, hI⟩
    · intro vals xw f hf1 hf2 hf3 hI hF
      clear hf2 hf3
      simp only [saysD, List.getD_cons_zero, List.getD_cons_succ, and_true] at hF
      obtain ⟨e107, e110⟩ := hF
      dsimp only [owes4, bare]
      simp only [putsD, Act.put, List.setIfInBounds_toArray, List.set_cons_zero, List.set_cons_succ]
      simp only [e107, e110]
      go_wp2
      exact ⟨rfl, rfl, Below.refl _ _, hI⟩
    · intro vals xw f hf1 hf2 hf3 hI hF
      clear hf2 hf3
      simp only [saysD, List.getD_cons_zero, List.getD_cons_succ, and_true] at hF
      have e111 := hF
      dsimp only [owes4, bare]
      simp only [putsD, Act.put, List.setIfInBounds_toArray, List.set_cons_zero, List.set_cons_succ]
      simp only [e111]
      go_wp2
      exact ⟨rfl, rfl, Below.refl _ _, hI⟩
    · intro vals xw f hf1 hf2 hf3 hI hF
      clear hf2 hf3
      simp only [saysD, List.getD_cons_zero, List.getD_cons_succ, and_true] at hF
      have e112 := hF
      dsimp only [owes4, bare]
      refine ⟨fun _ => ?_, fun h => absurd e112 h⟩
      simp only [putsD, Act.put, List.setIfInBounds_toArray, List.set_cons_zero, List.set_cons_succ]
      simp only [e112]
      have hal := (Below.refl xw.heap.size xw).alloc (Nat.le_refl _) (.cells (noughts 7) 58)
      have HTT := Lib.hid (noughts_rd 7 (heap_alloc_new xw (.cells (noughts 7) 58)))
      have HAL := Lib.hid hal
      have HII := Lib.hid hI
      clear hal hI
      have hmk := run_make_layers 7 (by omega) made7 xw
      rw [show (((7 : Nat) : Int)) = (7 : Int) from rfl] at hmk
      go_wp2
      exact ⟨rfl, ⟨_, rfl, HTT.out⟩, HAL.out, bthen HII.out HAL.out⟩
    · intro vals xw f hf1 hf2 hf3 hI hF
      clear hf2 hf3
      simp only [saysD, List.getD_cons_zero, List.getD_cons_succ, and_true] at hF
      obtain ⟨e112, b, e113, h9⟩ := hF
      dsimp only [owes4, bare]
      refine ⟨fun _ => ?_, fun h => absurd e112 h⟩
      simp only [putsD, Act.put, List.setIfInBounds_toArray, List.set_cons_zero, List.set_cons_succ]
      simp only [e112, e113]
      have HWF := Lib.hid (ctxOk_of (List.replicate 7 ⟨[], []⟩) (some ⟨b, 0, none⟩) 7 7 false xw h9 (by simp) (Nat.le_refl _) (none_ok 7 (by omega)) seven_no)
      have HII := Lib.hid hI
      clear hI
      go_wp2_with fail
      refine HWF.out.mono ?_
      rintro e w9 ⟨rfl, hb9⟩
      have HB9 := Lib.hid hb9
      clear hb9
      go_wp2
      exact ⟨rfl, rfl, HB9.out, bthen HII.out HB9.out⟩
    · intro vals xw f hf1 hf2 hf3 hI hF
      clear hf2 hf3
      simp only [saysD, List.getD_cons_zero, List.getD_cons_succ, and_true] at hF
      obtain ⟨e112, e114⟩ := hF
      dsimp only [owes4, bare]
      refine ⟨fun _ => ?_, fun h => absurd e112 h⟩
      simp only [putsD, Act.put, List.setIfInBounds_toArray, List.set_cons_zero, List.set_cons_succ]
      simp only [e112, e114]
      go_wp2
      exact ⟨rfl, rfl, Below.refl _ _, hI⟩
    · intro vals xw f hf1 hf2 hf3 hI hF
      clear hf2 hf3
      simp only [saysD, List.getD_cons_zero, List.getD_cons_succ, and_true] at hF
      obtain ⟨e112, e115⟩ := hF
      dsimp only [owes4, bare]
      simp only [putsD, Act.put, List.setIfInBounds_toArray, List.set_cons_zero, List.set_cons_succ]
      simp only [e112, e115]
      go_wp2
      exact ⟨rfl, rfl, Below.refl _ _, hI⟩
    · intro vals xw f hf1 hf2 hf3 hI hF
      clear hf2 hf3
      simp only [saysD, List.getD_cons_zero, List.getD_cons_succ, and_true] at hF
      have e116 := hF
      dsimp only [owes4, bare]
      simp only [putsD, Act.put, List.setIfInBounds_toArray, List.set_cons_zero, List.set_cons_succ]
      simp only [e116]
      go_wp2
      exact ⟨rfl, rfl, Below.refl _ _, hI⟩
    · intro vals xw f hf1 hf2 hf3 hI hF
      clear hf2 hf3
      simp only [saysD, List.getD_cons_zero, List.getD_cons_succ, and_true] at hF
      have e117 := hF
      dsimp only [owes4, bare]
      refine ⟨fun _ => ?_, fun h => absurd e117 h⟩
      simp only [putsD, Act.put, List.setIfInBounds_toArray, List.set_cons_zero, List.set_cons_succ]
      simp only [e117]
      have hal := (Below.refl xw.heap.size xw).alloc (Nat.le_refl _) (.cells (noughts 6) 58)
      have HTT := Lib.hid (noughts_rd 6 (heap_alloc_new xw (.cells (noughts 6) 58)))
      have HAL := Lib.hid hal
      have HII := Lib.hid hI
      clear hal hI
      have hmk := run_make_layers 6 (by omega) made6 xw
      rw [show (((6 : Nat) : Int)) = (6 : Int) from rfl] at hmk
      go_wp2
      exact ⟨rfl, ⟨_, rfl, HTT.out⟩, HAL.out, bthen HII.out HAL.out⟩
    · intro vals xw f hf1 hf2 hf3 hI hF
      clear hf2 hf3
      simp only [saysD, List.getD_cons_zero, List.getD_cons_succ, and_true] at hF
      obtain ⟨e117, b, e118, h9⟩ := hF
      dsimp only [owes4, bare]
      refine ⟨fun _ => ?_, fun h => absurd e117 h⟩
      simp only [putsD, Act.put, List.setIfInBounds_toArray, List.set_cons_zero, List.set_cons_succ]
      simp only [e117, e118]
      have HWF := Lib.hid (ctxOk_of (List.replicate 6 ⟨[], []⟩) (some ⟨b, 0, none⟩) 6 6 true xw h9 (by simp) (Nat.le_refl _) (none_ok 6 (by omega)) six_yes)
      have HII := Lib.hid hI
      clear hI
      go_wp2_with fail
      refine HWF.out.mono ?_
      rintro e w9 ⟨rfl, hb9⟩
      have HB9 := Lib.hid hb9
      clear hb9
      go_wp2
      exact ⟨rfl, rfl, HB9.out, bthen HII.out HB9.out⟩
    · intro vals xw f hf1 hf2 hf3 hI hF
      clear hf2 hf3
      simp only [saysD, List.getD_cons_zero, List.getD_cons_succ, and_true] at hF
      obtain ⟨e117, e119⟩ := hF
      dsimp only [owes4, bare]
      simp only [putsD, Act.put, List.setIfInBounds_toArray, List.set_cons_zero, List.set_cons_succ]
      simp only [e117, e119]
      go_wp2
      exact ⟨rfl, rfl, Below.refl _ _, hI⟩
    · intro vals xw f hf1 hf2 hf3 hI hF
      clear hf2 hf3
      simp only [saysD, List.getD_cons_zero, List.getD_cons_succ, and_true] at hF
      have e120 := hF
      dsimp only [owes4, bare]
      simp only [putsD, Act.put, List.setIfInBounds_toArray, List.set_cons_zero, List.set_cons_succ]
      simp only [e120]
      go_wp2
      exact ⟨rfl, rfl, Below.refl _ _, hI⟩
    · intro vals xw f hall hI hF
      rw [show List.range _ = [0, 1, 2, 3, 4, 5, 6, 7, 8, 9, 10, 11, 12, 13, 14, 15, 16, 17, 18, 19, 20, 21, 22, 23, 24, 25, 26, 27, 28, 29, 30, 31, 32, 33, 34, 35, 36, 37, 38, 39, 40, 41, 42, 43, 44, 45, 46, 47, 48] from rfl] at hF
      simp only [says, List.getD_cons_zero, List.getD_cons_succ, and_true] at hF
      have e2 := hF.2.2.2.2.2.2.2.2.2.2.2.2.2.2.2.2.2.2.2.2.2.2.2.2.2.2.2.2.2.2.2.2.2.2.2.2.2.2.2.2.2.2.2.2.2.2.2.2
      have HB := Lib.hid (HB.out.trans (hI.mono HB.out.size))
      simp only [putsD, Act.put, List.setIfInBounds_toArray, List.set_cons_zero, List.set_cons_succ]
      simp only [e2]
      clear hF e2 hI
      go_wp2
      go_ret
      exact ⟨rfl, HB.out⟩
set_option maxRecDepth 100000 in
theorem fnCtxBent_lifted (os : Os) (started : os.Started) (H : Type) (enc : TypeId × Value → H) :
    ReturnsInHanded {} Tryz.checked os 9 .any (fun w args => (Rows.fnCtxBentSpec.pre enc Tryz.prog Tryz.f9 [] false w args ∧ laidMetH Tryz.prog laidU w) ∧ sizedMet enc Tryz.prog Tryz.f9 (OpenSpec.ofChange Rows.fnCtxBentSpec) false w args)
      (Rows.fnCtxBentSpec.post enc Tryz.prog Tryz.f9 false true false false) := by
  refine returnsInHanded_of_change_and (C := Tryz.checked) (X := fun w _ => laidMetH Tryz.prog laidU w) (fun _ _ _ hh h => h.of_heap hh) dr_own started (by kernel_rfl) Tryz.func9
    (ChangeSpec.witness_shaped (enc := enc) (C := Tryz.checked) (os := os) (X := fun w _ => laidMetH Tryz.prog laidU w) false (World.laidAll Tryz.prog os laidU) #[.slice none 0 0] 16 (World.laidAll_os _ _ _) (World.shaped_of_ZipB (by kernel_rfl) (by kernel_rfl)) (by kernel_rfl) (by kernel_rfl) (by kernel_rfl)
      (by rw [MakeChecks.laidMetH_plain _ _ _ (by kernel_rfl)]; exact laidMet_laidAll _ (by kernel_rfl) (by kernel_rfl))) ?_
  intro W base args ds gs before hval0 hW _ _ hL _
  have hval : ∀ (j : Nat) t v, Tryz.f9.params[j]? = some t → args[j]? = some v → Value.okWide Tryz.prog W .any base t v := hval0
  have hW' := hW
  obtain ⟨p, q, hA0, hV, rfl, hfz, hnd⟩ := hW
  have hA : DataW.TrodAll enc Tryz.prog W 0 (fun _ => true) true Tryz.f9.params.toList args.toList ds p := hA0
  rw [Tryz.params9] at hA hval
  obtain ⟨v0, vs0, d0, ds0, p0, q0, hargs, rfl, rfl, h0, r0⟩ := trodAll_cons hA
  obtain ⟨rfl, rfl, rfl⟩ := trodAll_nil r0
  obtain rfl : args = #[v0] := by cases args; simp_all
  obtain ⟨rfl, rfl⟩ := trodVars_none hV
  have k0 := h0
  have lt0 : ∀ x ∈ p0, x.block < W.heap.size := by obtain ⟨m, hm⟩ := k0; exact DataW.trod_lt m _ _ _ hm
  obtain ⟨A0, c0, x0, rfl, hc0, ok0, rd0⟩ := open_arg Tryz.underlying53 opens_bytes (hval 0 53 v0 rfl rfl) h0
  clear hA0 hval0
  refine (fnCtxBent_walk W hc0 ok0 rd0).mono fun e W' ⟨he, bel⟩ => ?_
  subst he
  exact ⟨_, rfl, _, _, _, [], _, [], hW', trodAll_mk1 (shut_bool Tryz.underlying4 _), (trodAll_cons_mk (Below.trod (by kernel_rfl) (by kernel_rfl) (of_decide_eq_true (by kernel_rfl)) k0 bel lt0) trodAll_mk0), rfl, bel.frame _, fun h => by cases h⟩

/-- The given row. -/
theorem fnCtxBent_row : Rows.FnCtxBentSaid :=
  OpenClaim.holds_of_wide 9 Tryz.f9 rfl rfl rfl rfl rfl rfl rfl ⟨rfl, rfl, rfl, rfl, rfl⟩ rfl rfl rfl rfl rfl (by kernel_rfl) Tryz.func9 (by kernel_rfl)
    (of_decide_eq_true (by kernel_rfl)) (by unfold Func.isWrapper; first | (rw [if_pos (by decide +kernel)]; kernel_rfl) | (rw [if_neg (by decide +kernel)]; exact ⟨rfl, rfl⟩))
    (fun os started H enc _ => fnCtxBent_lifted os started H enc)
/-- The given statement: the row, what it lists tied to the program's text. -/
theorem fnCtxBent_holds : Rows.FnCtxBentCardSaid :=
  Claim7.holds_tied_plain_at .later [] [.data, .pinned] true Rows.fnCtxBentCard.stood.harness Rows.fnCtxBentCard.stood.looks
    fnCtxBent_row (fun _ h => by cases h) (by kernel_rfl) (fun _ h => by cases h) fnCtxBent_row_tie rfl ⟨rfl, rfl⟩ (by kernel_rfl) rfl
    (fun f fn hf hfn => by
      obtain rfl : f = 9 := Option.some.inj ((show Tryz.prog.funcNamed "loop.example/seedlip/laws.FnCtxBent" = some 9 by kernel_rfl).symm.trans hf) |>.symm
      obtain rfl : fn = Tryz.f9 := (Option.some.inj (Tryz.func9.symm.trans hfn)).symm
      exact ⟨by kernel_rfl, fun j t ht => by
        rw [Tryz.params9] at ht
        have hm : t ∈ [53] := by simpa using Array.mem_of_getElem? ht
        have hall : ([53].all fun u => !Tryz.prog.wantsStandIn u) = true := by kernel_rfl
        exact (show Tryz.prog.wantsStandIn t = false by simpa using List.all_eq_true.1 hall t hm)⟩)
    (by kernel_rfl)
#print axioms fnCtxBent_holds
end Go.Proofs.YtiahmfpfimmbgaaGreatDoor
