/- Searches as arguments: sizes, copies, comparisons, marks. -/
import Derived.Test.YtndolbplkjhooaaSatP
namespace Go.Proofs.Ytndolbplkjhooaa
open Go Go.RowKit Go.ChangeShapes Go.WideShapes Go.ChangeAt Go.Deep

def okSIn (s : S) : Prop := okList s.put ∧ okList s.why ∧ (s.learned.length ≤ maxLen ∧ ∀ l ∈ s.learned, okList l) ∧ okInt s.code
def Lay.sat : Lay S where
  size := 4
  R w F s vs := ∃ A B D a b d, vs = [.slice A s.put.length a, .slice B s.why.length b, .slice D s.learned.length d, .int .i64 s.code] ∧ s.put.length ≤ a ∧ s.why.length ≤ b ∧ s.learned.length ≤ d ∧ SatR w F A B D s
  len := by rintro w F x vs ⟨A, B, D, a, b, d, rfl, _⟩; rfl
  keep := by rintro w w' F x vs hk ⟨A, B, D, a, b, d, rfl, h1, h2, h3, h4⟩; exact ⟨A, B, D, a, b, d, rfl, h1, h2, h3, h4.keep hk⟩
  mono := by rintro w F G x vs hk ⟨A, B, D, a, b, d, rfl, h1, h2, h3, h4⟩; exact ⟨A, B, D, a, b, d, rfl, h1, h2, h3, h4.mono hk⟩
theorem Opens.sat {P : Program} {t ti sg sl : TypeId} {fs : Array Field} (ht : P.underlying t = some (.struct fs)) (hc : P.cellsOf t = 4) (hti : P.underlying ti = some (.int .i64)) (htic : P.cellsOf ti = 1) (hsg : P.cellsOf sg = 1) (hsl : P.cellsOf sl = 1)
    (hf : fs.toList.map (fun f : Field => (f.type, f.offset)) = [(sl, 0), (sl, 1), (sg, 2), (ti, 3)]) (hi : Opens P sl Lay.int.slice (fun xs => xs.length ≤ maxLen ∧ ∀ x ∈ xs, okInt x)) (hg : Opens P sg Lay.int.slice.slice (fun xs => xs.length ≤ maxLen ∧ ∀ x ∈ xs, okList x)) : Opens P t Lay.sat okSIn := by
  have hfi : ∀ i, (fs[i]?).map (fun f : Field => (f.type, f.offset)) = [(sl, 0), (sl, 1), (sg, 2), (ti, 3)][i]? := fun i => by
    rw [← hf, List.getElem?_map, Array.getElem?_toList]
  intro H enc w base spare held fuel cs x h
  obtain ⟨p, okp, A, a, r0, l0, s0⟩ := OpensF.field ht h (Nat.le_succ _) 0 sl 0 1 (hfi 0) hsl (hi.at _)
  obtain ⟨q, okq, B, b, r1, l1, s1⟩ := OpensF.field ht h (Nat.le_succ _) 1 sl 1 1 (hfi 1) hsl (hi.at _)
  obtain ⟨gs, okg, D, d, r2, l2, s2⟩ := OpensF.field ht h (Nat.le_succ _) 2 sg 2 1 (hfi 2) hsg (hg.at _)
  obtain ⟨c, okc, rc⟩ := OpensF.field ht h (Nat.le_succ _) 3 ti 3 1 (hfi 3) htic ((Opens.int hti).at _)
  have hlen := trod_cells ht h
  rw [hc] at hlen
  match cs, hlen with
  | [x0, x1, x2, x3], _ =>
    simp [Lay.int, Lay.flat] at r0 r1 r2 rc
    subst r0 r1 r2 rc
    exact ⟨⟨p, q, gs, c⟩, ⟨okp, okq, okg, okc⟩, A, B, D, a, b, d, rfl, l0, l1, l2, s0, s1, s2⟩
theorem opens_sat : Opens Try.prog 43 Lay.sat okSIn :=
  Opens.sat Try.underlying43 (by kernel_rfl) Try.underlying3 (by kernel_rfl) (by kernel_rfl) (by kernel_rfl) rfl opens_ints
    (Opens.slice Try.underlying22 (by kernel_rfl) (by decide) opens_ints)
set_option maxRecDepth 100000 in
theorem open_sat {H : Type} {enc : TypeId × Value → H} {r : Reach} {b0 : Nat} {w : World} {base : Nat} {spare : Nat → Bool} {held : Bool} {v : Value} {d : DataW H} {p : List MemPlace}
    (hv : Value.okWide Try.prog w r b0 43 v) (h : DataW.Trod enc Try.prog w base spare held 43 v d p) :
    ∃ A B D a b c s, v = .agg #[.slice A (S.put s).length a, .slice B (S.why s).length b, .slice D (S.learned s).length c, .int .i64 (S.code s)] ∧ s.put.length ≤ a ∧ s.why.length ≤ b ∧ s.learned.length ≤ c ∧ okSIn s ∧ Lay.int.Rd w A s.put ∧ Lay.int.Rd w B s.why ∧ Lay.int.slice.Rd w D s.learned := by
  have hh := open_struct (L := Lay.sat) (ok := okSIn) Try.underlying43 opens_sat hv h
  obtain ⟨cs, n, hv', hok, hR⟩ := hh
  obtain ⟨A, B, D, a, b, c, hcs, h1, h2, h3, h4⟩ := hR
  have hc : cs = #[.slice A n.put.length a, .slice B n.why.length b, .slice D n.learned.length c, .int .i64 n.code] := Array.toList_inj.1 (hcs.trans rfl)
  exact ⟨A, B, D, a, b, c, n, by rw [hv', hc], h1, h2, h3, hok, h4.a, h4.b, h4.d⟩
def wtS (s : S) : Nat := s.put.length + s.why.length + listsW s.learned
def smSat (s : S) : Prop := smS s
theorem smSat_of {s : S} (h : okSIn s) (hw : wtS s ≤ 1048576) : smSat s := by
  unfold wtS at hw
  exact ⟨⟨by omega, h.1.2⟩, ⟨by omega, h.2.1.2⟩, smRows_of h.2.2.1 (by omega), h.2.2.2⟩
def mwS (s : S) : Nat := s.put.length + s.why.length + nsum (s.learned.map List.length)
theorem smSat.mw {s : S} (h : smSat s) : mwS s ≤ 3145728 := by
  unfold mwS
  have := h.1.1; have := h.2.1.1; have := h.2.2.1.2.2
  omega
theorem szRes_add {left : Int} {n m : Nat} (h : ¬ left < n) : szRes left (n + m) = szRes (szRes left n) m := by
  rw [szRes_ge h]
  unfold szRes
  by_cases h2 : left < ((n + m : Nat) : Int)
  · rw [if_pos h2, if_pos (by omega)]
  · rw [if_neg h2, if_neg (by omega)]; omega
theorem szRes_low {left : Int} {n m : Nat} (h : left < n) : szRes left (n + m) = -1 := szRes_lt (by omega)
set_option maxRecDepth 100000 in
set_option maxHeartbeats 1000000 in
theorem szSat_u (s : S) (A B D : Option Addr) (a b d : Nat) (left : Int) (w : World) (_ : Lay.int.Rd w A s.put) (_ : Lay.int.Rd w B s.why) (h : Lay.int.slice.Rd w D s.learned) (ok : okSIn s) (h0 : 0 ≤ left) (h1 : left ≤ 1048576) :
    Calls Try.prog 23 #[.agg #[.slice A s.put.length a, .slice B s.why.length b, .slice D s.learned.length d, .int .i64 s.code], .int .i64 left] w (RetZ (szRes left (wtS s)) w) := by
  have hw : Below w.heap.size w (w.alloc (.cells #[.slice A s.put.length a, .slice B s.why.length b, .slice D s.learned.length d, .int .i64 s.code] 43)) := (Below.refl _ _).alloc (Nat.le_refl _) _
  have hB := heap_alloc_new w (.cells #[.slice A s.put.length a, .slice B s.why.length b, .slice D s.learned.length d, .int .i64 s.code] 43)
  have HL := Lib.hid (h.up hw)
  have OK := Lib.hid ok
  have n0 : s.put.length ≤ 9223372036854775807 := by have := ok.1.1; unfold maxLen at this; omega
  have n1 : s.why.length ≤ 9223372036854775807 := by have := ok.2.1.1; unfold maxLen at this; omega
  have n2 : s.learned.length ≤ 9223372036854775807 := by have := ok.2.2.1.1; unfold maxLen at this; omega
  have HB := Lib.hid hB
  have HW := Lib.hid hw
  clear ok hB hw h
  have HWT : Hid (wtS s = s.put.length + (s.why.length + listsW s.learned)) := Lib.hid (by unfold wtS; omega)
  rw [HWT.out]
  go_enter Try.func23, Try.ntmps23
  go_wp2_with fail
  generalize w.alloc (.cells #[.slice A s.put.length a, .slice B s.why.length b, .slice D s.learned.length d, .int .i64 s.code] 43) = W at *
  have c1 : W.cell? ⟨w.heap.size, 1, none⟩ = some (.slice B s.why.length b) := (cell_of_block HB.out 1).1
  have c2 : W.cell? ⟨w.heap.size, 2, none⟩ = some (.slice D s.learned.length d) := (cell_of_block HB.out 2).1
  refine (szIntS_below A a s.put left W n0 h0 h1).mono ?_
  by_cases hs : left < (lw s.put : Nat)
  · have HS := Lib.hid (szRes_lt hs)
    have HE := Lib.hid (szRes_low (m := s.why.length + listsW s.learned) hs)
    clear hs
    rw [HS.out]
    rintro e w1 ⟨rfl, hb1⟩
    go_wp2
    go_ret
    exact ⟨ret_int (by rw [HE.out]), bthen HW.out hb1⟩
  have HE := Lib.hid (szRes_add (m := s.why.length + listsW s.learned) hs)
  have HS := Lib.hid (szRes_ge hs)
  obtain ⟨l1, hl1⟩ : ∃ l1, l1 = left - ((lw s.put : Nat) : Int) := ⟨_, rfl⟩
  have g0 : 0 ≤ l1 := by omega
  have g1 : l1 ≤ 1048576 := by omega
  rw [HS.out, ← hl1]
  have HE : Hid (szRes left (s.put.length + (s.why.length + listsW s.learned)) = szRes l1 (s.why.length + listsW s.learned)) := Lib.hid (by rw [hl1, ← HS.out]; exact HE.out)
  clear hl1 hs HS
  rintro e w1 ⟨rfl, hb1⟩
  have hlt := lt_of_block HB.out
  have c1 := (hb1.cell (World.block_lt_of_cell? W _ c1)).trans c1
  have c2 := (hb1.cell (World.block_lt_of_cell? W _ c2)).trans c2
  have HL := Lib.hid (HL.out.up hb1)
  have HB1 := Lib.hid (bthen HW.out hb1)
  clear hb1
  go_wp2_with fail
  clear c1
  refine (szIntS_below B b s.why l1 w1 n1 g0 g1).mono ?_
  by_cases hs : l1 < (lw s.why : Nat)
  · have HS := Lib.hid (szRes_lt hs)
    have HE2 := Lib.hid (szRes_low (m := listsW s.learned) hs)
    clear hs
    rw [HS.out]
    rintro e w2 ⟨rfl, hb2⟩
    go_wp2
    go_ret
    exact ⟨ret_int (by rw [HE.out]; exact HE2.out.symm), bthen HB1.out hb2⟩
  have HE2 := Lib.hid (szRes_add (m := listsW s.learned) hs)
  have HS := Lib.hid (szRes_ge hs)
  obtain ⟨l2, hl2⟩ : ∃ l2, l2 = l1 - ((lw s.why : Nat) : Int) := ⟨_, rfl⟩
  have g2 : 0 ≤ l2 := by omega
  have g3 : l2 ≤ 1048576 := by omega
  rw [HS.out, ← hl2]
  have HE : Hid (szRes left (s.put.length + (s.why.length + listsW s.learned)) = szRes l2 (listsW s.learned)) := Lib.hid (by rw [HE.out, hl2, ← HS.out]; exact HE2.out)
  clear hl2 hs HS HE2
  rintro e w2 ⟨rfl, hb2⟩
  have c2 := (hb2.cell (World.block_lt_of_cell? w1 _ c2)).trans c2
  have HL := Lib.hid (HL.out.up hb2)
  have HB2 := Lib.hid (bthen HB1.out hb2)
  clear hb2
  go_wp2_with fail
  clear c2
  refine (szIntSS_any D d s.learned l2 _ w2 HL.out (fun _ h => h) (fun l hl => by have := (OK.out.2.2.1.2 l hl).1; unfold maxLen at this; omega) n2 g2 g3).mono ?_
  rw [show s.learned.length + wsum lw s.learned = listsW s.learned from rfl]
  by_cases hs : l2 < (listsW s.learned : Nat)
  · have HS := Lib.hid (szRes_lt hs)
    clear hs
    rw [HS.out]
    rintro e w3 ⟨rfl, hb3⟩
    go_wp2
    go_ret
    exact ⟨ret_int (by rw [HE.out, HS.out]), bthen HB2.out hb3⟩
  · have HS := Lib.hid (szRes_ge hs)
    obtain ⟨l3, hl3⟩ : ∃ l3, l3 = l2 - ((listsW s.learned : Nat) : Int) := ⟨_, rfl⟩
    have g4 : 0 ≤ l3 := by omega
    rw [HS.out, ← hl3]
    have HE : Hid (szRes left (s.put.length + (s.why.length + listsW s.learned)) = l3) := Lib.hid (by rw [HE.out, hl3, ← HS.out])
    clear hl3 hs HS
    rintro e w3 ⟨rfl, hb3⟩
    go_wp2
    go_ret
    exact ⟨ret_int (by rw [HE.out]), bthen HB2.out hb3⟩
end Go.Proofs.Ytndolbplkjhooaa
