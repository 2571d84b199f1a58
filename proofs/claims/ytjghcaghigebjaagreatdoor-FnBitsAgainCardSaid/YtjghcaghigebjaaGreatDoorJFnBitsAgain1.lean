/- Nets as arguments and answers: sizes, copies, comparisons, marks; in the laws' one form. -/
import Derived.Maps.OwnSet
import Derived.DeepKeys4
import Derived.Test.YtjghcaghigebjaaGreatDoorJFnBitsAgain0
namespace Go.Proofs.YtjghcaghigebjaaGreatDoor
open Go Go.RowKit
theorem gcells_one1 (g : G) : ∀ u ∈ gcells g, u.oneCell' = true := by
 intro u hu
 simp [gcells] at hu
 rcases hu with rfl | rfl | rfl <;> rfl
def goodAt (n : N) (k : Nat) : Bool := match n.gs[k]? with | some g => goodG n k g | none => true
def netOk (n : N) : Bool := decide (0 ≤ n.ins) && decide (n.ins ≤ 8) && decide (n.gs.length ≤ 600) && (List.range n.gs.length).all (goodAt n)
theorem netOk_iff (n : N) : netOk n = true ↔ 0 ≤ n.ins ∧ n.ins ≤ 8 ∧ n.gs.length ≤ 600 ∧ ∀ k, k < n.gs.length → goodAt n k = true := by
 simp [netOk, and_assoc]
theorem netOk_no {n : N} (h : n.ins < 0 ∨ 8 < n.ins ∨ 600 < n.gs.length ∨ ∃ k, k < n.gs.length ∧ goodAt n k = false) : netOk n = false := by
 rw [Bool.eq_false_iff]
 intro e
 obtain ⟨h1, h2, h3, h4⟩ := (netOk_iff n).1 e
 rcases h with h | h | h | ⟨k, hk, hg⟩
 · omega
 · omega
 · omega
 · rw [h4 k hk] at hg; cases hg
set_option maxHeartbeats 1000000 in
theorem specNetOk_any (A : Option Addr) (c : Nat) (n : N) (w : World) (h : Lay.gate.Rd w A n.gs) (hn : n.gs.length ≤ 1048576) (hi : okInts n) :
  Calls Tryz.prog 11 #[.agg #[.int .i64 n.ins, .slice A n.gs.length c]] w fun e w' => e = .returned (.bool (netOk n)) ∧ Below w.heap.size w w' := by
 have hw : Below w.heap.size w (w.alloc (.cells #[.int .i64 n.ins, .slice A n.gs.length c] 29)) := (Below.refl _ _).alloc (Nat.le_refl _) _
 have H := h.up hw
 by_cases h0 : n.ins < 0
 ·
  have HN := zH (netOk_no (.inl h0))
  go_enter Tryz.func11, Tryz.ntmps11
  go_wp2
  go_ret
  exact ⟨z16 (by rw [HN.out]), hw⟩
 by_cases h1 : 8 < n.ins
 ·
  have HN := zH (netOk_no (.inr (.inl h1)))
  go_enter Tryz.func11, Tryz.ntmps11
  go_wp2
  go_ret
  exact ⟨z16 (by rw [HN.out]), hw⟩
 by_cases h2 : 600 < n.gs.length
 ·
  have HN := zH (netOk_no (.inr (.inr (.inl h2))))
  go_enter Tryz.func11, Tryz.ntmps11
  go_wp2
  go_ret
  exact ⟨z16 (by rw [HN.out]), hw⟩
 have v0 : (w.alloc (.cells #[.int .i64 n.ins, .slice A n.gs.length c] 29)).cell? ⟨w.heap.size, 0, none⟩ = some (.int .i64 n.ins) := by simp [go_sem]
 have v1 : (w.alloc (.cells #[.int .i64 n.ins, .slice A n.gs.length c] 29)).cell? ⟨w.heap.size, 1, none⟩ = some (.slice A n.gs.length c) := by simp [go_sem]
 go_enter Tryz.func11, Tryz.ntmps11
 go_wp2
 generalize w.alloc (.cells #[.int .i64 n.ins, .slice A n.gs.length c] 29) = W at *
 go_loopw [3] (fun i wr => ∃ j : Nat, j ≤ n.gs.length ∧ i = .int .i64 j ∧ Below W.heap.size W wr ∧ ∀ i', i' < j → goodAt n i' = true) (fun i _ => n.gs.length - (intOf i).toNat)
 case atStart => exact ⟨0, Nat.zero_le _, rfl, Below.refl _ _, fun i' h => absurd h (by omega)⟩
 case round =>
  obtain ⟨j, hj, rfl, hb, hg⟩ := hrel
  have HG := zH hg
  clear hg
  have c0 := (hb.cell (World.block_lt_of_cell? W _ v0)).trans v0
  have c1 := (hb.cell (World.block_lt_of_cell? W _ v1)).trans v1
  by_cases hlt : j < n.gs.length
  ·
   have hga : goodAt n j = goodG n j n.gs[j] := by simp [goodAt, hlt]
   have HA := zH hga
   clear hga
   go_wp2_with fail
   refine (l6Gate_any A c n j hlt wr (H.up hb) hn hi (by omega) (by omega)).mono ?_
   rw [← HA.out]
   rintro e w2 ⟨rfl, hb2⟩
   cases hq : goodAt n j with
   | false =>
    have HN := zH (netOk_no (.inr (.inr (.inr ⟨j, hlt, hq⟩))))
    clear hq
    go_wp2
    go_ret
    exact ⟨z16 (by rw [HN.out]), bthen (bthen hw hb) hb2⟩
   | true =>
    have HQ := zH hq
    clear hq
    go_wp2
    go_roundw
    case rel => exact ⟨j + 1, by omega, by go_num, bthen hb hb2, fun i' hi' => by
     rcases Nat.lt_or_ge i' j with h' | h'
     · exact HG.out i' h'
     ·
      have : i' = j := by omega
      subst this; exact HQ.out⟩
    case measure => simp [intOf]; omega
  ·
   have : j = n.gs.length := by omega
   subst this
   have HN := zH ((netOk_iff n).2 ⟨by omega, by omega, by omega, HG.out⟩)
   go_wp2
   go_ret
   exact ⟨z16 (by rw [HN.out]), bthen hw hb⟩
def put (n : N) (g : G) : N × Int :=
 if g ∈ n.gs then (n, 2 + n.ins + n.gs.idxOf g) else if 600 ≤ n.gs.length then (⟨0, []⟩, 0) else (⟨n.ins, n.gs ++ [g]⟩, 2 + n.ins + n.gs.length)
theorem put_mem {n : N} {g : G} (h : g ∈ n.gs) : put n g = (n, 2 + n.ins + n.gs.idxOf g) := by unfold put; rw [if_pos h]
theorem put_full {n : N} {g : G} (h : g ∉ n.gs) (h6 : 600 ≤ n.gs.length) : put n g = (⟨0, []⟩, 0) := by unfold put; rw [if_neg h, if_pos h6]
theorem put_new {n : N} {g : G} (h : g ∉ n.gs) (h6 : ¬ 600 ≤ n.gs.length) : put n g = (⟨n.ins, n.gs ++ [g]⟩, 2 + n.ins + n.gs.length) := by unfold put; rw [if_neg h, if_neg h6]
def RetNetInt (F : Nat → Prop) (w : World) (r : N × Int) (e : Ending) (w' : World) : Prop :=
 ∃ A c, e = .returned (.tuple #[.agg #[.int .i64 r.1.ins, .slice A r.1.gs.length c], .int .i64 r.2]) ∧ (A = none → r.1.gs.length = 0) ∧ Lay.gate.Sl w' (fun b => F b ∨ (w.heap.size ≤ b ∧ b < w'.heap.size)) A r.1.gs ∧ Below w.heap.size w w'
theorem idxOf_first {g : G} : ∀ {xs : List G} {j : Nat}, xs[j]? = some g → (∀ i, i < j → xs[i]? ≠ some g) → xs.idxOf g = j
 | [], j, h, _ => by simp at h
 | x :: xs, 0, h, _ => by
  simp only [List.getElem?_cons_zero, Option.some.injEq] at h
  subst h; simp
 | x :: xs, j + 1, h, hn => by
  have hx : x ≠ g := fun e => hn 0 (by omega) (by simp [e])
  have := idxOf_first (xs := xs) (j := j) (by simpa using h) (fun i hi => by have := hn (i + 1) (by omega); simpa using this)
  rw [List.idxOf_cons, this, beq_false_of_ne hx]; rfl
theorem z06 {B : Nat} {w X : World} {p : Addr} (h : Below B w X) (hp : B ≤ p.block) (u : Value) : Below B w (X.setCell p u) :=
 ⟨h.os, h.tape, h.output, by simpa [World.setCell] using h.size, fun b hb => (Below.heap_setCell X p u b (by omega)).trans (h.block b hb)⟩
def Fact.put (b : Nat) (W : World) (n : N) (g : G) : Fact :=
 .of (fun _ x => b < x.heap.size ∧ x.cell? ⟨b, 0, none⟩ = some (.int .i64 n.ins) ∧ W.heap.size ≤ x.heap.size ∧ (∀ b', b' < W.heap.size → b' ≠ b → x.heap[b']? = W.heap[b']?) ∧ x.os = W.os ∧ x.tape = W.tape ∧ x.output = W.output ∧
   ∃ A c, x.cell? ⟨b, 1, none⟩ = some (.slice A (n.gs.length + 1) c) ∧ x.ownsRow W.heap.size 88 3 (.slice A (n.gs.length + 1) c) (n.gs.length + 1) (n.gs.flatMap gcells ++ gcells g))
  fun _ x x' ⟨h1, h2, h3, h4, h5, h6, h7, A, c, h8, h9⟩ hb =>
   ⟨Nat.lt_of_lt_of_le h1 hb.size, (hb.cell (by exact h1)).trans h2, Nat.le_trans h3 hb.size, fun b' hb' hne => (hb.block b' (by omega)).trans (h4 b' hb' hne), hb.os.trans h5, hb.tape.trans h6, hb.output.trans h7, A, c, (hb.cell (by exact h1)).trans h8, z07 h9 hb (Nat.le_refl _)⟩
set_option maxRecDepth 100000 in
set_option maxHeartbeats 2000000 in
theorem l6Put_any (F : Nat → Prop) (A : Option Addr) (c : Nat) (n : N) (g : G) (w : World) (h : Lay.gate.Sl w F A n.gs) (hF : ∀ b, F b → b < w.heap.size) (hn : n.gs.length ≤ 1048576) (hA : A = none → n.gs.length = 0) (h0 : 0 ≤ n.ins) (h1 : n.ins ≤ 1000000) :
  Calls Tryz.prog 115 #[.agg #[.int .i64 n.ins, .slice A n.gs.length c], .agg #[.bool g.x, .int .i64 g.a, .int .i64 g.b]] w (RetNetInt F w (put n g)) := by
 obtain ⟨i0, hi0, hz0, hz1, hz2⟩ := info_parts gate_info
 go_enter Tryz.func115, Tryz.ntmps115
 go_wp2
 have hW : Below w.heap.size w (((w.alloc (.cells #[.int .i64 n.ins, .slice A n.gs.length c] 29)).alloc (.cells #[.bool g.x, .int .i64 g.a, .int .i64 g.b] 88)).alloc (.cells #[.int .i64 0, .slice none 0 0] 29)) := (((Below.refl _ _).alloc (Nat.le_refl _) _).alloc (by simp) _).alloc (by simp; omega) _
 have hs : (((w.alloc (.cells #[.int .i64 n.ins, .slice A n.gs.length c] 29)).alloc (.cells #[.bool g.x, .int .i64 g.a, .int .i64 g.b] 88)).alloc (.cells #[.int .i64 0, .slice none 0 0] 29)).heap.size ≥ w.heap.size + 3 := by simp
 have v0 : (((w.alloc (.cells #[.int .i64 n.ins, .slice A n.gs.length c] 29)).alloc (.cells #[.bool g.x, .int .i64 g.a, .int .i64 g.b] 88)).alloc (.cells #[.int .i64 0, .slice none 0 0] 29)).cell? ⟨w.heap.size, 0, none⟩ = some (.int .i64 n.ins) := by simp [go_sem]
 have v1 : (((w.alloc (.cells #[.int .i64 n.ins, .slice A n.gs.length c] 29)).alloc (.cells #[.bool g.x, .int .i64 g.a, .int .i64 g.b] 88)).alloc (.cells #[.int .i64 0, .slice none 0 0] 29)).cell? ⟨w.heap.size, 1, none⟩ = some (.slice A n.gs.length c) := by simp [go_sem]
 have v2 : (((w.alloc (.cells #[.int .i64 n.ins, .slice A n.gs.length c] 29)).alloc (.cells #[.bool g.x, .int .i64 g.a, .int .i64 g.b] 88)).alloc (.cells #[.int .i64 0, .slice none 0 0] 29)).cell? ⟨w.heap.size + 1, 0, none⟩ = some (.bool g.x) := by simp [go_sem]
 have v3 : (((w.alloc (.cells #[.int .i64 n.ins, .slice A n.gs.length c] 29)).alloc (.cells #[.bool g.x, .int .i64 g.a, .int .i64 g.b] 88)).alloc (.cells #[.int .i64 0, .slice none 0 0] 29)).cell? ⟨w.heap.size + 1, 1, none⟩ = some (.int .i64 g.a) := by simp [go_sem]
 have v4 : (((w.alloc (.cells #[.int .i64 n.ins, .slice A n.gs.length c] 29)).alloc (.cells #[.bool g.x, .int .i64 g.a, .int .i64 g.b] 88)).alloc (.cells #[.int .i64 0, .slice none 0 0] 29)).cell? ⟨w.heap.size + 1, 2, none⟩ = some (.int .i64 g.b) := by simp [go_sem]
 have v5 : (((w.alloc (.cells #[.int .i64 n.ins, .slice A n.gs.length c] 29)).alloc (.cells #[.bool g.x, .int .i64 g.a, .int .i64 g.b] 88)).alloc (.cells #[.int .i64 0, .slice none 0 0] 29)).cell? ⟨w.heap.size + 1 + 1, 0, none⟩ = some (.int .i64 0) := by simp [go_sem]
 have v6 : (((w.alloc (.cells #[.int .i64 n.ins, .slice A n.gs.length c] 29)).alloc (.cells #[.bool g.x, .int .i64 g.a, .int .i64 g.b] 88)).alloc (.cells #[.int .i64 0, .slice none 0 0] 29)).cell? ⟨w.heap.size + 1 + 1, 1, none⟩ = some (.slice none 0 0) := by simp [go_sem]
 have f0 : (((w.alloc (.cells #[.int .i64 n.ins, .slice A n.gs.length c] 29)).alloc (.cells #[.bool g.x, .int .i64 g.a, .int .i64 g.b] 88)).alloc (.cells #[.int .i64 0, .slice none 0 0] 29)).frozen? ⟨w.heap.size, 1, none⟩ = false := by simp [go_sem]
 have f5 : (((w.alloc (.cells #[.int .i64 n.ins, .slice A n.gs.length c] 29)).alloc (.cells #[.bool g.x, .int .i64 g.a, .int .i64 g.b] 88)).alloc (.cells #[.int .i64 0, .slice none 0 0] 29)).frozen? ⟨w.heap.size + 1 + 1, 0, none⟩ = false := by simp [go_sem]
 have f6 : (((w.alloc (.cells #[.int .i64 n.ins, .slice A n.gs.length c] 29)).alloc (.cells #[.bool g.x, .int .i64 g.a, .int .i64 g.b] 88)).alloc (.cells #[.int .i64 0, .slice none 0 0] 29)).frozen? ⟨w.heap.size + 1 + 1, 1, none⟩ = false := by simp [go_sem]
 generalize (((w.alloc (.cells #[.int .i64 n.ins, .slice A n.gs.length c] 29)).alloc (.cells #[.bool g.x, .int .i64 g.a, .int .i64 g.b] 88)).alloc (.cells #[.int .i64 0, .slice none 0 0] 29)) = W at *
 have H := Lay.Sl.up (h.mono hF) hW
 go_loopw [6] (fun i wr => ∃ j m : Nat, j ≤ n.gs.length ∧ i = .int .i64 j ∧ wr = W.drewN m ∧ ∀ i', i' < j → n.gs[i']? ≠ some g) (fun i _ => n.gs.length - (intOf i).toNat)
 case atStart => exact ⟨0, 0, Nat.zero_le _, rfl, rfl, fun i' h => absurd h (by omega)⟩
 case round =>
  obtain ⟨j, m, hj, rfl, rfl, hnot⟩ := hrel
  have HN := zH hnot
  clear hnot
  by_cases hlt : j < n.gs.length
  ·
   obtain ⟨ad, rfl, hf, j1, j2, j3⟩ := H.at_gate hlt
   have hj0 : (0 : Int) ≤ j := by omega
   have hj1 : (j : Int) < n.gs.length := by omega
   have hgj : n.gs[j]? = some n.gs[j] := List.getElem?_eq_getElem hlt
   have HGJ := zH hgj
   clear hgj
   generalize n.gs[j] = gj at *
   by_cases hq : gj = g
   ·
    have he : ∀ W' : World, (binOp .eql 88 (.agg #[.bool gj.x, .int .i64 gj.a, .int .i64 gj.b]) (.agg #[.bool g.x, .int .i64 g.a, .int .i64 g.b])).run Tryz.prog W' = .ok (.bool true) W' := fun W' => by rw [eqlG W' gj g, decide_eq_true hq]
    have HQ := zH hq
    clear hq
    have e1 : IntKind.i64.wrap (2 + n.ins) = 2 + n.ins := IntWalk.i64_in _ (by omega)
    have e2 : IntKind.i64.wrap (2 + n.ins + (j : Int)) = 2 + n.ins + (j : Int) := IntWalk.i64_in _ (by omega)
    go_wp2
    go_quiet (fail)
    go_wp2
    go_region_held3 (fun w' => w'.cell? ⟨w.heap.size, 0, none⟩ = some (.int .i64 n.ins) ∧ w'.cell? ⟨w.heap.size, 1, none⟩ = some (.slice (some ad) n.gs.length c)) (first | go_keep | (refine ⟨?_, ?_⟩ <;> (simp [go_sem, v0, v1]; done))) (fail)
    go_wp2
    refine bodyPost_ret (v := .tuple #[.agg #[.int .i64 n.ins, .slice (some ad) n.gs.length c], .int .i64 (2 + n.ins + j)]) (by simp [results, Tryz.results115, go_sem, v0, v1, v5, v6, f5, f6]) rfl ?_
    have hgs : n.gs[j]? = some g := by rw [HGJ.out, HQ.out]
    have hidx : n.gs.idxOf g = j := idxOf_first hgs HN.out
    have hmem : g ∈ n.gs := by
     have := HGJ.out; rw [HQ.out] at this; exact List.mem_of_getElem? this
    have hp : put n g = (n, 2 + n.ins + j) := by unfold put; rw [if_pos hmem, hidx]
    rw [hp]
    have hbel : Below w.heap.size w (((W.drewN (m + nq + 1)).setCell ⟨w.heap.size + 1 + 1, 0, none⟩ (.int .i64 n.ins)).setCell ⟨w.heap.size + 1 + 1, 1, none⟩ (.slice (some ad) n.gs.length c)) := by
     refine z06 (z06 (z01 hW _) ?_ _) ?_ _ <;> (show w.heap.size ≤ w.heap.size + 1 + 1; omega)
    exact ⟨some ad, c, rfl, fun e9 => (by cases e9), (h.below hbel hF).mono (fun _ => .inl), hbel⟩
   ·
    have he : ∀ W' : World, (binOp .eql 88 (.agg #[.bool gj.x, .int .i64 gj.a, .int .i64 gj.b]) (.agg #[.bool g.x, .int .i64 g.a, .int .i64 g.b])).run Tryz.prog W' = .ok (.bool false) W' := fun W' => by rw [eqlG W' gj g, decide_eq_false hq]
    have HQ := zH hq
    clear hq
    go_wp2
    go_quiet (fail)
    go_wp2
    go_roundw
    case rel => exact ⟨j + 1, _, by omega, by go_num, rfl, fun i' hi' => by
     rcases Nat.lt_or_ge i' j with h' | h'
     · exact HN.out i' h'
     ·
      have : i' = j := by omega
      subst this; rw [HGJ.out]; intro e; injection e with e; exact HQ.out e⟩
    case measure => simp [intOf]; omega
  ·
   have : j = n.gs.length := by omega
   subst this
   by_cases h6 : 600 ≤ n.gs.length
   ·
    go_wp2
    refine bodyPost_ret (v := .tuple #[.agg #[.int .i64 0, .slice none 0 0], .int .i64 0]) (by simp [results, Tryz.results115, go_sem, v0, v1, v5, v6, f5, f6]) rfl ?_
    have hnm : g ∉ n.gs := fun hm => by
     obtain ⟨i', hi', hg'⟩ := List.getElem_of_mem hm
     exact HN.out i' hi' (by rw [List.getElem?_eq_getElem hi', hg'])
    have hp : put n g = (⟨0, []⟩, 0) := by unfold put; rw [if_neg hnm, if_pos h6]
    rw [hp]
    exact ⟨none, 0, rfl, fun _ => rfl, Lay.Sl.nil _ _ _ _, by first | exact z01 hW _ | (refine z06 (z06 (z01 hW _) ?_ _) ?_ _ <;> (show w.heap.size ≤ w.heap.size + 1 + 1; omega))⟩
   ·
    go_wp2
    have b1 : w.heap.size < (W.drewN m).heap.size := by show w.heap.size < W.heap.size; omega
    have b2 : w.heap.size + 1 < (W.drewN m).heap.size := by show w.heap.size + 1 < W.heap.size; omega
    refine wp_region_shares [[], [], [(1, 33)], [(0, 32), (2, 34)], [], [(4, 36)], [(3, 35), (5, 37)], [], [(6, 38), (7, 39)]]
     [.lit0 W.heap.size 88 3, .eq (.pointer (some ⟨w.heap.size, 1, none⟩)), .eq (.slice A n.gs.length c), .row W.heap.size 88 3 n.gs.length (n.gs.flatMap gcells),
      .eq (.agg #[.bool g.x, .int .i64 g.a, .int .i64 g.b]), .lit 88 1 #[.bool g.x, .int .i64 g.a, .int .i64 g.b], .row W.heap.size 88 3 (n.gs.length + 1) (n.gs.flatMap gcells ++ gcells g),
      .eq (.pointer (some ⟨w.heap.size, 1, none⟩)), Fact.put w.heap.size W n g]
     [6, 8] [8] [7] [8] [(0, 32), (1, 33), (2, 34), (3, 35), (4, 36), (5, 37), (6, 38), (7, 39)] (by kernel_rfl) (by kernel_rfl) (by kernel_rfl) (by kernel_rfl)
     ⟨?_, ?_, ?_, ?_, ?_, ?_, ?_, ?_, ?_, trivial⟩ ?_
    ·
     intro vals x hC hF
     simp only [putsD, Act.put, zA, zB, zC]
     have hC := hC.resolve_left (by simp)
     have hsz : W.heap.size ≤ x.heap.size := hC.size
     go_wp2
     exact ⟨rfl, ⟨_, rfl, own_mono (own_lit0 rfl) hsz⟩, .inr ((Below.refl _ _).alloc (Nat.le_refl _) _), .inr (.inl (by simp))⟩
    ·
     intro vals x hC hF
     simp only [putsD, Act.put, zA, zB, zC]
     go_wp2
     exact ⟨rfl, rfl, .inr (Below.refl _ _), .inr (.inl (by simp))⟩
    ·
     intro vals x hC hF
     have hC := hC.resolve_left (by simp)
     simp only [factsD, zD, zE, Fact.eq, Fact.row, Fact.lit, Fact.lit0, Fact.of, and_true] at hF
     obtain ⟨hcc, hff⟩ := bcell hC
     have c1 := (hcc _ 1 b1).trans v1
     simp only [putsD, Act.put, zA, zB, zC]
     simp only [hF]
     go_wp2
     exact ⟨rfl, rfl, .inr (Below.refl _ _), .inr (.inl (by simp))⟩
    ·
     intro vals x hC hF
     have hC := hC.resolve_left (by simp)
     have hsz : W.heap.size ≤ x.heap.size := hC.size
     simp only [factsD, zD, zE, Fact.eq, Fact.row, Fact.lit, Fact.lit0, Fact.of, and_true] at hF
     obtain ⟨⟨p0, e0, own0⟩, e2⟩ := hF
     simp only [putsD, Act.put, zA, zB, zC]
     simp only [e0, e2]
     refine wpList_append_lit _ (by rfl) (.tmp 32) (.tmp 34) _ (by rfl) W.heap.size 88 i0 _ 3 24 Tryz.underlying27 hi0 hz0 hz1 hz2 (by rfl) (by omega) p0 (by rfl) own0 A n.gs.length c (n.gs.flatMap gcells) (by rfl) (src_gates (H.up (w' := x) ⟨hC.os, hC.tape, hC.output, hC.size, hC.block⟩)) (gcells_one _) (by unfold maxLen; omega) (by omega) hsz hA ?_
     intro A1 c1 w1 hown1 hb1
     exact ⟨rfl, ⟨_, _, rfl, hown1⟩, .inr hb1, .inr (.inl (by simp))⟩
    ·
     intro vals x hC hF
     have hC := hC.resolve_left (by simp)
     obtain ⟨hcc, hff⟩ := bcell hC
     have c1 := (hcc _ 0 b2).trans v2
     have c2 := (hcc _ 1 b2).trans v3
     have c3 := (hcc _ 2 b2).trans v4
     simp only [putsD, Act.put, zA, zB, zC]
     go_wp2
     exact ⟨rfl, rfl, .inr (Below.refl _ _), .inr (.inl (by simp))⟩
    ·
     intro vals x hC hF
     simp only [factsD, zD, zE, Fact.eq, Fact.row, Fact.lit, Fact.lit0, Fact.of, and_true] at hF
     simp only [putsD, Act.put, zA, zB, zC]
     simp only [hF]
     go_wp2
     exact ⟨rfl, ⟨_, rfl, by simp, _, heap_alloc_new _ _⟩, .inr ((Below.refl _ _).alloc (Nat.le_refl _) _), .inr (.inl (by simp))⟩
    ·
     intro vals x hC hF
     have hC := hC.resolve_left (by simp)
     have hsz : W.heap.size ≤ x.heap.size := hC.size
     simp only [factsD, zD, zE, Fact.eq, Fact.row, Fact.lit, Fact.lit0, Fact.of, and_true] at hF
     obtain ⟨⟨A1, c1, e1, own1⟩, b, e5, hlt5, fr5, hb5⟩ := hF
     simp only [putsD, Act.put, zA, zB, zC]
     simp only [e1, e5]
     refine wpList_append_src _ (by rfl) (.tmp 35) (.tmp 37) _ (by rfl) W.heap.size 88 i0 _ 3 24 Tryz.underlying27 hi0 hz0 hz1 hz2 (by rfl) (by omega) (.slice A1 n.gs.length c1) n.gs.length (n.gs.flatMap gcells) (by rfl) own1 (some ⟨b, 0, none⟩) 1 1 (gcells g) (by rfl) (src_block hb5 rfl) (gcells_one1 g) (n.gs.length + 1) (by omega) (by unfold maxLen; omega) (by omega) hsz (by simp) ?_
     intro A2 c2 w2 hown2 hb2 hg2
     exact ⟨rfl, ⟨_, _, rfl, hown2⟩, .inl (by simp), .inr (.inr hb2)⟩
    ·
     intro vals x hC hF
     simp only [putsD, Act.put, zA, zB, zC]
     go_wp2
     exact ⟨rfl, rfl, .inr (Below.refl _ _), .inr (.inl (by simp))⟩
    ·
     intro vals x hC hF
     have hC := hC.resolve_left (by simp)
     simp only [factsD, zD, zE, Fact.eq, Fact.row, Fact.lit, Fact.lit0, Fact.of, and_true] at hF
     obtain ⟨⟨A2, c2, e2, own2⟩, e7⟩ := hF
     obtain ⟨hcc, hff⟩ := bcell hC
     have hsz : W.heap.size ≤ x.heap.size := hC.size
     have k0 := (hcc _ 0 b1).trans v0
     have k1 := (hcc _ 1 b1).trans v1
     have k2 := (hff _ 1 b1).trans f0
     simp only [putsD, Act.put, zA, zB, zC]
     simp only [e2, e7]
     go_wp2
     refine ⟨rfl, ?_, .inl (by simp), .inl (by simp)⟩
     simp only [zD, zE, Fact.put, Fact.of]
     refine ⟨?_, ?_, ?_, ?_, ?_, ?_, ?_, A2, c2, ?_, ?_⟩
     · simp [World.setCell]; omega
     · simp [go_sem, k0]
     · simp [World.setCell]; omega
     · exact fun b' hb' hne => (Below.heap_setCell x ⟨w.heap.size, 1, none⟩ _ b' hne).trans (hC.block b' hb')
     · exact hC.os
     · exact hC.tape
     · exact hC.output
     · simp [go_sem, k1]
     · exact own_far own2 _ _ (by show w.heap.size < W.heap.size; omega)
    ·
     intro vals x hF
     simp only [facts, zD, zE, Fact.put, Fact.of, and_true] at hF
     obtain ⟨t1, t2, t3, t4, t5, t6, t7, A9, c9, t8, t9⟩ := hF
     simp only [putsD, Act.put, zA, zB, zC]
     have t4c : ∀ b' o, b' < W.heap.size → b' ≠ w.heap.size → x.cell? ⟨b', o, none⟩ = W.cell? ⟨b', o, none⟩ := fun b' o hb' hne => World.cell?_of_block (t4 b' hb' hne)
     have t4f : ∀ b' o, b' < W.heap.size → b' ≠ w.heap.size → x.frozen? ⟨b', o, none⟩ = W.frozen? ⟨b', o, none⟩ := fun b' o hb' hne => World.frozen?_of_block (t4 b' hb' hne)
     have b3 : w.heap.size + 1 + 1 < W.heap.size := by omega
     have u5 := (t4c _ 0 b3 (by omega)).trans v5
     have u6 := (t4c _ 1 b3 (by omega)).trans v6
     have fu5 := (t4f _ 0 b3 (by omega)).trans f5
     have fu6 := (t4f _ 1 b3 (by omega)).trans f6
     have hnone := HN.out
     clear t4c t4f v0 v1 v2 v3 v4 v5 v6 f0 f5 f6 HN b1 b2 hA h
     have e1 : IntKind.i64.wrap (1 + n.ins) = 1 + n.ins := IntWalk.i64_in _ (by omega)
     have e2 : IntKind.i64.wrap (1 + n.ins + ((n.gs.length + 1 : Nat) : Int)) = 1 + n.ins + ((n.gs.length + 1 : Nat) : Int) := IntWalk.i64_in _ (by omega)
     have e3 : IntKind.i64.wrap (1 + n.ins + ((n.gs.length : Int) + 1)) = 1 + n.ins + ((n.gs.length : Int) + 1) := IntWalk.i64_in _ (by omega)
     have HNo := zH hnone
     clear hnone
     have hfar : ∀ (X : World) (o : Nat) (u : Value) (o' : Nat), (X.setCell ⟨w.heap.size + 1 + 1, o, none⟩ u).cell? ⟨w.heap.size, o', none⟩ = X.cell? ⟨w.heap.size, o', none⟩ := fun X o u o' =>
      World.cell?_of_block (Below.heap_setCell X _ u w.heap.size (by show w.heap.size ≠ w.heap.size + 1 + 1; omega))
     have hdrew : ∀ (X : World) (q : Addr), X.drew.cell? q = X.cell? q := fun _ _ => rfl
     go_wp2
     go_region_held3 (fun w' => w'.cell? ⟨w.heap.size, 0, none⟩ = some (.int .i64 n.ins) ∧ w'.cell? ⟨w.heap.size, 1, none⟩ = some (.slice A9 (n.gs.length + 1) c9)) (first | go_keep | (refine ⟨?_, ?_⟩ <;> (simp [go_sem, t2, t8]; done)) | (refine ⟨?_, ?_⟩ <;> (simp only [hdrew, hfar, t2, t8]; done))) (fail)
     go_wp2
     refine bodyPost_ret (v := .tuple #[.agg #[.int .i64 n.ins, .slice A9 (n.gs.length + 1) c9], .int .i64 (1 + n.ins + ((n.gs.length + 1 : Nat) : Int))]) (by simp [results, Tryz.results115, go_sem, u5, u6, fu5, fu6, e3]) rfl ?_
     have hnm : g ∉ n.gs := fun hm => by
      obtain ⟨i', hi', hg'⟩ := List.getElem_of_mem hm
      exact HNo.out i' hi' (by rw [List.getElem?_eq_getElem hi', hg'])
     have hp : put n g = (⟨n.ins, n.gs ++ [g]⟩, 2 + n.ins + n.gs.length) := by unfold put; rw [if_neg hnm, if_neg (by omega)]
     have hA9 : A9 ≠ none := by
      obtain ⟨g9, cap9, hv9, _⟩ := t9.form (by omega)
      intro e9; rw [e9] at hv9; injection hv9 with hv9; cases hv9
     have hcs : (n.gs ++ [g]).flatMap gcells = n.gs.flatMap gcells ++ gcells g := by simp
     have hlen : (n.gs ++ [g]).length = n.gs.length + 1 := by simp
     rw [hp]
     refine ⟨A9, c9, ?_, fun e9 => absurd e9 hA9, ?_, ?_⟩
     ·
      simp only [hlen]
      rw [show (1 + n.ins + ((n.gs.length + 1 : Nat) : Int)) = 2 + n.ins + n.gs.length by omega]
     ·
      rw [← hcs] at t9
      have hz9 : ∀ (p q : Addr) (u v : Value), ((x.setCell p u).setCell q v).heap.size = x.heap.size := fun p q u v => by simp [World.setCell]
      have h9 := own_far (own_far t9 ⟨w.heap.size + 1 + 1, 0, none⟩ (.int .i64 n.ins) (by show w.heap.size + 1 + 1 < W.heap.size; omega)) ⟨w.heap.size + 1 + 1, 1, none⟩ (.slice A9 (n.gs.length + 1) c9) (by show w.heap.size + 1 + 1 < W.heap.size; omega)
      refine ((sl_gates_of_own (F := fun b => w.heap.size ≤ b ∧ b < x.heap.size) h9 (fun g9 hg9 hl9 => ⟨by have := hW.size; omega, by rw [hz9] at hl9; exact hl9⟩)).1.drewN 1).mono (fun b9 hb9 => .inr ⟨hb9.1, ?_⟩)
      show b9 < ((x.setCell _ _).setCell _ _).heap.size
      rw [hz9]; exact hb9.2
     ·
      have hwx : Below w.heap.size w x := ⟨t5.trans hW.os, t6.trans hW.tape, t7.trans hW.output, Nat.le_trans hW.size t3, fun b' hb' => (t4 b' (by omega) (by omega)).trans (hW.block b' hb')⟩
      refine z01 (z06 (z06 (X := x) hwx ?_ _) ?_ _) 1 <;> (show w.heap.size ≤ w.heap.size + 1 + 1; omega)
end Go.Proofs.YtjghcaghigebjaaGreatDoor
namespace Go.Proofs.YtjghcaghigebjaaGreatDoor
open Go Go.RowKit Go.Maps
def gval (g : G) : Value := .agg #[.bool g.x, .int .i64 g.a, .int .i64 g.b]
def keyG (g : G) : Lit := .string (keyBytes [.bool g.x, .int .i64 g.a, .int .i64 g.b])
def okGi (g : G) : Prop := (-9223372036854775808 ≤ g.a ∧ g.a ≤ 9223372036854775807) ∧ (-9223372036854775808 ≤ g.b ∧ g.b ≤ 9223372036854775807)
theorem gate_law : WideMaps.KeyLaw Tryz.prog 88 := deep_law_laid (by kernel_rfl) (m := 4) (by omega) (of_decide_eq_true (by kernel_rfl)) (by kernel_rfl) (by kernel_rfl)
theorem gate_keyed : Keyed Tryz.prog 88 := Keyed.of_law gate_law
theorem gate_types : ∃ m, Tryz.prog.types.size = m + 1 := ⟨Tryz.prog.types.size - 1, by
 have h : Tryz.prog.types.size ≠ 0 := of_decide_eq_true (by kernel_rfl)
 omega⟩
theorem keyG_ok (g : G) (h : okGi g) : keyOf Tryz.prog 88 (gval g) = some (keyG g) := by
 have wa : (Lit.int .i64 g.a).wf = true := WalkArith.wf_i64 h.1
 have wb : (Lit.int .i64 g.b).wf = true := WalkArith.wf_i64 h.2
 have hkt : Tryz.prog.keyType 88 = true := by kernel_rfl
 have hc : Tryz.prog.cellsOf 88 = 3 := by kernel_rfl
 have hcb : Tryz.prog.cellsOf 4 = 1 := by kernel_rfl
 have hci : Tryz.prog.cellsOf 3 = 1 := by kernel_rfl
 obtain ⟨m, hm⟩ := gate_types
 unfold keyOf
 simp only [Tryz.underlying88]
 rw [if_pos (by simp [hkt, gval, Value.formed, Tryz.underlying88, hc]), hm]
 unfold Program.keyLits
 simp only [Tryz.underlying88, gval, Value.cells]
 simp [hc, hcb, hci, Program.keyLits, Tryz.underlying4, Tryz.underlying3, wa, wb, keyG]
theorem keyG_inj {g h : G} (hg : okGi g) (hh : okGi h) (e : keyG g = keyG h) : g = h := by
 have := gate_keyed.inj (keyG_ok g hg) (by rw [e]; exact keyG_ok h hh)
 cases g; cases h
 simp [gval] at this
 obtain ⟨rfl, rfl, rfl⟩ := this
 rfl
structure Known (ins : Int) (gs : List G) (D : DataW Unit) : Prop where
 isMap : IsMap D
 has : ∀ g, okGi g → Maps.has D (keyG g) = decide (g ∈ gs)
 at_ : ∀ g, okGi g → g ∈ gs → D.atKey (keyG g) (.lit (.int .i64 0)) = .lit (.int .i64 (2 + ins + gs.idxOf g))
theorem Known.nil (ins : Int) : Known ins [] (.map []) := ⟨isMap_empty, fun g _ => by simp [Maps.has], fun g _ h => by cases h⟩
theorem Known.put {ins : Int} {gs : List G} {D : DataW Unit} (h : Known ins gs D) (g : G) (hg : okGi g) (hn : g ∉ gs) (k : Int) (hk : k = 2 + ins + gs.length) :
  Known ins (gs ++ [g]) (D.put (keyG g) (.lit (.int .i64 k))) := by
 subst hk
 refine ⟨h.isMap.put _ _, fun x hx => ?_, fun x hx hm => ?_⟩
 ·
  by_cases e : x = g
  ·
   subst e
   rw [has_put_same h.isMap (gate_keyed.key (keyG_ok _ hg))]; simp
  ·
   have hne : keyG x ≠ keyG g := fun e' => e (keyG_inj hx hg e')
   rw [has_put_other hne, h.has x hx]
   simp [e]
 ·
  by_cases e : x = g
  ·
   subst e
   rw [atKey_put_same h.isMap (gate_keyed.key (keyG_ok _ hg)), List.idxOf_append, if_neg hn]
   simp
  ·
   have hne : keyG x ≠ keyG g := fun e' => e (keyG_inj hx hg e')
   have hm' : x ∈ gs := by simpa [e] using hm
   rw [atKey_put_other hne, h.at_ x hx hm', List.idxOf_append, if_pos hm']
def KnownAt (w : World) (b : Nat) (ins : Int) (gs : List G) : Prop :=
 ∃ D : DataW Unit, w.ownsMap Tryz.prog 88 (plainElem Tryz.prog 3) b gs.length D ∧ Known ins gs D
end Go.Proofs.YtjghcaghigebjaaGreatDoor
namespace Go.Proofs.YtjghcaghigebjaaGreatDoor
open Go Go.RowKit
def and1 (n : N) (a b : Int) : N × Int :=
 if a = -1 ∨ b = -1 ∨ a = -b then (n, -1) else if a = 1 ∨ a = b then (n, b) else if b = 1 then (n, a)
 else if b.natAbs < a.natAbs then put n ⟨false, b, a⟩ else put n ⟨false, a, b⟩
theorem same_end {F : Nat → Prop} {w : World} {n : N} {A : Option Addr} {c : Nat} (h : Lay.gate.Sl w F A n.gs) (hF : ∀ b, F b → b < w.heap.size) (hA : A = none → n.gs.length = 0) (k : Int) {w' : World} (hb : Below w.heap.size w w') :
  RetNetInt F w (n, k) (.returned (.tuple #[.agg #[.int .i64 n.ins, .slice A n.gs.length c], .int .i64 k])) w' := ⟨A, c, rfl, hA, (h.below hb hF).mono (fun _ => .inl), hb⟩
theorem res_cells {w w' : World} {v0 v1 : Value} {t : TypeId}
  (hb : Below ((w.alloc (.cells #[v0, v1] t)).alloc (.cells #[.int .i64 0, .slice none 0 0] t)).heap.size ((w.alloc (.cells #[v0, v1] t)).alloc (.cells #[.int .i64 0, .slice none 0 0] t)) w') :
  w'.cell? ⟨w.heap.size + 1, 0, none⟩ = some (.int .i64 0) ∧ w'.cell? ⟨w.heap.size + 1, 1, none⟩ = some (.slice none 0 0) ∧ w'.frozen? ⟨w.heap.size + 1, 0, none⟩ = false ∧ w'.frozen? ⟨w.heap.size + 1, 1, none⟩ = false := by
 have hlt : w.heap.size + 1 < ((w.alloc (.cells #[v0, v1] t)).alloc (.cells #[.int .i64 0, .slice none 0 0] t)).heap.size := by simp
 obtain ⟨hc, hf⟩ := bcell hb
 refine ⟨(hc _ _ hlt).trans ?_, (hc _ _ hlt).trans ?_, (hf _ _ hlt).trans ?_, (hf _ _ hlt).trans ?_⟩ <;> simp [go_sem]
theorem sl_two {F : Nat → Prop} {w w' : World} {v0 v1 u0 u1 : Value} {t : TypeId} {A : Option Addr} {xs : List G}
  (hW : Below w.heap.size w ((w.alloc (.cells #[v0, v1] t)).alloc (.cells #[.int .i64 0, .slice none 0 0] t))) (hF : ∀ b, F b → b < w.heap.size)
  (h : Lay.gate.Sl w' (fun b => F b ∨ (((w.alloc (.cells #[v0, v1] t)).alloc (.cells #[.int .i64 0, .slice none 0 0] t)).heap.size ≤ b ∧ b < w'.heap.size)) A xs)
  (hb : Below ((w.alloc (.cells #[v0, v1] t)).alloc (.cells #[.int .i64 0, .slice none 0 0] t)).heap.size ((w.alloc (.cells #[v0, v1] t)).alloc (.cells #[.int .i64 0, .slice none 0 0] t)) w') :
  Lay.gate.Sl ((w'.setCell ⟨w.heap.size + 1, 0, none⟩ u0).setCell ⟨w.heap.size + 1, 1, none⟩ u1) (fun b => F b ∨ (w.heap.size ≤ b ∧ b < ((w'.setCell ⟨w.heap.size + 1, 0, none⟩ u0).setCell ⟨w.heap.size + 1, 1, none⟩ u1).heap.size)) A xs := by
 have hsz : ((w.alloc (.cells #[v0, v1] t)).alloc (.cells #[.int .i64 0, .slice none 0 0] t)).heap.size = w.heap.size + 2 := by simp
 refine (h.keep fun b hb' => ?_).mono fun b hb' => ?_
 ·
  have hne : b ≠ w.heap.size + 1 := by
   rcases hb' with hb' | hb'
   · have := hF b hb'; omega
   · omega
  exact (Below.heap_setCell _ ⟨w.heap.size + 1, 1, none⟩ u1 b hne).trans (Below.heap_setCell _ ⟨w.heap.size + 1, 0, none⟩ u0 b hne)
 ·
  rcases hb' with hb' | hb'
  · exact .inl hb'
  ·
   refine .inr ⟨by omega, ?_⟩
   simp [World.setCell]; omega
set_option maxHeartbeats 1000000 in
theorem l6And_any (F : Nat → Prop) (A : Option Addr) (c : Nat) (n : N) (a b : Int) (w : World) (h : Lay.gate.Sl w F A n.gs) (hF : ∀ b, F b → b < w.heap.size) (hn : n.gs.length ≤ 1048576) (hA : A = none → n.gs.length = 0) (h0 : 0 ≤ n.ins) (h1 : n.ins ≤ 1000000)
  (ha : -2000000000 ≤ a ∧ a ≤ 2000000000) (hb : -2000000000 ≤ b ∧ b ≤ 2000000000) :
  Calls Tryz.prog 66 #[.agg #[.int .i64 n.ins, .slice A n.gs.length c], .int .i64 a, .int .i64 b] w (RetNetInt F w (and1 n a b)) := by
 have eb : IntKind.i64.wrap (-b) = -b := IntWalk.i64_in _ (by omega)
 have hW : Below w.heap.size w ((w.alloc (.cells #[.int .i64 n.ins, .slice A n.gs.length c] 29)).alloc (.cells #[.int .i64 0, .slice none 0 0] 29)) := ((Below.refl _ _).alloc (Nat.le_refl _) _).alloc (by simp) _
 by_cases c1 : a = -1 ∨ b = -1 ∨ a = -b
 ·
  have hr : and1 n a b = (n, -1) := by unfold and1; rw [if_pos c1]
  rw [hr]
  have t : (a == -1 || (b == -1 || a == -b)) = true := by simp; omega
  cases t1 : (a == -1) <;> cases t2 : (b == -1) <;> cases t3 : (a == -b) <;> simp [t1, t2, t3] at t
  all_goals clear c1 t hr
  all_goals
   go_enter Tryz.func66, Tryz.ntmps66
   go_wp2_with fail
   refine bodyPost_ret (v := .tuple #[.agg #[.int .i64 n.ins, .slice A n.gs.length c], .int .i64 (-1)]) (by simp [results, Tryz.results66, go_sem]) rfl (same_end h hF hA (-1) ?_)
   exact ((Below.refl _ _).alloc (Nat.le_refl _) _).alloc (by simp) _
 have t1 : (a == -1) = false := by simp; omega
 have t2 : (b == -1) = false := by simp; omega
 have t3 : (a == -b) = false := by simp; omega
 by_cases c2 : a = 1 ∨ a = b
 ·
  have hr : and1 n a b = (n, b) := by unfold and1; rw [if_neg c1, if_pos c2]
  rw [hr]
  have t : (a == 1 || a == b) = true := by simp; omega
  cases t4 : (a == 1) <;> cases t5 : (a == b) <;> simp [t4, t5] at t
  all_goals clear c1 c2 t hr
  all_goals
   go_enter Tryz.func66, Tryz.ntmps66
   go_wp2_with fail
   refine bodyPost_ret (v := .tuple #[.agg #[.int .i64 n.ins, .slice A n.gs.length c], .int .i64 b]) (by simp [results, Tryz.results66, go_sem]) rfl (same_end h hF hA b ?_)
   exact ((Below.refl _ _).alloc (Nat.le_refl _) _).alloc (by simp) _
 have t4 : (a == 1) = false := by simp; omega
 have t5 : (a == b) = false := by simp; omega
 by_cases c3 : b = 1
 ·
  have hr : and1 n a b = (n, a) := by unfold and1; rw [if_neg c1, if_neg c2, if_pos c3]
  rw [hr]
  have t6 : (b == 1) = true := by simp; omega
  clear c1 c2 c3 hr
  all_goals
   go_enter Tryz.func66, Tryz.ntmps66
   go_wp2_with fail
   refine bodyPost_ret (v := .tuple #[.agg #[.int .i64 n.ins, .slice A n.gs.length c], .int .i64 a]) (by simp [results, Tryz.results66, go_sem]) rfl (same_end h hF hA a ?_)
   exact ((Below.refl _ _).alloc (Nat.le_refl _) _).alloc (by simp) _
 have t6 : (b == 1) = false := by simp; omega
 by_cases c4 : b.natAbs < a.natAbs
 ·
  have hr : and1 n a b = put n ⟨false, b, a⟩ := by unfold and1; rw [if_neg c1, if_neg c2, if_neg c3, if_pos c4]
  rw [hr]
  clear hr c1 c2 c3
  go_enter Tryz.func66, Tryz.ntmps66
  go_wp2_with (first | (go_at_call 85; refine (l4Abs_any _ _ (by omega) (by omega)).mono ?_; rintro e w' ⟨rfl, rfl⟩) | fail)
  refine (l6Put_any F A c n ⟨false, b, a⟩ _ (h.below hW hF) (fun b' hb' => Nat.lt_of_lt_of_le (hF b' hb') hW.size) hn hA h0 h1).mono ?_
  rintro e w' ⟨A', c', rfl, hA', h', hb'⟩
  generalize put n ⟨false, b, a⟩ = r at *
  obtain ⟨k5, k6, kf5, kf6⟩ := res_cells hb'
  go_wp2_with fail
  refine bodyPost_ret (v := .tuple #[.agg #[.int .i64 r.1.ins, .slice A' r.1.gs.length c'], .int .i64 r.2]) (by simp [results, Tryz.results66, go_sem, k5, k6, kf5, kf6]) rfl ?_
  have hbel : Below w.heap.size w ((w'.setCell ⟨w.heap.size + 1, 0, none⟩ (.int .i64 r.1.ins)).setCell ⟨w.heap.size + 1, 1, none⟩ (.slice A' r.1.gs.length c')) := by
   refine z06 (z06 (bthen hW hb') ?_ _) ?_ _ <;> (show w.heap.size ≤ w.heap.size + 1; omega)
  exact ⟨A', c', rfl, hA', sl_two hW hF h' hb', hbel⟩
 ·
  have hr : and1 n a b = put n ⟨false, a, b⟩ := by unfold and1; rw [if_neg c1, if_neg c2, if_neg c3, if_neg c4]
  rw [hr]
  clear hr c1 c2 c3
  go_enter Tryz.func66, Tryz.ntmps66
  go_wp2_with (first | (go_at_call 85; refine (l4Abs_any _ _ (by omega) (by omega)).mono ?_; rintro e w' ⟨rfl, rfl⟩) | fail)
  refine (l6Put_any F A c n ⟨false, a, b⟩ _ (h.below hW hF) (fun b' hb' => Nat.lt_of_lt_of_le (hF b' hb') hW.size) hn hA h0 h1).mono ?_
  rintro e w' ⟨A', c', rfl, hA', h', hb'⟩
  generalize put n ⟨false, a, b⟩ = r at *
  obtain ⟨k5, k6, kf5, kf6⟩ := res_cells hb'
  go_wp2_with fail
  refine bodyPost_ret (v := .tuple #[.agg #[.int .i64 r.1.ins, .slice A' r.1.gs.length c'], .int .i64 r.2]) (by simp [results, Tryz.results66, go_sem, k5, k6, kf5, kf6]) rfl ?_
  have hbel : Below w.heap.size w ((w'.setCell ⟨w.heap.size + 1, 0, none⟩ (.int .i64 r.1.ins)).setCell ⟨w.heap.size + 1, 1, none⟩ (.slice A' r.1.gs.length c')) := by
   refine z06 (z06 (bthen hW hb') ?_ _) ?_ _ <;> (show w.heap.size ≤ w.heap.size + 1; omega)
  exact ⟨A', c', rfl, hA', sl_two hW hF h' hb', hbel⟩
def sgn (a : Int) : Int := if a < 0 then -1 else 1
def xor1 (n : N) (a b : Int) : N × Int :=
 if a = 1 ∨ a = -1 then (n, -a * b) else if b = 1 ∨ b = -1 then (n, -b * a) else if a = b then (n, -1) else if a = -b then (n, 1)
 else
  let r := put n (if b.natAbs < a.natAbs then ⟨true, b.natAbs, a.natAbs⟩ else ⟨true, a.natAbs, b.natAbs⟩)
  (r.1, sgn a * sgn b * r.2)
theorem put_range (n : N) (g : G) (hn : n.gs.length ≤ 1048576) (h0 : 0 ≤ n.ins) (h1 : n.ins ≤ 1000000) : 0 ≤ (put n g).2 ∧ (put n g).2 ≤ 3000000 := by
 unfold put
 split
 ·
  rename_i hm
  have := List.idxOf_lt_length_of_mem hm
  show 0 ≤ 2 + n.ins + ((n.gs.idxOf g : Nat) : Int) ∧ 2 + n.ins + ((n.gs.idxOf g : Nat) : Int) ≤ 3000000
  omega
 ·
  split
  · exact ⟨by decide, by decide⟩
  ·
   show 0 ≤ 2 + n.ins + (n.gs.length : Int) ∧ 2 + n.ins + (n.gs.length : Int) ≤ 3000000
   omega
theorem res_store {w' : World} {S : Nat} {v0 v1 u0 u1 : Value} {o : Obj} (k5 : w'.cell? ⟨S, 0, none⟩ = some v0) (k6 : w'.cell? ⟨S, 1, none⟩ = some v1) (hlt : S < w'.heap.size) :
  (((w'.setCell ⟨S, 0, none⟩ u0).setCell ⟨S, 1, none⟩ u1).alloc o).cell? ⟨S, 0, none⟩ = some u0 ∧ (((w'.setCell ⟨S, 0, none⟩ u0).setCell ⟨S, 1, none⟩ u1).alloc o).cell? ⟨S, 1, none⟩ = some u1 := by
 have hq : Below ((w'.setCell ⟨S, 0, none⟩ u0).setCell ⟨S, 1, none⟩ u1).heap.size ((w'.setCell ⟨S, 0, none⟩ u0).setCell ⟨S, 1, none⟩ u1) (((w'.setCell ⟨S, 0, none⟩ u0).setCell ⟨S, 1, none⟩ u1).alloc o) := (Below.refl _ _).alloc (Nat.le_refl _) _
 have hz : S < ((w'.setCell ⟨S, 0, none⟩ u0).setCell ⟨S, 1, none⟩ u1).heap.size := by simp [World.setCell]; exact hlt
 obtain ⟨hc, _⟩ := bcell hq
 exact ⟨(hc _ _ hz).trans (by simp [go_sem, k5]), (hc _ _ hz).trans (by simp [go_sem, k5, k6])⟩
theorem xor_end {F : Nat → Prop} {w w' : World} {v0 v1 : Value} {t t' : TypeId} {A : Option Addr} {c : Nat} {r : N} {k : Int} {cs : Array Value}
  (hW : Below w.heap.size w ((w.alloc (.cells #[v0, v1] t)).alloc (.cells #[.int .i64 0, .slice none 0 0] t))) (hF : ∀ b, F b → b < w.heap.size) (hA : A = none → r.gs.length = 0)
  (h : Lay.gate.Sl w' (fun b => F b ∨ (((w.alloc (.cells #[v0, v1] t)).alloc (.cells #[.int .i64 0, .slice none 0 0] t)).heap.size ≤ b ∧ b < w'.heap.size)) A r.gs)
  (hb : Below ((w.alloc (.cells #[v0, v1] t)).alloc (.cells #[.int .i64 0, .slice none 0 0] t)).heap.size ((w.alloc (.cells #[v0, v1] t)).alloc (.cells #[.int .i64 0, .slice none 0 0] t)) w') (u0 : Value) :
  RetNetInt F w (r, k) (.returned (.tuple #[.agg #[.int .i64 r.ins, .slice A r.gs.length c], .int .i64 k])) (((w'.setCell ⟨w.heap.size + 1, 0, none⟩ u0).setCell ⟨w.heap.size + 1, 1, none⟩ (.slice A r.gs.length c)).alloc (.cells cs t')) := by
 have h2 := sl_two (u0 := u0) (u1 := .slice A r.gs.length c) hW hF h hb
 have hbel : Below w.heap.size w ((w'.setCell ⟨w.heap.size + 1, 0, none⟩ u0).setCell ⟨w.heap.size + 1, 1, none⟩ (.slice A r.gs.length c)) := by
  refine z06 (z06 (bthen hW hb) ?_ _) ?_ _ <;> (show w.heap.size ≤ w.heap.size + 1; omega)
 generalize ((w'.setCell ⟨w.heap.size + 1, 0, none⟩ u0).setCell ⟨w.heap.size + 1, 1, none⟩ (.slice A r.gs.length c)) = X at *
 have hq : Below X.heap.size X (X.alloc (.cells cs t')) := (Below.refl _ _).alloc (Nat.le_refl _) _
 refine ⟨A, c, rfl, hA, (h2.below hq ?_).mono ?_, bthen hbel hq⟩
 ·
  rintro b (hb' | hb')
  · exact Nat.lt_of_lt_of_le (hF b hb') hbel.size
  · exact hb'.2
 ·
  rintro b (hb' | hb')
  · exact .inl hb'
  · exact .inr ⟨hb'.1, Nat.lt_of_lt_of_le hb'.2 hq.size⟩
set_option maxHeartbeats 2000000 in
theorem l6Xor_any (F : Nat → Prop) (A : Option Addr) (c : Nat) (n : N) (a b : Int) (w : World) (h : Lay.gate.Sl w F A n.gs) (hF : ∀ b, F b → b < w.heap.size) (hn : n.gs.length ≤ 1048576) (hA : A = none → n.gs.length = 0) (h0 : 0 ≤ n.ins) (h1 : n.ins ≤ 1000000)
  (ha : -2000000000 ≤ a ∧ a ≤ 2000000000) (hb : -2000000000 ≤ b ∧ b ≤ 2000000000) :
  Calls Tryz.prog 65 #[.agg #[.int .i64 n.ins, .slice A n.gs.length c], .int .i64 a, .int .i64 b] w (RetNetInt F w (xor1 n a b)) := by
 have ea : IntKind.i64.wrap (-a) = -a := IntWalk.i64_in _ (by omega)
 have eb : IntKind.i64.wrap (-b) = -b := IntWalk.i64_in _ (by omega)
 by_cases c1 : a = 1 ∨ a = -1
 ·
  have hr : xor1 n a b = (n, -a * b) := by unfold xor1; rw [if_pos c1]
  rw [hr]
  rcases c1 with rfl | rfl
  ·
   have em : IntKind.i64.wrap (-1 * b) = -1 * b := IntWalk.i64_in _ (by omega)
   clear hr
   go_enter Tryz.func65, Tryz.ntmps65
   go_wp2_with fail
   refine bodyPost_ret (v := .tuple #[.agg #[.int .i64 n.ins, .slice A n.gs.length c], .int .i64 (-1 * b)]) (by simp [results, Tryz.results65, go_sem]) rfl (same_end h hF hA (-1 * b) ?_)
   exact ((Below.refl _ _).alloc (Nat.le_refl _) _).alloc (by simp) _
  ·
   have em : IntKind.i64.wrap (1 * b) = 1 * b := IntWalk.i64_in _ (by omega)
   clear hr
   go_enter Tryz.func65, Tryz.ntmps65
   go_wp2_with fail
   refine bodyPost_ret (v := .tuple #[.agg #[.int .i64 n.ins, .slice A n.gs.length c], .int .i64 (- -1 * b)]) (by simp [results, Tryz.results65, go_sem]) rfl (same_end h hF hA (- -1 * b) ?_)
   exact ((Below.refl _ _).alloc (Nat.le_refl _) _).alloc (by simp) _
 have t1 : (a == 1) = false := by simp; omega
 have t2 : (a == -1) = false := by simp; omega
 by_cases c2 : b = 1 ∨ b = -1
 ·
  have hr : xor1 n a b = (n, -b * a) := by unfold xor1; rw [if_neg c1, if_pos c2]
  rw [hr]
  clear c1
  rcases c2 with rfl | rfl
  ·
   have em : IntKind.i64.wrap (-1 * a) = -1 * a := IntWalk.i64_in _ (by omega)
   clear hr
   go_enter Tryz.func65, Tryz.ntmps65
   go_wp2_with fail
   refine bodyPost_ret (v := .tuple #[.agg #[.int .i64 n.ins, .slice A n.gs.length c], .int .i64 (-1 * a)]) (by simp [results, Tryz.results65, go_sem]) rfl (same_end h hF hA (-1 * a) ?_)
   exact ((Below.refl _ _).alloc (Nat.le_refl _) _).alloc (by simp) _
  ·
   have em : IntKind.i64.wrap (1 * a) = 1 * a := IntWalk.i64_in _ (by omega)
   clear hr
   go_enter Tryz.func65, Tryz.ntmps65
   go_wp2_with fail
   refine bodyPost_ret (v := .tuple #[.agg #[.int .i64 n.ins, .slice A n.gs.length c], .int .i64 (- -1 * a)]) (by simp [results, Tryz.results65, go_sem]) rfl (same_end h hF hA (- -1 * a) ?_)
   exact ((Below.refl _ _).alloc (Nat.le_refl _) _).alloc (by simp) _
 have t3 : (b == 1) = false := by simp; omega
 have t4 : (b == -1) = false := by simp; omega
 by_cases c3 : a = b
 ·
  have hr : xor1 n a b = (n, -1) := by unfold xor1; rw [if_neg c1, if_neg c2, if_pos c3]
  rw [hr]
  have t5 : (a == b) = true := by simp [c3]
  clear c1 c2 c3 hr
  ·
   skip
   go_enter Tryz.func65, Tryz.ntmps65
   go_wp2_with fail
   refine bodyPost_ret (v := .tuple #[.agg #[.int .i64 n.ins, .slice A n.gs.length c], .int .i64 (-1)]) (by simp [results, Tryz.results65, go_sem]) rfl (same_end h hF hA (-1) ?_)
   exact ((Below.refl _ _).alloc (Nat.le_refl _) _).alloc (by simp) _
 have t5 : (a == b) = false := by simp [c3]
 by_cases c4 : a = -b
 ·
  have hr : xor1 n a b = (n, 1) := by unfold xor1; rw [if_neg c1, if_neg c2, if_neg c3, if_pos c4]
  rw [hr]
  have t6 : (a == -b) = true := by simp [c4]
  clear c1 c2 c3 c4 hr
  ·
   skip
   go_enter Tryz.func65, Tryz.ntmps65
   go_wp2_with fail
   refine bodyPost_ret (v := .tuple #[.agg #[.int .i64 n.ins, .slice A n.gs.length c], .int .i64 1]) (by simp [results, Tryz.results65, go_sem]) rfl (same_end h hF hA 1 ?_)
   exact ((Below.refl _ _).alloc (Nat.le_refl _) _).alloc (by simp) _
 have t6 : (a == -b) = false := by simp [c4]
 have hr : xor1 n a b = ((put n (if b.natAbs < a.natAbs then ⟨true, b.natAbs, a.natAbs⟩ else ⟨true, a.natAbs, b.natAbs⟩)).1, sgn a * sgn b * (put n (if b.natAbs < a.natAbs then ⟨true, b.natAbs, a.natAbs⟩ else ⟨true, a.natAbs, b.natAbs⟩)).2) := by
  unfold xor1; rw [if_neg c1, if_neg c2, if_neg c3, if_neg c4]
 rw [hr]
 clear c1 c2 c3 c4 hr
 have hW : Below w.heap.size w ((w.alloc (.cells #[.int .i64 n.ins, .slice A n.gs.length c] 29)).alloc (.cells #[.int .i64 0, .slice none 0 0] 29)) := ((Below.refl _ _).alloc (Nat.le_refl _) _).alloc (by simp) _
 by_cases sc : b.natAbs < a.natAbs
 ·
  rw [if_pos sc]
  by_cases sa : a < 0 <;> by_cases sb : b < 0
  ·
   have hs : sgn a * sgn b = 1 := by simp [sgn, sa, sb]
   rw [hs]
   go_enter Tryz.func65, Tryz.ntmps65
   go_wp2_with (first | (go_at_call 85; refine (l4Abs_any _ _ (by omega) (by omega)).mono ?_; rintro e w' ⟨rfl, rfl⟩) | fail)
   refine (l6Put_any F A c n ⟨true, b.natAbs, a.natAbs⟩ _ (h.below hW hF) (fun b' hb' => Nat.lt_of_lt_of_le (hF b' hb') hW.size) hn hA h0 h1).mono ?_
   rintro e w' ⟨A', c', rfl, hA', h', hb'⟩
   have hrg := put_range n ⟨true, b.natAbs, a.natAbs⟩ hn h0 h1
   generalize put n ⟨true, b.natAbs, a.natAbs⟩ = r at *
   have m1 : IntKind.i64.wrap (1 * r.2) = 1 * r.2 := IntWalk.i64_in _ (by omega)
   have m2 : IntKind.i64.wrap (-1 * r.2) = -1 * r.2 := IntWalk.i64_in _ (by omega)
   have m3 : IntKind.i64.wrap r.2 = r.2 := IntWalk.i64_in _ (by omega)
   have m4 : IntKind.i64.wrap (-r.2) = -r.2 := IntWalk.i64_in _ (by omega)
   obtain ⟨k5, k6, kf5, kf6⟩ := res_cells hb'
   have hlt : w.heap.size + 1 < w'.heap.size := by have := hb'.size; simp at this; omega
   have hne : w.heap.size + 1 ≠ w'.heap.size := by omega
   go_wp2_with fail
   obtain ⟨q0, q1⟩ := res_store (u0 := .int .i64 r.1.ins) (u1 := .slice A' r.1.gs.length c') (o := .cells #[.int .i64 r.1.ins, .slice A' r.1.gs.length c'] 29) k5 k6 hlt
   refine bodyPost_ret (v := .tuple #[.agg #[.int .i64 r.1.ins, .slice A' r.1.gs.length c'], .int .i64 r.2]) (by simp [results, Tryz.results65, go_sem, q0, q1]) rfl ?_
   rw [Int.one_mul]
   exact xor_end hW hF hA' h' hb' _
  ·
   have hs : sgn a * sgn b = -1 := by simp [sgn, sa, sb]
   rw [hs]
   go_enter Tryz.func65, Tryz.ntmps65
   go_wp2_with (first | (go_at_call 85; refine (l4Abs_any _ _ (by omega) (by omega)).mono ?_; rintro e w' ⟨rfl, rfl⟩) | fail)
   refine (l6Put_any F A c n ⟨true, b.natAbs, a.natAbs⟩ _ (h.below hW hF) (fun b' hb' => Nat.lt_of_lt_of_le (hF b' hb') hW.size) hn hA h0 h1).mono ?_
   rintro e w' ⟨A', c', rfl, hA', h', hb'⟩
   have hrg := put_range n ⟨true, b.natAbs, a.natAbs⟩ hn h0 h1
   generalize put n ⟨true, b.natAbs, a.natAbs⟩ = r at *
   have m1 : IntKind.i64.wrap (1 * r.2) = 1 * r.2 := IntWalk.i64_in _ (by omega)
   have m2 : IntKind.i64.wrap (-1 * r.2) = -1 * r.2 := IntWalk.i64_in _ (by omega)
   have m3 : IntKind.i64.wrap r.2 = r.2 := IntWalk.i64_in _ (by omega)
   have m4 : IntKind.i64.wrap (-r.2) = -r.2 := IntWalk.i64_in _ (by omega)
   obtain ⟨k5, k6, kf5, kf6⟩ := res_cells hb'
   have hlt : w.heap.size + 1 < w'.heap.size := by have := hb'.size; simp at this; omega
   have hne : w.heap.size + 1 ≠ w'.heap.size := by omega
   go_wp2_with fail
   obtain ⟨q0, q1⟩ := res_store (u0 := .int .i64 r.1.ins) (u1 := .slice A' r.1.gs.length c') (o := .cells #[.int .i64 r.1.ins, .slice A' r.1.gs.length c'] 29) k5 k6 hlt
   refine bodyPost_ret (v := .tuple #[.agg #[.int .i64 r.1.ins, .slice A' r.1.gs.length c'], .int .i64 (-r.2)]) (by simp [results, Tryz.results65, go_sem, q0, q1]) rfl ?_
   rw [show (-1 : Int) * r.2 = -r.2 by omega]
   exact xor_end hW hF hA' h' hb' _
  ·
   have hs : sgn a * sgn b = -1 := by simp [sgn, sa, sb]
   rw [hs]
   go_enter Tryz.func65, Tryz.ntmps65
   go_wp2_with (first | (go_at_call 85; refine (l4Abs_any _ _ (by omega) (by omega)).mono ?_; rintro e w' ⟨rfl, rfl⟩) | fail)
   refine (l6Put_any F A c n ⟨true, b.natAbs, a.natAbs⟩ _ (h.below hW hF) (fun b' hb' => Nat.lt_of_lt_of_le (hF b' hb') hW.size) hn hA h0 h1).mono ?_
   rintro e w' ⟨A', c', rfl, hA', h', hb'⟩
   have hrg := put_range n ⟨true, b.natAbs, a.natAbs⟩ hn h0 h1
   generalize put n ⟨true, b.natAbs, a.natAbs⟩ = r at *
   have m1 : IntKind.i64.wrap (1 * r.2) = 1 * r.2 := IntWalk.i64_in _ (by omega)
   have m2 : IntKind.i64.wrap (-1 * r.2) = -1 * r.2 := IntWalk.i64_in _ (by omega)
   have m3 : IntKind.i64.wrap r.2 = r.2 := IntWalk.i64_in _ (by omega)
   have m4 : IntKind.i64.wrap (-r.2) = -r.2 := IntWalk.i64_in _ (by omega)
   obtain ⟨k5, k6, kf5, kf6⟩ := res_cells hb'
   have hlt : w.heap.size + 1 < w'.heap.size := by have := hb'.size; simp at this; omega
   have hne : w.heap.size + 1 ≠ w'.heap.size := by omega
   go_wp2_with fail
   obtain ⟨q0, q1⟩ := res_store (u0 := .int .i64 r.1.ins) (u1 := .slice A' r.1.gs.length c') (o := .cells #[.int .i64 r.1.ins, .slice A' r.1.gs.length c'] 29) k5 k6 hlt
   refine bodyPost_ret (v := .tuple #[.agg #[.int .i64 r.1.ins, .slice A' r.1.gs.length c'], .int .i64 (-r.2)]) (by simp [results, Tryz.results65, go_sem, q0, q1]) rfl ?_
   rw [show (-1 : Int) * r.2 = -r.2 by omega]
   exact xor_end hW hF hA' h' hb' _
  ·
   have hs : sgn a * sgn b = 1 := by simp [sgn, sa, sb]
   rw [hs]
   go_enter Tryz.func65, Tryz.ntmps65
   go_wp2_with (first | (go_at_call 85; refine (l4Abs_any _ _ (by omega) (by omega)).mono ?_; rintro e w' ⟨rfl, rfl⟩) | fail)
   refine (l6Put_any F A c n ⟨true, b.natAbs, a.natAbs⟩ _ (h.below hW hF) (fun b' hb' => Nat.lt_of_lt_of_le (hF b' hb') hW.size) hn hA h0 h1).mono ?_
   rintro e w' ⟨A', c', rfl, hA', h', hb'⟩
   have hrg := put_range n ⟨true, b.natAbs, a.natAbs⟩ hn h0 h1
   generalize put n ⟨true, b.natAbs, a.natAbs⟩ = r at *
   have m1 : IntKind.i64.wrap (1 * r.2) = 1 * r.2 := IntWalk.i64_in _ (by omega)
   have m2 : IntKind.i64.wrap (-1 * r.2) = -1 * r.2 := IntWalk.i64_in _ (by omega)
   have m3 : IntKind.i64.wrap r.2 = r.2 := IntWalk.i64_in _ (by omega)
   have m4 : IntKind.i64.wrap (-r.2) = -r.2 := IntWalk.i64_in _ (by omega)
   obtain ⟨k5, k6, kf5, kf6⟩ := res_cells hb'
   have hlt : w.heap.size + 1 < w'.heap.size := by have := hb'.size; simp at this; omega
   have hne : w.heap.size + 1 ≠ w'.heap.size := by omega
   go_wp2_with fail
   obtain ⟨q0, q1⟩ := res_store (u0 := .int .i64 r.1.ins) (u1 := .slice A' r.1.gs.length c') (o := .cells #[.int .i64 r.1.ins, .slice A' r.1.gs.length c'] 29) k5 k6 hlt
   refine bodyPost_ret (v := .tuple #[.agg #[.int .i64 r.1.ins, .slice A' r.1.gs.length c'], .int .i64 r.2]) (by simp [results, Tryz.results65, go_sem, q0, q1]) rfl ?_
   rw [Int.one_mul]
   exact xor_end hW hF hA' h' hb' _
 ·
  rw [if_neg sc]
  by_cases sa : a < 0 <;> by_cases sb : b < 0
  ·
   have hs : sgn a * sgn b = 1 := by simp [sgn, sa, sb]
   rw [hs]
   go_enter Tryz.func65, Tryz.ntmps65
   go_wp2_with (first | (go_at_call 85; refine (l4Abs_any _ _ (by omega) (by omega)).mono ?_; rintro e w' ⟨rfl, rfl⟩) | fail)
   refine (l6Put_any F A c n ⟨true, a.natAbs, b.natAbs⟩ _ (h.below hW hF) (fun b' hb' => Nat.lt_of_lt_of_le (hF b' hb') hW.size) hn hA h0 h1).mono ?_
   rintro e w' ⟨A', c', rfl, hA', h', hb'⟩
   have hrg := put_range n ⟨true, a.natAbs, b.natAbs⟩ hn h0 h1
   generalize put n ⟨true, a.natAbs, b.natAbs⟩ = r at *
   have m1 : IntKind.i64.wrap (1 * r.2) = 1 * r.2 := IntWalk.i64_in _ (by omega)
   have m2 : IntKind.i64.wrap (-1 * r.2) = -1 * r.2 := IntWalk.i64_in _ (by omega)
   have m3 : IntKind.i64.wrap r.2 = r.2 := IntWalk.i64_in _ (by omega)
   have m4 : IntKind.i64.wrap (-r.2) = -r.2 := IntWalk.i64_in _ (by omega)
   obtain ⟨k5, k6, kf5, kf6⟩ := res_cells hb'
   have hlt : w.heap.size + 1 < w'.heap.size := by have := hb'.size; simp at this; omega
   have hne : w.heap.size + 1 ≠ w'.heap.size := by omega
   go_wp2_with fail
   obtain ⟨q0, q1⟩ := res_store (u0 := .int .i64 r.1.ins) (u1 := .slice A' r.1.gs.length c') (o := .cells #[.int .i64 r.1.ins, .slice A' r.1.gs.length c'] 29) k5 k6 hlt
   refine bodyPost_ret (v := .tuple #[.agg #[.int .i64 r.1.ins, .slice A' r.1.gs.length c'], .int .i64 r.2]) (by simp [results, Tryz.results65, go_sem, q0, q1]) rfl ?_
   rw [Int.one_mul]
   exact xor_end hW hF hA' h' hb' _
  ·
   have hs : sgn a * sgn b = -1 := by simp [sgn, sa, sb]
   rw [hs]
   go_enter Tryz.func65, Tryz.ntmps65
   go_wp2_with (first | (go_at_call 85; refine (l4Abs_any _ _ (by omega) (by omega)).mono ?_; rintro e w' ⟨rfl, rfl⟩) | fail)
   refine (l6Put_any F A c n ⟨true, a.natAbs, b.natAbs⟩ _ (h.below hW hF) (fun b' hb' => Nat.lt_of_lt_of_le (hF b' hb') hW.size) hn hA h0 h1).mono ?_
   rintro e w' ⟨A', c', rfl, hA', h', hb'⟩
   have hrg := put_range n ⟨true, a.natAbs, b.natAbs⟩ hn h0 h1
   generalize put n ⟨true, a.natAbs, b.natAbs⟩ = r at *
   have m1 : IntKind.i64.wrap (1 * r.2) = 1 * r.2 := IntWalk.i64_in _ (by omega)
   have m2 : IntKind.i64.wrap (-1 * r.2) = -1 * r.2 := IntWalk.i64_in _ (by omega)
   have m3 : IntKind.i64.wrap r.2 = r.2 := IntWalk.i64_in _ (by omega)
   have m4 : IntKind.i64.wrap (-r.2) = -r.2 := IntWalk.i64_in _ (by omega)
   obtain ⟨k5, k6, kf5, kf6⟩ := res_cells hb'
   have hlt : w.heap.size + 1 < w'.heap.size := by have := hb'.size; simp at this; omega
   have hne : w.heap.size + 1 ≠ w'.heap.size := by omega
   go_wp2_with fail
   obtain ⟨q0, q1⟩ := res_store (u0 := .int .i64 r.1.ins) (u1 := .slice A' r.1.gs.length c') (o := .cells #[.int .i64 r.1.ins, .slice A' r.1.gs.length c'] 29) k5 k6 hlt
   refine bodyPost_ret (v := .tuple #[.agg #[.int .i64 r.1.ins, .slice A' r.1.gs.length c'], .int .i64 (-r.2)]) (by simp [results, Tryz.results65, go_sem, q0, q1]) rfl ?_
   rw [show (-1 : Int) * r.2 = -r.2 by omega]
   exact xor_end hW hF hA' h' hb' _
  ·
   have hs : sgn a * sgn b = -1 := by simp [sgn, sa, sb]
   rw [hs]
   go_enter Tryz.func65, Tryz.ntmps65
   go_wp2_with (first | (go_at_call 85; refine (l4Abs_any _ _ (by omega) (by omega)).mono ?_; rintro e w' ⟨rfl, rfl⟩) | fail)
   refine (l6Put_any F A c n ⟨true, a.natAbs, b.natAbs⟩ _ (h.below hW hF) (fun b' hb' => Nat.lt_of_lt_of_le (hF b' hb') hW.size) hn hA h0 h1).mono ?_
   rintro e w' ⟨A', c', rfl, hA', h', hb'⟩
   have hrg := put_range n ⟨true, a.natAbs, b.natAbs⟩ hn h0 h1
   generalize put n ⟨true, a.natAbs, b.natAbs⟩ = r at *
   have m1 : IntKind.i64.wrap (1 * r.2) = 1 * r.2 := IntWalk.i64_in _ (by omega)
   have m2 : IntKind.i64.wrap (-1 * r.2) = -1 * r.2 := IntWalk.i64_in _ (by omega)
   have m3 : IntKind.i64.wrap r.2 = r.2 := IntWalk.i64_in _ (by omega)
   have m4 : IntKind.i64.wrap (-r.2) = -r.2 := IntWalk.i64_in _ (by omega)
   obtain ⟨k5, k6, kf5, kf6⟩ := res_cells hb'
   have hlt : w.heap.size + 1 < w'.heap.size := by have := hb'.size; simp at this; omega
   have hne : w.heap.size + 1 ≠ w'.heap.size := by omega
   go_wp2_with fail
   obtain ⟨q0, q1⟩ := res_store (u0 := .int .i64 r.1.ins) (u1 := .slice A' r.1.gs.length c') (o := .cells #[.int .i64 r.1.ins, .slice A' r.1.gs.length c'] 29) k5 k6 hlt
   refine bodyPost_ret (v := .tuple #[.agg #[.int .i64 r.1.ins, .slice A' r.1.gs.length c'], .int .i64 (-r.2)]) (by simp [results, Tryz.results65, go_sem, q0, q1]) rfl ?_
   rw [show (-1 : Int) * r.2 = -r.2 by omega]
   exact xor_end hW hF hA' h' hb' _
  ·
   have hs : sgn a * sgn b = 1 := by simp [sgn, sa, sb]
   rw [hs]
   go_enter Tryz.func65, Tryz.ntmps65
   go_wp2_with (first | (go_at_call 85; refine (l4Abs_any _ _ (by omega) (by omega)).mono ?_; rintro e w' ⟨rfl, rfl⟩) | fail)
   refine (l6Put_any F A c n ⟨true, a.natAbs, b.natAbs⟩ _ (h.below hW hF) (fun b' hb' => Nat.lt_of_lt_of_le (hF b' hb') hW.size) hn hA h0 h1).mono ?_
   rintro e w' ⟨A', c', rfl, hA', h', hb'⟩
   have hrg := put_range n ⟨true, a.natAbs, b.natAbs⟩ hn h0 h1
   generalize put n ⟨true, a.natAbs, b.natAbs⟩ = r at *
   have m1 : IntKind.i64.wrap (1 * r.2) = 1 * r.2 := IntWalk.i64_in _ (by omega)
   have m2 : IntKind.i64.wrap (-1 * r.2) = -1 * r.2 := IntWalk.i64_in _ (by omega)
   have m3 : IntKind.i64.wrap r.2 = r.2 := IntWalk.i64_in _ (by omega)
   have m4 : IntKind.i64.wrap (-r.2) = -r.2 := IntWalk.i64_in _ (by omega)
   obtain ⟨k5, k6, kf5, kf6⟩ := res_cells hb'
   have hlt : w.heap.size + 1 < w'.heap.size := by have := hb'.size; simp at this; omega
   have hne : w.heap.size + 1 ≠ w'.heap.size := by omega
   go_wp2_with fail
   obtain ⟨q0, q1⟩ := res_store (u0 := .int .i64 r.1.ins) (u1 := .slice A' r.1.gs.length c') (o := .cells #[.int .i64 r.1.ins, .slice A' r.1.gs.length c'] 29) k5 k6 hlt
   refine bodyPost_ret (v := .tuple #[.agg #[.int .i64 r.1.ins, .slice A' r.1.gs.length c'], .int .i64 r.2]) (by simp [results, Tryz.results65, go_sem, q0, q1]) rfl ?_
   rw [Int.one_mul]
   exact xor_end hW hF hA' h' hb' _
end Go.Proofs.YtjghcaghigebjaaGreatDoor
namespace Go.Proofs.YtjghcaghigebjaaGreatDoor
open Go Go.RowKit Go.Maps
theorem zero_int (w : World) : (zeroValue 3).run Tryz.prog w = .ok (.int .i64 0) w := by kernel_rfl
theorem nodes_any (A : Option Addr) (c n : Nat) (ins k : Int) (w : World) (h0 : -1000000 ≤ ins) (h1 : ins ≤ 1000000) (k0 : 0 ≤ k) (k1 : k ≤ 1048576) :
  Calls Tryz.prog 119 #[.agg #[.int .i64 ins, .slice A n c], .int .i64 k] w fun e w' => e = .returned (.int .i64 (1 + ins + k)) ∧ Below w.heap.size w w' := by
 go_enter Tryz.func119, Tryz.ntmps119
 go_wp2
 go_ret
 exact ⟨rfl, (Below.refl _ _).alloc (Nat.le_refl _) _⟩
theorem turned_any (s : Int) (q : Bool) (w : World) (h0 : -9223372036854775808 < s) (h1 : s ≤ 9223372036854775807) :
  Calls Tryz.prog 141 #[.int .i64 s, .bool q] w fun e w' => e = .returned (.int .i64 (if q then -s else s)) ∧ w = w' := by
 cases q
 all_goals
  go_enter Tryz.func141, Tryz.ntmps141
  go_wp2
  go_ret
  exact ⟨rfl, rfl⟩
def Circ (lo : Nat) (w : World) (r : Nat) (n : N) (ks : List G) : Prop :=
 ∃ A c b, w.heap[r]? = some (.cells #[.int .i64 n.ins, .slice A n.gs.length c, .map (some b)] 119 (0, 0)) ∧ lo ≤ r ∧ lo ≤ b ∧ OwnGs w lo (.slice A n.gs.length c) n.gs ∧ KnownAt w b n.ins ks
theorem KnownAt.keep {w w' : World} {b : Nat} {ins : Int} {gs : List G} (h : KnownAt w b ins gs) (hk : w'.heap[b]? = w.heap[b]?) : KnownAt w' b ins gs := by
 obtain ⟨D, ⟨es, clock, hb, hr⟩, hD⟩ := h
 exact ⟨D, ⟨es, clock, hk.trans hb, hr⟩, hD⟩
theorem KnownAt.lt {w : World} {b : Nat} {ins : Int} {gs : List G} (h : KnownAt w b ins gs) : b < w.heap.size := h.choose_spec.1.lt
theorem Circ.up {lo : Nat} {w w' : World} {r : Nat} {n : N} {ks : List G} (h : Circ lo w r n ks) (hb : Below w.heap.size w w') : Circ lo w' r n ks := by
 obtain ⟨A, c, b, h1, h2, h3, h4, h5⟩ := h
 exact ⟨A, c, b, (hb.block r (lt_of_block h1)).trans h1, h2, h3, h4.up hb, h5.keep (hb.block b h5.lt)⟩
theorem Circ.lt {lo : Nat} {w : World} {r : Nat} {n : N} {ks : List G} (h : Circ lo w r n ks) : lo ≤ r ∧ r < w.heap.size := by
 obtain ⟨A, c, b, h1, h2, _⟩ := h
 exact ⟨h2, lt_of_block h1⟩
theorem KnownAt.look {w : World} {b : Nat} {ins : Int} {gs : List G} (h : KnownAt w b ins gs) (g : G) (hg : okGi g) (ok : Bool) :
  ∃ c : Int, (g ∈ gs → c = 2 + ins + gs.idxOf g) ∧ ∀ W : World, W.heap[b]? = w.heap[b]? → (Instr.lookup 117 (.map (some b)) (.agg #[.bool g.x, .int .i64 g.a, .int .i64 g.b]) ok).run Tryz.prog W = .ok (if ok then .tuple #[.int .i64 c, .bool (decide (g ∈ gs))] else .int .i64 c) W := by
 obtain ⟨D, hown, hD⟩ := h
 have hz := zero_int
 have hat : ∃ c : Int, D.atKey (keyG g) (.lit (.int .i64 0)) = .lit (.int .i64 c) := by
  obtain ⟨c, _, hc, _⟩ := hown.lookup_int gate_keyed Tryz.underlying117 Tryz.underlying3 (hz w) (keyG_ok g hg)
  exact ⟨c, hc⟩
 obtain ⟨c, hc⟩ := hat
 refine ⟨c, fun hm => ?_, fun W hW => ?_⟩
 ·
  have := hD.at_ g hg hm
  rw [hc] at this
  injection this with this
  injection this
 ·
  have hownW : W.ownsMap Tryz.prog 88 (plainElem Tryz.prog 3) b gs.length D := by
   obtain ⟨es, clock, hb, hr⟩ := hown
   exact ⟨es, clock, hW.trans hb, hr⟩
  cases ok
  ·
   obtain ⟨c', hrun, hc', _⟩ := hownW.lookup_int gate_keyed Tryz.underlying117 Tryz.underlying3 (hz W) (keyG_ok g hg)
   rw [hc] at hc'
   simp only [DataW.lit.injEq, Lit.int.injEq, true_and] at hc'
   rw [hc']
   exact hrun
  ·
   obtain ⟨v, ps, hrun, hv⟩ := hownW.look_ok gate_keyed Tryz.underlying117 (hz W) (plainElem_int (H := Unit) Tryz.underlying3 (by decide)) (keyG_ok g hg)
   rw [hc] at hv
   obtain ⟨c', rfl, hc', _⟩ := plainElem_int_inv Tryz.underlying3 hv
   simp only [Prod.mk.injEq] at hc'
   obtain ⟨hc', _⟩ := hc'
   simp only [DataW.lit.injEq, Lit.int.injEq, true_and] at hc'
   rw [hc']
   have hh : Maps.has D (keyG g) = decide (g ∈ gs) := hD.has g hg
   rw [← hh]
   exact hrun
theorem own_below_set {w : World} {lo r o : Nat} {u : Value} {A : Option Addr} {c : Nat} {xs : List G} (h : OwnGs w lo (.slice A xs.length c) xs) (hne : some r ≠ (Value.slice A xs.length c).ownBlock) : OwnGs (w.setCell ⟨r, o, none⟩ u) lo (.slice A xs.length c) xs :=
 h.kept (z02 (World.grownBy.refl _ _) o u) (.inr (fun e => hne e.symm))
def CK (o : Obj) : Prop := (∃ cs fr, o = .cells cs 119 fr) ∨ (∃ cs fr, o = .cells cs 88 fr) ∨ ∃ es ck, o = .map es ck
structure BelK (lo : Nat) (w w' : World) : Prop where
 bel : Below lo w w'
 kd : ∀ (i : Nat) (o : Obj), w.heap[i]? = some o → ¬ CK o → w'.heap[i]? = some o
theorem BelK.refl (lo : Nat) (w : World) : BelK lo w w := ⟨Below.refl _ _, fun _ _ h _ => h⟩
theorem BelK.of {lo : Nat} {w w' : World} (h : Below w.heap.size w w') (hl : lo ≤ w.heap.size) : BelK lo w w' := ⟨h.mono hl, fun i _ hi _ => (h.block i (Array.getElem?_eq_some_iff.1 hi).1).trans hi⟩
theorem BelK.trans {lo : Nat} {a b c : World} (h : BelK lo a b) (k : BelK lo b c) : BelK lo a c := ⟨h.bel.trans k.bel, fun i o hi hc => k.kd i o (h.kd i o hi hc) hc⟩
theorem BelK.drewN {lo : Nat} {a b : World} (h : BelK lo a b) (n : Nat) : BelK lo a (b.drewN n) := ⟨z01 h.bel n, h.kd⟩
theorem BelK.grown {lo g : Nat} {a w w' : World} (h : BelK lo a w) (hg : w.grownBy w' (some g)) (hlo : lo ≤ w.heap.size) (hgl : lo ≤ g) (hk : ∃ o, w.heap[g]? = some o ∧ CK o) : BelK lo a w' :=
 ⟨h.bel.grown hg hlo (fun k e => by injection e with e; omega), fun i o hi hc => by
  have h1 := h.kd i o hi hc
  refine (hg.block i (Array.getElem?_eq_some_iff.1 h1).1 fun e => ?_).trans h1
  injection e with e
  obtain ⟨o', ho', hck⟩ := hk
  rw [← e, h1] at ho'
  injection ho' with ho'
  rw [ho'] at hc
  exact hc hck⟩
theorem own_ck {w : World} {lo : Nat} {A : Option Addr} {c g : Nat} {xs : List G} (h : OwnGs w lo (.slice A xs.length c) xs) (e : (Value.slice A xs.length c).ownBlock = some g) : ∃ o, w.heap[g]? = some o ∧ CK o := by
 rcases h.2 with ⟨e', _⟩ | ⟨g', cap, cur, e', _, hg, _⟩
 · rw [e'] at e; cases e
 ·
  rw [e'] at e
  injection e with e
  subst e
  exact ⟨_, hg, .inr (.inl ⟨_, _, rfl⟩)⟩
def RetGate (lo : Nat) (w : World) (r : Nat) (n : N) (g : G) (e : Ending) (w' : World) : Prop :=
 e = .returned (.int .i64 (put n g).2) ∧ BelK lo w w' ∧ ((put n g).2 ≠ 0 → Circ lo w' r (put n g).1 (put n g).1.gs)
def sortG (g : G) : G := if g.b.natAbs < g.a.natAbs then ⟨g.x, g.b, g.a⟩ else g
theorem wpList_append_gate {Q : Exit → Act → World → Prop} {ops : Array Oper} {rest : List Oper} {o : Oper} {a : Act} {w : World} {lo : Nat} {A : Option Addr} {c : Nat} {xs ys : List G} {g : G} {b : Nat} {fr : Nat × Nat} (hgd : o.guard = none) (s x : Operand)
  (ho : o.op = .call { callee := .builtin .append, args := #[s, x], argTypes := #[27, 27] }) (hs : a.eval s = .slice A xs.length c) (hx : a.eval x = .slice (some ⟨b, 0, none⟩) 1 1)
  (hown : OwnGs w lo (.slice A xs.length c) xs) (hb : w.heap[b]? = some (.cells #[.bool g.x, .int .i64 g.a, .int .i64 g.b] 88 fr)) (hn : xs.length ≤ 1048576) (hlo : lo ≤ w.heap.size) (hy : ys = xs ++ [g])
  (h : ∀ A' c' w', OwnGs w' lo (.slice A' ys.length c') ys → w.grownBy w' (Value.slice A xs.length c).ownBlock → wpList Tryz.prog ops Q rest (a.put o.dst (.slice A' ys.length c')) w') : wpList Tryz.prog ops Q (o :: rest) a w := by
 obtain ⟨i0, hi0, hz0, hz1, hz2⟩ := info_parts gate_info
 have hl : ys.length = xs.length + 1 := by rw [hy]; simp
 have hc : ys.flatMap gcells = xs.flatMap gcells ++ gcells g := by rw [hy]; simp
 refine wpList_append_src (P := Tryz.prog) w hgd s x 27 ho lo 88 i0 _ 3 24 Tryz.underlying27 hi0 hz0 hz1 hz2 (by rfl) (by omega) _ xs.length (xs.flatMap gcells) hs hown (some ⟨b, 0, none⟩) 1 1 (gcells g) hx (src_block hb rfl) (gcells_one1 g) ys.length hl.symm (by unfold maxLen; omega) (by omega) hlo (by simp) ?_
 intro A' c' w' h2 _ h3
 exact h A' c' w' (by unfold OwnGs; rw [hc]; exact h2) h3
theorem row_ne {w : World} {lo : Nat} {A : Option Addr} {c : Nat} {xs : List G} (h : OwnGs w lo (.slice A xs.length c) xs) (r : Nat) (o : Obj) (hr : w.heap[r]? = some o) (ho : ∀ cs fr, o ≠ .cells cs 88 fr) : some r ≠ (Value.slice A xs.length c).ownBlock := by
 rcases h.2 with ⟨e, _⟩ | ⟨g, cap, cur, e, _, hg, _⟩
 · rw [e]; intro h; cases h
 ·
  rw [e]
  intro h
  injection h with h
  subst h
  rw [hr] at hg
  injection hg with hg
  exact ho _ _ hg
def Fact.grow (lo : Nat) (W : World) (v0 : Value) (xs : List G) : Fact :=
 .of (fun v x => ∃ A c, v = .slice A xs.length c ∧ OwnGs x lo (.slice A xs.length c) xs ∧ W.heap.size ≤ x.heap.size ∧ (∀ b, b < W.heap.size → some b ≠ v0.ownBlock → x.heap[b]? = W.heap[b]?) ∧ x.os = W.os ∧ x.tape = W.tape ∧ x.output = W.output)
  fun _ x x' ⟨A, c, h1, h2, h3, h4, h5, h6, h7⟩ hb => ⟨A, c, h1, h2.up hb, Nat.le_trans h3 hb.size, fun b hlt hne => (hb.block b (by omega)).trans (h4 b hlt hne), hb.os.trans h5, hb.tape.trans h6, hb.output.trans h7⟩
set_option maxRecDepth 100000 in
set_option maxHeartbeats 4000000 in
def Fact.circ (lo : Nat) (W : World) (r S : Nat) (m : N) (ks : List G) : Fact :=
 .of (fun _ x => Circ lo x r m ks ∧ x.heap[S]? = W.heap[S]? ∧ S < x.heap.size ∧ BelK lo W x) fun _ x x' ⟨h1, h2, h3, h4⟩ hb =>
  ⟨h1.up hb, (hb.block S h3).trans h2, Nat.lt_of_lt_of_le h3 hb.size, h4.trans (.of hb (Nat.le_trans (Nat.le_of_lt (Nat.lt_of_le_of_lt h1.lt.1 h1.lt.2)) (Nat.le_refl _)))⟩
set_option maxRecDepth 100000 in
set_option maxHeartbeats 4000000 in
theorem gate_any (lo r : Nat) (n : N) (g : G) (w : World) (h : Circ lo w r n n.gs) (hn : n.gs.length ≤ 600) (h0 : 0 ≤ n.ins) (h1 : n.ins ≤ 8) (ha : -2000000000 ≤ g.a ∧ g.a ≤ 2000000000) (hb : -2000000000 ≤ g.b ∧ g.b ≤ 2000000000) :
  Calls Tryz.prog 140 #[.pointer (some ⟨r, 0, none⟩), .agg #[.bool g.x, .int .i64 g.a, .int .i64 g.b]] w (RetGate lo w r n (sortG g)) := by
 obtain ⟨gx, ga, gb⟩ := g
 obtain ⟨ha0, ha1⟩ := ha
 obtain ⟨hb0, hb1⟩ := hb
 dsimp only at ha0 ha1 hb0 hb1
 obtain ⟨A, c, b, hr, hrlo, hblo, hown, hkn⟩ := h
 have hrlt := lt_of_block hr
 have hblt := hkn.lt
 have hX : Below w.heap.size w (w.alloc (.cells #[.bool gx, .int .i64 ga, .int .i64 gb] 88)) := (Below.refl _ _).alloc (Nat.le_refl _) _
 have hXS : (w.alloc (.cells #[.bool gx, .int .i64 ga, .int .i64 gb] 88)).heap[w.heap.size]? = some (.cells #[.bool gx, .int .i64 ga, .int .i64 gb] 88 (0, 0)) := heap_alloc_new _ _
 have hneS : some w.heap.size ≠ (Value.slice A n.gs.length c).ownBlock := by
  intro e
  have := (hown.lt w.heap.size e.symm).2
  omega
 by_cases hs : gb.natAbs < ga.natAbs
 ·
  rw [show sortG ⟨gx, ga, gb⟩ = ⟨gx, gb, ga⟩ by unfold sortG; rw [if_pos hs]]
  go_enter Tryz.func140, Tryz.ntmps140
  go_wp2
  go_quiet ((go_at_call 113; with_reducible exact quiet_left (node_any _ _ (by omega) (by omega))))
  go_wp2
  have hW2 : Below w.heap.size w ((((w.alloc (.cells #[.bool gx, .int .i64 ga, .int .i64 gb] 88)).drewN nq).setCell ⟨w.heap.size, 1, none⟩ (.int .i64 gb)).setCell ⟨w.heap.size, 2, none⟩ (.int .i64 ga)) := z06 (z06 (z01 hX _) (Nat.le_refl _) _) (Nat.le_refl _) _
  have hS2 : ((((w.alloc (.cells #[.bool gx, .int .i64 ga, .int .i64 gb] 88)).drewN nq).setCell ⟨w.heap.size, 1, none⟩ (.int .i64 gb)).setCell ⟨w.heap.size, 2, none⟩ (.int .i64 ga)).heap[w.heap.size]? = some (.cells #[.bool gx, .int .i64 gb, .int .i64 ga] 88 (0, 0)) := by
   rw [z03 _ _ _ _ _ _ (z03 _ _ _ _ _ _ (show ((w.alloc (.cells #[.bool gx, .int .i64 ga, .int .i64 gb] 88)).drewN nq).heap[w.heap.size]? = _ from hXS))]
   rfl
  generalize ((((w.alloc (.cells #[.bool gx, .int .i64 ga, .int .i64 gb] 88)).drewN nq).setCell ⟨w.heap.size, 1, none⟩ (.int .i64 gb)).setCell ⟨w.heap.size, 2, none⟩ (.int .i64 ga)) = W2 at *
  have hokg : okGi ⟨gx, gb, ga⟩ := by unfold okGi; dsimp only; omega
  have hr2 := (hW2.block r hrlt).trans hr
  have hown2 := z07 hown hW2 (Nat.le_refl _)
  have hown2 : OwnGs W2 lo (.slice A n.gs.length c) n.gs := hown2
  have hkn2 := hkn.keep (hW2.block b hblt)
  have hlo2 : lo ≤ W2.heap.size := Nat.le_trans (Nat.le_trans hrlo (Nat.le_of_lt hrlt)) hW2.size
  have hBel : BelK lo w W2 := .of hW2 (Nat.le_trans hrlo (Nat.le_of_lt hrlt))
  have hSlt : w.heap.size < W2.heap.size := lt_of_block hS2
  obtain ⟨cc, hcc, hlook⟩ := hkn2.look ⟨gx, gb, ga⟩ hokg true
  have hl : ∀ m, (Instr.lookup 117 (.map (some b)) (.agg #[.bool gx, .int .i64 gb, .int .i64 ga]) true).run Tryz.prog (W2.drewN m) = .ok (.tuple #[.int .i64 cc, .bool (decide ((⟨gx, gb, ga⟩ : G) ∈ n.gs))]) (W2.drewN m) := fun m => hlook (W2.drewN m) rfl
  have z0 : W2.cell? ⟨r, 0, none⟩ = some (.int .i64 n.ins) := (z00 hr2 0).1
  have z1 : W2.cell? ⟨r, 1, none⟩ = some (.slice A n.gs.length c) := (z00 hr2 1).1
  have z2 : W2.cell? ⟨r, 2, none⟩ = some (.map (some b)) := (z00 hr2 2).1
  have y0 : W2.cell? ⟨w.heap.size, 0, none⟩ = some (.bool gx) := (z00 hS2 0).1
  have y1 : W2.cell? ⟨w.heap.size, 1, none⟩ = some (.int .i64 gb) := (z00 hS2 1).1
  have y2 : W2.cell? ⟨w.heap.size, 2, none⟩ = some (.int .i64 ga) := (z00 hS2 2).1
  have hr2H := zH hr2
  have hS2H := zH hS2
  clear hr hr2 hS2 hlook hXS hkn hs
  have hokv : okGi ⟨gx, gb, ga⟩ := hokg
  have HOK := zH hokv
  clear hokv
  generalize hg : (⟨gx, gb, ga⟩ : G) = g at hokg hcc hl ⊢
  have HG := zH hg
  clear hg
  by_cases hm : g ∈ n.gs
  ·
   have HP := zH (put_mem hm)
   have HC := zH (hcc hm)
   rw [decide_eq_true hm] at hl
   clear hm hcc
   go_quiet (fail)
   clear hl z0 z1 z2 y0 y1 y2
   go_wp2
   go_ret
   exact ⟨ret_int (by rw [HG.out, HP.out, HC.out]), hBel.drewN _, fun _ => by rw [HG.out, HP.out]; exact ⟨A, c, b, hr2H.out, hrlo, hblo, hown2, hkn2⟩⟩
  have HM := zH hm
  rw [decide_eq_false hm] at hl
  clear hm hcc
  by_cases h6 : 600 ≤ n.gs.length
  ·
   have HP := zH (put_full HM.out h6)
   have h6b : ((n.gs.length : Int) == 600) = true := by simp; omega
   clear h6
   go_quiet (fail)
   clear hl
   go_wp2
   go_ret
   exact ⟨ret_int (by rw [HG.out, HP.out]), hBel.drewN _, fun h9 => absurd (by rw [HG.out, HP.out]) h9⟩
  have HP := zH (put_new HM.out h6)
  have h6b : ((n.gs.length : Int) == 600) = false := by simp; omega
  go_quiet (fail)
  clear hl
  go_wp2
  clear h6b
  have w3z1 : (W2.drewN nq).cell? ⟨r, 1, none⟩ = some (.slice A n.gs.length c) := z1
  have w3y0 : (W2.drewN nq).cell? ⟨w.heap.size, 0, none⟩ = some (.bool gx) := y0
  have w3y1 : (W2.drewN nq).cell? ⟨w.heap.size, 1, none⟩ = some (.int .i64 gb) := y1
  have w3y2 : (W2.drewN nq).cell? ⟨w.heap.size, 2, none⟩ = some (.int .i64 ga) := y2
  have hr3H := zH (show (W2.drewN nq).heap[r]? = _ from hr2H.out)
  have hS3H := zH (show (W2.drewN nq).heap[w.heap.size]? = _ from hS2H.out)
  have hown3 : OwnGs (W2.drewN nq) lo (.slice A n.gs.length c) n.gs := hown2
  have hkn3 : KnownAt (W2.drewN nq) b n.ins n.gs := hkn2
  have hBel3 : BelK lo w (W2.drewN nq) := hBel.drewN _
  have hlo3 : lo ≤ (W2.drewN nq).heap.size := hlo2
  have hS3 : w.heap.size < (W2.drewN nq).heap.size := hSlt
  clear z0 z1 z2 y0 y1 y2 hr2H hS2H hown2 hkn2 hBel hlo2 hSlt hW2
  generalize W2.drewN nq = W3 at *
  have d1 := Later.cell w3z1
  have q0 := Later.cell w3y0
  have q1 := Later.cell w3y1
  have q2 := Later.cell w3y2
  have hner := row_ne hown3 r _ hr3H.out (fun cs fr e => by injection e with _ e2 _; revert e2; decide)
  have hneb : some b ≠ (Value.slice A n.gs.length c).ownBlock := by
   obtain ⟨D, ⟨es, clock, hbb, _⟩, _⟩ := hkn3
   exact row_ne hown3 b _ hbb (fun cs fr e => by cases e)
  obtain ⟨ys, hys⟩ : ∃ ys, ys = n.gs ++ [g] := ⟨_, rfl⟩
  have HY := zH hys
  have HYL := zH (show ys.length = n.gs.length + 1 by rw [hys]; simp)
  clear hys
  refine wp_region_shares [[], [], [(1, 39)], [(2, 40)], [(3, 41)], [(4, 42)], [], [(6, 44)], [(5, 43), (7, 45)], [(0, 38)], [(9, 47)], [(10, 48)], [(11, 49), (8, 46)]]
   [.eq (.pointer (some ⟨r, 0, none⟩)), .eq (.pointer (some ⟨r, 0, none⟩)), .eq (.pointer (some ⟨r, 0, none⟩)), .eq (.pointer (some ⟨r, 0, none⟩)), .eq (.pointer (some ⟨r, 1, none⟩)), .eq (.slice A n.gs.length c), .eq (.agg #[.bool gx, .int .i64 gb, .int .i64 ga]), .lit 88 1 #[.bool gx, .int .i64 gb, .int .i64 ga], Fact.grow lo W3 (.slice A n.gs.length c) ys, .eq (.pointer (some ⟨r, 0, none⟩)), .eq (.pointer (some ⟨r, 0, none⟩)), .eq (.pointer (some ⟨r, 1, none⟩)), Fact.circ lo W3 r w.heap.size ⟨n.ins, ys⟩ n.gs]
   [8, 12] [8, 12] [0, 9, 10, 11, 12] [12] [(0, 38), (1, 39), (2, 40), (3, 41), (4, 42), (5, 43), (6, 44), (7, 45), (8, 46), (9, 47), (10, 48), (11, 49)] (by kernel_rfl) (by kernel_rfl) (by kernel_rfl) (by kernel_rfl)
   ⟨?_, ?_, ?_, ?_, ?_, ?_, ?_, ?_, ?_, ?_, ?_, ?_, ?_, trivial⟩ ?_
  ·
   intro vals x hC hF
   simp only [putsD, Act.put, zA, zB, zC]
   go_wp2
   exact ⟨rfl, rfl, .inr (Below.refl _ _), .inr (.inl (by simp))⟩
  ·
   intro vals x hC hF
   simp only [putsD, Act.put, zA, zB, zC]
   go_wp2
   exact ⟨rfl, rfl, .inr (Below.refl _ _), .inr (.inl (by simp))⟩
  ·
   intro vals x hC hF
   simp only [factsD, zD, zE, Fact.eq, Fact.row, Fact.lit, Fact.lit0, Fact.of, and_true, Fact.grow] at hF
   simp only [putsD, Act.put, zA, zB, zC]
   simp only [hF]
   go_wp2
   exact ⟨rfl, rfl, .inr (Below.refl _ _), .inr (.inl (by simp))⟩
  ·
   intro vals x hC hF
   simp only [factsD, zD, zE, Fact.eq, Fact.row, Fact.lit, Fact.lit0, Fact.of, and_true, Fact.grow] at hF
   simp only [putsD, Act.put, zA, zB, zC]
   simp only [hF]
   go_wp2
   exact ⟨rfl, rfl, .inr (Below.refl _ _), .inr (.inl (by simp))⟩
  ·
   intro vals x hC hF
   simp only [factsD, zD, zE, Fact.eq, Fact.row, Fact.lit, Fact.lit0, Fact.of, and_true, Fact.grow] at hF
   simp only [putsD, Act.put, zA, zB, zC]
   simp only [hF]
   go_wp2
   exact ⟨rfl, rfl, .inr (Below.refl _ _), .inr (.inl (by simp))⟩
  ·
   intro vals x hC hF
   have hC := hC.resolve_left (by simp)
   have hsz := hC.size
   have e1 : x.cell? _ = _ := d1 ⟨x, hC⟩
   simp only [factsD, zD, zE, Fact.eq, Fact.row, Fact.lit, Fact.lit0, Fact.of, and_true, Fact.grow] at hF
   simp only [putsD, Act.put, zA, zB, zC]
   simp only [hF]
   go_wp2
   exact ⟨rfl, rfl, .inr (Below.refl _ _), .inr (.inl (by simp))⟩
  ·
   intro vals x hC hF
   have hC := hC.resolve_left (by simp)
   have hsz := hC.size
   have e1 : x.cell? _ = _ := q0 ⟨x, hC⟩
   have e2 : x.cell? _ = _ := q1 ⟨x, hC⟩
   have e3 : x.cell? _ = _ := q2 ⟨x, hC⟩
   simp only [putsD, Act.put, zA, zB, zC]
   go_wp2
   exact ⟨rfl, rfl, .inr (Below.refl _ _), .inr (.inl (by simp))⟩
  ·
   intro vals x hC hF
   have hC := hC.resolve_left (by simp)
   have hsz := hC.size
   simp only [factsD, zD, zE, Fact.eq, Fact.row, Fact.lit, Fact.lit0, Fact.of, and_true, Fact.grow] at hF
   simp only [putsD, Act.put, zA, zB, zC]
   simp only [hF]
   go_wp2
   exact ⟨rfl, ⟨_, rfl, by simp, _, heap_alloc_new _ _⟩, .inr ((Below.refl _ _).alloc (Nat.le_refl _) _), .inr (.inl (by simp))⟩
  ·
   intro vals x hC hF
   have hC := hC.resolve_left (by simp)
   have hsz := hC.size
   simp only [factsD, zD, zE, Fact.eq, Fact.row, Fact.lit, Fact.lit0, Fact.of, and_true, Fact.grow] at hF
   obtain ⟨e5, b5, e7, hlt5, fr5, hb5⟩ := hF
   simp only [putsD, Act.put, zA, zB, zC]
   simp only [e5, e7]
   refine wpList_append_gate (ys := ys) (g := ⟨gx, gb, ga⟩) (by rfl) (.tmp 43) (.tmp 45) (by rfl) (by rfl) (by rfl) (z07 hown3 hC (Nat.le_refl _)) hb5 (by omega) (Nat.le_trans hlo3 hsz) (by rw [HY.out, HG.out]) ?_
   intro A1 c1 w1 hown1 hg1
   exact ⟨rfl, ⟨A1, c1, rfl, hown1, Nat.le_trans hsz hg1.size, fun b9 hb9 hn9 => (hg1.block b9 (Nat.lt_of_lt_of_le hb9 hsz) hn9).trans (hC.block b9 hb9), hg1.os.trans hC.os, hg1.tape.trans hC.tape, hg1.output.trans hC.output⟩, .inl (by simp), .inl (by simp)⟩
  ·
   intro vals x hC hF
   simp only [factsD, zD, zE, Fact.eq, Fact.row, Fact.lit, Fact.lit0, Fact.of, and_true, Fact.grow] at hF
   simp only [putsD, Act.put, zA, zB, zC]
   simp only [hF]
   go_wp2
   exact ⟨rfl, rfl, .inr (Below.refl _ _), .inr (.inl (by simp))⟩
  ·
   intro vals x hC hF
   simp only [factsD, zD, zE, Fact.eq, Fact.row, Fact.lit, Fact.lit0, Fact.of, and_true, Fact.grow] at hF
   simp only [putsD, Act.put, zA, zB, zC]
   simp only [hF]
   go_wp2
   exact ⟨rfl, rfl, .inr (Below.refl _ _), .inr (.inl (by simp))⟩
  ·
   intro vals x hC hF
   simp only [factsD, zD, zE, Fact.eq, Fact.row, Fact.lit, Fact.lit0, Fact.of, and_true, Fact.grow] at hF
   simp only [putsD, Act.put, zA, zB, zC]
   simp only [hF]
   go_wp2
   exact ⟨rfl, rfl, .inr (Below.refl _ _), .inr (.inl (by simp))⟩
  ·
   intro vals x hC hF
   simp only [factsD, zD, zE, Fact.eq, Fact.row, Fact.lit, Fact.lit0, Fact.of, and_true, Fact.grow] at hF
   obtain ⟨e11, A1, c1, e8, hown1, hs1, hf1, ho1, ht1, hu1⟩ := hF
   simp only [putsD, Act.put, zA, zB, zC]
   simp only [e11, e8]
   have hrx := (hf1 r (lt_of_block hr3H.out) hner).trans hr3H.out
   have hSx := (hf1 w.heap.size hS3 hneS).trans hS3H.out
   have x1 : x.cell? ⟨r, 1, none⟩ = some (.slice A n.gs.length c) := (z00 hrx 1).1
   have x2 : x.frozen? ⟨r, 1, none⟩ = false := (z00 hrx 1).2
   have hne1 := row_ne hown1 r _ hrx (fun cs fr e => by injection e with _ e2 _; revert e2; decide)
   go_wp2
   refine ⟨rfl, ⟨⟨A1, c1, b, ?_, hrlo, hblo, own_below_set hown1 hne1, (hkn3.keep (hf1 b hkn3.lt hneb)).keep (Below.heap_setCell _ _ _ _ ?_)⟩, ?_, ?_, ?_⟩, .inl (by simp), .inl (by simp)⟩
   · rw [z03 _ _ _ _ _ _ hrx]; rfl
   · intro e; dsimp only at e; subst e; obtain ⟨D, ⟨es, clock, hbb, _⟩, _⟩ := hkn3; rw [hr3H.out] at hbb; cases hbb
   · exact (Below.heap_setCell _ _ _ _ (by dsimp only; omega)).trans (hSx.trans hS3H.out.symm)
   · simpa [World.setCell] using Nat.lt_of_lt_of_le hS3 hs1
   ·
    refine ⟨z06 ⟨ho1, ht1, hu1, hs1, fun b9 hb9 => hf1 b9 (Nat.lt_of_lt_of_le hb9 hlo3) ?_⟩ hrlo _, fun i o hi hck => ?_⟩
    · intro e; have := (hown3.lt b9 e.symm).1; omega
    ·
     refine (Below.heap_setCell _ _ _ _ ?_).trans ((hf1 i (Array.getElem?_eq_some_iff.1 hi).1 fun e => ?_).trans hi)
     · intro e; dsimp only at e; subst e; rw [hr3H.out] at hi; injection hi with hi; exact hck (.inl ⟨_, _, hi.symm⟩)
     · obtain ⟨o9, ho9, hc9⟩ := own_ck hown3 e.symm; rw [hi] at ho9; injection ho9 with ho9; rw [ho9] at hck; exact hck hc9
  ·
   intro vals x hF
   simp only [facts, zD, zE, Fact.eq, Fact.row, Fact.lit, Fact.lit0, Fact.of, and_true, Fact.grow] at hF
   simp only [Fact.circ, Fact.of] at hF
   obtain ⟨hC4, hS4, hlt4, hB4⟩ := hF
   simp only [putsD, Act.put, zA, zB, zC]
   have hB4 := hBel3.trans hB4
   have hS4 := hS4.trans hS3H.out
   clear w3z1 w3y0 w3y1 w3y2 hr3H hS3H hown3 hkn3 hBel3 hlo3 hS3 d1 q0 q1 q2 hner hneb hneS hown hX
   obtain ⟨A4, c4, b4, hr4, hr4lo, hb4lo, hown4, hkn4⟩ := hC4
   have hl4 : lo ≤ x.heap.size := Nat.le_trans hr4lo (Nat.le_of_lt (lt_of_block hr4))
   have z0 : x.cell? ⟨r, 0, none⟩ = some (.int .i64 n.ins) := (z00 hr4 0).1
   have z1 : x.cell? ⟨r, 1, none⟩ = some (.slice A4 ys.length c4) := (z00 hr4 1).1
   have z2 : x.cell? ⟨r, 2, none⟩ = some (.map (some b4)) := (z00 hr4 2).1
   have y0 : x.cell? ⟨w.heap.size, 0, none⟩ = some (.bool gx) := (z00 hS4 0).1
   have y1 : x.cell? ⟨w.heap.size, 1, none⟩ = some (.int .i64 gb) := (z00 hS4 1).1
   have y2 : x.cell? ⟨w.heap.size, 2, none⟩ = some (.int .i64 ga) := (z00 hS4 2).1
   have z0 := Later.cell z0
   have z1 := Later.cell z1
   have z2 := Later.cell z2
   have y0 := Later.cell y0
   have y1 := Later.cell y1
   have y2 := Later.cell y2
   have hr4H := zH hr4
   have hS4H := zH hS4
   clear hr4 hS4
   have hyl : (0 : Int) ≤ ys.length ∧ (ys.length : Int) ≤ 1048576 := by have := HYL.out; omega
   obtain ⟨hyl0, hyl1⟩ := hyl
   go_wp2
   refine wp_region_later_tail 16 (by kernel_rfl) (by kernel_rfl) ?_
   simp only [List.take_succ_cons, List.take_zero, List.drop_succ_cons, List.drop_zero]
   repeat (go_big_quiet_step ((go_at_call 119; exact later_of_below (nodes_any A4 c4 ys.length n.ins ys.length _ (by omega) (by omega) hyl0 hyl1))))
   refine wpQuiet_nil ?_
   rintro _ ⟨x9, rfl⟩
   have hB9 := hB4.trans (.of x9.le hl4)
   have hlo9 : lo ≤ x9.W.heap.size := Nat.le_trans hl4 x9.le.size
   have hr9 := (x9.le.block r (lt_of_block hr4H.out)).trans hr4H.out
   have hS9 := (x9.le.block w.heap.size hlt4).trans hS4H.out
   have hown9 : OwnGs x9.W lo (.slice A4 ys.length c4) ys := z07 hown4 x9.le (Nat.le_refl _)
   obtain ⟨D, hmap9, hD⟩ := hkn4.keep (x9.le.block b4 hkn4.lt)
   have hmapR := (hmap9 : x9.W.ownsMap Tryz.prog 88 (plainElem Tryz.prog 3) b4 n.gs.length D)
   go_wp2_with (at_mapUpdate; refine wpList_mapUpdate_own _ rfl _ _ _ 117 rfl 88 3 gate_keyed Tryz.underlying117 _ b4 n.gs.length D rfl hmapR (by unfold maxLen; omega) _ _ (keyG ⟨gx, gb, ga⟩) rfl rfl (keyG_ok ⟨gx, gb, ga⟩ HOK.out) (.lit (.int .i64 (1 + n.ins + ys.length))) [] (plainElem_int Tryz.underlying3 (WalkArith.wf_i64 (by omega))) ?_; intro w5 hown5 hgrow5)
   have hn5 := hgrow5.size
   have hD5 := hD.put ⟨gx, gb, ga⟩ HOK.out (by rw [HG.out]; exact HM.out) (1 + n.ins + ys.length) (by rw [HYL.out]; push_cast; omega)
   rw [HG.out, ← HY.out] at hD5
   have hneb9 : some r ≠ some b4 := by
    intro e; injection e with e; subst e
    obtain ⟨es, clock, hbb, _⟩ := hmapR; rw [hr9] at hbb; cases hbb
   have hneS9 : some w.heap.size ≠ some b4 := by
    intro e; injection e with e; rw [← e] at hmapR
    obtain ⟨es, clock, hbb, _⟩ := hmapR; rw [hS9] at hbb; cases hbb
   have hr5 := (hgrow5.block r (lt_of_block hr9) hneb9).trans hr9
   have hS5 := (hgrow5.block w.heap.size (lt_of_block hS9) hneS9).trans hS9
   have hownm : OwnGs w5 lo (.slice A4 ys.length c4) ys := hown9.kept hgrow5 (by
    obtain ⟨es, clock, hbb, _⟩ := hmapR
    exact .inr (fun e => row_ne hown9 b4 _ hbb (fun cs fr e => by cases e) e.symm))
   have hB5 := hB9.grown hgrow5 hlo9 hb4lo (by obtain ⟨es, clock, hbb, _⟩ := hmapR; exact ⟨_, hbb, .inr (.inr ⟨_, _, rfl⟩)⟩)
   rw [HG.out] at hown5
   have hkn5 : KnownAt w5 b4 n.ins ys := ⟨_, hown5.mono (by have := HYL.out; omega), hD5⟩
   obtain ⟨c5, hc5, hlook5⟩ := hkn5.look g hokg false
   have hidx : ys.idxOf g = n.gs.length := by rw [HY.out, List.idxOf_append, if_neg HM.out]; simp
   have hmem5 : g ∈ ys := by rw [HY.out]; simp
   have HC5 := zH (hc5 hmem5)
   have HIX := zH hidx
   have hl5 : ∀ m, (Instr.lookup 117 (.map (some b4)) (.agg #[.bool gx, .int .i64 gb, .int .i64 ga]) false).run Tryz.prog (w5.drewN m) = .ok (.int .i64 c5) (w5.drewN m) := fun m => by
    have := hlook5 (w5.drewN m) rfl
    rw [← HG.out] at this
    simpa using this
   have z2 : w5.cell? ⟨r, 2, none⟩ = some (.map (some b4)) := (z00 hr5 2).1
   have y0 : w5.cell? ⟨w.heap.size, 0, none⟩ = some (.bool gx) := (z00 hS5 0).1
   have y1 : w5.cell? ⟨w.heap.size, 1, none⟩ = some (.int .i64 gb) := (z00 hS5 1).1
   have y2 : w5.cell? ⟨w.heap.size, 2, none⟩ = some (.int .i64 ga) := (z00 hS5 2).1
   have hr5H := zH hr5
   clear hlook5 hc5 hidx hmem5 hr5 hS5 hr9 hS9 hown9 hmapR hmap9 hneb9 hneS9 hgrow5 hB9 hn5 hown5 hD5 hD
   go_wp2
   go_quiet (fail)
   clear hl5 z2 y0 y1 y2
   go_wp2
   go_ret
   exact ⟨ret_int (by rw [HG.out, HP.out, HC5.out, HIX.out]), hB5.drewN _, fun _ => by rw [HG.out, HP.out, ← HY.out]; exact ⟨A4, c4, b4, hr5H.out, hr4lo, hb4lo, hownm, hkn5⟩⟩
 ·
  rw [show sortG ⟨gx, ga, gb⟩ = ⟨gx, ga, gb⟩ by unfold sortG; rw [if_neg hs]]
  go_enter Tryz.func140, Tryz.ntmps140
  go_wp2
  go_quiet ((go_at_call 113; with_reducible exact quiet_left (node_any _ _ (by omega) (by omega))))
  go_wp2
  have hW2 : Below w.heap.size w ((w.alloc (.cells #[.bool gx, .int .i64 ga, .int .i64 gb] 88)).drewN nq) := z01 hX _
  have hS2 : ((w.alloc (.cells #[.bool gx, .int .i64 ga, .int .i64 gb] 88)).drewN nq).heap[w.heap.size]? = some (.cells #[.bool gx, .int .i64 ga, .int .i64 gb] 88 (0, 0)) := hXS
  generalize ((w.alloc (.cells #[.bool gx, .int .i64 ga, .int .i64 gb] 88)).drewN nq) = W2 at *
  have hokg : okGi ⟨gx, ga, gb⟩ := by unfold okGi; dsimp only; omega
  have hr2 := (hW2.block r hrlt).trans hr
  have hown2 := z07 hown hW2 (Nat.le_refl _)
  have hown2 : OwnGs W2 lo (.slice A n.gs.length c) n.gs := hown2
  have hkn2 := hkn.keep (hW2.block b hblt)
  have hlo2 : lo ≤ W2.heap.size := Nat.le_trans (Nat.le_trans hrlo (Nat.le_of_lt hrlt)) hW2.size
  have hBel : BelK lo w W2 := .of hW2 (Nat.le_trans hrlo (Nat.le_of_lt hrlt))
  have hSlt : w.heap.size < W2.heap.size := lt_of_block hS2
  obtain ⟨cc, hcc, hlook⟩ := hkn2.look ⟨gx, ga, gb⟩ hokg true
  have hl : ∀ m, (Instr.lookup 117 (.map (some b)) (.agg #[.bool gx, .int .i64 ga, .int .i64 gb]) true).run Tryz.prog (W2.drewN m) = .ok (.tuple #[.int .i64 cc, .bool (decide ((⟨gx, ga, gb⟩ : G) ∈ n.gs))]) (W2.drewN m) := fun m => hlook (W2.drewN m) rfl
  have z0 : W2.cell? ⟨r, 0, none⟩ = some (.int .i64 n.ins) := (z00 hr2 0).1
  have z1 : W2.cell? ⟨r, 1, none⟩ = some (.slice A n.gs.length c) := (z00 hr2 1).1
  have z2 : W2.cell? ⟨r, 2, none⟩ = some (.map (some b)) := (z00 hr2 2).1
  have y0 : W2.cell? ⟨w.heap.size, 0, none⟩ = some (.bool gx) := (z00 hS2 0).1
  have y1 : W2.cell? ⟨w.heap.size, 1, none⟩ = some (.int .i64 ga) := (z00 hS2 1).1
  have y2 : W2.cell? ⟨w.heap.size, 2, none⟩ = some (.int .i64 gb) := (z00 hS2 2).1
  have hr2H := zH hr2
  have hS2H := zH hS2
  clear hr hr2 hS2 hlook hXS hkn hs
  have hokv : okGi ⟨gx, ga, gb⟩ := hokg
  have HOK := zH hokv
  clear hokv
  generalize hg : (⟨gx, ga, gb⟩ : G) = g at hokg hcc hl ⊢
  have HG := zH hg
  clear hg
  by_cases hm : g ∈ n.gs
  ·
   have HP := zH (put_mem hm)
   have HC := zH (hcc hm)
   rw [decide_eq_true hm] at hl
   clear hm hcc
   go_quiet (fail)
   clear hl z0 z1 z2 y0 y1 y2
   go_wp2
   go_ret
   exact ⟨ret_int (by rw [HG.out, HP.out, HC.out]), hBel.drewN _, fun _ => by rw [HG.out, HP.out]; exact ⟨A, c, b, hr2H.out, hrlo, hblo, hown2, hkn2⟩⟩
  have HM := zH hm
  rw [decide_eq_false hm] at hl
  clear hm hcc
  by_cases h6 : 600 ≤ n.gs.length
  ·
   have HP := zH (put_full HM.out h6)
   have h6b : ((n.gs.length : Int) == 600) = true := by simp; omega
   clear h6
   go_quiet (fail)
   clear hl
   go_wp2
   go_ret
   exact ⟨ret_int (by rw [HG.out, HP.out]), hBel.drewN _, fun h9 => absurd (by rw [HG.out, HP.out]) h9⟩
  have HP := zH (put_new HM.out h6)
  have h6b : ((n.gs.length : Int) == 600) = false := by simp; omega
  go_quiet (fail)
  clear hl
  go_wp2
  clear h6b
  have w3z1 : (W2.drewN nq).cell? ⟨r, 1, none⟩ = some (.slice A n.gs.length c) := z1
  have w3y0 : (W2.drewN nq).cell? ⟨w.heap.size, 0, none⟩ = some (.bool gx) := y0
  have w3y1 : (W2.drewN nq).cell? ⟨w.heap.size, 1, none⟩ = some (.int .i64 ga) := y1
  have w3y2 : (W2.drewN nq).cell? ⟨w.heap.size, 2, none⟩ = some (.int .i64 gb) := y2
  have hr3H := zH (show (W2.drewN nq).heap[r]? = _ from hr2H.out)
  have hS3H := zH (show (W2.drewN nq).heap[w.heap.size]? = _ from hS2H.out)
  have hown3 : OwnGs (W2.drewN nq) lo (.slice A n.gs.length c) n.gs := hown2
  have hkn3 : KnownAt (W2.drewN nq) b n.ins n.gs := hkn2
  have hBel3 : BelK lo w (W2.drewN nq) := hBel.drewN _
  have hlo3 : lo ≤ (W2.drewN nq).heap.size := hlo2
  have hS3 : w.heap.size < (W2.drewN nq).heap.size := hSlt
  clear z0 z1 z2 y0 y1 y2 hr2H hS2H hown2 hkn2 hBel hlo2 hSlt hW2
  generalize W2.drewN nq = W3 at *
  have d1 := Later.cell w3z1
  have q0 := Later.cell w3y0
  have q1 := Later.cell w3y1
  have q2 := Later.cell w3y2
  have hner := row_ne hown3 r _ hr3H.out (fun cs fr e => by injection e with _ e2 _; revert e2; decide)
  have hneb : some b ≠ (Value.slice A n.gs.length c).ownBlock := by
   obtain ⟨D, ⟨es, clock, hbb, _⟩, _⟩ := hkn3
   exact row_ne hown3 b _ hbb (fun cs fr e => by cases e)
  obtain ⟨ys, hys⟩ : ∃ ys, ys = n.gs ++ [g] := ⟨_, rfl⟩
  have HY := zH hys
  have HYL := zH (show ys.length = n.gs.length + 1 by rw [hys]; simp)
  clear hys
  refine wp_region_shares [[], [], [(1, 39)], [(2, 40)], [(3, 41)], [(4, 42)], [], [(6, 44)], [(5, 43), (7, 45)], [(0, 38)], [(9, 47)], [(10, 48)], [(11, 49), (8, 46)]]
   [.eq (.pointer (some ⟨r, 0, none⟩)), .eq (.pointer (some ⟨r, 0, none⟩)), .eq (.pointer (some ⟨r, 0, none⟩)), .eq (.pointer (some ⟨r, 0, none⟩)), .eq (.pointer (some ⟨r, 1, none⟩)), .eq (.slice A n.gs.length c), .eq (.agg #[.bool gx, .int .i64 ga, .int .i64 gb]), .lit 88 1 #[.bool gx, .int .i64 ga, .int .i64 gb], Fact.grow lo W3 (.slice A n.gs.length c) ys, .eq (.pointer (some ⟨r, 0, none⟩)), .eq (.pointer (some ⟨r, 0, none⟩)), .eq (.pointer (some ⟨r, 1, none⟩)), Fact.circ lo W3 r w.heap.size ⟨n.ins, ys⟩ n.gs]
   [8, 12] [8, 12] [0, 9, 10, 11, 12] [12] [(0, 38), (1, 39), (2, 40), (3, 41), (4, 42), (5, 43), (6, 44), (7, 45), (8, 46), (9, 47), (10, 48), (11, 49)] (by kernel_rfl) (by kernel_rfl) (by kernel_rfl) (by kernel_rfl)
   ⟨?_, ?_, ?_, ?_, ?_, ?_, ?_, ?_, ?_, ?_, ?_, ?_, ?_, trivial⟩ ?_
  ·
   intro vals x hC hF
   simp only [putsD, Act.put, zA, zB, zC]
   go_wp2
   exact ⟨rfl, rfl, .inr (Below.refl _ _), .inr (.inl (by simp))⟩
  ·
   intro vals x hC hF
   simp only [putsD, Act.put, zA, zB, zC]
   go_wp2
   exact ⟨rfl, rfl, .inr (Below.refl _ _), .inr (.inl (by simp))⟩
  ·
   intro vals x hC hF
   simp only [factsD, zD, zE, Fact.eq, Fact.row, Fact.lit, Fact.lit0, Fact.of, and_true, Fact.grow] at hF
   simp only [putsD, Act.put, zA, zB, zC]
   simp only [hF]
   go_wp2
   exact ⟨rfl, rfl, .inr (Below.refl _ _), .inr (.inl (by simp))⟩
  ·
   intro vals x hC hF
   simp only [factsD, zD, zE, Fact.eq, Fact.row, Fact.lit, Fact.lit0, Fact.of, and_true, Fact.grow] at hF
   simp only [putsD, Act.put, zA, zB, zC]
   simp only [hF]
   go_wp2
   exact ⟨rfl, rfl, .inr (Below.refl _ _), .inr (.inl (by simp))⟩
  ·
   intro vals x hC hF
   simp only [factsD, zD, zE, Fact.eq, Fact.row, Fact.lit, Fact.lit0, Fact.of, and_true, Fact.grow] at hF
   simp only [putsD, Act.put, zA, zB, zC]
   simp only [hF]
   go_wp2
   exact ⟨rfl, rfl, .inr (Below.refl _ _), .inr (.inl (by simp))⟩
  ·
   intro vals x hC hF
   have hC := hC.resolve_left (by simp)
   have hsz := hC.size
   have e1 : x.cell? _ = _ := d1 ⟨x, hC⟩
   simp only [factsD, zD, zE, Fact.eq, Fact.row, Fact.lit, Fact.lit0, Fact.of, and_true, Fact.grow] at hF
   simp only [putsD, Act.put, zA, zB, zC]
   simp only [hF]
   go_wp2
   exact ⟨rfl, rfl, .inr (Below.refl _ _), .inr (.inl (by simp))⟩
  ·
   intro vals x hC hF
   have hC := hC.resolve_left (by simp)
   have hsz := hC.size
   have e1 : x.cell? _ = _ := q0 ⟨x, hC⟩
   have e2 : x.cell? _ = _ := q1 ⟨x, hC⟩
   have e3 : x.cell? _ = _ := q2 ⟨x, hC⟩
   simp only [putsD, Act.put, zA, zB, zC]
   go_wp2
   exact ⟨rfl, rfl, .inr (Below.refl _ _), .inr (.inl (by simp))⟩
  ·
   intro vals x hC hF
   have hC := hC.resolve_left (by simp)
   have hsz := hC.size
   simp only [factsD, zD, zE, Fact.eq, Fact.row, Fact.lit, Fact.lit0, Fact.of, and_true, Fact.grow] at hF
   simp only [putsD, Act.put, zA, zB, zC]
   simp only [hF]
   go_wp2
   exact ⟨rfl, ⟨_, rfl, by simp, _, heap_alloc_new _ _⟩, .inr ((Below.refl _ _).alloc (Nat.le_refl _) _), .inr (.inl (by simp))⟩
  ·
   intro vals x hC hF
   have hC := hC.resolve_left (by simp)
   have hsz := hC.size
   simp only [factsD, zD, zE, Fact.eq, Fact.row, Fact.lit, Fact.lit0, Fact.of, and_true, Fact.grow] at hF
   obtain ⟨e5, b5, e7, hlt5, fr5, hb5⟩ := hF
   simp only [putsD, Act.put, zA, zB, zC]
   simp only [e5, e7]
   refine wpList_append_gate (ys := ys) (g := ⟨gx, ga, gb⟩) (by rfl) (.tmp 43) (.tmp 45) (by rfl) (by rfl) (by rfl) (z07 hown3 hC (Nat.le_refl _)) hb5 (by omega) (Nat.le_trans hlo3 hsz) (by rw [HY.out, HG.out]) ?_
   intro A1 c1 w1 hown1 hg1
   exact ⟨rfl, ⟨A1, c1, rfl, hown1, Nat.le_trans hsz hg1.size, fun b9 hb9 hn9 => (hg1.block b9 (Nat.lt_of_lt_of_le hb9 hsz) hn9).trans (hC.block b9 hb9), hg1.os.trans hC.os, hg1.tape.trans hC.tape, hg1.output.trans hC.output⟩, .inl (by simp), .inl (by simp)⟩
  ·
   intro vals x hC hF
   simp only [factsD, zD, zE, Fact.eq, Fact.row, Fact.lit, Fact.lit0, Fact.of, and_true, Fact.grow] at hF
   simp only [putsD, Act.put, zA, zB, zC]
   simp only [hF]
   go_wp2
   exact ⟨rfl, rfl, .inr (Below.refl _ _), .inr (.inl (by simp))⟩
  ·
   intro vals x hC hF
   simp only [factsD, zD, zE, Fact.eq, Fact.row, Fact.lit, Fact.lit0, Fact.of, and_true, Fact.grow] at hF
   simp only [putsD, Act.put, zA, zB, zC]
   simp only [hF]
   go_wp2
   exact ⟨rfl, rfl, .inr (Below.refl _ _), .inr (.inl (by simp))⟩
  ·
   intro vals x hC hF
   simp only [factsD, zD, zE, Fact.eq, Fact.row, Fact.lit, Fact.lit0, Fact.of, and_true, Fact.grow] at hF
   simp only [putsD, Act.put, zA, zB, zC]
   simp only [hF]
   go_wp2
   exact ⟨rfl, rfl, .inr (Below.refl _ _), .inr (.inl (by simp))⟩
  ·
   intro vals x hC hF
   simp only [factsD, zD, zE, Fact.eq, Fact.row, Fact.lit, Fact.lit0, Fact.of, and_true, Fact.grow] at hF
   obtain ⟨e11, A1, c1, e8, hown1, hs1, hf1, ho1, ht1, hu1⟩ := hF
   simp only [putsD, Act.put, zA, zB, zC]
   simp only [e11, e8]
   have hrx := (hf1 r (lt_of_block hr3H.out) hner).trans hr3H.out
   have hSx := (hf1 w.heap.size hS3 hneS).trans hS3H.out
   have x1 : x.cell? ⟨r, 1, none⟩ = some (.slice A n.gs.length c) := (z00 hrx 1).1
   have x2 : x.frozen? ⟨r, 1, none⟩ = false := (z00 hrx 1).2
   have hne1 := row_ne hown1 r _ hrx (fun cs fr e => by injection e with _ e2 _; revert e2; decide)
   go_wp2
   refine ⟨rfl, ⟨⟨A1, c1, b, ?_, hrlo, hblo, own_below_set hown1 hne1, (hkn3.keep (hf1 b hkn3.lt hneb)).keep (Below.heap_setCell _ _ _ _ ?_)⟩, ?_, ?_, ?_⟩, .inl (by simp), .inl (by simp)⟩
   · rw [z03 _ _ _ _ _ _ hrx]; rfl
   · intro e; dsimp only at e; subst e; obtain ⟨D, ⟨es, clock, hbb, _⟩, _⟩ := hkn3; rw [hr3H.out] at hbb; cases hbb
   · exact (Below.heap_setCell _ _ _ _ (by dsimp only; omega)).trans (hSx.trans hS3H.out.symm)
   · simpa [World.setCell] using Nat.lt_of_lt_of_le hS3 hs1
   ·
    refine ⟨z06 ⟨ho1, ht1, hu1, hs1, fun b9 hb9 => hf1 b9 (Nat.lt_of_lt_of_le hb9 hlo3) ?_⟩ hrlo _, fun i o hi hck => ?_⟩
    · intro e; have := (hown3.lt b9 e.symm).1; omega
    ·
     refine (Below.heap_setCell _ _ _ _ ?_).trans ((hf1 i (Array.getElem?_eq_some_iff.1 hi).1 fun e => ?_).trans hi)
     · intro e; dsimp only at e; subst e; rw [hr3H.out] at hi; injection hi with hi; exact hck (.inl ⟨_, _, hi.symm⟩)
     · obtain ⟨o9, ho9, hc9⟩ := own_ck hown3 e.symm; rw [hi] at ho9; injection ho9 with ho9; rw [ho9] at hck; exact hck hc9
  ·
   intro vals x hF
   simp only [facts, zD, zE, Fact.eq, Fact.row, Fact.lit, Fact.lit0, Fact.of, and_true, Fact.grow] at hF
   simp only [Fact.circ, Fact.of] at hF
   obtain ⟨hC4, hS4, hlt4, hB4⟩ := hF
   simp only [putsD, Act.put, zA, zB, zC]
   have hB4 := hBel3.trans hB4
   have hS4 := hS4.trans hS3H.out
   clear w3z1 w3y0 w3y1 w3y2 hr3H hS3H hown3 hkn3 hBel3 hlo3 hS3 d1 q0 q1 q2 hner hneb hneS hown hX
   obtain ⟨A4, c4, b4, hr4, hr4lo, hb4lo, hown4, hkn4⟩ := hC4
   have hl4 : lo ≤ x.heap.size := Nat.le_trans hr4lo (Nat.le_of_lt (lt_of_block hr4))
   have z0 : x.cell? ⟨r, 0, none⟩ = some (.int .i64 n.ins) := (z00 hr4 0).1
   have z1 : x.cell? ⟨r, 1, none⟩ = some (.slice A4 ys.length c4) := (z00 hr4 1).1
   have z2 : x.cell? ⟨r, 2, none⟩ = some (.map (some b4)) := (z00 hr4 2).1
   have y0 : x.cell? ⟨w.heap.size, 0, none⟩ = some (.bool gx) := (z00 hS4 0).1
   have y1 : x.cell? ⟨w.heap.size, 1, none⟩ = some (.int .i64 ga) := (z00 hS4 1).1
   have y2 : x.cell? ⟨w.heap.size, 2, none⟩ = some (.int .i64 gb) := (z00 hS4 2).1
   have z0 := Later.cell z0
   have z1 := Later.cell z1
   have z2 := Later.cell z2
   have y0 := Later.cell y0
   have y1 := Later.cell y1
   have y2 := Later.cell y2
   have hr4H := zH hr4
   have hS4H := zH hS4
   clear hr4 hS4
   have hyl : (0 : Int) ≤ ys.length ∧ (ys.length : Int) ≤ 1048576 := by have := HYL.out; omega
   obtain ⟨hyl0, hyl1⟩ := hyl
   go_wp2
   refine wp_region_later_tail 16 (by kernel_rfl) (by kernel_rfl) ?_
   simp only [List.take_succ_cons, List.take_zero, List.drop_succ_cons, List.drop_zero]
   repeat (go_big_quiet_step ((go_at_call 119; exact later_of_below (nodes_any A4 c4 ys.length n.ins ys.length _ (by omega) (by omega) hyl0 hyl1))))
   refine wpQuiet_nil ?_
   rintro _ ⟨x9, rfl⟩
   have hB9 := hB4.trans (.of x9.le hl4)
   have hlo9 : lo ≤ x9.W.heap.size := Nat.le_trans hl4 x9.le.size
   have hr9 := (x9.le.block r (lt_of_block hr4H.out)).trans hr4H.out
   have hS9 := (x9.le.block w.heap.size hlt4).trans hS4H.out
   have hown9 : OwnGs x9.W lo (.slice A4 ys.length c4) ys := z07 hown4 x9.le (Nat.le_refl _)
   obtain ⟨D, hmap9, hD⟩ := hkn4.keep (x9.le.block b4 hkn4.lt)
   have hmapR := (hmap9 : x9.W.ownsMap Tryz.prog 88 (plainElem Tryz.prog 3) b4 n.gs.length D)
   go_wp2_with (at_mapUpdate; refine wpList_mapUpdate_own _ rfl _ _ _ 117 rfl 88 3 gate_keyed Tryz.underlying117 _ b4 n.gs.length D rfl hmapR (by unfold maxLen; omega) _ _ (keyG ⟨gx, ga, gb⟩) rfl rfl (keyG_ok ⟨gx, ga, gb⟩ HOK.out) (.lit (.int .i64 (1 + n.ins + ys.length))) [] (plainElem_int Tryz.underlying3 (WalkArith.wf_i64 (by omega))) ?_; intro w5 hown5 hgrow5)
   have hn5 := hgrow5.size
   have hD5 := hD.put ⟨gx, ga, gb⟩ HOK.out (by rw [HG.out]; exact HM.out) (1 + n.ins + ys.length) (by rw [HYL.out]; push_cast; omega)
   rw [HG.out, ← HY.out] at hD5
   have hneb9 : some r ≠ some b4 := by
    intro e; injection e with e; subst e
    obtain ⟨es, clock, hbb, _⟩ := hmapR; rw [hr9] at hbb; cases hbb
   have hneS9 : some w.heap.size ≠ some b4 := by
    intro e; injection e with e; rw [← e] at hmapR
    obtain ⟨es, clock, hbb, _⟩ := hmapR; rw [hS9] at hbb; cases hbb
   have hr5 := (hgrow5.block r (lt_of_block hr9) hneb9).trans hr9
   have hS5 := (hgrow5.block w.heap.size (lt_of_block hS9) hneS9).trans hS9
   have hownm : OwnGs w5 lo (.slice A4 ys.length c4) ys := hown9.kept hgrow5 (by
    obtain ⟨es, clock, hbb, _⟩ := hmapR
    exact .inr (fun e => row_ne hown9 b4 _ hbb (fun cs fr e => by cases e) e.symm))
   have hB5 := hB9.grown hgrow5 hlo9 hb4lo (by obtain ⟨es, clock, hbb, _⟩ := hmapR; exact ⟨_, hbb, .inr (.inr ⟨_, _, rfl⟩)⟩)
   rw [HG.out] at hown5
   have hkn5 : KnownAt w5 b4 n.ins ys := ⟨_, hown5.mono (by have := HYL.out; omega), hD5⟩
   obtain ⟨c5, hc5, hlook5⟩ := hkn5.look g hokg false
   have hidx : ys.idxOf g = n.gs.length := by rw [HY.out, List.idxOf_append, if_neg HM.out]; simp
   have hmem5 : g ∈ ys := by rw [HY.out]; simp
   have HC5 := zH (hc5 hmem5)
   have HIX := zH hidx
   have hl5 : ∀ m, (Instr.lookup 117 (.map (some b4)) (.agg #[.bool gx, .int .i64 ga, .int .i64 gb]) false).run Tryz.prog (w5.drewN m) = .ok (.int .i64 c5) (w5.drewN m) := fun m => by
    have := hlook5 (w5.drewN m) rfl
    rw [← HG.out] at this
    simpa using this
   have z2 : w5.cell? ⟨r, 2, none⟩ = some (.map (some b4)) := (z00 hr5 2).1
   have y0 : w5.cell? ⟨w.heap.size, 0, none⟩ = some (.bool gx) := (z00 hS5 0).1
   have y1 : w5.cell? ⟨w.heap.size, 1, none⟩ = some (.int .i64 ga) := (z00 hS5 1).1
   have y2 : w5.cell? ⟨w.heap.size, 2, none⟩ = some (.int .i64 gb) := (z00 hS5 2).1
   have hr5H := zH hr5
   clear hlook5 hc5 hidx hmem5 hr5 hS5 hr9 hS9 hown9 hmapR hmap9 hneb9 hneS9 hgrow5 hB9 hn5 hown5 hD5 hD
   go_wp2
   go_quiet (fail)
   clear hl5 z2 y0 y1 y2
   go_wp2
   go_ret
   exact ⟨ret_int (by rw [HG.out, HP.out, HC5.out, HIX.out]), hB5.drewN _, fun _ => by rw [HG.out, HP.out, ← HY.out]; exact ⟨A4, c4, b4, hr5H.out, hr4lo, hb4lo, hownm, hkn5⟩⟩
theorem has_any (lo r : Nat) (n : N) (ks : List G) (s : Int) (w : World) (h : Circ lo w r n ks) (hn : n.gs.length ≤ 600) (h0 : 0 ≤ n.ins) (h1 : n.ins ≤ 8) (s0 : -9223372036854775808 ≤ s) (s1 : s ≤ 9223372036854775807) :
  Calls Tryz.prog 90 #[.pointer (some ⟨r, 0, none⟩), .int .i64 s] w fun e w' => e = .returned (.bool (z04 n s)) ∧ Below w.heap.size w w' := by
 obtain ⟨A, c, b, hr, _, _, _, _⟩ := h
 have z0 : w.cell? ⟨r, 0, none⟩ = some (.int .i64 n.ins) := (z00 hr 0).1
 have z1 : w.cell? ⟨r, 1, none⟩ = some (.slice A n.gs.length c) := (z00 hr 1).1
 have z0 := Later.cell z0
 have z1 := Later.cell z1
 clear hr
 have hk1 : (n.gs.length : Int) ≤ 1048576 := by omega
 have hk0 : (0 : Int) ≤ n.gs.length := by omega
 unfold z04
 go_enter Tryz.func90, Tryz.ntmps90
 go_wp2
 refine wp_region_later (by kernel_rfl) (by kernel_rfl) ?_
 repeat (go_big_quiet_step ((first | (go_at_call 119; with_reducible exact later_of_below (nodes_any A c n.gs.length n.ins n.gs.length _ (by omega) (by omega) hk0 hk1)) | (go_at_call 112; with_reducible exact later_of_same (of_any s _ _ s0 s1 (by omega) (by omega))))))
 refine wpQuiet_nil ?_
 rintro _ ⟨x, rfl⟩
 go_wp2
 go_ret
 exact ⟨rfl, x.le⟩
def RetSig (lo : Nat) (w : World) (r : Nat) (m : N × Int) (e : Ending) (w' : World) : Prop :=
 e = .returned (.int .i64 m.2) ∧ BelK lo w w' ∧ (m.2 ≠ 0 → Circ lo w' r m.1 m.1.gs)
theorem and1_1 {n : N} {a b : Int} (h : a = -1 ∨ b = -1) : and1 n a b = (n, -1) := by unfold and1; rw [if_pos (by omega)]
theorem and1_2 {n : N} {a b : Int} (h : ¬ (a = -1 ∨ b = -1)) (h2 : a = 1) : and1 n a b = (n, b) := by unfold and1; rw [if_neg (by omega), if_pos (by omega)]
theorem and1_3 {n : N} {a b : Int} (h : ¬ (a = -1 ∨ b = -1)) (h2 : a ≠ 1) (h3 : b = 1) : and1 n a b = (n, a) := by unfold and1; rw [if_neg (by omega), if_neg (by omega), if_pos (by omega)]
theorem and1_4 {n : N} {a b : Int} (h : ¬ (a = -1 ∨ b = -1)) (h0 : a ≠ 0) (h2 : a = b) : and1 n a b = (n, a) := by unfold and1; rw [if_neg (by omega), if_pos (by omega), h2]
theorem and1_5 {n : N} {a b : Int} (h2 : a = -b) : and1 n a b = (n, -1) := by unfold and1; rw [if_pos (by omega)]
theorem and1_6 {n : N} {a b : Int} (h1 : ¬ (a = -1 ∨ b = -1)) (h2 : a ≠ 1) (h3 : b ≠ 1) (h4 : a ≠ b) (h5 : a ≠ -b) : and1 n a b = put n (sortG ⟨false, a, b⟩) := by
 unfold and1 sortG; rw [if_neg (by omega), if_neg (by omega), if_neg (by omega)]; split <;> rfl
theorem implAnd_any (lo r : Nat) (n : N) (a b : Int) (w : World) (h : Circ lo w r n n.gs) (hn : n.gs.length ≤ 600) (h0 : 0 ≤ n.ins) (h1 : n.ins ≤ 8) (ha : -2000000000 ≤ a ∧ a ≤ 2000000000) (hb : -2000000000 ≤ b ∧ b ≤ 2000000000) (hz : a ≠ 0) :
  Calls Tryz.prog 124 #[.pointer (some ⟨r, 0, none⟩), .int .i64 a, .int .i64 b] w (RetSig lo w r (and1 n a b)) := by
 have eb : IntKind.i64.wrap (-b) = -b := IntWalk.i64_in _ (by omega)
 by_cases c1 : a = -1 ∨ b = -1
 ·
  rw [and1_1 c1]
  have t : (a == -1 || b == -1) = true := by simp; omega
  by_cases c0 : a = -1
  ·
   have t0 : (a == -1) = true := by simp [c0]
   clear c1 t
   have C0 := zH c0
   clear c0
   go_enter Tryz.func124, Tryz.ntmps124
   go_wp2
   go_ret
   exact ⟨rfl, BelK.refl _ _, fun _ => h⟩
  ·
   have t0 : (a == -1) = false := by simp [c0]
   have t1 : (b == -1) = true := by simp; omega
   clear c1 t
   go_enter Tryz.func124, Tryz.ntmps124
   go_wp2
   go_ret
   exact ⟨rfl, BelK.refl _ _, fun _ => h⟩
 have t0 : (a == -1) = false := by simp; omega
 have t1 : (b == -1) = false := by simp; omega
 by_cases c2 : a = 1
 ·
  rw [and1_2 c1 c2]
  have t2 : (a == 1) = true := by simp [c2]
  have C2 := zH c2
  clear c1 c2
  go_enter Tryz.func124, Tryz.ntmps124
  go_wp2
  go_ret
  exact ⟨rfl, BelK.refl _ _, fun _ => h⟩
 have t2 : (a == 1) = false := by simp [c2]
 by_cases c3 : b = 1
 ·
  rw [and1_3 c1 c2 c3]
  have t3 : (b == 1) = true := by simp [c3]
  clear c1 c3 eb
  go_enter Tryz.func124, Tryz.ntmps124
  go_wp2
  go_ret
  exact ⟨rfl, BelK.refl _ _, fun _ => h⟩
 have t3 : (b == 1) = false := by simp [c3]
 by_cases c4 : a = b
 ·
  rw [and1_4 c1 hz c4]
  have t4 : (a == b) = true := by simp [c4]
  clear c1 c4
  go_enter Tryz.func124, Tryz.ntmps124
  go_wp2
  go_ret
  exact ⟨rfl, BelK.refl _ _, fun _ => h⟩
 have t4 : (a == b) = false := by simp [c4]
 by_cases c5 : a = -b
 ·
  rw [and1_5 c5]
  have t5 : (a == -b) = true := by simp [c5]
  clear c1 c5
  go_enter Tryz.func124, Tryz.ntmps124
  go_wp2
  go_ret
  exact ⟨rfl, BelK.refl _ _, fun _ => h⟩
 have t5 : (a == -b) = false := by simp [c5]
 rw [and1_6 c1 c2 c3 c4 c5]
 clear c1 c2 c3 c4 c5
 go_enter Tryz.func124, Tryz.ntmps124
 go_wp2_with fail
 refine (gate_any lo r n ⟨false, a, b⟩ w h hn h0 h1 ha hb).mono ?_
 rintro e w' ⟨rfl, hb2, hc2⟩
 go_wp2
 go_ret
 exact ⟨rfl, hb2, hc2⟩
theorem xor1_1 {n : N} {a b : Int} (h : a = 1 ∨ a = -1) : xor1 n a b = (n, if (a == 1) = true then -b else b) := by
 unfold xor1; rw [if_pos h]
 rcases h with rfl | rfl
 · simp
 · simp
theorem xor1_2 {n : N} {a b : Int} (h1 : ¬ (a = 1 ∨ a = -1)) (h : b = 1 ∨ b = -1) : xor1 n a b = (n, if (b == 1) = true then -a else a) := by
 unfold xor1; rw [if_neg h1, if_pos h]
 rcases h with rfl | rfl
 · simp
 · simp
theorem xor1_3 {n : N} {a b : Int} (h1 : ¬ (a = 1 ∨ a = -1)) (h2 : ¬ (b = 1 ∨ b = -1)) (h : a = b) : xor1 n a b = (n, -1) := by unfold xor1; rw [if_neg h1, if_neg h2, if_pos h]
theorem xor1_4 {n : N} {a b : Int} (h1 : ¬ (a = 1 ∨ a = -1)) (h2 : ¬ (b = 1 ∨ b = -1)) (h3 : a ≠ b) (h : a = -b) : xor1 n a b = (n, 1) := by unfold xor1; rw [if_neg h1, if_neg h2, if_neg h3, if_pos h]
theorem sgn_mul (a b k : Int) : sgn a * sgn b * k = if (decide (a < 0) != decide (b < 0)) = true then -k else k := by
 unfold sgn
 by_cases ha : a < 0 <;> by_cases hb : b < 0 <;> simp [ha, hb]
theorem xor1_5 {n : N} {a b : Int} (h1 : ¬ (a = 1 ∨ a = -1)) (h2 : ¬ (b = 1 ∨ b = -1)) (h3 : a ≠ b) (h4 : a ≠ -b) :
  xor1 n a b = ((put n (sortG ⟨true, a.natAbs, b.natAbs⟩)).1, if (decide (a < 0) != decide (b < 0)) = true then -(put n (sortG ⟨true, a.natAbs, b.natAbs⟩)).2 else (put n (sortG ⟨true, a.natAbs, b.natAbs⟩)).2) := by
 unfold xor1; rw [if_neg h1, if_neg h2, if_neg h3, if_neg h4]
 have hs : (if b.natAbs < a.natAbs then (⟨true, (b.natAbs : Int), (a.natAbs : Int)⟩ : G) else ⟨true, (a.natAbs : Int), (b.natAbs : Int)⟩) = sortG ⟨true, a.natAbs, b.natAbs⟩ := by
  unfold sortG; simp only [Int.natAbs_natCast]
 simp only [hs, sgn_mul]
set_option maxRecDepth 100000 in
set_option maxHeartbeats 1000000 in
theorem implXor_any (lo r : Nat) (n : N) (a b : Int) (w : World) (h : Circ lo w r n n.gs) (hn : n.gs.length ≤ 600) (h0 : 0 ≤ n.ins) (h1 : n.ins ≤ 8) (ha : -2000000000 ≤ a ∧ a ≤ 2000000000) (hb : -2000000000 ≤ b ∧ b ≤ 2000000000) :
  Calls Tryz.prog 125 #[.pointer (some ⟨r, 0, none⟩), .int .i64 a, .int .i64 b] w (RetSig lo w r (xor1 n a b)) := by
 have eb : IntKind.i64.wrap (-b) = -b := IntWalk.i64_in _ (by omega)
 obtain ⟨na, hna⟩ : ∃ na : Int, na = a.natAbs := ⟨_, rfl⟩
 obtain ⟨nb, hnb⟩ : ∃ nb : Int, nb = b.natAbs := ⟨_, rfl⟩
 have qa : ∀ W : World, Calls Tryz.prog 113 #[.int .i64 a] W fun e w' => e = .returned (.int .i64 na) ∧ W = w' := fun W => by rw [hna]; exact node_any a W (by omega) (by omega)
 have qb : ∀ W : World, Calls Tryz.prog 113 #[.int .i64 b] W fun e w' => e = .returned (.int .i64 nb) ∧ W = w' := fun W => by rw [hnb]; exact node_any b W (by omega) (by omega)
 have Qa := zH qa
 have Qb := zH qb
 have NA := zH hna
 have NB := zH hnb
 clear qa qb
 by_cases c1 : a = 1 ∨ a = -1
 ·
  have t1 : (na == 1) = true := by simp; omega
  clear hna hnb eb
  rcases c1 with rfl | rfl
  ·
   rw [show xor1 n 1 b = (n, -b) from by rw [xor1_1 (.inl rfl)]; rfl]
   go_enter Tryz.func125, Tryz.ntmps125
   go_wp2_with fail
   refine (Qa.out _).mono ?_
   rintro e w' ⟨rfl, rfl⟩
   go_wp2_with fail
   refine (turned_any b true _ (by omega) (by omega)).mono ?_
   rintro e w' ⟨rfl, rfl⟩
   go_wp2
   go_ret
   exact ⟨rfl, BelK.refl _ _, fun _ => h⟩
  ·
   rw [show xor1 n (-1) b = (n, b) from by rw [xor1_1 (.inr rfl)]; rfl]
   go_enter Tryz.func125, Tryz.ntmps125
   go_wp2_with fail
   refine (Qa.out _).mono ?_
   rintro e w' ⟨rfl, rfl⟩
   go_wp2_with fail
   refine (turned_any b false _ (by omega) (by omega)).mono ?_
   rintro e w' ⟨rfl, rfl⟩
   go_wp2
   go_ret
   exact ⟨rfl, BelK.refl _ _, fun _ => h⟩
 have t1 : (na == 1) = false := by simp; omega
 by_cases c2 : b = 1 ∨ b = -1
 ·
  have t2 : (nb == 1) = true := by simp; omega
  clear hna hnb eb
  rcases c2 with rfl | rfl
  ·
   rw [show xor1 n a 1 = (n, -a) from by rw [xor1_2 c1 (.inl rfl)]; rfl]
   clear c1
   go_enter Tryz.func125, Tryz.ntmps125
   go_wp2_with fail
   refine (Qa.out _).mono ?_
   rintro e w' ⟨rfl, rfl⟩
   go_wp2_with fail
   refine (Qb.out _).mono ?_
   rintro e w' ⟨rfl, rfl⟩
   go_wp2_with fail
   refine (turned_any a true _ (by omega) (by omega)).mono ?_
   rintro e w' ⟨rfl, rfl⟩
   go_wp2
   go_ret
   exact ⟨rfl, BelK.refl _ _, fun _ => h⟩
  ·
   rw [show xor1 n a (-1) = (n, a) from by rw [xor1_2 c1 (.inr rfl)]; rfl]
   clear c1
   go_enter Tryz.func125, Tryz.ntmps125
   go_wp2_with fail
   refine (Qa.out _).mono ?_
   rintro e w' ⟨rfl, rfl⟩
   go_wp2_with fail
   refine (Qb.out _).mono ?_
   rintro e w' ⟨rfl, rfl⟩
   go_wp2_with fail
   refine (turned_any a false _ (by omega) (by omega)).mono ?_
   rintro e w' ⟨rfl, rfl⟩
   go_wp2
   go_ret
   exact ⟨rfl, BelK.refl _ _, fun _ => h⟩
 have t2 : (nb == 1) = false := by simp; omega
 by_cases c3 : a = b
 ·
  rw [xor1_3 c1 c2 c3]
  have t3 : (a == b) = true := by simp [c3]
  clear c1 c2 c3 hna hnb
  go_enter Tryz.func125, Tryz.ntmps125
  go_wp2_with fail
  refine (Qa.out _).mono ?_
  rintro e w' ⟨rfl, rfl⟩
  go_wp2_with fail
  refine (Qb.out _).mono ?_
  rintro e w' ⟨rfl, rfl⟩
  go_wp2
  go_ret
  exact ⟨rfl, BelK.refl _ _, fun _ => h⟩
 have t3 : (a == b) = false := by simp [c3]
 by_cases c4 : a = -b
 ·
  rw [xor1_4 c1 c2 c3 c4]
  have t4 : (a == -b) = true := by simp [c4]
  clear c1 c2 c3 c4 hna hnb
  go_enter Tryz.func125, Tryz.ntmps125
  go_wp2_with fail
  refine (Qa.out _).mono ?_
  rintro e w' ⟨rfl, rfl⟩
  go_wp2_with fail
  refine (Qb.out _).mono ?_
  rintro e w' ⟨rfl, rfl⟩
  go_wp2
  go_ret
  exact ⟨rfl, BelK.refl _ _, fun _ => h⟩
 have t4 : (a == -b) = false := by simp [c4]
 have hpr := put_range n (sortG ⟨true, a.natAbs, b.natAbs⟩) (by omega) h0 (by omega)
 have hga := gate_any lo r n ⟨true, na, nb⟩ w h hn h0 h1 (by rw [hna]; dsimp only; omega) (by rw [hnb]; dsimp only; omega)
 rw [xor1_5 c1 c2 c3 c4]
 rw [← hna, ← hnb] at hpr ⊢
 have HGA := zH hga
 clear c1 c2 c3 c4 hna hnb hga
 generalize hP : put n (sortG ⟨true, na, nb⟩) = pp at *
 have HPP := zH hP
 clear hP
 obtain ⟨hp0, hp1⟩ := hpr
 by_cases sa : a < 0 <;> by_cases sb : b < 0
 all_goals
  simp only [sa, sb, decide_true, decide_false, bne_self_eq_false, Bool.false_eq_true, if_false, if_true, show (true != false) = true from rfl, show (false != true) = true from rfl]
  go_enter Tryz.func125, Tryz.ntmps125
  go_wp2_with fail
  refine (Qa.out _).mono ?_
  rintro e w' ⟨rfl, rfl⟩
  go_wp2_with fail
  refine (Qb.out _).mono ?_
  rintro e w' ⟨rfl, rfl⟩
  go_wp2_with fail
  refine (Qa.out _).mono ?_
  rintro e w' ⟨rfl, rfl⟩
  go_wp2_with fail
  refine (Qb.out _).mono ?_
  rintro e w' ⟨rfl, rfl⟩
  go_wp2_with fail
  refine HGA.out.mono ?_
  unfold RetGate
  rw [HPP.out]
  rintro e w' ⟨rfl, hb2, hc2⟩
  go_wp2_with fail
  refine (turned_any pp.2 _ _ (by omega) (by omega)).mono ?_
  rintro e w' ⟨rfl, rfl⟩
  go_wp2
  go_ret
  exact ⟨rfl, hb2, fun h9 => hc2 (by first | exact h9 | (intro e; exact h9 (by show -pp.2 = 0; omega)))⟩
set_option maxRecDepth 100000 in
theorem clone_any (A : Option Addr) (c : Nat) (xs : List G) (w : World) (h : Lay.gate.Rd w A xs) (hn : xs.length ≤ 1048576) (hA : A = none → xs.length = 0) :
  Calls Tryz.prog 118 #[.slice A xs.length c] w (RetGs w xs) := by
 obtain ⟨i0, hi0, hz0, hz1, hz2⟩ := info_parts gate_info
 cases A with
 | none =>
  have h0 : xs = [] := List.eq_nil_of_length_eq_zero (hA rfl)
  subst h0
  have he : ∀ w : World, (binOp .eql 27 (.slice none 0 c) (.slice none 0 0)).run Tryz.prog w = .ok (.bool true) w := fun _ => rfl
  go_enter Tryz.func118, Tryz.ntmps118
  go_wp2
  go_ret
  exact ⟨none, 0, rfl, World.ownsRow_nil _ _ _ _, Below.refl _ _⟩
 | some ad =>
  clear hA
  have he : ∀ w : World, (binOp .eql 27 (.slice (some ad) xs.length c) (.slice none 0 0)).run Tryz.prog w = .ok (.bool false) w := fun _ => rfl
  go_enter Tryz.func118, Tryz.ntmps118
  go_wp2_with (at_builtin; refine wpList_append_src _ (by rfl) (.tmp 5) (.tmp 6) _ (by rfl) w.heap.size 88 i0 _ 3 24 Tryz.underlying27 hi0 hz0 hz1 hz2 (by rfl) (by omega) (.slice (some ⟨w.heap.size, 0, none⟩) 0 0) 0 [] (by rfl) (own_lit0 rfl) (some ad) xs.length c (xs.flatMap gcells) (by rfl) (src_gates (Lay.Sl.up h ((Below.refl _ _).alloc (Nat.le_refl _) _))) (gcells_one _) xs.length (by omega) (by unfold maxLen; omega) (by omega) (by simp) (by simp) ?_; intro A1 c1 w1 hown1 hb1 _)
  have hbw : Below w.heap.size w w1 := ((Below.refl _ _).alloc (Nat.le_refl _) _).trans hb1
  go_ret
  exact ⟨A1, c1, rfl, by unfold OwnGs; simpa using hown1, hbw⟩
def RetReadN (w : World) (n : N) (e : Ending) (w' : World) : Prop :=
 Below w.heap.size w w' ∧ ((netOk n = true ∧ ∃ r, e = .returned (.tuple #[.pointer (some ⟨r, 0, none⟩), .bool true]) ∧ Circ w.heap.size w' r n n.gs) ∨ (netOk n = false ∧ e = .returned (.tuple #[.pointer none, .bool false])))
theorem read_no {w w' : World} {n : N} (h : netOk n = false) (hb : Below w.heap.size w w') : RetReadN w n (.returned (.tuple #[.pointer none, .bool false])) w' := ⟨hb, .inr ⟨h, rfl⟩⟩
def Fact.rowG (lo : Nat) (xs : List G) : Fact :=
 .of (fun v x => ∃ A c, v = .slice A xs.length c ∧ OwnGs x lo (.slice A xs.length c) xs) fun _ _ _ ⟨A, c, h1, h2⟩ hb => ⟨A, c, h1, h2.up hb⟩
def Fact.netG (lo : Nat) (n : N) : Fact :=
 .of (fun v x => ∃ A c, v = .agg #[.int .i64 n.ins, .slice A n.gs.length c] ∧ OwnGs x lo (.slice A n.gs.length c) n.gs) fun _ _ _ ⟨A, c, h1, h2⟩ hb => ⟨A, c, h1, h2.up hb⟩
def Fact.mapG (lo : Nat) (ins : Int) : Fact :=
 .of (fun v x => ∃ b, v = .map (some b) ∧ lo ≤ b ∧ KnownAt x b ins []) fun _ _ _ ⟨b, h1, h2, h3⟩ hb => ⟨b, h1, h2, h3.keep (hb.block b h3.lt)⟩
def Fact.circG (lo : Nat) (n : N) : Fact :=
 .of (fun v x => ∃ A c b, v = .agg #[.int .i64 n.ins, .slice A n.gs.length c, .map (some b)] ∧ OwnGs x lo (.slice A n.gs.length c) n.gs ∧ lo ≤ b ∧ KnownAt x b n.ins []) fun _ _ _ ⟨A, c, b, h1, h2, h3, h4⟩ hb => ⟨A, c, b, h1, h2.up hb, h3, h4.keep (hb.block b h4.lt)⟩
def Fact.ptrG (W : World) (n : N) : Fact :=
 .of (fun v x => ∃ r, v = .pointer (some ⟨r, 0, none⟩) ∧ Circ W.heap.size x r n [] ∧ Below W.heap.size W x) fun _ _ _ ⟨r, h1, h2, h3⟩ hb => ⟨r, h1, h2.up hb, bthen h3 hb⟩
theorem good_no_ok {n : N} {k : Nat} {g : G} (hg : n.gs[k]? = some g) (hk : k < n.gs.length) (h : g.a < -(1 + n.ins + k) ∨ 1 + n.ins + k < g.a ∨ g.b < -(1 + n.ins + k) ∨ 1 + n.ins + k < g.b ∨ (g.a.natAbs : Int) < 2 ∨ (g.b.natAbs : Int) ≤ g.a.natAbs) : netOk n = false := by
 refine netOk_no (.inr (.inr (.inr ⟨k, hk, ?_⟩)))
 unfold goodAt goodG okG
 rw [hg]
 simp only [okG_no h, Bool.false_and]
theorem good_no_x {n : N} {k : Nat} {g : G} (hg : n.gs[k]? = some g) (hk : k < n.gs.length) (h : g.x = true ∧ (g.a < 0 ∨ g.b < 0)) : netOk n = false := by
 refine netOk_no (.inr (.inr (.inr ⟨k, hk, ?_⟩)))
 unfold goodAt goodG okG
 rw [hg, Bool.eq_false_iff]
 intro e
 simp only [Bool.and_eq_true, Bool.not_eq_true', Bool.and_eq_false_iff, Bool.or_eq_false_iff, decide_eq_false_iff_not] at e
 obtain ⟨⟨_, e⟩, _⟩ := e
 rcases e with e | ⟨e1, e2⟩
 · rw [h.1] at e; cases e
 · omega
theorem good_no_mem {n : N} {k : Nat} {g : G} (hg : n.gs[k]? = some g) (hk : k < n.gs.length) (h : g ∈ n.gs.take k) : netOk n = false := by
 refine netOk_no (.inr (.inr (.inr ⟨k, hk, ?_⟩)))
 unfold goodAt goodG
 rw [hg]
 have : (n.gs.take k).contains g = true := List.contains_iff_mem.2 h
 simp only [this, Bool.not_true, Bool.and_false]
theorem good_yes {n : N} {k : Nat} {g : G} (hg : n.gs[k]? = some g) (h1 : -(1 + n.ins + k) ≤ g.a) (h2 : g.a ≤ 1 + n.ins + k) (h3 : -(1 + n.ins + k) ≤ g.b) (h4 : g.b ≤ 1 + n.ins + k) (h5 : 2 ≤ (g.a.natAbs : Int)) (h6 : (g.a.natAbs : Int) < g.b.natAbs)
  (hx : ¬ (g.x = true ∧ (g.a < 0 ∨ g.b < 0))) (hm : g ∉ n.gs.take k) : goodAt n k = true := by
 unfold goodAt goodG okG
 rw [hg]
 simp only [okG_yes h1 h2 h3 h4 h5 h6]
 have hc : (n.gs.take k).contains g = false := by
  cases h : (n.gs.take k).contains g with
  | false => rfl
  | true => exact absurd (List.contains_iff_mem.1 h) hm
 rw [hc]
 cases hgx : g.x with
 | false => rfl
 | true =>
  have : ¬ (g.a < 0 ∨ g.b < 0) := fun h => hx ⟨hgx, h⟩
  have h7 : decide (g.a < 0) = false := by simp; omega
  have h8 : decide (g.b < 0) = false := by simp; omega
  rw [h7, h8]; rfl
set_option maxRecDepth 100000 in
set_option maxHeartbeats 8000000 in
theorem readNet_any (A : Option Addr) (c : Nat) (n : N) (w : World) (h : Lay.gate.Rd w A n.gs) (hn : n.gs.length ≤ 1048576) (hA : A = none → n.gs.length = 0) (hi : okInts n) :
  Calls Tryz.prog 86 #[.agg #[.int .i64 n.ins, .slice A n.gs.length c]] w (RetReadN w n) := by
 have hw : Below w.heap.size w (w.alloc (.cells #[.int .i64 n.ins, .slice A n.gs.length c] 29)) := (Below.refl _ _).alloc (Nat.le_refl _) _
 by_cases h0 : n.ins < 0
 ·
  have HN := zH (netOk_no (.inl h0))
  go_enter Tryz.func86, Tryz.ntmps86
  go_wp2
  go_ret2
  exact read_no HN.out hw
 by_cases h1 : 8 < n.ins
 ·
  have HN := zH (netOk_no (.inr (.inl h1)))
  go_enter Tryz.func86, Tryz.ntmps86
  go_wp2
  go_ret2
  exact read_no HN.out hw
 by_cases h2 : 600 < n.gs.length
 ·
  have HN := zH (netOk_no (.inr (.inr (.inl h2))))
  go_enter Tryz.func86, Tryz.ntmps86
  go_wp2
  go_ret2
  exact read_no HN.out hw
 have v0 : (w.alloc (.cells #[.int .i64 n.ins, .slice A n.gs.length c] 29)).cell? ⟨w.heap.size, 0, none⟩ = some (.int .i64 n.ins) := by simp [go_sem]
 have v1 : (w.alloc (.cells #[.int .i64 n.ins, .slice A n.gs.length c] 29)).cell? ⟨w.heap.size, 1, none⟩ = some (.slice A n.gs.length c) := by simp [go_sem]
 have hlo1 : w.heap.size ≤ (w.alloc (.cells #[.int .i64 n.ins, .slice A n.gs.length c] 29)).heap.size := by simp
 have H := h.up hw
 go_enter Tryz.func86, Tryz.ntmps86
 go_wp2
 generalize w.alloc (.cells #[.int .i64 n.ins, .slice A n.gs.length c] 29) = W1 at *
 have d0 := Later.cell v0
 have d1 := Later.cell v1
 refine wp_region_shares [[], [(0, 25)], [], [(2, 27)], [(3, 28)], [(1, 26), (4, 29)], [], [(5, 30), (6, 31)], [(7, 32)], [(8, 33)]]
  [.eq (.pointer (some ⟨w.heap.size, 0, none⟩)), .eq (.int .i64 n.ins), .eq (.pointer (some ⟨w.heap.size, 1, none⟩)), .eq (.slice A n.gs.length c), Fact.rowG W1.heap.size n.gs, Fact.netG W1.heap.size n, Fact.mapG W1.heap.size n.ins, Fact.circG W1.heap.size n, Fact.ptrG W1 n, Fact.ptrG W1 n]
  [] [] [] [9] [(0, 25), (1, 26), (2, 27), (3, 28), (4, 29), (5, 30), (6, 31), (7, 32), (8, 33), (9, 4)] (by kernel_rfl) (by kernel_rfl) (by kernel_rfl) (by kernel_rfl)
  ⟨?_, ?_, ?_, ?_, ?_, ?_, ?_, ?_, ?_, ?_, trivial⟩ ?_
 ·
  intro vals x hC hF
  simp only [putsD, Act.put, zA, zB, zC]
  go_wp2
  exact ⟨rfl, rfl, .inr (Below.refl _ _), .inr (.inl (by simp))⟩
 ·
  intro vals x hC hF
  have hC := hC.resolve_left (by simp)
  have hsz := hC.size
  have e1 : x.cell? _ = _ := d0 ⟨x, hC⟩
  simp only [factsD, zD, zE, Fact.eq, Fact.row, Fact.lit, Fact.lit0, Fact.of, and_true, Fact.rowG, Fact.netG, Fact.mapG, Fact.circG, Fact.ptrG] at hF
  simp only [putsD, Act.put, zA, zB, zC]
  simp only [hF]
  go_wp2
  exact ⟨rfl, rfl, .inr (Below.refl _ _), .inr (.inl (by simp))⟩
 ·
  intro vals x hC hF
  simp only [putsD, Act.put, zA, zB, zC]
  go_wp2
  exact ⟨rfl, rfl, .inr (Below.refl _ _), .inr (.inl (by simp))⟩
 ·
  intro vals x hC hF
  have hC := hC.resolve_left (by simp)
  have hsz := hC.size
  have e1 : x.cell? _ = _ := d1 ⟨x, hC⟩
  simp only [factsD, zD, zE, Fact.eq, Fact.row, Fact.lit, Fact.lit0, Fact.of, and_true, Fact.rowG, Fact.netG, Fact.mapG, Fact.circG, Fact.ptrG] at hF
  simp only [putsD, Act.put, zA, zB, zC]
  simp only [hF]
  go_wp2
  exact ⟨rfl, rfl, .inr (Below.refl _ _), .inr (.inl (by simp))⟩
 ·
  intro vals x hC hF
  have hC := hC.resolve_left (by simp)
  have hsz := hC.size
  simp only [factsD, zD, zE, Fact.eq, Fact.row, Fact.lit, Fact.lit0, Fact.of, and_true, Fact.rowG, Fact.netG, Fact.mapG, Fact.circG, Fact.ptrG] at hF
  simp only [putsD, Act.put, zA, zB, zC]
  simp only [hF]
  go_wp2_with fail
  refine (clone_any A c n.gs x (H.up hC) hn hA).mono ?_
  rintro e w9 ⟨A9, c9, rfl, ho9, hb9⟩
  go_wp2
  exact ⟨rfl, ⟨A9, c9, rfl, own_mono ho9 hsz⟩, .inr hb9, .inr (.inl (by simp))⟩
 ·
  intro vals x hC hF
  have hC := hC.resolve_left (by simp)
  have hsz := hC.size
  simp only [factsD, zD, zE, Fact.eq, Fact.row, Fact.lit, Fact.lit0, Fact.of, and_true, Fact.rowG, Fact.netG, Fact.mapG, Fact.circG, Fact.ptrG] at hF
  obtain ⟨e26, A9, c9, e29, ho9⟩ := hF
  simp only [putsD, Act.put, zA, zB, zC]
  simp only [e26, e29]
  go_wp2
  exact ⟨rfl, ⟨A9, c9, rfl, ho9⟩, .inr (Below.refl _ _), .inr (.inl (by simp))⟩
 ·
  intro vals x hC hF
  have hC := hC.resolve_left (by simp)
  have hsz := hC.size
  simp only [putsD, Act.put, zA, zB, zC]
  have hmm := @run_makeMap Tryz.prog
  go_wp2
  exact ⟨rfl, ⟨_, rfl, hsz, _, World.ownsMap_made x _ _ _, Known.nil _⟩, .inr ((Below.refl _ _).alloc (Nat.le_refl _) _), .inr (.inl (by simp))⟩
 ·
  intro vals x hC hF
  have hC := hC.resolve_left (by simp)
  have hsz := hC.size
  simp only [factsD, zD, zE, Fact.eq, Fact.row, Fact.lit, Fact.lit0, Fact.of, and_true, Fact.rowG, Fact.netG, Fact.mapG, Fact.circG, Fact.ptrG] at hF
  obtain ⟨⟨A9, c9, e30, ho9⟩, b9, e31, hb9, hk9⟩ := hF
  simp only [putsD, Act.put, zA, zB, zC]
  simp only [e30, e31]
  go_wp2
  exact ⟨rfl, ⟨A9, c9, b9, rfl, ho9, hb9, hk9⟩, .inr (Below.refl _ _), .inr (.inl (by simp))⟩
 ·
  intro vals x hC hF
  have hC := hC.resolve_left (by simp)
  have hsz := hC.size
  simp only [factsD, zD, zE, Fact.eq, Fact.row, Fact.lit, Fact.lit0, Fact.of, and_true, Fact.rowG, Fact.netG, Fact.mapG, Fact.circG, Fact.ptrG] at hF
  obtain ⟨A9, c9, b9, e32, ho9, hb9, hk9⟩ := hF
  simp only [putsD, Act.put, zA, zB, zC]
  simp only [e32]
  go_wp2
  have hal : Below x.heap.size x (x.alloc (.cells #[.int .i64 n.ins, .slice A9 n.gs.length c9, .map (some b9)] 119)) := (Below.refl _ _).alloc (Nat.le_refl _) _
  exact ⟨rfl, ⟨_, rfl, ⟨A9, c9, b9, heap_alloc_new _ _, hsz, hb9, ho9.up hal, hk9.keep (hal.block b9 hk9.lt)⟩, bthen hC hal⟩, .inr hal, .inr (.inl (by simp))⟩
 ·
  intro vals x hC hF
  have hC := hC.resolve_left (by simp)
  have hsz := hC.size
  simp only [factsD, zD, zE, Fact.eq, Fact.row, Fact.lit, Fact.lit0, Fact.of, and_true, Fact.rowG, Fact.netG, Fact.mapG, Fact.circG, Fact.ptrG] at hF
  obtain ⟨r9, e33, hc9, hb9⟩ := hF
  simp only [putsD, Act.put, zA, zB, zC]
  simp only [e33]
  go_wp2
  exact ⟨rfl, ⟨r9, rfl, hc9, hb9⟩, .inr (Below.refl _ _), .inr (.inl (by simp))⟩
 ·
  intro vals x hF
  simp only [facts, zD, zE, Fact.eq, Fact.row, Fact.lit, Fact.lit0, Fact.of, and_true, Fact.rowG, Fact.netG, Fact.mapG, Fact.circG, Fact.ptrG] at hF
  obtain ⟨r, e9, hC, hB⟩ := hF
  simp only [putsD, Act.put, zA, zB, zC]
  simp only [e9]
  clear e9
  have z1 := (hB.cell (World.block_lt_of_cell? W1 _ v1)).trans v1
  go_wp2
  clear z1
  go_loopw [37] (fun i wr => ∃ k : Nat, k ≤ n.gs.length ∧ i = .int .i64 k ∧ Below W1.heap.size W1 wr ∧ Circ W1.heap.size wr r n (n.gs.take k) ∧ ∀ i', i' < k → goodAt n i' = true) (fun i _ => n.gs.length - (intOf i).toNat)
  case atStart => exact ⟨0, Nat.zero_le _, rfl, hB, hC, fun i' h => absurd h (by omega)⟩
  case round =>
   obtain ⟨k, hk, rfl, hb, hCk, hg⟩ := hrel
   have HG := zH hg
   clear hg hB hC d0 d1
   by_cases hlt : k < n.gs.length
   ·
    obtain ⟨ad, rfl, hf, g1, g2, g3⟩ := (H.up hb).at_gate hlt
    have hgk : n.gs[k]? = some n.gs[k] := List.getElem?_eq_getElem hlt
    obtain ⟨⟨a0, a1⟩, b0, b1⟩ := hi n.gs[k] (List.getElem_mem _)
    generalize n.gs[k] = g at *
    obtain ⟨gx, ga, gb⟩ := g
    dsimp only at g1 g2 g3 a0 a1 b0 b1
    have HGK := zH hgk
    obtain ⟨na, hna⟩ : ∃ na : Int, na = ga.natAbs := ⟨_, rfl⟩
    obtain ⟨nb, hnb⟩ : ∃ nb : Int, nb = gb.natAbs := ⟨_, rfl⟩
    have qa : ∀ W : World, -9223372036854775808 < ga → Calls Tryz.prog 113 #[.int .i64 ga] W fun e w' => e = .returned (.int .i64 na) ∧ W = w' := fun W h9 => by rw [hna]; exact node_any ga W h9 a1
    have qb : ∀ W : World, -9223372036854775808 < gb → Calls Tryz.prog 113 #[.int .i64 gb] W fun e w' => e = .returned (.int .i64 nb) ∧ W = w' := fun W h9 => by rw [hnb]; exact node_any gb W h9 b1
    have Qa := zH qa
    have Qb := zH qb
    have NA := zH hna
    have NB := zH hnb
    clear qa qb hgk hna hnb
    have hk1 : (k : Int) < n.gs.length := by omega
    have y0 := (hb.cell (World.block_lt_of_cell? W1 _ v0)).trans v0
    have y1 := (hb.cell (World.block_lt_of_cell? W1 _ v1)).trans v1
    have hS1 : w.heap.size < W1.heap.size := World.block_lt_of_cell? W1 _ v0
    have hS2 : W1.heap.size ≤ wr.heap.size := hb.size
    have hS3 : w.heap.size < wr.heap.size := Nat.lt_of_lt_of_le hS1 hS2
    have hal : Below wr.heap.size wr (wr.alloc (.cells #[.bool gx, .int .i64 ga, .int .i64 gb] 88)) := (Below.refl _ _).alloc (Nat.le_refl _) _
    have hSg : (wr.alloc (.cells #[.bool gx, .int .i64 ga, .int .i64 gb] 88)).heap[wr.heap.size]? = some (.cells #[.bool gx, .int .i64 ga, .int .i64 gb] 88 (0, 0)) := heap_alloc_new _ _
    have hCal := hCk.up hal
    have t0 : (wr.alloc (.cells #[.bool gx, .int .i64 ga, .int .i64 gb] 88)).cell? ⟨w.heap.size, 0, none⟩ = some (.int .i64 n.ins) := ((bcell hal).1 _ _ hS3).trans y0
    have t1 : (wr.alloc (.cells #[.bool gx, .int .i64 ga, .int .i64 gb] 88)).cell? ⟨w.heap.size, 1, none⟩ = some (.slice (some ad) n.gs.length c) := ((bcell hal).1 _ _ hS3).trans y1
    go_wp2
    go_quiet (fail)
    go_wp2_with fail
    have u0 : ((wr.alloc (.cells #[.bool gx, .int .i64 ga, .int .i64 gb] 88)).drewN nq).cell? ⟨w.heap.size, 0, none⟩ = some (.int .i64 n.ins) := t0
    have u1 : ((wr.alloc (.cells #[.bool gx, .int .i64 ga, .int .i64 gb] 88)).drewN nq).cell? ⟨w.heap.size, 1, none⟩ = some (.slice (some ad) n.gs.length c) := t1
    have u2 : ((wr.alloc (.cells #[.bool gx, .int .i64 ga, .int .i64 gb] 88)).drewN nq).heap[wr.heap.size]? = some (.cells #[.bool gx, .int .i64 ga, .int .i64 gb] 88 (0, 0)) := hSg
    have hC0 : Circ W1.heap.size ((wr.alloc (.cells #[.bool gx, .int .i64 ga, .int .i64 gb] 88)).drewN nq) r n (n.gs.take k) := hCal.up (z01 (Below.refl _ _) nq)
    have hB0 : Below W1.heap.size W1 ((wr.alloc (.cells #[.bool gx, .int .i64 ga, .int .i64 gb] 88)).drewN nq) := z01 (bthen hb hal) nq
    have hlow0 : W1.heap.size ≤ ((wr.alloc (.cells #[.bool gx, .int .i64 ga, .int .i64 gb] 88)).drewN nq).heap.size := hB0.size
    generalize (wr.alloc (.cells #[.bool gx, .int .i64 ga, .int .i64 gb] 88)).drewN nq = W0 at *
    clear t0 t1 hSg hCal hal y0 y1 g1 g2 g3 hCk v0 v1 hS2
    have d0 := Later.cell u0
    have d1 := Later.cell u1
    have d2 := Later.cell (show W0.cell? ⟨wr.heap.size, 0, none⟩ = some (.bool gx) from (z00 u2 0).1)
    have d3 := Later.cell (show W0.cell? ⟨wr.heap.size, 1, none⟩ = some (.int .i64 ga) from (z00 u2 1).1)
    have d4 := Later.cell (show W0.cell? ⟨wr.heap.size, 2, none⟩ = some (.int .i64 gb) from (z00 u2 2).1)
    have U2 := zH u2
    clear u0 u1 u2
    refine (nodes_any (some ad) c n.gs.length n.ins k W0 (by omega) (by omega) (by omega) (by omega)).mono ?_
    rintro e w2 ⟨rfl, hb2⟩
    obtain ⟨x1, rfl⟩ : ∃ x : Later W0, w2 = x.W := ⟨⟨w2, hb2⟩, rfl⟩
    clear hb2
    go_wp2_with fail
    refine (of_any ga _ _ a0 a1 (by omega) (by omega)).mono ?_
    rintro e w2 ⟨rfl, rfl⟩
    cases sa : sigOf ga (1 + n.ins + k)
    ·
     have SA : Hid (netOk n = false) := zH (good_no_ok HGK.out hlt (by simp [sigOf] at sa; have := NA.out; dsimp only; omega))
     go_wp2
     go_ret2
     exact read_no SA.out (bthen hw ((hB0.trans (x1.le.mono hlow0))))
    have hsa : ga ≠ 0 ∧ -(1 + n.ins + k) ≤ ga ∧ ga ≤ 1 + n.ins + k := by simpa [sigOf] using sa
    obtain ⟨sa0, sa1, sa2⟩ := hsa
    clear sa
    go_wp2_with fail
    refine (nodes_any (some ad) c n.gs.length n.ins k x1.W (by omega) (by omega) (by omega) (by omega)).mono ?_
    rintro e w2 ⟨rfl, hb2⟩
    obtain ⟨x2, rfl⟩ : ∃ x : Later W0, w2 = x.W := ⟨⟨w2, bthen x1.le hb2⟩, rfl⟩
    clear hb2
    go_wp2_with fail
    refine (of_any gb _ _ b0 b1 (by omega) (by omega)).mono ?_
    rintro e w2 ⟨rfl, rfl⟩
    have hB2 := hB0.trans (x2.le.mono hlow0)
    cases sb : sigOf gb (1 + n.ins + k)
    ·
     have SA : Hid (netOk n = false) := zH (good_no_ok HGK.out hlt (by simp [sigOf] at sb; have := NA.out; have := NB.out; dsimp only; omega))
     go_wp2
     go_ret2
     exact read_no SA.out (bthen hw hB2)
    have hsb : gb ≠ 0 ∧ -(1 + n.ins + k) ≤ gb ∧ gb ≤ 1 + n.ins + k := by simpa [sigOf] using sb
    obtain ⟨sb0, sb1, sb2⟩ := hsb
    clear sb
    go_wp2_with fail
    refine (Qa.out _ (by omega)).mono ?_
    rintro e w2 ⟨rfl, rfl⟩
    by_cases p1 : na = 1
    ·
     have hp1 : (na == 1) = true := by simp [p1]
     have SA : Hid (netOk n = false) := zH (good_no_ok HGK.out hlt (by have := NA.out; dsimp only; omega))
     clear p1
     go_wp2
     go_ret2
     exact read_no SA.out (bthen hw hB2)
    have hp1 : (na == 1) = false := by simp [p1]
    have hp2 : 2 ≤ na := by have := NA.out; omega
    clear p1
    go_wp2_with fail
    refine (Qb.out _ (by omega)).mono ?_
    rintro e w2 ⟨rfl, rfl⟩
    by_cases p3 : nb = 1
    ·
     have hp3 : (nb == 1) = true := by simp [p3]
     have SA : Hid (netOk n = false) := zH (good_no_ok HGK.out hlt (by have := NA.out; have := NB.out; dsimp only; omega))
     clear p3
     go_wp2
     go_ret2
     exact read_no SA.out (bthen hw hB2)
    have hp3 : (nb == 1) = false := by simp [p3]
    clear p3
    go_wp2_with fail
    refine (Qa.out _ (by omega)).mono ?_
    rintro e w2 ⟨rfl, rfl⟩
    go_wp2_with fail
    refine (Qb.out _ (by omega)).mono ?_
    rintro e w2 ⟨rfl, rfl⟩
    by_cases p5 : nb ≤ na
    ·
     have SA : Hid (netOk n = false) := zH (good_no_ok HGK.out hlt (by have := NA.out; have := NB.out; dsimp only; omega))
     go_wp2
     go_ret2
     exact read_no SA.out (bthen hw hB2)
    clear hp1 hp3
    have hC2 := hC0.up x2.le
    obtain ⟨A2, c2, b2, hr2, hrlo, hblo, hown2, hkn2⟩ := hC2
    have z2 : x2.W.cell? ⟨r, 2, none⟩ = some (.map (some b2)) := (z00 hr2 2).1
    have hokg : okGi (⟨gx, ga, gb⟩ : G) := ⟨⟨a0, a1⟩, b0, b1⟩
    obtain ⟨cc, _, hlook⟩ := hkn2.look (⟨gx, ga, gb⟩ : G) hokg true
    have hl : ∀ m, (Instr.lookup 117 (.map (some b2)) (.agg #[.bool gx, .int .i64 ga, .int .i64 gb]) true).run Tryz.prog (x2.W.drewN m) = .ok (.tuple #[.int .i64 cc, .bool (decide ((⟨gx, ga, gb⟩ : G) ∈ n.gs.take k))]) (x2.W.drewN m) := fun m => hlook (x2.W.drewN m) rfl
    have HR2 := zH hr2
    clear hlook hr2
    have hlow2 : W1.heap.size ≤ x2.W.heap.size := hB2.size
    by_cases hm : (⟨gx, ga, gb⟩ : G) ∈ n.gs.take k
    ·
     have SA : Hid (netOk n = false) := zH (good_no_mem HGK.out hlt hm)
     rw [decide_eq_true hm] at hl
     clear hm
     go_wp2
     go_quiet (fail)
     clear hl
     go_wp2
     go_ret2
     exact read_no SA.out (z01 (bthen hw hB2) _)
    rw [decide_eq_false hm] at hl
    have HM := zH hm
    clear hm
    by_cases hx : gx = true ∧ (ga < 0 ∨ gb < 0)
    ·
     have SA : Hid (netOk n = false) := zH (good_no_x HGK.out hlt hx)
     obtain ⟨hx1, hx2⟩ := hx
     subst hx1
     by_cases hx3 : ga < 0
     all_goals
      go_wp2
      go_quiet (fail)
      clear hl
      go_wp2
      go_ret2
      exact read_no SA.out (z01 (bthen hw hB2) _)
    have hgood := good_yes HGK.out sa1 sa2 sb1 sb2 (by have := NA.out; dsimp only; omega) (by have := NA.out; have := NB.out; dsimp only; omega) hx HM.out
    have HGD := zH hgood
    have hxx : gx = false ∨ (gx = true ∧ 0 ≤ ga ∧ 0 ≤ gb) := by
     cases gx
     · exact .inl rfl
     ·
      have hx' : ¬ (ga < 0 ∨ gb < 0) := fun h9 => hx ⟨rfl, h9⟩
      exact .inr ⟨rfl, by omega, by omega⟩
    clear hx hgood
    have e1 : IntKind.i64.wrap (1 + n.ins + (k : Int) + 1) = 1 + n.ins + (k : Int) + 1 := IntWalk.i64_in _ (by omega)
    have E1 := zH e1
    clear e1
    rcases hxx with rfl | ⟨rfl, hx1, hx2⟩
    ·
     go_wp2
     go_quiet (fail)
     clear hl
     go_wp2
     clear p5
     have q0 : (x2.W.drewN nq).cell? ⟨w.heap.size, 0, none⟩ = some (.int .i64 n.ins) := d0 x2
     have q1 : (x2.W.drewN nq).cell? ⟨w.heap.size, 1, none⟩ = some (.slice (some ad) n.gs.length c) := d1 x2
     have q2 := d2 x2
     change (x2.W.drewN nq).cell? _ = _ at q2
     have q3 : (x2.W.drewN nq).cell? ⟨wr.heap.size, 1, none⟩ = some (.int .i64 ga) := d3 x2
     have q4 : (x2.W.drewN nq).cell? ⟨wr.heap.size, 2, none⟩ = some (.int .i64 gb) := d4 x2
     have q5 : (x2.W.drewN nq).cell? ⟨r, 2, none⟩ = some (.map (some b2)) := z2
     have hC3 : Circ W1.heap.size (x2.W.drewN nq) r n (n.gs.take k) := Circ.up ⟨A2, c2, b2, HR2.out, hrlo, hblo, hown2, hkn2⟩ (z01 (Below.refl _ _) nq)
     have hB3 : Below W1.heap.size W1 (x2.W.drewN nq) := z01 hB2 nq
     have hr3 : (x2.W.drewN nq).heap[r]? = some (.cells #[.int .i64 n.ins, .slice A2 n.gs.length c2, .map (some b2)] 119 (0, 0)) := HR2.out
     have hown3 : OwnGs (x2.W.drewN nq) W1.heap.size (.slice A2 n.gs.length c2) n.gs := hown2
     have hkn3 : KnownAt (x2.W.drewN nq) b2 n.ins (n.gs.take k) := hkn2
     have hlow3 : W1.heap.size ≤ (x2.W.drewN nq).heap.size := hlow2
     clear d0 d1 d2 d3 d4 z2 hown2 hkn2 hlow2 hB2 hB0 hC0 hlow0
     generalize x2.W.drewN nq = W6 at *
     have q0 := Later.cell q0
     have q1 := Later.cell q1
     have q2 := Later.cell q2
     have q3 := Later.cell q3
     have q4 := Later.cell q4
     have q5 := Later.cell q5
     have HR3 := zH hr3
     have e1 := E1.out
     clear hr3
     refine wp_region_later_tail 9 (by kernel_rfl) (by kernel_rfl) ?_
     simp only [List.take_succ_cons, List.take_zero, List.drop_succ_cons, List.drop_zero]
     repeat (go_big_quiet_step ((go_at_call 119; with_reducible exact later_of_below (nodes_any (some ad) c n.gs.length n.ins k _ (by omega) (by omega) (by omega) (by omega)))))
     refine wpQuiet_nil ?_
     rintro _ ⟨x9, rfl⟩
     clear e1
     have hB9 := hB3.trans (x9.le.mono hlow3)
     have hr9 := (x9.le.block r (lt_of_block HR3.out)).trans HR3.out
     have hown9 : OwnGs x9.W W1.heap.size (.slice A2 n.gs.length c2) n.gs := z07 hown3 x9.le (Nat.le_refl _)
     obtain ⟨D, hmap9, hD⟩ := hkn3.keep (x9.le.block b2 hkn3.lt)
     have hlen : (n.gs.take k).length = k := by simp; omega
     rw [hlen] at hmap9
     have hkm : k < maxLen := by unfold maxLen; omega
     go_wp2_with (at_mapUpdate; refine wpList_mapUpdate_own _ rfl _ _ _ 117 rfl 88 3 gate_keyed Tryz.underlying117 _ b2 k D rfl hmap9 hkm _ _ (keyG ⟨false, ga, gb⟩) rfl rfl (keyG_ok ⟨false, ga, gb⟩ hokg) (.lit (.int .i64 (1 + n.ins + k + 1))) [] (plainElem_int Tryz.underlying3 (WalkArith.wf_i64 (by omega))) ?_; intro w5 hown5 hgrow5)
     have hD5 := hD.put ⟨false, ga, gb⟩ hokg HM.out (1 + n.ins + k + 1) (by rw [hlen]; omega)
     have htk : n.gs.take k ++ [⟨false, ga, gb⟩] = n.gs.take (k + 1) := by rw [List.take_add_one, HGK.out]; rfl
     rw [htk] at hD5
     have hneb9 : some r ≠ some b2 := by
      intro e; injection e with e; subst e
      obtain ⟨es, clock, hbb, _⟩ := hmap9; rw [hr9] at hbb; cases hbb
     have hr5 := (hgrow5.block r (lt_of_block hr9) hneb9).trans hr9
     have hownm : OwnGs w5 W1.heap.size (.slice A2 n.gs.length c2) n.gs := hown9.kept hgrow5 (by
      obtain ⟨es, clock, hbb, _⟩ := hmap9
      exact .inr (fun e => row_ne hown9 b2 _ hbb (fun cs fr e => by cases e) e.symm))
     have hB5 := hB9.grown hgrow5 (Nat.le_trans hlow3 x9.le.size) (fun k' hk' => by injection hk' with hk'; rw [← hk']; exact hblo)
     have hC5 : Circ W1.heap.size w5 r n (n.gs.take (k + 1)) := ⟨A2, c2, b2, hr5, hrlo, hblo, hownm, _, hown5.mono (by simp; omega), hD5⟩
     clear hr5 hr9 hmap9 hown5 hownm htk hneb9 hlen hgrow5
     go_wp2
     go_roundw
     case rel => exact ⟨k + 1, by omega, by go_num, hB5, hC5, fun i' hi' => by
      rcases Nat.lt_or_ge i' k with h' | h'
      · exact HG.out i' h'
      ·
       have : i' = k := by omega
       subst this; exact HGD.out⟩
     case measure => simp [intOf]; omega
    ·
     go_wp2
     go_quiet (fail)
     clear hl
     go_wp2
     clear p5
     have q0 : (x2.W.drewN nq).cell? ⟨w.heap.size, 0, none⟩ = some (.int .i64 n.ins) := d0 x2
     have q1 : (x2.W.drewN nq).cell? ⟨w.heap.size, 1, none⟩ = some (.slice (some ad) n.gs.length c) := d1 x2
     have q2 := d2 x2
     change (x2.W.drewN nq).cell? _ = _ at q2
     have q3 : (x2.W.drewN nq).cell? ⟨wr.heap.size, 1, none⟩ = some (.int .i64 ga) := d3 x2
     have q4 : (x2.W.drewN nq).cell? ⟨wr.heap.size, 2, none⟩ = some (.int .i64 gb) := d4 x2
     have q5 : (x2.W.drewN nq).cell? ⟨r, 2, none⟩ = some (.map (some b2)) := z2
     have hC3 : Circ W1.heap.size (x2.W.drewN nq) r n (n.gs.take k) := Circ.up ⟨A2, c2, b2, HR2.out, hrlo, hblo, hown2, hkn2⟩ (z01 (Below.refl _ _) nq)
     have hB3 : Below W1.heap.size W1 (x2.W.drewN nq) := z01 hB2 nq
     have hr3 : (x2.W.drewN nq).heap[r]? = some (.cells #[.int .i64 n.ins, .slice A2 n.gs.length c2, .map (some b2)] 119 (0, 0)) := HR2.out
     have hown3 : OwnGs (x2.W.drewN nq) W1.heap.size (.slice A2 n.gs.length c2) n.gs := hown2
     have hkn3 : KnownAt (x2.W.drewN nq) b2 n.ins (n.gs.take k) := hkn2
     have hlow3 : W1.heap.size ≤ (x2.W.drewN nq).heap.size := hlow2
     clear d0 d1 d2 d3 d4 z2 hown2 hkn2 hlow2 hB2 hB0 hC0 hlow0
     generalize x2.W.drewN nq = W6 at *
     have q0 := Later.cell q0
     have q1 := Later.cell q1
     have q2 := Later.cell q2
     have q3 := Later.cell q3
     have q4 := Later.cell q4
     have q5 := Later.cell q5
     have HR3 := zH hr3
     have e1 := E1.out
     clear hr3
     refine wp_region_later_tail 9 (by kernel_rfl) (by kernel_rfl) ?_
     simp only [List.take_succ_cons, List.take_zero, List.drop_succ_cons, List.drop_zero]
     repeat (go_big_quiet_step ((go_at_call 119; with_reducible exact later_of_below (nodes_any (some ad) c n.gs.length n.ins k _ (by omega) (by omega) (by omega) (by omega)))))
     refine wpQuiet_nil ?_
     rintro _ ⟨x9, rfl⟩
     clear e1
     have hB9 := hB3.trans (x9.le.mono hlow3)
     have hr9 := (x9.le.block r (lt_of_block HR3.out)).trans HR3.out
     have hown9 : OwnGs x9.W W1.heap.size (.slice A2 n.gs.length c2) n.gs := z07 hown3 x9.le (Nat.le_refl _)
     obtain ⟨D, hmap9, hD⟩ := hkn3.keep (x9.le.block b2 hkn3.lt)
     have hlen : (n.gs.take k).length = k := by simp; omega
     rw [hlen] at hmap9
     have hkm : k < maxLen := by unfold maxLen; omega
     go_wp2_with (at_mapUpdate; refine wpList_mapUpdate_own _ rfl _ _ _ 117 rfl 88 3 gate_keyed Tryz.underlying117 _ b2 k D rfl hmap9 hkm _ _ (keyG ⟨true, ga, gb⟩) rfl rfl (keyG_ok ⟨true, ga, gb⟩ hokg) (.lit (.int .i64 (1 + n.ins + k + 1))) [] (plainElem_int Tryz.underlying3 (WalkArith.wf_i64 (by omega))) ?_; intro w5 hown5 hgrow5)
     have hD5 := hD.put ⟨true, ga, gb⟩ hokg HM.out (1 + n.ins + k + 1) (by rw [hlen]; omega)
     have htk : n.gs.take k ++ [⟨true, ga, gb⟩] = n.gs.take (k + 1) := by rw [List.take_add_one, HGK.out]; rfl
     rw [htk] at hD5
     have hneb9 : some r ≠ some b2 := by
      intro e; injection e with e; subst e
      obtain ⟨es, clock, hbb, _⟩ := hmap9; rw [hr9] at hbb; cases hbb
     have hr5 := (hgrow5.block r (lt_of_block hr9) hneb9).trans hr9
     have hownm : OwnGs w5 W1.heap.size (.slice A2 n.gs.length c2) n.gs := hown9.kept hgrow5 (by
      obtain ⟨es, clock, hbb, _⟩ := hmap9
      exact .inr (fun e => row_ne hown9 b2 _ hbb (fun cs fr e => by cases e) e.symm))
     have hB5 := hB9.grown hgrow5 (Nat.le_trans hlow3 x9.le.size) (fun k' hk' => by injection hk' with hk'; rw [← hk']; exact hblo)
     have hC5 : Circ W1.heap.size w5 r n (n.gs.take (k + 1)) := ⟨A2, c2, b2, hr5, hrlo, hblo, hownm, _, hown5.mono (by simp; omega), hD5⟩
     clear hr5 hr9 hmap9 hown5 hownm htk hneb9 hlen hgrow5
     go_wp2
     go_roundw
     case rel => exact ⟨k + 1, by omega, by go_num, hB5, hC5, fun i' hi' => by
      rcases Nat.lt_or_ge i' k with h' | h'
      · exact HG.out i' h'
      ·
       have : i' = k := by omega
       subst this; exact HGD.out⟩
     case measure => simp [intOf]; omega
   ·
    have hke : k = n.gs.length := by omega
    subst hke
    have HN := zH ((netOk_iff n).2 ⟨by omega, by omega, by omega, HG.out⟩)
    rw [List.take_length] at hCk
    go_wp2
    go_ret2
    exact ⟨bthen hw hb, .inl ⟨HN.out, r, rfl, by obtain ⟨A2, c2, b2, k1, k2, k3, k4, k5⟩ := hCk; exact ⟨A2, c2, b2, k1, by omega, by omega, own_mono k4 hlo1, k5⟩⟩⟩
end Go.Proofs.YtjghcaghigebjaaGreatDoor
namespace Go.Proofs.YtjghcaghigebjaaGreatDoor
open Go Go.RowKit
end Go.Proofs.YtjghcaghigebjaaGreatDoor
namespace Go.Proofs.YtjghcaghigebjaaGreatDoor
open Go Go.RowKit Go.Maps
theorem circ_cells {lo : Nat} {w : World} {r : Nat} {n : N} {ks : List G} (h : Circ lo w r n ks) : ∃ A c, w.cell? ⟨r, 0, none⟩ = some (.int .i64 n.ins) ∧ w.cell? ⟨r, 1, none⟩ = some (.slice A n.gs.length c) ∧ OwnGs w lo (.slice A n.gs.length c) n.gs := by
 obtain ⟨A, c, b, hr, _, _, ho, _⟩ := h
 exact ⟨A, c, (z00 hr 0).1, (z00 hr 1).1, ho⟩
end Go.Proofs.YtjghcaghigebjaaGreatDoor
namespace Go.Proofs.YtjghcaghigebjaaGreatDoor
open Go Go.RowKit Go.ChangeShapes Go.WideShapes Go.Deep
theorem Opens.gate {P : Program} {t ti tb : TypeId} {fs : Array Field} (ht : P.underlying t = some (.struct fs)) (hc : P.cellsOf t = 3) (hti : P.underlying ti = some (.int .i64)) (htic : P.cellsOf ti = 1) (htb : P.underlying tb = some .bool) (htbc : P.cellsOf tb = 1)
  (hf : fs.toList.map (fun f : Field => (f.type, f.offset)) = [(tb, 0), (ti, 1), (ti, 2)]) : Opens P t Lay.gate okGi := by
 have hfi : ∀ i, (fs[i]?).map (fun f : Field => (f.type, f.offset)) = [(tb, 0), (ti, 1), (ti, 2)][i]? := fun i => by
  rw [← hf, List.getElem?_map, Array.getElem?_toList]
 intro H enc w base spare held fuel cs x h
 obtain ⟨b, okb, rb⟩ := OpensF.field ht h (Nat.le_succ _) 0 tb 0 1 (hfi 0) htbc ((Opens.bool htb).at _)
 obtain ⟨a, oka, ra⟩ := OpensF.field ht h (Nat.le_succ _) 1 ti 1 1 (hfi 1) htic ((Opens.int hti).at _)
 obtain ⟨a2, oka2, ra2⟩ := OpensF.field ht h (Nat.le_succ _) 2 ti 2 1 (hfi 2) htic ((Opens.int hti).at _)
 have hlen := trod_cells ht h
 rw [hc] at hlen
 match cs, hlen with
 | [x0, x1, x2], _ =>
  simp [Lay.int, Lay.bool, Lay.flat] at rb ra ra2
  subst rb ra ra2
  exact ⟨⟨b, a, a2⟩, ⟨oka, oka2⟩, rfl⟩
def Lay.net : Lay N where
 size := 2
 R w F x vs := ∃ A c, vs = [.int .i64 x.ins, .slice A x.gs.length c] ∧ x.gs.length ≤ c ∧ Lay.gate.Sl w F A x.gs ∧ (A = none → x.gs.length = 0)
 len := by rintro w F x vs ⟨A, c, rfl, _⟩; rfl
 keep := by rintro w w' F x vs hk ⟨A, c, rfl, h1, h2, h3⟩; exact ⟨A, c, rfl, h1, h2.keep hk, h3⟩
 mono := by rintro w F G x vs hk ⟨A, c, rfl, h1, h2, h3⟩; exact ⟨A, c, rfl, h1, h2.mono hk, h3⟩
def okNetIn (n : N) : Prop := okInt n.ins ∧ n.gs.length ≤ maxLen ∧ ∀ g ∈ n.gs, okGi g
theorem sl_nonnil {α : Type} {L : Lay α} {w : World} {F : Nat → Prop} {A : Option Addr} {xs : List α} (h : L.Sl w F A xs) : A = none → xs.length = 0 := fun e => by
 rcases Nat.eq_zero_or_pos xs.length with h0 | h0
 · exact h0
 ·
  obtain ⟨ad, e', _⟩ := h h0
  rw [e] at e'; cases e'
theorem Opens.net {P : Program} {t ti sg : TypeId} {fs : Array Field} (ht : P.underlying t = some (.struct fs)) (hc : P.cellsOf t = 2) (hti : P.underlying ti = some (.int .i64)) (htic : P.cellsOf ti = 1) (hsg : P.cellsOf sg = 1)
  (hf : fs.toList.map (fun f : Field => (f.type, f.offset)) = [(ti, 0), (sg, 1)]) (hg : Opens P sg Lay.gate.slice (fun xs => xs.length ≤ maxLen ∧ ∀ x ∈ xs, okGi x)) : Opens P t Lay.net okNetIn := by
 have hfi : ∀ i, (fs[i]?).map (fun f : Field => (f.type, f.offset)) = [(ti, 0), (sg, 1)][i]? := fun i => by
  rw [← hf, List.getElem?_map, Array.getElem?_toList]
 intro H enc w base spare held fuel cs x h
 obtain ⟨a, oka, ra⟩ := OpensF.field ht h (Nat.le_succ _) 0 ti 0 1 (hfi 0) htic ((Opens.int hti).at _)
 obtain ⟨gs, okg, A, c, r1, l1, s1⟩ := OpensF.field ht h (Nat.le_succ _) 1 sg 1 1 (hfi 1) hsg (hg.at _)
 have hlen := trod_cells ht h
 rw [hc] at hlen
 match cs, hlen with
 | [x0, x1], _ =>
  simp [Lay.int, Lay.flat] at ra r1
  subst ra r1
  exact ⟨⟨a, gs⟩, ⟨oka, okg⟩, A, c, rfl, l1, s1, sl_nonnil s1⟩
theorem own_rd {w : World} {lo : Nat} {A : Option Addr} {c : Nat} {xs : List G} (h : OwnGs w lo (.slice A xs.length c) xs) : Lay.gate.Rd w A xs := h.sl.2.rd
end Go.Proofs.YtjghcaghigebjaaGreatDoor
namespace Go.Proofs.YtjghcaghigebjaaGreatDoor
open Go Go.RowKit Go.ChangeShapes Go.WideShapes Go.ChangeAt Go.Deep
def smNet (n : N) : Prop := n.gs.length ≤ 1048576 ∧ okInts n ∧ okInt n.ins
theorem OwnGs.own {w : World} {base c : Nat} {A : Option Addr} {xs : List G} (h : OwnGs w base (.slice A xs.length c) xs) : Lay.gate.Sl w (Own base w) A xs := fun hn => by
 obtain ⟨A', c', e, _, hs⟩ := h.form
 injection e with e1 e2 e3
 subst e1
 obtain ⟨ad, e, hf, hc⟩ := hs hn
 refine ⟨ad, e, ⟨hf.1, hf.2, fun o => ?_⟩, hc⟩
 subst e
 rcases h.2 with ⟨e, _⟩ | ⟨g, cap, cur, e, _, hg, _⟩
 · cases e
 ·
  injection e with e1 e2 e3
  injection e1 with e1
  subst e1
  unfold World.frozen?
  rw [hg]
  simp
end Go.Proofs.YtjghcaghigebjaaGreatDoor
