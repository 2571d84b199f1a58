/- The reference's draws of terms: l8Some. -/
import Derived.Test.YtiahmfpfimmbgaaGreatDoorJFnCtx18
/-! The reference's draws of terms: l8Some. -/
namespace Go.Proofs.YtiahmfpfimmbgaaGreatDoor
open Go Go.RowKit

set_option maxRecDepth 100000 in
set_option maxHeartbeats 8000000 in
theorem l8Some_any (r : Nat) (p s : Int) (A : Option Addr) (c : Nat) (ds : List D) (w : World) (h : Rdr w r p) (hd : Lay.decl.Rd w A ds) (hcq : ds.length ≤ c) (ho : okD5 ds) (s0 : 0 ≤ s) (s1 : s ≤ 8) (p0 : 0 ≤ p) (p1 : p ≤ 800000000) :
    Calls Tryz.prog 88 #[.pointer (some ⟨r, 0, none⟩), .slice A ds.length c, .int .i64 s] w (RetDT r p 3000 w) := by
  have hrl := h.lt
  have hal : Below w.heap.size w (w.alloc (.cells #[.int .i64 0, .int .i64 0, .int .i64 0, .string ⟨#[]⟩, .slice none 0 0] 48)) := (Below.refl _ _).alloc (Nat.le_refl _) _
  have HBX := Lib.hid (heap_alloc_new w (.cells #[.int .i64 0, .int .i64 0, .int .i64 0, .string ⟨#[]⟩, .slice none 0 0] 48))
  have HR := Lib.hid (h.up hal)
  have HD := Lib.hid (decl_notR (hd.up hal) HR.out)
  have HG : Hid (Gr (IsR r) w (w.alloc (.cells #[.int .i64 0, .int .i64 0, .int .i64 0, .string ⟨#[]⟩, .slice none 0 0] 48))) := Lib.hid (.below hal)
  have HZ : Hid (w.heap.size + 1 ≤ (w.alloc (.cells #[.int .i64 0, .int .i64 0, .int .i64 0, .string ⟨#[]⟩, .slice none 0 0] 48)).heap.size) := Lib.hid (by simp)
  have HO := Lib.hid ho
  have HN : Hid (okNames ds) := Lib.hid (fun d hd => by have := (ho.2 d hd).1; omega)
  have hdl := ho.1
  have HCQ := Lib.hid hcq
  clear hal h hd ho hcq
  go_enter Tryz.func88, Tryz.ntmps88
  go_wp2_with fail
  generalize w.alloc (.cells #[.int .i64 0, .int .i64 0, .int .i64 0, .string ⟨#[]⟩, .slice none 0 0] 48) = w0 at *
  go_loopw [7] (fun i wr => ∃ (j : Nat) (q : Int), j ≤ 3 ∧ i = .int .i64 j ∧ p ≤ q ∧ q ≤ p + 940 * (3 - j) ∧ Hid (Rdr wr r q) ∧ Hid (Gr (IsR r) w wr) ∧ Hid (Lay.decl.Sl wr (Ab (IsR r) wr) A ds) ∧ Hid (wr.heap[w.heap.size]? = some (.cells #[.int .i64 0, .int .i64 0, .int .i64 0, .string ⟨#[]⟩, .slice none 0 0] 48 (0, 0))) ∧ Hid (w.heap.size + 1 ≤ wr.heap.size)) (fun i _ => (intOf i).toNat)
  case atStart => exact ⟨3, p, by omega, rfl, by omega, by omega, HR, HG, HD, HBX, HZ⟩
  case round =>
    obtain ⟨j, q, hj, rfl, q0, q1, HR3, HG3, HD3, HBX3, HZ3⟩ := hrel
    by_cases hlt : 0 < j
    · have hj1 : (0 : Int) < j := by omega
      have gj1 : decide ((0 : Int) < j) = true := decide_eq_true hj1
      have hpk := pk_le j hj
      have hpk9 : pk j ≤ 940 := by
        have : j = 0 ∨ j = 1 ∨ j = 2 ∨ j = 3 := by omega
        rcases this with rfl | rfl | rfl | rfl <;> decide
      have HT := Lib.hid (l2Term_any j hj r q s A c ds wr HR3.out HD3.out.ab_rd HO.out s0 s1 (by omega) (by omega))
      generalize pk j = P at *
      obtain ⟨P0, _⟩ := hpk
      go_wp2_with fail
      refine HT.out.mono ?_
      rintro e w5 ⟨t, A5, c5, rfl, hc5, hk5, ho5, q5, qa5, qb5, hR5, hg5⟩
      have HR5 := Lib.hid hR5
      have HG5 := Lib.hid (HG3.out.trans hg5)
      have HD5 := Lib.hid (HD3.out.gr hg5)
      have HBX5 := Lib.hid (hg5.heap (by show ¬ _ = r; omega) HBX3.out)
      have HZ5 : Hid (w.heap.size + 1 ≤ w5.heap.size) := Lib.hid (Nat.le_trans HZ3.out hg5.size)
      have HK5 : Hid (TF (w.heap.size + 1) w5 A5 t.kids) := Lib.hid (hk5.low HZ3.out)
      have HO5 := Lib.hid ho5
      have HC5 := Lib.hid hc5
      clear hR5 hg5 hk5 ho5 hc5
      obtain ⟨n, hn⟩ : ∃ n, n = t.many.1 := ⟨_, rfl⟩
      obtain ⟨n2, hn2⟩ : ∃ n, n = t.many.2 := ⟨_, rfl⟩
      obtain ⟨so, hso⟩ : ∃ n, n = tsort ds t := ⟨_, rfl⟩
      have HM := Lib.hid (fun (z : World) (hz : Lay.term.Rd z A5 t.kids) => specMany_any t (HO5.out.imp fun _ h => h.1) A5 c5 _ z hz (fun _ h => h))
      have HS := Lib.hid (fun (z : World) (hz : Lay.term.Rd z A5 t.kids) (hd : Lay.decl.Rd z A ds) => specTermSort_any ds t (HO5.out.imp fun _ h => h.1) HN.out (by omega) A5 A c5 c _ z hz hd (fun _ h => h) HCQ.out)
      rw [← hn, ← hn2] at HM
      rw [← hso] at HS
      clear hn hn2 hso
      go_wp2_with fail
      have hal6 : Below w5.heap.size w5 (w5.alloc (.cells #[.int .i64 t.op, .int .i64 t.a, .int .i64 t.b, .string t.name, .slice A5 t.kids.length c5] 48)) := (Below.refl _ _).alloc (Nat.le_refl _) _
      have hbx6 := heap_alloc_new w5 (.cells #[.int .i64 t.op, .int .i64 t.a, .int .i64 t.b, .string t.name, .slice A5 t.kids.length c5] 48)
      refine (HM.out _ (HK5.out.up hal6).rd).mono ?_
      rintro e w7 ⟨rfl, hb7⟩
      have hb57 := hal6.trans (hb7.mono hal6.size)
      have HR7 := Lib.hid (HR5.out.up hb57)
      have HG7 := Lib.hid (HG5.out.trans (.below hb57))
      have HD7 := Lib.hid (HD5.out.gr (.below hb57))
      have HBX7 := Lib.hid ((hb57.block _ (lt_of_block HBX5.out)).trans HBX5.out)
      have HTX7 := Lib.hid ((hb7.block _ (lt_of_block hbx6)).trans hbx6)
      have HZ7 : Hid (w.heap.size + 1 ≤ w7.heap.size) := Lib.hid (Nat.le_trans HZ5.out hb57.size)
      have HK7 := Lib.hid (HK5.out.up hb57)
      generalize w5.heap.size = b6 at *
      clear hb57 hb7 hal6 hbx6
      have a0 : w7.cell? ⟨b6, 0, none⟩ = _ := (cell_of_block HTX7.out 0).1
      have a1 : w7.cell? ⟨b6, 1, none⟩ = _ := (cell_of_block HTX7.out 1).1
      have a2 : w7.cell? ⟨b6, 2, none⟩ = _ := (cell_of_block HTX7.out 2).1
      have a3 : w7.cell? ⟨b6, 3, none⟩ = _ := (cell_of_block HTX7.out 3).1
      have a4 : w7.cell? ⟨b6, 4, none⟩ = _ := (cell_of_block HTX7.out 4).1
      go_wp2_with fail
      refine (HS.out _ HK7.out.rd HD7.out.ab_rd).mono ?_
      rintro e w8 ⟨rfl, hb8⟩
      have HR8 := Lib.hid (HR7.out.up hb8)
      have HG8 := Lib.hid (HG7.out.trans (.below hb8))
      have HD8 := Lib.hid (HD7.out.gr (.below hb8))
      have HBX8 := Lib.hid ((hb8.block _ (lt_of_block HBX7.out)).trans HBX7.out)
      have HTX8 := Lib.hid ((hb8.block _ (lt_of_block HTX7.out)).trans HTX7.out)
      have HZ8 : Hid (w.heap.size + 1 ≤ w8.heap.size) := Lib.hid (Nat.le_trans HZ7.out hb8.size)
      have HK8 := Lib.hid (HK7.out.up hb8)
      clear hb8 a0 a1 a2 a3 a4
      have gso : decide (0 ≤ so) = true ∨ decide (0 ≤ so) = false := by cases decide (0 ≤ so) <;> simp
      have gnn : decide (n < 12) = true ∨ decide (n < 12) = false := by cases decide (n < 12) <;> simp
      have a0 : w8.cell? ⟨b6, 0, none⟩ = _ := (cell_of_block HTX8.out 0).1
      have a1 : w8.cell? ⟨b6, 1, none⟩ = _ := (cell_of_block HTX8.out 1).1
      have a2 : w8.cell? ⟨b6, 2, none⟩ = _ := (cell_of_block HTX8.out 2).1
      have a3 : w8.cell? ⟨b6, 3, none⟩ = _ := (cell_of_block HTX8.out 3).1
      have a4 : w8.cell? ⟨b6, 4, none⟩ = _ := (cell_of_block HTX8.out 4).1
      have b0 : w8.cell? ⟨w.heap.size, 0, none⟩ = _ ∧ w8.frozen? ⟨w.heap.size, 0, none⟩ = false := cell_of_block HBX8.out 0
      obtain ⟨cc0, gg0⟩ := b0
      have b1 : w8.cell? ⟨w.heap.size, 1, none⟩ = _ ∧ w8.frozen? ⟨w.heap.size, 1, none⟩ = false := cell_of_block HBX8.out 1
      obtain ⟨cc1, gg1⟩ := b1
      have b2 : w8.cell? ⟨w.heap.size, 2, none⟩ = _ ∧ w8.frozen? ⟨w.heap.size, 2, none⟩ = false := cell_of_block HBX8.out 2
      obtain ⟨cc2, gg2⟩ := b2
      have b3 : w8.cell? ⟨w.heap.size, 3, none⟩ = _ ∧ w8.frozen? ⟨w.heap.size, 3, none⟩ = false := cell_of_block HBX8.out 3
      obtain ⟨cc3, gg3⟩ := b3
      have b4 : w8.cell? ⟨w.heap.size, 4, none⟩ = _ ∧ w8.frozen? ⟨w.heap.size, 4, none⟩ = false := cell_of_block HBX8.out 4
      obtain ⟨cc4, gg4⟩ := b4
      by_cases hso : 0 ≤ so
      · have gso : decide (0 ≤ so) = true := decide_eq_true hso
        by_cases hnn : n < 12
        · have gnn : decide (n < 12) = true := decide_eq_true hnn
          go_wp2
          have hb5 := box5 (v0 := .int .i64 t.op) (v1 := .int .i64 t.a) (v2 := .int .i64 t.b) (v3 := .string t.name) (v4 := .slice A5 t.kids.length c5) HBX8.out
          have HDN := Lib.hid (drawn_store (M := 3000) (v0 := .int .i64 t.op) (v1 := .int .i64 t.a) (v2 := .int .i64 t.b) (v3 := .string t.name) (v4 := .slice A5 t.kids.length c5) (show p ≤ q5 by omega) (by omega) HR8.out HG8.out (Nat.le_refl _) hrl)
          have HKF : Hid (TF w.heap.size (((((w8.setCell ⟨w.heap.size, 0, none⟩ (.int .i64 t.op)).setCell ⟨w.heap.size, 1, none⟩ (.int .i64 t.a)).setCell ⟨w.heap.size, 2, none⟩ (.int .i64 t.b)).setCell ⟨w.heap.size, 3, none⟩ (.string t.name)).setCell ⟨w.heap.size, 4, none⟩ (.slice A5 t.kids.length c5)) _ _) := Lib.hid (TF.low (HK8.out.box5 (Nat.lt_succ_self _)) (Nat.le_succ _))
          generalize (((((w8.setCell ⟨w.heap.size, 0, none⟩ (.int .i64 t.op)).setCell ⟨w.heap.size, 1, none⟩ (.int .i64 t.a)).setCell ⟨w.heap.size, 2, none⟩ (.int .i64 t.b)).setCell ⟨w.heap.size, 3, none⟩ (.string t.name)).setCell ⟨w.heap.size, 4, none⟩ (.slice A5 t.kids.length c5)) = w9 at *
          have e0 := (cell_of_block hb5 0).1
          have e1 := (cell_of_block hb5 1).1
          have e2 := (cell_of_block hb5 2).1
          have e3 := (cell_of_block hb5 3).1
          have e4 := (cell_of_block hb5 4).1
          simp at e0 e1 e2 e3 e4
          refine bodyPost_ret (v := .agg #[.int .i64 t.op, .int .i64 t.a, .int .i64 t.b, .string t.name, .slice A5 t.kids.length c5]) (by simp [results, Tryz.results88, go_sem, e0, e1, e2, e3, e4]) rfl ?_
          exact ret_box (show T.All okT5 (.mk t.op t.a t.b t.name t.kids) by cases t; exact HO5.out) HC5.out HKF.out HDN.out
        · have gnn : decide (n < 12) = false := decide_eq_false hnn
          go_wp2
          go_roundw
          case rel => exact ⟨j - 1, q5, by omega, by rw [show ((j - 1 : Nat) : Int) = (j : Int) - 1 by omega], by omega, by omega, HR8, HG8, HD8, HBX8, HZ8⟩
          case measure => simp [intOf]; omega
      · have gso : decide (0 ≤ so) = false := decide_eq_false hso
        go_wp2
        go_roundw
        case rel => exact ⟨j - 1, q5, by omega, by rw [show ((j - 1 : Nat) : Int) = (j : Int) - 1 by omega], by omega, by omega, HR8, HG8, HD8, HBX8, HZ8⟩
        case measure => simp [intOf]; omega
    · have hj0 : j = 0 := by omega
      subst hj0
      go_wp2_with fail
      refine (l2Leafy_any r q s A c ds wr HR3.out HD3.out.ab_rd HO.out s0 s1 (by omega) (by omega)).mono ?_
      rintro e w5 ⟨t, A5, c5, rfl, hc5, hk5, ho5, q5, qa5, qb5, hR5, hg5⟩
      have HR5 := Lib.hid hR5
      have HG5 := Lib.hid (HG3.out.trans hg5)
      have HBX5 := Lib.hid (hg5.heap (by show ¬ _ = r; omega) HBX3.out)
      have HK5 : Hid (TF (w.heap.size + 1) w5 A5 t.kids) := Lib.hid (hk5.low HZ3.out)
      have HO5 := Lib.hid ho5
      have HC5 := Lib.hid hc5
      clear hR5 hg5 hk5 ho5 hc5
      have b0 : w5.cell? ⟨w.heap.size, 0, none⟩ = _ ∧ w5.frozen? ⟨w.heap.size, 0, none⟩ = false := cell_of_block HBX5.out 0
      obtain ⟨cc0, gg0⟩ := b0
      have b1 : w5.cell? ⟨w.heap.size, 1, none⟩ = _ ∧ w5.frozen? ⟨w.heap.size, 1, none⟩ = false := cell_of_block HBX5.out 1
      obtain ⟨cc1, gg1⟩ := b1
      have b2 : w5.cell? ⟨w.heap.size, 2, none⟩ = _ ∧ w5.frozen? ⟨w.heap.size, 2, none⟩ = false := cell_of_block HBX5.out 2
      obtain ⟨cc2, gg2⟩ := b2
      have b3 : w5.cell? ⟨w.heap.size, 3, none⟩ = _ ∧ w5.frozen? ⟨w.heap.size, 3, none⟩ = false := cell_of_block HBX5.out 3
      obtain ⟨cc3, gg3⟩ := b3
      have b4 : w5.cell? ⟨w.heap.size, 4, none⟩ = _ ∧ w5.frozen? ⟨w.heap.size, 4, none⟩ = false := cell_of_block HBX5.out 4
      obtain ⟨cc4, gg4⟩ := b4
      go_wp2
      have hb5 := box5 (v0 := .int .i64 t.op) (v1 := .int .i64 t.a) (v2 := .int .i64 t.b) (v3 := .string t.name) (v4 := .slice A5 t.kids.length c5) HBX5.out
      have HDN := Lib.hid (drawn_store (M := 3000) (v0 := .int .i64 t.op) (v1 := .int .i64 t.a) (v2 := .int .i64 t.b) (v3 := .string t.name) (v4 := .slice A5 t.kids.length c5) (show p ≤ q5 by omega) (by omega) HR5.out HG5.out (Nat.le_refl _) hrl)
      have HKF : Hid (TF w.heap.size (((((w5.setCell ⟨w.heap.size, 0, none⟩ (.int .i64 t.op)).setCell ⟨w.heap.size, 1, none⟩ (.int .i64 t.a)).setCell ⟨w.heap.size, 2, none⟩ (.int .i64 t.b)).setCell ⟨w.heap.size, 3, none⟩ (.string t.name)).setCell ⟨w.heap.size, 4, none⟩ (.slice A5 t.kids.length c5)) _ _) := Lib.hid (TF.low (HK5.out.box5 (Nat.lt_succ_self _)) (Nat.le_succ _))
      generalize (((((w5.setCell ⟨w.heap.size, 0, none⟩ (.int .i64 t.op)).setCell ⟨w.heap.size, 1, none⟩ (.int .i64 t.a)).setCell ⟨w.heap.size, 2, none⟩ (.int .i64 t.b)).setCell ⟨w.heap.size, 3, none⟩ (.string t.name)).setCell ⟨w.heap.size, 4, none⟩ (.slice A5 t.kids.length c5)) = w9 at *
      have e0 := (cell_of_block hb5 0).1
      have e1 := (cell_of_block hb5 1).1
      have e2 := (cell_of_block hb5 2).1
      have e3 := (cell_of_block hb5 3).1
      have e4 := (cell_of_block hb5 4).1
      simp at e0 e1 e2 e3 e4
      refine bodyPost_ret (v := .agg #[.int .i64 t.op, .int .i64 t.a, .int .i64 t.b, .string t.name, .slice A5 t.kids.length c5]) (by simp [results, Tryz.results88, go_sem, e0, e1, e2, e3, e4]) rfl ?_
      exact ret_box (show T.All okT5 (.mk t.op t.a t.b t.name t.kids) by cases t; exact HO5.out) HC5.out HKF.out HDN.out
end Go.Proofs.YtiahmfpfimmbgaaGreatDoor
