/- The reference's draws of terms: l2Term. -/
import Derived.Test.YtiahmfpfimmbgaaGreatDoorJFnCtx17
/-! The reference's draws of terms: l2Term. -/
namespace Go.Proofs.YtiahmfpfimmbgaaGreatDoor
open Go Go.RowKit

set_option maxRecDepth 100000 in
set_option maxHeartbeats 4000000 in
theorem l2Term_zero : TermD 0 := by
  rw [show TermD 0 = TermD 0 from rfl]
  unfold TermD
  rw [show pk 0 = 20 from rfl]
  intro r p s A c ds w h hd ho s0 s1 p0 p1
  have hrl := h.lt
  have hal : Below w.heap.size w (w.alloc (.cells #[.int .i64 0, .int .i64 0, .int .i64 0, .string ⟨#[]⟩, .slice none 0 0] 48)) := (Below.refl _ _).alloc (Nat.le_refl _) _
  have HBX := Lib.hid (heap_alloc_new w (.cells #[.int .i64 0, .int .i64 0, .int .i64 0, .string ⟨#[]⟩, .slice none 0 0] 48))
  have HR := Lib.hid (h.up hal)
  have HD := Lib.hid (decl_notR (hd.up hal) HR.out)
  have HG : Hid (Gr (IsR r) w (w.alloc (.cells #[.int .i64 0, .int .i64 0, .int .i64 0, .string ⟨#[]⟩, .slice none 0 0] 48))) := Lib.hid (.below hal)
  have hrz : r < (w.alloc (.cells #[.int .i64 0, .int .i64 0, .int .i64 0, .string ⟨#[]⟩, .slice none 0 0] 48)).heap.size := by simp; omega
  have hwz : w.heap.size < (w.alloc (.cells #[.int .i64 0, .int .i64 0, .int .i64 0, .string ⟨#[]⟩, .slice none 0 0] 48)).heap.size := by simp
  have hwy : w.heap.size ≤ (w.alloc (.cells #[.int .i64 0, .int .i64 0, .int .i64 0, .string ⟨#[]⟩, .slice none 0 0] 48)).heap.size := by simp
  obtain ⟨hdl, hdd⟩ := id ho
  have HDD := Lib.hid hdd
  clear hal h hd hdd
  go_enter Tryz.func112, Tryz.ntmps112
  go_wp2_with fail
  generalize w.alloc (.cells #[.int .i64 0, .int .i64 0, .int .i64 0, .string ⟨#[]⟩, .slice none 0 0] 48) = w0 at *
  have HZ : Hid (w0.heap.size ≤ w0.heap.size) := Lib.hid (Nat.le_refl _)
  refine (l2Leafy_any r p s A c ds w0 HR.out HD.out.ab_rd ho s0 s1 p0 (by omega)).mono ?_
  rintro e w5 ⟨t, A5, c5, rfl, hc5, hk5, ho5, q5, qa5, qb5, hR5, hg5⟩
  have HR5' := Lib.hid hR5
  have HG5' := Lib.hid (HG.out.trans hg5)
  have HB5' := Lib.hid (hg5.heap (by show ¬ _ = r; omega) HBX.out)
  have HO5 := Lib.hid ho5
  have hk5 := hk5.low HZ.out
  have HK5 := Lib.hid hk5
  clear hR5 hg5 ho5 hk5
  have b0 : w5.cell? ⟨w.heap.size, 0, none⟩ = _ ∧ w5.frozen? ⟨w.heap.size, 0, none⟩ = false := cell_of_block HB5'.out 0
  obtain ⟨cc0, gg0⟩ := b0
  have b1 : w5.cell? ⟨w.heap.size, 1, none⟩ = _ ∧ w5.frozen? ⟨w.heap.size, 1, none⟩ = false := cell_of_block HB5'.out 1
  obtain ⟨cc1, gg1⟩ := b1
  have b2 : w5.cell? ⟨w.heap.size, 2, none⟩ = _ ∧ w5.frozen? ⟨w.heap.size, 2, none⟩ = false := cell_of_block HB5'.out 2
  obtain ⟨cc2, gg2⟩ := b2
  have b3 : w5.cell? ⟨w.heap.size, 3, none⟩ = _ ∧ w5.frozen? ⟨w.heap.size, 3, none⟩ = false := cell_of_block HB5'.out 3
  obtain ⟨cc3, gg3⟩ := b3
  have b4 : w5.cell? ⟨w.heap.size, 4, none⟩ = _ ∧ w5.frozen? ⟨w.heap.size, 4, none⟩ = false := cell_of_block HB5'.out 4
  obtain ⟨cc4, gg4⟩ := b4
  go_wp2
  have hb5 := box5 (v0 := .int .i64 t.op) (v1 := .int .i64 t.a) (v2 := .int .i64 t.b) (v3 := .string t.name) (v4 := .slice A5 t.kids.length c5) HB5'.out
  have HDN := Lib.hid (drawn_store (M := 20) (v0 := .int .i64 t.op) (v1 := .int .i64 t.a) (v2 := .int .i64 t.b) (v3 := .string t.name) (v4 := .slice A5 t.kids.length c5) (show p ≤ q5 by omega) (by omega) HR5'.out HG5'.out (Nat.le_refl _) hrl)
  have HKF : Hid (TF w.heap.size (((((w5.setCell ⟨w.heap.size, 0, none⟩ (.int .i64 t.op)).setCell ⟨w.heap.size, 1, none⟩ (.int .i64 t.a)).setCell ⟨w.heap.size, 2, none⟩ (.int .i64 t.b)).setCell ⟨w.heap.size, 3, none⟩ (.string t.name)).setCell ⟨w.heap.size, 4, none⟩ (.slice A5 t.kids.length c5)) _ _) := Lib.hid ((HK5.out.box5 (by omega)).low (by omega))
  generalize (((((w5.setCell ⟨w.heap.size, 0, none⟩ (.int .i64 t.op)).setCell ⟨w.heap.size, 1, none⟩ (.int .i64 t.a)).setCell ⟨w.heap.size, 2, none⟩ (.int .i64 t.b)).setCell ⟨w.heap.size, 3, none⟩ (.string t.name)).setCell ⟨w.heap.size, 4, none⟩ (.slice A5 t.kids.length c5)) = w9 at *
  have e0 := (cell_of_block hb5 0).1
  have e1 := (cell_of_block hb5 1).1
  have e2 := (cell_of_block hb5 2).1
  have e3 := (cell_of_block hb5 3).1
  have e4 := (cell_of_block hb5 4).1
  simp at e0 e1 e2 e3 e4
  refine bodyPost_ret (v := .agg #[.int .i64 t.op, .int .i64 t.a, .int .i64 t.b, .string t.name, .slice A5 t.kids.length c5]) (by simp [results, Tryz.results112, go_sem, e0, e1, e2, e3, e4]) rfl ?_
  exact ret_box (show T.All okT5 (.mk t.op t.a t.b t.name t.kids) by cases t; exact HO5.out) hc5 HKF.out HDN.out
set_option maxRecDepth 100000 in
set_option maxHeartbeats 16000000 in
theorem l2Term_succ (n : Nat) (hn : n ≤ 2) (hT : TermD n) : TermD (n + 1) := by
  have HAS := Lib.hid (l2Asks_any n hn hT)
  obtain ⟨P, hP⟩ : ∃ P, P = pk n := ⟨_, rfl⟩
  have hPb := pk_le n (by omega)
  have HT := Lib.hid hT
  unfold TermD at HT ⊢
  rw [show pk (n + 1) = 30 + 3 * pk n from rfl]
  rw [← hP] at hPb HT HAS ⊢
  obtain ⟨P0, P1⟩ := hPb
  have hn2 : ¬ (n : Int) + 1 < 1 := by omega
  rw [show ((n + 1 : Nat) : Int) = (n : Int) + 1 from by push_cast; rfl]
  clear hP hT
  intro r p s A c ds w h hd ho s0 s1 p0 p1
  have hrl := h.lt
  have hal : Below w.heap.size w (w.alloc (.cells #[.int .i64 0, .int .i64 0, .int .i64 0, .string ⟨#[]⟩, .slice none 0 0] 48)) := (Below.refl _ _).alloc (Nat.le_refl _) _
  have HBX := Lib.hid (heap_alloc_new w (.cells #[.int .i64 0, .int .i64 0, .int .i64 0, .string ⟨#[]⟩, .slice none 0 0] 48))
  have HR := Lib.hid (h.up hal)
  have HD := Lib.hid (decl_notR (hd.up hal) HR.out)
  have HG : Hid (Gr (IsR r) w (w.alloc (.cells #[.int .i64 0, .int .i64 0, .int .i64 0, .string ⟨#[]⟩, .slice none 0 0] 48))) := Lib.hid (.below hal)
  have hrz : r < (w.alloc (.cells #[.int .i64 0, .int .i64 0, .int .i64 0, .string ⟨#[]⟩, .slice none 0 0] 48)).heap.size := by simp; omega
  have hwz : w.heap.size < (w.alloc (.cells #[.int .i64 0, .int .i64 0, .int .i64 0, .string ⟨#[]⟩, .slice none 0 0] 48)).heap.size := by simp
  have hwy : w.heap.size ≤ (w.alloc (.cells #[.int .i64 0, .int .i64 0, .int .i64 0, .string ⟨#[]⟩, .slice none 0 0] 48)).heap.size := by simp
  obtain ⟨hdl, hdd⟩ := id ho
  have HDD := Lib.hid hdd
  clear hal h hd hdd
  go_enter Tryz.func112, Tryz.ntmps112
  by_cases hs1 : 0 < s
  · skip
    have gs1 : decide (0 < s) = true := decide_eq_true hs1
    have gs9 : (s == 0) = false := by simp; omega
    go_wp2_with fail
    generalize w.alloc (.cells #[.int .i64 0, .int .i64 0, .int .i64 0, .string ⟨#[]⟩, .slice none 0 0] 48) = w0 at *
    have HZ : Hid (w0.heap.size ≤ w0.heap.size) := Lib.hid (Nat.le_refl _)
    refine (pick_any r (p) (3) w0 HR.out (by omega) (by omega) (by omega) (by omega)).mono ?_
    rintro e u1 ⟨y9, rfl, y90, y91, y92, hR9, hg9⟩
    have hg9 := Gr.one (S := IsR r) hg9 rfl
    have Hy91 := Lib.hid y91
    have Hy92 := Lib.hid y92
    clear y91 y92
    have HR1 := Lib.hid hR9
    have HG1 := Lib.hid (HG.out.trans hg9)
    have HD1 := Lib.hid (HD.out.gr hg9)
    have HB1 := Lib.hid (hg9.heap (by show ¬ _ = r; omega) HBX.out)
    have HZ1 : Hid (w0.heap.size ≤ u1.heap.size) := Lib.hid (Nat.le_trans HZ.out hg9.size)
    clear hg9 hR9
    by_cases hy9 : y9 = 0
    · skip
      subst hy9
      go_wp2_with fail
      refine (l2Leafy_any r (p + 1) s A c ds u1 HR1.out HD1.out.ab_rd ho s0 s1 (by omega) (by omega)).mono ?_
      rintro e w5 ⟨t, A5, c5, rfl, hc5, hk5, ho5, q5, qa5, qb5, hR5, hg5⟩
      have HR5' := Lib.hid hR5
      have HG5' := Lib.hid (HG1.out.trans hg5)
      have HB5' := Lib.hid (hg5.heap (by show ¬ _ = r; omega) HB1.out)
      have HO5 := Lib.hid ho5
      have hk5 := hk5.low HZ1.out
      have HK5 := Lib.hid hk5
      clear hR5 hg5 ho5 hk5
      have b0 : w5.cell? ⟨w.heap.size, 0, none⟩ = _ ∧ w5.frozen? ⟨w.heap.size, 0, none⟩ = false := cell_of_block HB5'.out 0
      obtain ⟨cc0, gg0⟩ := b0
      have b1 : w5.cell? ⟨w.heap.size, 1, none⟩ = _ ∧ w5.frozen? ⟨w.heap.size, 1, none⟩ = false := cell_of_block HB5'.out 1
      obtain ⟨cc1, gg1⟩ := b1
      have b2 : w5.cell? ⟨w.heap.size, 2, none⟩ = _ ∧ w5.frozen? ⟨w.heap.size, 2, none⟩ = false := cell_of_block HB5'.out 2
      obtain ⟨cc2, gg2⟩ := b2
      have b3 : w5.cell? ⟨w.heap.size, 3, none⟩ = _ ∧ w5.frozen? ⟨w.heap.size, 3, none⟩ = false := cell_of_block HB5'.out 3
      obtain ⟨cc3, gg3⟩ := b3
      have b4 : w5.cell? ⟨w.heap.size, 4, none⟩ = _ ∧ w5.frozen? ⟨w.heap.size, 4, none⟩ = false := cell_of_block HB5'.out 4
      obtain ⟨cc4, gg4⟩ := b4
      go_wp2
      have hb5 := box5 (v0 := .int .i64 t.op) (v1 := .int .i64 t.a) (v2 := .int .i64 t.b) (v3 := .string t.name) (v4 := .slice A5 t.kids.length c5) HB5'.out
      have HDN := Lib.hid (drawn_store (M := 30 + 3 * P) (v0 := .int .i64 t.op) (v1 := .int .i64 t.a) (v2 := .int .i64 t.b) (v3 := .string t.name) (v4 := .slice A5 t.kids.length c5) (show p ≤ q5 by omega) (by omega) HR5'.out HG5'.out (Nat.le_refl _) hrl)
      have HKF : Hid (TF w.heap.size (((((w5.setCell ⟨w.heap.size, 0, none⟩ (.int .i64 t.op)).setCell ⟨w.heap.size, 1, none⟩ (.int .i64 t.a)).setCell ⟨w.heap.size, 2, none⟩ (.int .i64 t.b)).setCell ⟨w.heap.size, 3, none⟩ (.string t.name)).setCell ⟨w.heap.size, 4, none⟩ (.slice A5 t.kids.length c5)) _ _) := Lib.hid ((HK5.out.box5 (by omega)).low (by omega))
      generalize (((((w5.setCell ⟨w.heap.size, 0, none⟩ (.int .i64 t.op)).setCell ⟨w.heap.size, 1, none⟩ (.int .i64 t.a)).setCell ⟨w.heap.size, 2, none⟩ (.int .i64 t.b)).setCell ⟨w.heap.size, 3, none⟩ (.string t.name)).setCell ⟨w.heap.size, 4, none⟩ (.slice A5 t.kids.length c5)) = w9 at *
      have e0 := (cell_of_block hb5 0).1
      have e1 := (cell_of_block hb5 1).1
      have e2 := (cell_of_block hb5 2).1
      have e3 := (cell_of_block hb5 3).1
      have e4 := (cell_of_block hb5 4).1
      simp at e0 e1 e2 e3 e4
      refine bodyPost_ret (v := .agg #[.int .i64 t.op, .int .i64 t.a, .int .i64 t.b, .string t.name, .slice A5 t.kids.length c5]) (by simp [results, Tryz.results112, go_sem, e0, e1, e2, e3, e4]) rfl ?_
      exact ret_box (show T.All okT5 (.mk t.op t.a t.b t.name t.kids) by cases t; exact HO5.out) hc5 HKF.out HDN.out
    have gy9 : (y9 == 0) = false := by simpa using hy9
    clear hy9
    go_wp2_with fail
    refine (pick_any r (p + 1) (12) u1 HR1.out (by omega) (by omega) (by omega) (by omega)).mono ?_
    rintro e u2 ⟨k, rfl, k0, k1, k2, hR9, hg9⟩
    have hg9 := Gr.one (S := IsR r) hg9 rfl
    have Hk1 := Lib.hid k1
    have Hk2 := Lib.hid k2
    clear k1 k2
    have HR2 := Lib.hid hR9
    have HG2 := Lib.hid (HG1.out.trans hg9)
    have HD2 := Lib.hid (HD1.out.gr hg9)
    have HB2 := Lib.hid (hg9.heap (by show ¬ _ = r; omega) HB1.out)
    have HZ2 : Hid (w0.heap.size ≤ u2.heap.size) := Lib.hid (Nat.le_trans HZ1.out hg9.size)
    clear hg9 hR9
    have k1 := Hk1.out (by omega)
    by_cases hk0 : k = 0
    · skip
      subst hk0
      go_wp2_with fail
      refine (HT.out r (p + 1 + 1) (0) A c ds u2 HR2.out (HD2.out.ab_rd) ho (by omega) (by omega) (by omega) (by omega)).mono ?_
      rintro e u3 ⟨t3, At3, ct3, rfl, hct3, hkt3, hot3, q3, qa3, qb3, hR9, hg9⟩
      have hkt3 := hkt3.low HZ2.out
      have HOt3 := Lib.hid hot3
      clear hot3
      have HR3 := Lib.hid hR9
      have HG3 := Lib.hid (HG2.out.trans hg9)
      have HD3 := Lib.hid (HD2.out.gr hg9)
      have HB3 := Lib.hid (hg9.heap (by show ¬ _ = r; omega) HB2.out)
      have HZ3 : Hid (w0.heap.size ≤ u3.heap.size) := Lib.hid (Nat.le_trans HZ2.out hg9.size)
      clear hg9 hR9
      go_wp2_with fail
      refine (HT.out r (q3) (s) A c ds u3 HR3.out (HD3.out.ab_rd) ho (by omega) (by omega) (by omega) (by omega)).mono ?_
      rintro e u4 ⟨t4, At4, ct4, rfl, hct4, hkt4, hot4, q4, qa4, qb4, hR9, hg9⟩
      have hkt4 := hkt4.low HZ3.out
      have HOt4 := Lib.hid hot4
      clear hot4
      have HR4 := Lib.hid hR9
      have HG4 := Lib.hid (HG3.out.trans hg9)
      have HD4 := Lib.hid (HD3.out.gr hg9)
      have HB4 := Lib.hid (hg9.heap (by show ¬ _ = r; omega) HB3.out)
      have HZ4 : Hid (w0.heap.size ≤ u4.heap.size) := Lib.hid (Nat.le_trans HZ3.out hg9.size)
      have hkt3 := hkt3.gr hg9 (by omega)
      clear hg9 hR9
      go_wp2_with fail
      refine (HT.out r (q4) (s) A c ds u4 HR4.out (HD4.out.ab_rd) ho (by omega) (by omega) (by omega) (by omega)).mono ?_
      rintro e u5 ⟨t5, At5, ct5, rfl, hct5, hkt5, hot5, q5, qa5, qb5, hR9, hg9⟩
      have hkt5 := hkt5.low HZ4.out
      have HOt5 := Lib.hid hot5
      clear hot5
      have HR5 := Lib.hid hR9
      have HG5 := Lib.hid (HG4.out.trans hg9)
      have HD5 := Lib.hid (HD4.out.gr hg9)
      have HB5 := Lib.hid (hg9.heap (by show ¬ _ = r; omega) HB4.out)
      have HZ5 : Hid (w0.heap.size ≤ u5.heap.size) := Lib.hid (Nat.le_trans HZ4.out hg9.size)
      have hkt3 := hkt3.gr hg9 (by omega)
      have hkt4 := hkt4.gr hg9 (by omega)
      clear hg9 hR9
      have HOK : Hid (T.All okT5 (.mk (23) (0) (0) ⟨#[]⟩ [t3, t4, t5])) := Lib.hid (okT_node (by simp) (by omega) (by omega) (fun k hk => by
        simp only [List.mem_cons, List.not_mem_nil, or_false] at hk
        rcases hk with rfl | rfl | rfl
        · exact HOt3.out
        · exact HOt4.out
        · exact HOt5.out))
      have HKt3 := Lib.hid hkt3
      have HCt3 := Lib.hid hct3
      have HKt4 := Lib.hid hkt4
      have HCt4 := Lib.hid hct4
      have HKt5 := Lib.hid hkt5
      have HCt5 := Lib.hid hct5
      have HQ9 : Hid (p ≤ q5 ∧ q5 ≤ p + (30 + 3 * P)) := Lib.hid ⟨by omega, by omega⟩
      have HWY := Lib.hid hwy
      have HWZ := Lib.hid hwz
      have HRL := Lib.hid hrl
      have hlt9 : w.heap.size < u5.heap.size := lt_of_block HB5.out
      have b0 : u5.cell? ⟨w.heap.size, 0, none⟩ = _ ∧ u5.frozen? ⟨w.heap.size, 0, none⟩ = false := cell_of_block HB5.out 0
      obtain ⟨cc0, gg0⟩ := b0
      have b1 : u5.cell? ⟨w.heap.size, 1, none⟩ = _ ∧ u5.frozen? ⟨w.heap.size, 1, none⟩ = false := cell_of_block HB5.out 1
      obtain ⟨cc1, gg1⟩ := b1
      have b2 : u5.cell? ⟨w.heap.size, 2, none⟩ = _ ∧ u5.frozen? ⟨w.heap.size, 2, none⟩ = false := cell_of_block HB5.out 2
      obtain ⟨cc2, gg2⟩ := b2
      have b3 : u5.cell? ⟨w.heap.size, 3, none⟩ = _ ∧ u5.frozen? ⟨w.heap.size, 3, none⟩ = false := cell_of_block HB5.out 3
      obtain ⟨cc3, gg3⟩ := b3
      have b4 : u5.cell? ⟨w.heap.size, 4, none⟩ = _ ∧ u5.frozen? ⟨w.heap.size, 4, none⟩ = false := cell_of_block HB5.out 4
      obtain ⟨cc4, gg4⟩ := b4
      clear hkt3 hct3 hkt4 hct4 hkt5 hct5
      go_wp2
      have hb5 := box5 (v0 := .int .i64 (23)) (v1 := .int .i64 (0)) (v2 := .int .i64 (0)) (v3 := .string ⟨#[]⟩) (v4 := .slice (some ⟨u5.heap.size, 0, none⟩) 3 3) HB5.out
      have HDN := drawn_store (M := 30 + 3 * P) (v0 := .int .i64 (23)) (v1 := .int .i64 (0)) (v2 := .int .i64 (0)) (v3 := .string ⟨#[]⟩) (v4 := .slice (some ⟨u5.heap.size, 0, none⟩) 3 3) HQ9.out.1 HQ9.out.2 HR5.out HG5.out (Nat.le_refl _) HRL.out
      have hxt3 := HKt3.out.box5 (v0 := .int .i64 (23)) (v1 := .int .i64 (0)) (v2 := .int .i64 (0)) (v3 := .string ⟨#[]⟩) (v4 := .slice (some ⟨u5.heap.size, 0, none⟩) 3 3) HWZ.out
      have hxt4 := HKt4.out.box5 (v0 := .int .i64 (23)) (v1 := .int .i64 (0)) (v2 := .int .i64 (0)) (v3 := .string ⟨#[]⟩) (v4 := .slice (some ⟨u5.heap.size, 0, none⟩) 3 3) HWZ.out
      have hxt5 := HKt5.out.box5 (v0 := .int .i64 (23)) (v1 := .int .i64 (0)) (v2 := .int .i64 (0)) (v3 := .string ⟨#[]⟩) (v4 := .slice (some ⟨u5.heap.size, 0, none⟩) 3 3) HWZ.out
      have hz9 : (((((u5.setCell ⟨w.heap.size, 0, none⟩ (.int .i64 (23))).setCell ⟨w.heap.size, 1, none⟩ (.int .i64 (0))).setCell ⟨w.heap.size, 2, none⟩ (.int .i64 (0))).setCell ⟨w.heap.size, 3, none⟩ (.string ⟨#[]⟩)).setCell ⟨w.heap.size, 4, none⟩ (.slice (some ⟨u5.heap.size, 0, none⟩) 3 3)).heap.size = u5.heap.size := by simp only [size_setCell]
      have hz8 : w0.heap.size ≤ (((((u5.setCell ⟨w.heap.size, 0, none⟩ (.int .i64 (23))).setCell ⟨w.heap.size, 1, none⟩ (.int .i64 (0))).setCell ⟨w.heap.size, 2, none⟩ (.int .i64 (0))).setCell ⟨w.heap.size, 3, none⟩ (.string ⟨#[]⟩)).setCell ⟨w.heap.size, 4, none⟩ (.slice (some ⟨u5.heap.size, 0, none⟩) 3 3)).heap.size := by rw [hz9]; exact HZ5.out
      generalize (((((u5.setCell ⟨w.heap.size, 0, none⟩ (.int .i64 (23))).setCell ⟨w.heap.size, 1, none⟩ (.int .i64 (0))).setCell ⟨w.heap.size, 2, none⟩ (.int .i64 (0))).setCell ⟨w.heap.size, 3, none⟩ (.string ⟨#[]⟩)).setCell ⟨w.heap.size, 4, none⟩ (.slice (some ⟨u5.heap.size, 0, none⟩) 3 3)) = w9 at *
      have hal9 : Below w9.heap.size w9 (w9.alloc (.cells #[.int .i64 t3.op, .int .i64 t3.a, .int .i64 t3.b, .string t3.name, .slice At3 t3.kids.length ct3, .int .i64 t4.op, .int .i64 t4.a, .int .i64 t4.b, .string t4.name, .slice At4 t4.kids.length ct4, .int .i64 t5.op, .int .i64 t5.a, .int .i64 t5.b, .string t5.name, .slice At5 t5.kids.length ct5] 48)) := (Below.refl _ _).alloc (Nat.le_refl _) _
      have hkl : TF w0.heap.size (w9.alloc (.cells #[.int .i64 t3.op, .int .i64 t3.a, .int .i64 t3.b, .string t3.name, .slice At3 t3.kids.length ct3, .int .i64 t4.op, .int .i64 t4.a, .int .i64 t4.b, .string t4.name, .slice At4 t4.kids.length ct4, .int .i64 t5.op, .int .i64 t5.a, .int .i64 t5.b, .string t5.name, .slice At5 t5.kids.length ct5] 48)) (some ⟨w9.heap.size, 0, none⟩) [t3, t4, t5] := lit_terms (Ak := fun i => if i = 0 then At3 else if i = 1 then At4 else if i = 2 then At5 else none) (ck := fun i => if i = 0 then ct3 else if i = 1 then ct4 else if i = 2 then ct5 else 0) hz8 (fun i k hk => by
        rcases i with _ | i
        · simp at hk; subst hk; exact ⟨HCt3.out, hxt3, fun j u hu => by
            match j, hu with
            | 0, hu => exact hu
            | 1, hu => exact hu
            | 2, hu => exact hu
            | 3, hu => exact hu
            | 4, hu => exact hu
            | j + 5, hu => simp at hu⟩
        rcases i with _ | i
        · simp at hk; subst hk; exact ⟨HCt4.out, hxt4, fun j u hu => by
            match j, hu with
            | 0, hu => exact hu
            | 1, hu => exact hu
            | 2, hu => exact hu
            | 3, hu => exact hu
            | 4, hu => exact hu
            | j + 5, hu => simp at hu⟩
        rcases i with _ | i
        · simp at hk; subst hk; exact ⟨HCt5.out, hxt5, fun j u hu => by
            match j, hu with
            | 0, hu => exact hu
            | 1, hu => exact hu
            | 2, hu => exact hu
            | 3, hu => exact hu
            | 4, hu => exact hu
            | j + 5, hu => simp at hu⟩
        simp at hk)
      rw [hz9] at hkl
      have hb6 := (hal9.block _ (lt_of_block hb5)).trans hb5
      obtain ⟨qf, qf0, qf1, hRf, hGf⟩ := HDN
      have HDF : Drawn r p (30 + 3 * P) w (w9.alloc (.cells #[.int .i64 t3.op, .int .i64 t3.a, .int .i64 t3.b, .string t3.name, .slice At3 t3.kids.length ct3, .int .i64 t4.op, .int .i64 t4.a, .int .i64 t4.b, .string t4.name, .slice At4 t4.kids.length ct4, .int .i64 t5.op, .int .i64 t5.a, .int .i64 t5.b, .string t5.name, .slice At5 t5.kids.length ct5] 48)) := ⟨qf, qf0, qf1, hRf.up hal9, hGf.up hal9⟩
      generalize w9.alloc (.cells #[.int .i64 t3.op, .int .i64 t3.a, .int .i64 t3.b, .string t3.name, .slice At3 t3.kids.length ct3, .int .i64 t4.op, .int .i64 t4.a, .int .i64 t4.b, .string t4.name, .slice At4 t4.kids.length ct4, .int .i64 t5.op, .int .i64 t5.a, .int .i64 t5.b, .string t5.name, .slice At5 t5.kids.length ct5] 48) = w8 at *
      have e0 := (cell_of_block hb6 0).1
      have e1 := (cell_of_block hb6 1).1
      have e2 := (cell_of_block hb6 2).1
      have e3 := (cell_of_block hb6 3).1
      have e4 := (cell_of_block hb6 4).1
      simp at e0 e1 e2 e3 e4
      refine bodyPost_ret (v := .agg #[.int .i64 (23), .int .i64 (0), .int .i64 (0), .string ⟨#[]⟩, .slice (some ⟨u5.heap.size, 0, none⟩) 3 3]) (by simp [results, Tryz.results112, go_sem, e0, e1, e2, e3, e4]) rfl ?_
      exact ret_box HOK.out (by simp) (hkl.low HWY.out) HDF
    have gk0 : (k == 0) = false := by simpa using hk0
    clear hk0
    by_cases hk1 : k = 1
    · skip
      subst hk1
      go_wp2_with fail
      refine (pick_any r (p + 1 + 1) (5 - s) u2 HR2.out (by omega) (by omega) (by omega) (by omega)).mono ?_
      rintro e u3 ⟨v, rfl, v0, v1, v2, hR9, hg9⟩
      have hg9 := Gr.one (S := IsR r) hg9 rfl
      have Hv1 := Lib.hid v1
      have Hv2 := Lib.hid v2
      clear v1 v2
      have HR3 := Lib.hid hR9
      have HG3 := Lib.hid (HG2.out.trans hg9)
      have HD3 := Lib.hid (HD2.out.gr hg9)
      have HB3 := Lib.hid (hg9.heap (by show ¬ _ = r; omega) HB2.out)
      have HZ3 : Hid (w0.heap.size ≤ u3.heap.size) := Lib.hid (Nat.le_trans HZ2.out hg9.size)
      clear hg9 hR9
      have hv5 : s + v ≤ 8 := by
        by_cases h9 : 1 ≤ 5 - s
        · have := Hv1.out h9; omega
        · have := Hv2.out (by omega); omega
      skip
      go_wp2_with fail
      refine (pick_any r (p + 1 + 1 + 1) (s + v - s + 1) u3 HR3.out (by omega) (by omega) (by omega) (by omega)).mono ?_
      rintro e u4 ⟨y, rfl, y0, y1, y2, hR9, hg9⟩
      have hg9 := Gr.one (S := IsR r) hg9 rfl
      have Hy1 := Lib.hid y1
      have Hy2 := Lib.hid y2
      clear y1 y2
      have HR4 := Lib.hid hR9
      have HG4 := Lib.hid (HG3.out.trans hg9)
      have HD4 := Lib.hid (HD3.out.gr hg9)
      have HB4 := Lib.hid (hg9.heap (by show ¬ _ = r; omega) HB3.out)
      have HZ4 : Hid (w0.heap.size ≤ u4.heap.size) := Lib.hid (Nat.le_trans HZ3.out hg9.size)
      clear hg9 hR9
      have y1 := Hy1.out (by omega)
      go_wp2_with fail
      refine (HT.out r (p + 1 + 1 + 1 + 1) (s + v) A c ds u4 HR4.out (HD4.out.ab_rd) ho (by omega) (by omega) (by omega) (by omega)).mono ?_
      rintro e u5 ⟨t5, At5, ct5, rfl, hct5, hkt5, hot5, q5, qa5, qb5, hR9, hg9⟩
      have hkt5 := hkt5.low HZ4.out
      have HOt5 := Lib.hid hot5
      clear hot5
      have HR5 := Lib.hid hR9
      have HG5 := Lib.hid (HG4.out.trans hg9)
      have HD5 := Lib.hid (HD4.out.gr hg9)
      have HB5 := Lib.hid (hg9.heap (by show ¬ _ = r; omega) HB4.out)
      have HZ5 : Hid (w0.heap.size ≤ u5.heap.size) := Lib.hid (Nat.le_trans HZ4.out hg9.size)
      clear hg9 hR9
      have HOK : Hid (T.All okT5 (.mk (22) (y + s - 1) (y) ⟨#[]⟩ [t5])) := Lib.hid (okT_node (by simp) (by omega) (by omega) (fun k hk => by
        rw [List.mem_singleton.1 hk]
        exact HOt5.out))
      have HKt5 := Lib.hid hkt5
      have HCt5 := Lib.hid hct5
      have HQ9 : Hid (p ≤ q5 ∧ q5 ≤ p + (30 + 3 * P)) := Lib.hid ⟨by omega, by omega⟩
      have HWY := Lib.hid hwy
      have HWZ := Lib.hid hwz
      have HRL := Lib.hid hrl
      have hlt9 : w.heap.size < u5.heap.size := lt_of_block HB5.out
      have b0 : u5.cell? ⟨w.heap.size, 0, none⟩ = _ ∧ u5.frozen? ⟨w.heap.size, 0, none⟩ = false := cell_of_block HB5.out 0
      obtain ⟨cc0, gg0⟩ := b0
      have b1 : u5.cell? ⟨w.heap.size, 1, none⟩ = _ ∧ u5.frozen? ⟨w.heap.size, 1, none⟩ = false := cell_of_block HB5.out 1
      obtain ⟨cc1, gg1⟩ := b1
      have b2 : u5.cell? ⟨w.heap.size, 2, none⟩ = _ ∧ u5.frozen? ⟨w.heap.size, 2, none⟩ = false := cell_of_block HB5.out 2
      obtain ⟨cc2, gg2⟩ := b2
      have b3 : u5.cell? ⟨w.heap.size, 3, none⟩ = _ ∧ u5.frozen? ⟨w.heap.size, 3, none⟩ = false := cell_of_block HB5.out 3
      obtain ⟨cc3, gg3⟩ := b3
      have b4 : u5.cell? ⟨w.heap.size, 4, none⟩ = _ ∧ u5.frozen? ⟨w.heap.size, 4, none⟩ = false := cell_of_block HB5.out 4
      obtain ⟨cc4, gg4⟩ := b4
      clear hkt5 hct5
      go_wp2
      have hb5 := box5 (v0 := .int .i64 (22)) (v1 := .int .i64 (y + s - 1)) (v2 := .int .i64 (y)) (v3 := .string ⟨#[]⟩) (v4 := .slice (some ⟨u5.heap.size, 0, none⟩) 1 1) HB5.out
      have HDN := drawn_store (M := 30 + 3 * P) (v0 := .int .i64 (22)) (v1 := .int .i64 (y + s - 1)) (v2 := .int .i64 (y)) (v3 := .string ⟨#[]⟩) (v4 := .slice (some ⟨u5.heap.size, 0, none⟩) 1 1) HQ9.out.1 HQ9.out.2 HR5.out HG5.out (Nat.le_refl _) HRL.out
      have hxt5 := HKt5.out.box5 (v0 := .int .i64 (22)) (v1 := .int .i64 (y + s - 1)) (v2 := .int .i64 (y)) (v3 := .string ⟨#[]⟩) (v4 := .slice (some ⟨u5.heap.size, 0, none⟩) 1 1) HWZ.out
      have hz9 : (((((u5.setCell ⟨w.heap.size, 0, none⟩ (.int .i64 (22))).setCell ⟨w.heap.size, 1, none⟩ (.int .i64 (y + s - 1))).setCell ⟨w.heap.size, 2, none⟩ (.int .i64 (y))).setCell ⟨w.heap.size, 3, none⟩ (.string ⟨#[]⟩)).setCell ⟨w.heap.size, 4, none⟩ (.slice (some ⟨u5.heap.size, 0, none⟩) 1 1)).heap.size = u5.heap.size := by simp only [size_setCell]
      have hz8 : w0.heap.size ≤ (((((u5.setCell ⟨w.heap.size, 0, none⟩ (.int .i64 (22))).setCell ⟨w.heap.size, 1, none⟩ (.int .i64 (y + s - 1))).setCell ⟨w.heap.size, 2, none⟩ (.int .i64 (y))).setCell ⟨w.heap.size, 3, none⟩ (.string ⟨#[]⟩)).setCell ⟨w.heap.size, 4, none⟩ (.slice (some ⟨u5.heap.size, 0, none⟩) 1 1)).heap.size := by rw [hz9]; exact HZ5.out
      generalize (((((u5.setCell ⟨w.heap.size, 0, none⟩ (.int .i64 (22))).setCell ⟨w.heap.size, 1, none⟩ (.int .i64 (y + s - 1))).setCell ⟨w.heap.size, 2, none⟩ (.int .i64 (y))).setCell ⟨w.heap.size, 3, none⟩ (.string ⟨#[]⟩)).setCell ⟨w.heap.size, 4, none⟩ (.slice (some ⟨u5.heap.size, 0, none⟩) 1 1)) = w9 at *
      have hal9 : Below w9.heap.size w9 (w9.alloc (.cells #[.int .i64 t5.op, .int .i64 t5.a, .int .i64 t5.b, .string t5.name, .slice At5 t5.kids.length ct5] 48)) := (Below.refl _ _).alloc (Nat.le_refl _) _
      have hkl : TF w0.heap.size (w9.alloc (.cells #[.int .i64 t5.op, .int .i64 t5.a, .int .i64 t5.b, .string t5.name, .slice At5 t5.kids.length ct5] 48)) (some ⟨w9.heap.size, 0, none⟩) [t5] := lit_terms (Ak := fun i => if i = 0 then At5 else none) (ck := fun i => if i = 0 then ct5 else 0) hz8 (fun i k hk => by
        rcases i with _ | i
        · simp at hk; subst hk; exact ⟨HCt5.out, hxt5, fun j u hu => by
            match j, hu with
            | 0, hu => exact hu
            | 1, hu => exact hu
            | 2, hu => exact hu
            | 3, hu => exact hu
            | 4, hu => exact hu
            | j + 5, hu => simp at hu⟩
        simp at hk)
      rw [hz9] at hkl
      have hb6 := (hal9.block _ (lt_of_block hb5)).trans hb5
      obtain ⟨qf, qf0, qf1, hRf, hGf⟩ := HDN
      have HDF : Drawn r p (30 + 3 * P) w (w9.alloc (.cells #[.int .i64 t5.op, .int .i64 t5.a, .int .i64 t5.b, .string t5.name, .slice At5 t5.kids.length ct5] 48)) := ⟨qf, qf0, qf1, hRf.up hal9, hGf.up hal9⟩
      generalize w9.alloc (.cells #[.int .i64 t5.op, .int .i64 t5.a, .int .i64 t5.b, .string t5.name, .slice At5 t5.kids.length ct5] 48) = w8 at *
      have e0 := (cell_of_block hb6 0).1
      have e1 := (cell_of_block hb6 1).1
      have e2 := (cell_of_block hb6 2).1
      have e3 := (cell_of_block hb6 3).1
      have e4 := (cell_of_block hb6 4).1
      simp at e0 e1 e2 e3 e4
      refine bodyPost_ret (v := .agg #[.int .i64 (22), .int .i64 (y + s - 1), .int .i64 (y), .string ⟨#[]⟩, .slice (some ⟨u5.heap.size, 0, none⟩) 1 1]) (by simp [results, Tryz.results112, go_sem, e0, e1, e2, e3, e4]) rfl ?_
      exact ret_box HOK.out (by simp) (hkl.low HWY.out) HDF
    have gk1 : (k == 1) = false := by simpa using hk1
    clear hk1
    by_cases hk2 : k = 2
    · skip
      subst hk2
      by_cases hs2 : 1 < s
      · skip
        have gs2 : decide (1 < s) = true := decide_eq_true hs2
        go_wp2_with fail
        refine (pick_any r (p + 1 + 1) (s - 1) u2 HR2.out (by omega) (by omega) (by omega) (by omega)).mono ?_
        rintro e u3 ⟨y, rfl, y0, y1, y2, hR9, hg9⟩
        have hg9 := Gr.one (S := IsR r) hg9 rfl
        have Hy1 := Lib.hid y1
        have Hy2 := Lib.hid y2
        clear y1 y2
        have HR3 := Lib.hid hR9
        have HG3 := Lib.hid (HG2.out.trans hg9)
        have HD3 := Lib.hid (HD2.out.gr hg9)
        have HB3 := Lib.hid (hg9.heap (by show ¬ _ = r; omega) HB2.out)
        have HZ3 : Hid (w0.heap.size ≤ u3.heap.size) := Lib.hid (Nat.le_trans HZ2.out hg9.size)
        clear hg9 hR9
        have y1 := Hy1.out (by omega)
        go_wp2_with fail
        refine (HT.out r (p + 1 + 1 + 1) (1 + y) A c ds u3 HR3.out (HD3.out.ab_rd) ho (by omega) (by omega) (by omega) (by omega)).mono ?_
        rintro e u4 ⟨t4, At4, ct4, rfl, hct4, hkt4, hot4, q4, qa4, qb4, hR9, hg9⟩
        have hkt4 := hkt4.low HZ3.out
        have HOt4 := Lib.hid hot4
        clear hot4
        have HR4 := Lib.hid hR9
        have HG4 := Lib.hid (HG3.out.trans hg9)
        have HD4 := Lib.hid (HD3.out.gr hg9)
        have HB4 := Lib.hid (hg9.heap (by show ¬ _ = r; omega) HB3.out)
        have HZ4 : Hid (w0.heap.size ≤ u4.heap.size) := Lib.hid (Nat.le_trans HZ3.out hg9.size)
        clear hg9 hR9
        go_wp2_with fail
        refine (HT.out r (q4) (s - (1 + y)) A c ds u4 HR4.out (HD4.out.ab_rd) ho (by omega) (by omega) (by omega) (by omega)).mono ?_
        rintro e u5 ⟨t5, At5, ct5, rfl, hct5, hkt5, hot5, q5, qa5, qb5, hR9, hg9⟩
        have hkt5 := hkt5.low HZ4.out
        have HOt5 := Lib.hid hot5
        clear hot5
        have HR5 := Lib.hid hR9
        have HG5 := Lib.hid (HG4.out.trans hg9)
        have HD5 := Lib.hid (HD4.out.gr hg9)
        have HB5 := Lib.hid (hg9.heap (by show ¬ _ = r; omega) HB4.out)
        have HZ5 : Hid (w0.heap.size ≤ u5.heap.size) := Lib.hid (Nat.le_trans HZ4.out hg9.size)
        have hkt4 := hkt4.gr hg9 (by omega)
        clear hg9 hR9
        have HOK : Hid (T.All okT5 (.mk (14) (0) (0) ⟨#[]⟩ [t4, t5])) := Lib.hid (okT_node (by simp) (by omega) (by omega) (fun k hk => by
          simp only [List.mem_cons, List.not_mem_nil, or_false] at hk
          rcases hk with rfl | rfl
          · exact HOt4.out
          · exact HOt5.out))
        have HKt4 := Lib.hid hkt4
        have HCt4 := Lib.hid hct4
        have HKt5 := Lib.hid hkt5
        have HCt5 := Lib.hid hct5
        have HQ9 : Hid (p ≤ q5 ∧ q5 ≤ p + (30 + 3 * P)) := Lib.hid ⟨by omega, by omega⟩
        have HWY := Lib.hid hwy
        have HWZ := Lib.hid hwz
        have HRL := Lib.hid hrl
        have hlt9 : w.heap.size < u5.heap.size := lt_of_block HB5.out
        have b0 : u5.cell? ⟨w.heap.size, 0, none⟩ = _ ∧ u5.frozen? ⟨w.heap.size, 0, none⟩ = false := cell_of_block HB5.out 0
        obtain ⟨cc0, gg0⟩ := b0
        have b1 : u5.cell? ⟨w.heap.size, 1, none⟩ = _ ∧ u5.frozen? ⟨w.heap.size, 1, none⟩ = false := cell_of_block HB5.out 1
        obtain ⟨cc1, gg1⟩ := b1
        have b2 : u5.cell? ⟨w.heap.size, 2, none⟩ = _ ∧ u5.frozen? ⟨w.heap.size, 2, none⟩ = false := cell_of_block HB5.out 2
        obtain ⟨cc2, gg2⟩ := b2
        have b3 : u5.cell? ⟨w.heap.size, 3, none⟩ = _ ∧ u5.frozen? ⟨w.heap.size, 3, none⟩ = false := cell_of_block HB5.out 3
        obtain ⟨cc3, gg3⟩ := b3
        have b4 : u5.cell? ⟨w.heap.size, 4, none⟩ = _ ∧ u5.frozen? ⟨w.heap.size, 4, none⟩ = false := cell_of_block HB5.out 4
        obtain ⟨cc4, gg4⟩ := b4
        clear hkt4 hct4 hkt5 hct5
        go_wp2
        have hb5 := box5 (v0 := .int .i64 (14)) (v1 := .int .i64 (0)) (v2 := .int .i64 (0)) (v3 := .string ⟨#[]⟩) (v4 := .slice (some ⟨u5.heap.size, 0, none⟩) 2 2) HB5.out
        have HDN := drawn_store (M := 30 + 3 * P) (v0 := .int .i64 (14)) (v1 := .int .i64 (0)) (v2 := .int .i64 (0)) (v3 := .string ⟨#[]⟩) (v4 := .slice (some ⟨u5.heap.size, 0, none⟩) 2 2) HQ9.out.1 HQ9.out.2 HR5.out HG5.out (Nat.le_refl _) HRL.out
        have hxt4 := HKt4.out.box5 (v0 := .int .i64 (14)) (v1 := .int .i64 (0)) (v2 := .int .i64 (0)) (v3 := .string ⟨#[]⟩) (v4 := .slice (some ⟨u5.heap.size, 0, none⟩) 2 2) HWZ.out
        have hxt5 := HKt5.out.box5 (v0 := .int .i64 (14)) (v1 := .int .i64 (0)) (v2 := .int .i64 (0)) (v3 := .string ⟨#[]⟩) (v4 := .slice (some ⟨u5.heap.size, 0, none⟩) 2 2) HWZ.out
        have hz9 : (((((u5.setCell ⟨w.heap.size, 0, none⟩ (.int .i64 (14))).setCell ⟨w.heap.size, 1, none⟩ (.int .i64 (0))).setCell ⟨w.heap.size, 2, none⟩ (.int .i64 (0))).setCell ⟨w.heap.size, 3, none⟩ (.string ⟨#[]⟩)).setCell ⟨w.heap.size, 4, none⟩ (.slice (some ⟨u5.heap.size, 0, none⟩) 2 2)).heap.size = u5.heap.size := by simp only [size_setCell]
        have hz8 : w0.heap.size ≤ (((((u5.setCell ⟨w.heap.size, 0, none⟩ (.int .i64 (14))).setCell ⟨w.heap.size, 1, none⟩ (.int .i64 (0))).setCell ⟨w.heap.size, 2, none⟩ (.int .i64 (0))).setCell ⟨w.heap.size, 3, none⟩ (.string ⟨#[]⟩)).setCell ⟨w.heap.size, 4, none⟩ (.slice (some ⟨u5.heap.size, 0, none⟩) 2 2)).heap.size := by rw [hz9]; exact HZ5.out
        generalize (((((u5.setCell ⟨w.heap.size, 0, none⟩ (.int .i64 (14))).setCell ⟨w.heap.size, 1, none⟩ (.int .i64 (0))).setCell ⟨w.heap.size, 2, none⟩ (.int .i64 (0))).setCell ⟨w.heap.size, 3, none⟩ (.string ⟨#[]⟩)).setCell ⟨w.heap.size, 4, none⟩ (.slice (some ⟨u5.heap.size, 0, none⟩) 2 2)) = w9 at *
        have hal9 : Below w9.heap.size w9 (w9.alloc (.cells #[.int .i64 t4.op, .int .i64 t4.a, .int .i64 t4.b, .string t4.name, .slice At4 t4.kids.length ct4, .int .i64 t5.op, .int .i64 t5.a, .int .i64 t5.b, .string t5.name, .slice At5 t5.kids.length ct5] 48)) := (Below.refl _ _).alloc (Nat.le_refl _) _
        have hkl : TF w0.heap.size (w9.alloc (.cells #[.int .i64 t4.op, .int .i64 t4.a, .int .i64 t4.b, .string t4.name, .slice At4 t4.kids.length ct4, .int .i64 t5.op, .int .i64 t5.a, .int .i64 t5.b, .string t5.name, .slice At5 t5.kids.length ct5] 48)) (some ⟨w9.heap.size, 0, none⟩) [t4, t5] := lit_terms (Ak := fun i => if i = 0 then At4 else if i = 1 then At5 else none) (ck := fun i => if i = 0 then ct4 else if i = 1 then ct5 else 0) hz8 (fun i k hk => by
          rcases i with _ | i
          · simp at hk; subst hk; exact ⟨HCt4.out, hxt4, fun j u hu => by
              match j, hu with
              | 0, hu => exact hu
              | 1, hu => exact hu
              | 2, hu => exact hu
              | 3, hu => exact hu
              | 4, hu => exact hu
              | j + 5, hu => simp at hu⟩
          rcases i with _ | i
          · simp at hk; subst hk; exact ⟨HCt5.out, hxt5, fun j u hu => by
              match j, hu with
              | 0, hu => exact hu
              | 1, hu => exact hu
              | 2, hu => exact hu
              | 3, hu => exact hu
              | 4, hu => exact hu
              | j + 5, hu => simp at hu⟩
          simp at hk)
        rw [hz9] at hkl
        have hb6 := (hal9.block _ (lt_of_block hb5)).trans hb5
        obtain ⟨qf, qf0, qf1, hRf, hGf⟩ := HDN
        have HDF : Drawn r p (30 + 3 * P) w (w9.alloc (.cells #[.int .i64 t4.op, .int .i64 t4.a, .int .i64 t4.b, .string t4.name, .slice At4 t4.kids.length ct4, .int .i64 t5.op, .int .i64 t5.a, .int .i64 t5.b, .string t5.name, .slice At5 t5.kids.length ct5] 48)) := ⟨qf, qf0, qf1, hRf.up hal9, hGf.up hal9⟩
        generalize w9.alloc (.cells #[.int .i64 t4.op, .int .i64 t4.a, .int .i64 t4.b, .string t4.name, .slice At4 t4.kids.length ct4, .int .i64 t5.op, .int .i64 t5.a, .int .i64 t5.b, .string t5.name, .slice At5 t5.kids.length ct5] 48) = w8 at *
        have e0 := (cell_of_block hb6 0).1
        have e1 := (cell_of_block hb6 1).1
        have e2 := (cell_of_block hb6 2).1
        have e3 := (cell_of_block hb6 3).1
        have e4 := (cell_of_block hb6 4).1
        simp at e0 e1 e2 e3 e4
        refine bodyPost_ret (v := .agg #[.int .i64 (14), .int .i64 (0), .int .i64 (0), .string ⟨#[]⟩, .slice (some ⟨u5.heap.size, 0, none⟩) 2 2]) (by simp [results, Tryz.results112, go_sem, e0, e1, e2, e3, e4]) rfl ?_
        exact ret_box HOK.out (by simp) (hkl.low HWY.out) HDF
      · skip
        have gs2 : decide (1 < s) = false := decide_eq_false hs2
        go_wp2_with fail
        refine (pick_any r (p + 1 + 1) (2) u2 HR2.out (by omega) (by omega) (by omega) (by omega)).mono ?_
        rintro e u3 ⟨x, rfl, x0, x1, x2, hR9, hg9⟩
        have hg9 := Gr.one (S := IsR r) hg9 rfl
        have Hx1 := Lib.hid x1
        have Hx2 := Lib.hid x2
        clear x1 x2
        have HR3 := Lib.hid hR9
        have HG3 := Lib.hid (HG2.out.trans hg9)
        have HD3 := Lib.hid (HD2.out.gr hg9)
        have HB3 := Lib.hid (hg9.heap (by show ¬ _ = r; omega) HB2.out)
        have HZ3 : Hid (w0.heap.size ≤ u3.heap.size) := Lib.hid (Nat.le_trans HZ2.out hg9.size)
        clear hg9 hR9
        have x1 := Hx1.out (by omega)
        go_wp2_with fail
        refine (HT.out r (p + 1 + 1 + 1) (s) A c ds u3 HR3.out (HD3.out.ab_rd) ho (by omega) (by omega) (by omega) (by omega)).mono ?_
        rintro e u4 ⟨t4, At4, ct4, rfl, hct4, hkt4, hot4, q4, qa4, qb4, hR9, hg9⟩
        have hkt4 := hkt4.low HZ3.out
        have HOt4 := Lib.hid hot4
        clear hot4
        have HR4 := Lib.hid hR9
        have HG4 := Lib.hid (HG3.out.trans hg9)
        have HD4 := Lib.hid (HD3.out.gr hg9)
        have HB4 := Lib.hid (hg9.heap (by show ¬ _ = r; omega) HB3.out)
        have HZ4 : Hid (w0.heap.size ≤ u4.heap.size) := Lib.hid (Nat.le_trans HZ3.out hg9.size)
        clear hg9 hR9
        have HOK : Hid (T.All okT5 (.mk (1 + x) (0) (0) ⟨#[]⟩ [t4])) := Lib.hid (okT_node (by simp) (by omega) (by omega) (fun k hk => by
          rw [List.mem_singleton.1 hk]
          exact HOt4.out))
        have HKt4 := Lib.hid hkt4
        have HCt4 := Lib.hid hct4
        have HQ9 : Hid (p ≤ q4 ∧ q4 ≤ p + (30 + 3 * P)) := Lib.hid ⟨by omega, by omega⟩
        have HWY := Lib.hid hwy
        have HWZ := Lib.hid hwz
        have HRL := Lib.hid hrl
        have hlt9 : w.heap.size < u4.heap.size := lt_of_block HB4.out
        have b0 : u4.cell? ⟨w.heap.size, 0, none⟩ = _ ∧ u4.frozen? ⟨w.heap.size, 0, none⟩ = false := cell_of_block HB4.out 0
        obtain ⟨cc0, gg0⟩ := b0
        have b1 : u4.cell? ⟨w.heap.size, 1, none⟩ = _ ∧ u4.frozen? ⟨w.heap.size, 1, none⟩ = false := cell_of_block HB4.out 1
        obtain ⟨cc1, gg1⟩ := b1
        have b2 : u4.cell? ⟨w.heap.size, 2, none⟩ = _ ∧ u4.frozen? ⟨w.heap.size, 2, none⟩ = false := cell_of_block HB4.out 2
        obtain ⟨cc2, gg2⟩ := b2
        have b3 : u4.cell? ⟨w.heap.size, 3, none⟩ = _ ∧ u4.frozen? ⟨w.heap.size, 3, none⟩ = false := cell_of_block HB4.out 3
        obtain ⟨cc3, gg3⟩ := b3
        have b4 : u4.cell? ⟨w.heap.size, 4, none⟩ = _ ∧ u4.frozen? ⟨w.heap.size, 4, none⟩ = false := cell_of_block HB4.out 4
        obtain ⟨cc4, gg4⟩ := b4
        clear hkt4 hct4
        go_wp2
        have hb5 := box5 (v0 := .int .i64 (1 + x)) (v1 := .int .i64 (0)) (v2 := .int .i64 (0)) (v3 := .string ⟨#[]⟩) (v4 := .slice (some ⟨u4.heap.size, 0, none⟩) 1 1) HB4.out
        have HDN := drawn_store (M := 30 + 3 * P) (v0 := .int .i64 (1 + x)) (v1 := .int .i64 (0)) (v2 := .int .i64 (0)) (v3 := .string ⟨#[]⟩) (v4 := .slice (some ⟨u4.heap.size, 0, none⟩) 1 1) HQ9.out.1 HQ9.out.2 HR4.out HG4.out (Nat.le_refl _) HRL.out
        have hxt4 := HKt4.out.box5 (v0 := .int .i64 (1 + x)) (v1 := .int .i64 (0)) (v2 := .int .i64 (0)) (v3 := .string ⟨#[]⟩) (v4 := .slice (some ⟨u4.heap.size, 0, none⟩) 1 1) HWZ.out
        have hz9 : (((((u4.setCell ⟨w.heap.size, 0, none⟩ (.int .i64 (1 + x))).setCell ⟨w.heap.size, 1, none⟩ (.int .i64 (0))).setCell ⟨w.heap.size, 2, none⟩ (.int .i64 (0))).setCell ⟨w.heap.size, 3, none⟩ (.string ⟨#[]⟩)).setCell ⟨w.heap.size, 4, none⟩ (.slice (some ⟨u4.heap.size, 0, none⟩) 1 1)).heap.size = u4.heap.size := by simp only [size_setCell]
        have hz8 : w0.heap.size ≤ (((((u4.setCell ⟨w.heap.size, 0, none⟩ (.int .i64 (1 + x))).setCell ⟨w.heap.size, 1, none⟩ (.int .i64 (0))).setCell ⟨w.heap.size, 2, none⟩ (.int .i64 (0))).setCell ⟨w.heap.size, 3, none⟩ (.string ⟨#[]⟩)).setCell ⟨w.heap.size, 4, none⟩ (.slice (some ⟨u4.heap.size, 0, none⟩) 1 1)).heap.size := by rw [hz9]; exact HZ4.out
        generalize (((((u4.setCell ⟨w.heap.size, 0, none⟩ (.int .i64 (1 + x))).setCell ⟨w.heap.size, 1, none⟩ (.int .i64 (0))).setCell ⟨w.heap.size, 2, none⟩ (.int .i64 (0))).setCell ⟨w.heap.size, 3, none⟩ (.string ⟨#[]⟩)).setCell ⟨w.heap.size, 4, none⟩ (.slice (some ⟨u4.heap.size, 0, none⟩) 1 1)) = w9 at *
        have hal9 : Below w9.heap.size w9 (w9.alloc (.cells #[.int .i64 t4.op, .int .i64 t4.a, .int .i64 t4.b, .string t4.name, .slice At4 t4.kids.length ct4] 48)) := (Below.refl _ _).alloc (Nat.le_refl _) _
        have hkl : TF w0.heap.size (w9.alloc (.cells #[.int .i64 t4.op, .int .i64 t4.a, .int .i64 t4.b, .string t4.name, .slice At4 t4.kids.length ct4] 48)) (some ⟨w9.heap.size, 0, none⟩) [t4] := lit_terms (Ak := fun i => if i = 0 then At4 else none) (ck := fun i => if i = 0 then ct4 else 0) hz8 (fun i k hk => by
          rcases i with _ | i
          · simp at hk; subst hk; exact ⟨HCt4.out, hxt4, fun j u hu => by
              match j, hu with
              | 0, hu => exact hu
              | 1, hu => exact hu
              | 2, hu => exact hu
              | 3, hu => exact hu
              | 4, hu => exact hu
              | j + 5, hu => simp at hu⟩
          simp at hk)
        rw [hz9] at hkl
        have hb6 := (hal9.block _ (lt_of_block hb5)).trans hb5
        obtain ⟨qf, qf0, qf1, hRf, hGf⟩ := HDN
        have HDF : Drawn r p (30 + 3 * P) w (w9.alloc (.cells #[.int .i64 t4.op, .int .i64 t4.a, .int .i64 t4.b, .string t4.name, .slice At4 t4.kids.length ct4] 48)) := ⟨qf, qf0, qf1, hRf.up hal9, hGf.up hal9⟩
        generalize w9.alloc (.cells #[.int .i64 t4.op, .int .i64 t4.a, .int .i64 t4.b, .string t4.name, .slice At4 t4.kids.length ct4] 48) = w8 at *
        have e0 := (cell_of_block hb6 0).1
        have e1 := (cell_of_block hb6 1).1
        have e2 := (cell_of_block hb6 2).1
        have e3 := (cell_of_block hb6 3).1
        have e4 := (cell_of_block hb6 4).1
        simp at e0 e1 e2 e3 e4
        refine bodyPost_ret (v := .agg #[.int .i64 (1 + x), .int .i64 (0), .int .i64 (0), .string ⟨#[]⟩, .slice (some ⟨u4.heap.size, 0, none⟩) 1 1]) (by simp [results, Tryz.results112, go_sem, e0, e1, e2, e3, e4]) rfl ?_
        exact ret_box HOK.out (by simp) (hkl.low HWY.out) HDF
    have gk2 : (k == 2) = false := by simpa using hk2
    clear hk2
    by_cases hk5 : k < 5
    · skip
      have gk5 : decide (k < 5) = true := decide_eq_true hk5
      go_wp2_with fail
      refine (pick_any r (p + 1 + 1) (2) u2 HR2.out (by omega) (by omega) (by omega) (by omega)).mono ?_
      rintro e u3 ⟨x, rfl, x0, x1, x2, hR9, hg9⟩
      have hg9 := Gr.one (S := IsR r) hg9 rfl
      have Hx1 := Lib.hid x1
      have Hx2 := Lib.hid x2
      clear x1 x2
      have HR3 := Lib.hid hR9
      have HG3 := Lib.hid (HG2.out.trans hg9)
      have HD3 := Lib.hid (HD2.out.gr hg9)
      have HB3 := Lib.hid (hg9.heap (by show ¬ _ = r; omega) HB2.out)
      have HZ3 : Hid (w0.heap.size ≤ u3.heap.size) := Lib.hid (Nat.le_trans HZ2.out hg9.size)
      clear hg9 hR9
      have x1 := Hx1.out (by omega)
      go_wp2_with fail
      refine (HT.out r (p + 1 + 1 + 1) (s) A c ds u3 HR3.out (HD3.out.ab_rd) ho (by omega) (by omega) (by omega) (by omega)).mono ?_
      rintro e u4 ⟨t4, At4, ct4, rfl, hct4, hkt4, hot4, q4, qa4, qb4, hR9, hg9⟩
      have hkt4 := hkt4.low HZ3.out
      have HOt4 := Lib.hid hot4
      clear hot4
      have HR4 := Lib.hid hR9
      have HG4 := Lib.hid (HG3.out.trans hg9)
      have HD4 := Lib.hid (HD3.out.gr hg9)
      have HB4 := Lib.hid (hg9.heap (by show ¬ _ = r; omega) HB3.out)
      have HZ4 : Hid (w0.heap.size ≤ u4.heap.size) := Lib.hid (Nat.le_trans HZ3.out hg9.size)
      clear hg9 hR9
      have HOK : Hid (T.All okT5 (.mk (1 + x) (0) (0) ⟨#[]⟩ [t4])) := Lib.hid (okT_node (by simp) (by omega) (by omega) (fun k hk => by
        rw [List.mem_singleton.1 hk]
        exact HOt4.out))
      have HKt4 := Lib.hid hkt4
      have HCt4 := Lib.hid hct4
      have HQ9 : Hid (p ≤ q4 ∧ q4 ≤ p + (30 + 3 * P)) := Lib.hid ⟨by omega, by omega⟩
      have HWY := Lib.hid hwy
      have HWZ := Lib.hid hwz
      have HRL := Lib.hid hrl
      have hlt9 : w.heap.size < u4.heap.size := lt_of_block HB4.out
      have b0 : u4.cell? ⟨w.heap.size, 0, none⟩ = _ ∧ u4.frozen? ⟨w.heap.size, 0, none⟩ = false := cell_of_block HB4.out 0
      obtain ⟨cc0, gg0⟩ := b0
      have b1 : u4.cell? ⟨w.heap.size, 1, none⟩ = _ ∧ u4.frozen? ⟨w.heap.size, 1, none⟩ = false := cell_of_block HB4.out 1
      obtain ⟨cc1, gg1⟩ := b1
      have b2 : u4.cell? ⟨w.heap.size, 2, none⟩ = _ ∧ u4.frozen? ⟨w.heap.size, 2, none⟩ = false := cell_of_block HB4.out 2
      obtain ⟨cc2, gg2⟩ := b2
      have b3 : u4.cell? ⟨w.heap.size, 3, none⟩ = _ ∧ u4.frozen? ⟨w.heap.size, 3, none⟩ = false := cell_of_block HB4.out 3
      obtain ⟨cc3, gg3⟩ := b3
      have b4 : u4.cell? ⟨w.heap.size, 4, none⟩ = _ ∧ u4.frozen? ⟨w.heap.size, 4, none⟩ = false := cell_of_block HB4.out 4
      obtain ⟨cc4, gg4⟩ := b4
      clear hkt4 hct4
      go_wp2
      have hb5 := box5 (v0 := .int .i64 (1 + x)) (v1 := .int .i64 (0)) (v2 := .int .i64 (0)) (v3 := .string ⟨#[]⟩) (v4 := .slice (some ⟨u4.heap.size, 0, none⟩) 1 1) HB4.out
      have HDN := drawn_store (M := 30 + 3 * P) (v0 := .int .i64 (1 + x)) (v1 := .int .i64 (0)) (v2 := .int .i64 (0)) (v3 := .string ⟨#[]⟩) (v4 := .slice (some ⟨u4.heap.size, 0, none⟩) 1 1) HQ9.out.1 HQ9.out.2 HR4.out HG4.out (Nat.le_refl _) HRL.out
      have hxt4 := HKt4.out.box5 (v0 := .int .i64 (1 + x)) (v1 := .int .i64 (0)) (v2 := .int .i64 (0)) (v3 := .string ⟨#[]⟩) (v4 := .slice (some ⟨u4.heap.size, 0, none⟩) 1 1) HWZ.out
      have hz9 : (((((u4.setCell ⟨w.heap.size, 0, none⟩ (.int .i64 (1 + x))).setCell ⟨w.heap.size, 1, none⟩ (.int .i64 (0))).setCell ⟨w.heap.size, 2, none⟩ (.int .i64 (0))).setCell ⟨w.heap.size, 3, none⟩ (.string ⟨#[]⟩)).setCell ⟨w.heap.size, 4, none⟩ (.slice (some ⟨u4.heap.size, 0, none⟩) 1 1)).heap.size = u4.heap.size := by simp only [size_setCell]
      have hz8 : w0.heap.size ≤ (((((u4.setCell ⟨w.heap.size, 0, none⟩ (.int .i64 (1 + x))).setCell ⟨w.heap.size, 1, none⟩ (.int .i64 (0))).setCell ⟨w.heap.size, 2, none⟩ (.int .i64 (0))).setCell ⟨w.heap.size, 3, none⟩ (.string ⟨#[]⟩)).setCell ⟨w.heap.size, 4, none⟩ (.slice (some ⟨u4.heap.size, 0, none⟩) 1 1)).heap.size := by rw [hz9]; exact HZ4.out
      generalize (((((u4.setCell ⟨w.heap.size, 0, none⟩ (.int .i64 (1 + x))).setCell ⟨w.heap.size, 1, none⟩ (.int .i64 (0))).setCell ⟨w.heap.size, 2, none⟩ (.int .i64 (0))).setCell ⟨w.heap.size, 3, none⟩ (.string ⟨#[]⟩)).setCell ⟨w.heap.size, 4, none⟩ (.slice (some ⟨u4.heap.size, 0, none⟩) 1 1)) = w9 at *
      have hal9 : Below w9.heap.size w9 (w9.alloc (.cells #[.int .i64 t4.op, .int .i64 t4.a, .int .i64 t4.b, .string t4.name, .slice At4 t4.kids.length ct4] 48)) := (Below.refl _ _).alloc (Nat.le_refl _) _
      have hkl : TF w0.heap.size (w9.alloc (.cells #[.int .i64 t4.op, .int .i64 t4.a, .int .i64 t4.b, .string t4.name, .slice At4 t4.kids.length ct4] 48)) (some ⟨w9.heap.size, 0, none⟩) [t4] := lit_terms (Ak := fun i => if i = 0 then At4 else none) (ck := fun i => if i = 0 then ct4 else 0) hz8 (fun i k hk => by
        rcases i with _ | i
        · simp at hk; subst hk; exact ⟨HCt4.out, hxt4, fun j u hu => by
            match j, hu with
            | 0, hu => exact hu
            | 1, hu => exact hu
            | 2, hu => exact hu
            | 3, hu => exact hu
            | 4, hu => exact hu
            | j + 5, hu => simp at hu⟩
        simp at hk)
      rw [hz9] at hkl
      have hb6 := (hal9.block _ (lt_of_block hb5)).trans hb5
      obtain ⟨qf, qf0, qf1, hRf, hGf⟩ := HDN
      have HDF : Drawn r p (30 + 3 * P) w (w9.alloc (.cells #[.int .i64 t4.op, .int .i64 t4.a, .int .i64 t4.b, .string t4.name, .slice At4 t4.kids.length ct4] 48)) := ⟨qf, qf0, qf1, hRf.up hal9, hGf.up hal9⟩
      generalize w9.alloc (.cells #[.int .i64 t4.op, .int .i64 t4.a, .int .i64 t4.b, .string t4.name, .slice At4 t4.kids.length ct4] 48) = w8 at *
      have e0 := (cell_of_block hb6 0).1
      have e1 := (cell_of_block hb6 1).1
      have e2 := (cell_of_block hb6 2).1
      have e3 := (cell_of_block hb6 3).1
      have e4 := (cell_of_block hb6 4).1
      simp at e0 e1 e2 e3 e4
      refine bodyPost_ret (v := .agg #[.int .i64 (1 + x), .int .i64 (0), .int .i64 (0), .string ⟨#[]⟩, .slice (some ⟨u4.heap.size, 0, none⟩) 1 1]) (by simp [results, Tryz.results112, go_sem, e0, e1, e2, e3, e4]) rfl ?_
      exact ret_box HOK.out (by simp) (hkl.low HWY.out) HDF
    have gk5 : decide (k < 5) = false := decide_eq_false hk5
    go_wp2_with fail
    refine (pick_any r (p + 1 + 1) (11) u2 HR2.out (by omega) (by omega) (by omega) (by omega)).mono ?_
    rintro e u3 ⟨x, rfl, x0, x1, x2, hR9, hg9⟩
    have hg9 := Gr.one (S := IsR r) hg9 rfl
    have Hx1 := Lib.hid x1
    have Hx2 := Lib.hid x2
    clear x1 x2
    have HR3 := Lib.hid hR9
    have HG3 := Lib.hid (HG2.out.trans hg9)
    have HD3 := Lib.hid (HD2.out.gr hg9)
    have HB3 := Lib.hid (hg9.heap (by show ¬ _ = r; omega) HB2.out)
    have HZ3 : Hid (w0.heap.size ≤ u3.heap.size) := Lib.hid (Nat.le_trans HZ2.out hg9.size)
    clear hg9 hR9
    have x1 := Hx1.out (by omega)
    go_wp2_with fail
    refine (HT.out r (p + 1 + 1 + 1) (s) A c ds u3 HR3.out (HD3.out.ab_rd) ho (by omega) (by omega) (by omega) (by omega)).mono ?_
    rintro e u4 ⟨t4, At4, ct4, rfl, hct4, hkt4, hot4, q4, qa4, qb4, hR9, hg9⟩
    have hkt4 := hkt4.low HZ3.out
    have HOt4 := Lib.hid hot4
    clear hot4
    have HR4 := Lib.hid hR9
    have HG4 := Lib.hid (HG3.out.trans hg9)
    have HD4 := Lib.hid (HD3.out.gr hg9)
    have HB4 := Lib.hid (hg9.heap (by show ¬ _ = r; omega) HB3.out)
    have HZ4 : Hid (w0.heap.size ≤ u4.heap.size) := Lib.hid (Nat.le_trans HZ3.out hg9.size)
    clear hg9 hR9
    go_wp2_with fail
    refine (HT.out r (q4) (s) A c ds u4 HR4.out (HD4.out.ab_rd) ho (by omega) (by omega) (by omega) (by omega)).mono ?_
    rintro e u5 ⟨t5, At5, ct5, rfl, hct5, hkt5, hot5, q5, qa5, qb5, hR9, hg9⟩
    have hkt5 := hkt5.low HZ4.out
    have HOt5 := Lib.hid hot5
    clear hot5
    have HR5 := Lib.hid hR9
    have HG5 := Lib.hid (HG4.out.trans hg9)
    have HD5 := Lib.hid (HD4.out.gr hg9)
    have HB5 := Lib.hid (hg9.heap (by show ¬ _ = r; omega) HB4.out)
    have HZ5 : Hid (w0.heap.size ≤ u5.heap.size) := Lib.hid (Nat.le_trans HZ4.out hg9.size)
    have hkt4 := hkt4.gr hg9 (by omega)
    clear hg9 hR9
    have HOK : Hid (T.All okT5 (.mk (3 + x) (0) (0) ⟨#[]⟩ [t4, t5])) := Lib.hid (okT_node (by simp) (by omega) (by omega) (fun k hk => by
      simp only [List.mem_cons, List.not_mem_nil, or_false] at hk
      rcases hk with rfl | rfl
      · exact HOt4.out
      · exact HOt5.out))
    have HKt4 := Lib.hid hkt4
    have HCt4 := Lib.hid hct4
    have HKt5 := Lib.hid hkt5
    have HCt5 := Lib.hid hct5
    have HQ9 : Hid (p ≤ q5 ∧ q5 ≤ p + (30 + 3 * P)) := Lib.hid ⟨by omega, by omega⟩
    have HWY := Lib.hid hwy
    have HWZ := Lib.hid hwz
    have HRL := Lib.hid hrl
    have hlt9 : w.heap.size < u5.heap.size := lt_of_block HB5.out
    have b0 : u5.cell? ⟨w.heap.size, 0, none⟩ = _ ∧ u5.frozen? ⟨w.heap.size, 0, none⟩ = false := cell_of_block HB5.out 0
    obtain ⟨cc0, gg0⟩ := b0
    have b1 : u5.cell? ⟨w.heap.size, 1, none⟩ = _ ∧ u5.frozen? ⟨w.heap.size, 1, none⟩ = false := cell_of_block HB5.out 1
    obtain ⟨cc1, gg1⟩ := b1
    have b2 : u5.cell? ⟨w.heap.size, 2, none⟩ = _ ∧ u5.frozen? ⟨w.heap.size, 2, none⟩ = false := cell_of_block HB5.out 2
    obtain ⟨cc2, gg2⟩ := b2
    have b3 : u5.cell? ⟨w.heap.size, 3, none⟩ = _ ∧ u5.frozen? ⟨w.heap.size, 3, none⟩ = false := cell_of_block HB5.out 3
    obtain ⟨cc3, gg3⟩ := b3
    have b4 : u5.cell? ⟨w.heap.size, 4, none⟩ = _ ∧ u5.frozen? ⟨w.heap.size, 4, none⟩ = false := cell_of_block HB5.out 4
    obtain ⟨cc4, gg4⟩ := b4
    clear hkt4 hct4 hkt5 hct5
    go_wp2
    have hb5 := box5 (v0 := .int .i64 (3 + x)) (v1 := .int .i64 (0)) (v2 := .int .i64 (0)) (v3 := .string ⟨#[]⟩) (v4 := .slice (some ⟨u5.heap.size, 0, none⟩) 2 2) HB5.out
    have HDN := drawn_store (M := 30 + 3 * P) (v0 := .int .i64 (3 + x)) (v1 := .int .i64 (0)) (v2 := .int .i64 (0)) (v3 := .string ⟨#[]⟩) (v4 := .slice (some ⟨u5.heap.size, 0, none⟩) 2 2) HQ9.out.1 HQ9.out.2 HR5.out HG5.out (Nat.le_refl _) HRL.out
    have hxt4 := HKt4.out.box5 (v0 := .int .i64 (3 + x)) (v1 := .int .i64 (0)) (v2 := .int .i64 (0)) (v3 := .string ⟨#[]⟩) (v4 := .slice (some ⟨u5.heap.size, 0, none⟩) 2 2) HWZ.out
    have hxt5 := HKt5.out.box5 (v0 := .int .i64 (3 + x)) (v1 := .int .i64 (0)) (v2 := .int .i64 (0)) (v3 := .string ⟨#[]⟩) (v4 := .slice (some ⟨u5.heap.size, 0, none⟩) 2 2) HWZ.out
    have hz9 : (((((u5.setCell ⟨w.heap.size, 0, none⟩ (.int .i64 (3 + x))).setCell ⟨w.heap.size, 1, none⟩ (.int .i64 (0))).setCell ⟨w.heap.size, 2, none⟩ (.int .i64 (0))).setCell ⟨w.heap.size, 3, none⟩ (.string ⟨#[]⟩)).setCell ⟨w.heap.size, 4, none⟩ (.slice (some ⟨u5.heap.size, 0, none⟩) 2 2)).heap.size = u5.heap.size := by simp only [size_setCell]
    have hz8 : w0.heap.size ≤ (((((u5.setCell ⟨w.heap.size, 0, none⟩ (.int .i64 (3 + x))).setCell ⟨w.heap.size, 1, none⟩ (.int .i64 (0))).setCell ⟨w.heap.size, 2, none⟩ (.int .i64 (0))).setCell ⟨w.heap.size, 3, none⟩ (.string ⟨#[]⟩)).setCell ⟨w.heap.size, 4, none⟩ (.slice (some ⟨u5.heap.size, 0, none⟩) 2 2)).heap.size := by rw [hz9]; exact HZ5.out
    generalize (((((u5.setCell ⟨w.heap.size, 0, none⟩ (.int .i64 (3 + x))).setCell ⟨w.heap.size, 1, none⟩ (.int .i64 (0))).setCell ⟨w.heap.size, 2, none⟩ (.int .i64 (0))).setCell ⟨w.heap.size, 3, none⟩ (.string ⟨#[]⟩)).setCell ⟨w.heap.size, 4, none⟩ (.slice (some ⟨u5.heap.size, 0, none⟩) 2 2)) = w9 at *
    have hal9 : Below w9.heap.size w9 (w9.alloc (.cells #[.int .i64 t4.op, .int .i64 t4.a, .int .i64 t4.b, .string t4.name, .slice At4 t4.kids.length ct4, .int .i64 t5.op, .int .i64 t5.a, .int .i64 t5.b, .string t5.name, .slice At5 t5.kids.length ct5] 48)) := (Below.refl _ _).alloc (Nat.le_refl _) _
    have hkl : TF w0.heap.size (w9.alloc (.cells #[.int .i64 t4.op, .int .i64 t4.a, .int .i64 t4.b, .string t4.name, .slice At4 t4.kids.length ct4, .int .i64 t5.op, .int .i64 t5.a, .int .i64 t5.b, .string t5.name, .slice At5 t5.kids.length ct5] 48)) (some ⟨w9.heap.size, 0, none⟩) [t4, t5] := lit_terms (Ak := fun i => if i = 0 then At4 else if i = 1 then At5 else none) (ck := fun i => if i = 0 then ct4 else if i = 1 then ct5 else 0) hz8 (fun i k hk => by
      rcases i with _ | i
      · simp at hk; subst hk; exact ⟨HCt4.out, hxt4, fun j u hu => by
          match j, hu with
          | 0, hu => exact hu
          | 1, hu => exact hu
          | 2, hu => exact hu
          | 3, hu => exact hu
          | 4, hu => exact hu
          | j + 5, hu => simp at hu⟩
      rcases i with _ | i
      · simp at hk; subst hk; exact ⟨HCt5.out, hxt5, fun j u hu => by
          match j, hu with
          | 0, hu => exact hu
          | 1, hu => exact hu
          | 2, hu => exact hu
          | 3, hu => exact hu
          | 4, hu => exact hu
          | j + 5, hu => simp at hu⟩
      simp at hk)
    rw [hz9] at hkl
    have hb6 := (hal9.block _ (lt_of_block hb5)).trans hb5
    obtain ⟨qf, qf0, qf1, hRf, hGf⟩ := HDN
    have HDF : Drawn r p (30 + 3 * P) w (w9.alloc (.cells #[.int .i64 t4.op, .int .i64 t4.a, .int .i64 t4.b, .string t4.name, .slice At4 t4.kids.length ct4, .int .i64 t5.op, .int .i64 t5.a, .int .i64 t5.b, .string t5.name, .slice At5 t5.kids.length ct5] 48)) := ⟨qf, qf0, qf1, hRf.up hal9, hGf.up hal9⟩
    generalize w9.alloc (.cells #[.int .i64 t4.op, .int .i64 t4.a, .int .i64 t4.b, .string t4.name, .slice At4 t4.kids.length ct4, .int .i64 t5.op, .int .i64 t5.a, .int .i64 t5.b, .string t5.name, .slice At5 t5.kids.length ct5] 48) = w8 at *
    have e0 := (cell_of_block hb6 0).1
    have e1 := (cell_of_block hb6 1).1
    have e2 := (cell_of_block hb6 2).1
    have e3 := (cell_of_block hb6 3).1
    have e4 := (cell_of_block hb6 4).1
    simp at e0 e1 e2 e3 e4
    refine bodyPost_ret (v := .agg #[.int .i64 (3 + x), .int .i64 (0), .int .i64 (0), .string ⟨#[]⟩, .slice (some ⟨u5.heap.size, 0, none⟩) 2 2]) (by simp [results, Tryz.results112, go_sem, e0, e1, e2, e3, e4]) rfl ?_
    exact ret_box HOK.out (by simp) (hkl.low HWY.out) HDF
  have gs1 : decide (0 < s) = false := decide_eq_false hs1
  have gs9 : s = 0 := by omega
  subst gs9
  go_wp2_with fail
  generalize w.alloc (.cells #[.int .i64 0, .int .i64 0, .int .i64 0, .string ⟨#[]⟩, .slice none 0 0] 48) = w0 at *
  have HZ : Hid (w0.heap.size ≤ w0.heap.size) := Lib.hid (Nat.le_refl _)
  refine (pick_any r (p) (12) w0 HR.out (by omega) (by omega) (by omega) (by omega)).mono ?_
  rintro e u1 ⟨k, rfl, k0, k1, k2, hR9, hg9⟩
  have hg9 := Gr.one (S := IsR r) hg9 rfl
  have Hk1 := Lib.hid k1
  have Hk2 := Lib.hid k2
  clear k1 k2
  have HR1 := Lib.hid hR9
  have HG1 := Lib.hid (HG.out.trans hg9)
  have HD1 := Lib.hid (HD.out.gr hg9)
  have HB1 := Lib.hid (hg9.heap (by show ¬ _ = r; omega) HBX.out)
  have HZ1 : Hid (w0.heap.size ≤ u1.heap.size) := Lib.hid (Nat.le_trans HZ.out hg9.size)
  clear hg9 hR9
  have k1 := Hk1.out (by omega)
  by_cases hk0 : k = 0
  · skip
    subst hk0
    go_wp2_with fail
    refine (HT.out r (p + 1) (0) A c ds u1 HR1.out (HD1.out.ab_rd) ho (by omega) (by omega) (by omega) (by omega)).mono ?_
    rintro e u2 ⟨t2, At2, ct2, rfl, hct2, hkt2, hot2, q2, qa2, qb2, hR9, hg9⟩
    have hkt2 := hkt2.low HZ1.out
    have HOt2 := Lib.hid hot2
    clear hot2
    have HR2 := Lib.hid hR9
    have HG2 := Lib.hid (HG1.out.trans hg9)
    have HD2 := Lib.hid (HD1.out.gr hg9)
    have HB2 := Lib.hid (hg9.heap (by show ¬ _ = r; omega) HB1.out)
    have HZ2 : Hid (w0.heap.size ≤ u2.heap.size) := Lib.hid (Nat.le_trans HZ1.out hg9.size)
    clear hg9 hR9
    go_wp2_with fail
    refine (HT.out r (q2) (0) A c ds u2 HR2.out (HD2.out.ab_rd) ho (by omega) (by omega) (by omega) (by omega)).mono ?_
    rintro e u3 ⟨t3, At3, ct3, rfl, hct3, hkt3, hot3, q3, qa3, qb3, hR9, hg9⟩
    have hkt3 := hkt3.low HZ2.out
    have HOt3 := Lib.hid hot3
    clear hot3
    have HR3 := Lib.hid hR9
    have HG3 := Lib.hid (HG2.out.trans hg9)
    have HD3 := Lib.hid (HD2.out.gr hg9)
    have HB3 := Lib.hid (hg9.heap (by show ¬ _ = r; omega) HB2.out)
    have HZ3 : Hid (w0.heap.size ≤ u3.heap.size) := Lib.hid (Nat.le_trans HZ2.out hg9.size)
    have hkt2 := hkt2.gr hg9 (by omega)
    clear hg9 hR9
    go_wp2_with fail
    refine (HT.out r (q3) (0) A c ds u3 HR3.out (HD3.out.ab_rd) ho (by omega) (by omega) (by omega) (by omega)).mono ?_
    rintro e u4 ⟨t4, At4, ct4, rfl, hct4, hkt4, hot4, q4, qa4, qb4, hR9, hg9⟩
    have hkt4 := hkt4.low HZ3.out
    have HOt4 := Lib.hid hot4
    clear hot4
    have HR4 := Lib.hid hR9
    have HG4 := Lib.hid (HG3.out.trans hg9)
    have HD4 := Lib.hid (HD3.out.gr hg9)
    have HB4 := Lib.hid (hg9.heap (by show ¬ _ = r; omega) HB3.out)
    have HZ4 : Hid (w0.heap.size ≤ u4.heap.size) := Lib.hid (Nat.le_trans HZ3.out hg9.size)
    have hkt2 := hkt2.gr hg9 (by omega)
    have hkt3 := hkt3.gr hg9 (by omega)
    clear hg9 hR9
    have HOK : Hid (T.All okT5 (.mk (23) (0) (0) ⟨#[]⟩ [t2, t3, t4])) := Lib.hid (okT_node (by simp) (by omega) (by omega) (fun k hk => by
      simp only [List.mem_cons, List.not_mem_nil, or_false] at hk
      rcases hk with rfl | rfl | rfl
      · exact HOt2.out
      · exact HOt3.out
      · exact HOt4.out))
    have HKt2 := Lib.hid hkt2
    have HCt2 := Lib.hid hct2
    have HKt3 := Lib.hid hkt3
    have HCt3 := Lib.hid hct3
    have HKt4 := Lib.hid hkt4
    have HCt4 := Lib.hid hct4
    have HQ9 : Hid (p ≤ q4 ∧ q4 ≤ p + (30 + 3 * P)) := Lib.hid ⟨by omega, by omega⟩
    have HWY := Lib.hid hwy
    have HWZ := Lib.hid hwz
    have HRL := Lib.hid hrl
    have hlt9 : w.heap.size < u4.heap.size := lt_of_block HB4.out
    have b0 : u4.cell? ⟨w.heap.size, 0, none⟩ = _ ∧ u4.frozen? ⟨w.heap.size, 0, none⟩ = false := cell_of_block HB4.out 0
    obtain ⟨cc0, gg0⟩ := b0
    have b1 : u4.cell? ⟨w.heap.size, 1, none⟩ = _ ∧ u4.frozen? ⟨w.heap.size, 1, none⟩ = false := cell_of_block HB4.out 1
    obtain ⟨cc1, gg1⟩ := b1
    have b2 : u4.cell? ⟨w.heap.size, 2, none⟩ = _ ∧ u4.frozen? ⟨w.heap.size, 2, none⟩ = false := cell_of_block HB4.out 2
    obtain ⟨cc2, gg2⟩ := b2
    have b3 : u4.cell? ⟨w.heap.size, 3, none⟩ = _ ∧ u4.frozen? ⟨w.heap.size, 3, none⟩ = false := cell_of_block HB4.out 3
    obtain ⟨cc3, gg3⟩ := b3
    have b4 : u4.cell? ⟨w.heap.size, 4, none⟩ = _ ∧ u4.frozen? ⟨w.heap.size, 4, none⟩ = false := cell_of_block HB4.out 4
    obtain ⟨cc4, gg4⟩ := b4
    clear hkt2 hct2 hkt3 hct3 hkt4 hct4
    go_wp2
    have hb5 := box5 (v0 := .int .i64 (23)) (v1 := .int .i64 (0)) (v2 := .int .i64 (0)) (v3 := .string ⟨#[]⟩) (v4 := .slice (some ⟨u4.heap.size, 0, none⟩) 3 3) HB4.out
    have HDN := drawn_store (M := 30 + 3 * P) (v0 := .int .i64 (23)) (v1 := .int .i64 (0)) (v2 := .int .i64 (0)) (v3 := .string ⟨#[]⟩) (v4 := .slice (some ⟨u4.heap.size, 0, none⟩) 3 3) HQ9.out.1 HQ9.out.2 HR4.out HG4.out (Nat.le_refl _) HRL.out
    have hxt2 := HKt2.out.box5 (v0 := .int .i64 (23)) (v1 := .int .i64 (0)) (v2 := .int .i64 (0)) (v3 := .string ⟨#[]⟩) (v4 := .slice (some ⟨u4.heap.size, 0, none⟩) 3 3) HWZ.out
    have hxt3 := HKt3.out.box5 (v0 := .int .i64 (23)) (v1 := .int .i64 (0)) (v2 := .int .i64 (0)) (v3 := .string ⟨#[]⟩) (v4 := .slice (some ⟨u4.heap.size, 0, none⟩) 3 3) HWZ.out
    have hxt4 := HKt4.out.box5 (v0 := .int .i64 (23)) (v1 := .int .i64 (0)) (v2 := .int .i64 (0)) (v3 := .string ⟨#[]⟩) (v4 := .slice (some ⟨u4.heap.size, 0, none⟩) 3 3) HWZ.out
    have hz9 : (((((u4.setCell ⟨w.heap.size, 0, none⟩ (.int .i64 (23))).setCell ⟨w.heap.size, 1, none⟩ (.int .i64 (0))).setCell ⟨w.heap.size, 2, none⟩ (.int .i64 (0))).setCell ⟨w.heap.size, 3, none⟩ (.string ⟨#[]⟩)).setCell ⟨w.heap.size, 4, none⟩ (.slice (some ⟨u4.heap.size, 0, none⟩) 3 3)).heap.size = u4.heap.size := by simp only [size_setCell]
    have hz8 : w0.heap.size ≤ (((((u4.setCell ⟨w.heap.size, 0, none⟩ (.int .i64 (23))).setCell ⟨w.heap.size, 1, none⟩ (.int .i64 (0))).setCell ⟨w.heap.size, 2, none⟩ (.int .i64 (0))).setCell ⟨w.heap.size, 3, none⟩ (.string ⟨#[]⟩)).setCell ⟨w.heap.size, 4, none⟩ (.slice (some ⟨u4.heap.size, 0, none⟩) 3 3)).heap.size := by rw [hz9]; exact HZ4.out
    generalize (((((u4.setCell ⟨w.heap.size, 0, none⟩ (.int .i64 (23))).setCell ⟨w.heap.size, 1, none⟩ (.int .i64 (0))).setCell ⟨w.heap.size, 2, none⟩ (.int .i64 (0))).setCell ⟨w.heap.size, 3, none⟩ (.string ⟨#[]⟩)).setCell ⟨w.heap.size, 4, none⟩ (.slice (some ⟨u4.heap.size, 0, none⟩) 3 3)) = w9 at *
    have hal9 : Below w9.heap.size w9 (w9.alloc (.cells #[.int .i64 t2.op, .int .i64 t2.a, .int .i64 t2.b, .string t2.name, .slice At2 t2.kids.length ct2, .int .i64 t3.op, .int .i64 t3.a, .int .i64 t3.b, .string t3.name, .slice At3 t3.kids.length ct3, .int .i64 t4.op, .int .i64 t4.a, .int .i64 t4.b, .string t4.name, .slice At4 t4.kids.length ct4] 48)) := (Below.refl _ _).alloc (Nat.le_refl _) _
    have hkl : TF w0.heap.size (w9.alloc (.cells #[.int .i64 t2.op, .int .i64 t2.a, .int .i64 t2.b, .string t2.name, .slice At2 t2.kids.length ct2, .int .i64 t3.op, .int .i64 t3.a, .int .i64 t3.b, .string t3.name, .slice At3 t3.kids.length ct3, .int .i64 t4.op, .int .i64 t4.a, .int .i64 t4.b, .string t4.name, .slice At4 t4.kids.length ct4] 48)) (some ⟨w9.heap.size, 0, none⟩) [t2, t3, t4] := lit_terms (Ak := fun i => if i = 0 then At2 else if i = 1 then At3 else if i = 2 then At4 else none) (ck := fun i => if i = 0 then ct2 else if i = 1 then ct3 else if i = 2 then ct4 else 0) hz8 (fun i k hk => by
      rcases i with _ | i
      · simp at hk; subst hk; exact ⟨HCt2.out, hxt2, fun j u hu => by
          match j, hu with
          | 0, hu => exact hu
          | 1, hu => exact hu
          | 2, hu => exact hu
          | 3, hu => exact hu
          | 4, hu => exact hu
          | j + 5, hu => simp at hu⟩
      rcases i with _ | i
      · simp at hk; subst hk; exact ⟨HCt3.out, hxt3, fun j u hu => by
          match j, hu with
          | 0, hu => exact hu
          | 1, hu => exact hu
          | 2, hu => exact hu
          | 3, hu => exact hu
          | 4, hu => exact hu
          | j + 5, hu => simp at hu⟩
      rcases i with _ | i
      · simp at hk; subst hk; exact ⟨HCt4.out, hxt4, fun j u hu => by
          match j, hu with
          | 0, hu => exact hu
          | 1, hu => exact hu
          | 2, hu => exact hu
          | 3, hu => exact hu
          | 4, hu => exact hu
          | j + 5, hu => simp at hu⟩
      simp at hk)
    rw [hz9] at hkl
    have hb6 := (hal9.block _ (lt_of_block hb5)).trans hb5
    obtain ⟨qf, qf0, qf1, hRf, hGf⟩ := HDN
    have HDF : Drawn r p (30 + 3 * P) w (w9.alloc (.cells #[.int .i64 t2.op, .int .i64 t2.a, .int .i64 t2.b, .string t2.name, .slice At2 t2.kids.length ct2, .int .i64 t3.op, .int .i64 t3.a, .int .i64 t3.b, .string t3.name, .slice At3 t3.kids.length ct3, .int .i64 t4.op, .int .i64 t4.a, .int .i64 t4.b, .string t4.name, .slice At4 t4.kids.length ct4] 48)) := ⟨qf, qf0, qf1, hRf.up hal9, hGf.up hal9⟩
    generalize w9.alloc (.cells #[.int .i64 t2.op, .int .i64 t2.a, .int .i64 t2.b, .string t2.name, .slice At2 t2.kids.length ct2, .int .i64 t3.op, .int .i64 t3.a, .int .i64 t3.b, .string t3.name, .slice At3 t3.kids.length ct3, .int .i64 t4.op, .int .i64 t4.a, .int .i64 t4.b, .string t4.name, .slice At4 t4.kids.length ct4] 48) = w8 at *
    have e0 := (cell_of_block hb6 0).1
    have e1 := (cell_of_block hb6 1).1
    have e2 := (cell_of_block hb6 2).1
    have e3 := (cell_of_block hb6 3).1
    have e4 := (cell_of_block hb6 4).1
    simp at e0 e1 e2 e3 e4
    refine bodyPost_ret (v := .agg #[.int .i64 (23), .int .i64 (0), .int .i64 (0), .string ⟨#[]⟩, .slice (some ⟨u4.heap.size, 0, none⟩) 3 3]) (by simp [results, Tryz.results112, go_sem, e0, e1, e2, e3, e4]) rfl ?_
    exact ret_box HOK.out (by simp) (hkl.low HWY.out) HDF
  have gk0 : (k == 0) = false := by simpa using hk0
  clear hk0
  go_wp2_with fail
  refine (HAS.out r (p + 1) A c ds u1 HR1.out HD1.out.ab_rd ho (by omega) (by omega)).mono ?_
  rintro e w5 ⟨t, A5, c5, rfl, hc5, hk5, ho5, q5, qa5, qb5, hR5, hg5⟩
  have HR5' := Lib.hid hR5
  have HG5' := Lib.hid (HG1.out.trans hg5)
  have HB5' := Lib.hid (hg5.heap (by show ¬ _ = r; omega) HB1.out)
  have HO5 := Lib.hid ho5
  have hk5 := hk5.low HZ1.out
  have HK5 := Lib.hid hk5
  clear hR5 hg5 ho5 hk5
  have b0 : w5.cell? ⟨w.heap.size, 0, none⟩ = _ ∧ w5.frozen? ⟨w.heap.size, 0, none⟩ = false := cell_of_block HB5'.out 0
  obtain ⟨cc0, gg0⟩ := b0
  have b1 : w5.cell? ⟨w.heap.size, 1, none⟩ = _ ∧ w5.frozen? ⟨w.heap.size, 1, none⟩ = false := cell_of_block HB5'.out 1
  obtain ⟨cc1, gg1⟩ := b1
  have b2 : w5.cell? ⟨w.heap.size, 2, none⟩ = _ ∧ w5.frozen? ⟨w.heap.size, 2, none⟩ = false := cell_of_block HB5'.out 2
  obtain ⟨cc2, gg2⟩ := b2
  have b3 : w5.cell? ⟨w.heap.size, 3, none⟩ = _ ∧ w5.frozen? ⟨w.heap.size, 3, none⟩ = false := cell_of_block HB5'.out 3
  obtain ⟨cc3, gg3⟩ := b3
  have b4 : w5.cell? ⟨w.heap.size, 4, none⟩ = _ ∧ w5.frozen? ⟨w.heap.size, 4, none⟩ = false := cell_of_block HB5'.out 4
  obtain ⟨cc4, gg4⟩ := b4
  go_wp2
  have hb5 := box5 (v0 := .int .i64 t.op) (v1 := .int .i64 t.a) (v2 := .int .i64 t.b) (v3 := .string t.name) (v4 := .slice A5 t.kids.length c5) HB5'.out
  have HDN := Lib.hid (drawn_store (M := 30 + 3 * P) (v0 := .int .i64 t.op) (v1 := .int .i64 t.a) (v2 := .int .i64 t.b) (v3 := .string t.name) (v4 := .slice A5 t.kids.length c5) (show p ≤ q5 by omega) (by omega) HR5'.out HG5'.out (Nat.le_refl _) hrl)
  have HKF : Hid (TF w.heap.size (((((w5.setCell ⟨w.heap.size, 0, none⟩ (.int .i64 t.op)).setCell ⟨w.heap.size, 1, none⟩ (.int .i64 t.a)).setCell ⟨w.heap.size, 2, none⟩ (.int .i64 t.b)).setCell ⟨w.heap.size, 3, none⟩ (.string t.name)).setCell ⟨w.heap.size, 4, none⟩ (.slice A5 t.kids.length c5)) _ _) := Lib.hid ((HK5.out.box5 (by omega)).low (by omega))
  generalize (((((w5.setCell ⟨w.heap.size, 0, none⟩ (.int .i64 t.op)).setCell ⟨w.heap.size, 1, none⟩ (.int .i64 t.a)).setCell ⟨w.heap.size, 2, none⟩ (.int .i64 t.b)).setCell ⟨w.heap.size, 3, none⟩ (.string t.name)).setCell ⟨w.heap.size, 4, none⟩ (.slice A5 t.kids.length c5)) = w9 at *
  have e0 := (cell_of_block hb5 0).1
  have e1 := (cell_of_block hb5 1).1
  have e2 := (cell_of_block hb5 2).1
  have e3 := (cell_of_block hb5 3).1
  have e4 := (cell_of_block hb5 4).1
  simp at e0 e1 e2 e3 e4
  refine bodyPost_ret (v := .agg #[.int .i64 t.op, .int .i64 t.a, .int .i64 t.b, .string t.name, .slice A5 t.kids.length c5]) (by simp [results, Tryz.results112, go_sem, e0, e1, e2, e3, e4]) rfl ?_
  exact ret_box (show T.All okT5 (.mk t.op t.a t.b t.name t.kids) by cases t; exact HO5.out) hc5 HKF.out HDN.out
theorem l2Term_any (n : Nat) (hn : n ≤ 3) : TermD n := by
  match n, hn with
  | 0, _ => exact l2Term_zero
  | 1, _ => exact l2Term_succ 0 (by omega) l2Term_zero
  | 2, _ => exact l2Term_succ 1 (by omega) (l2Term_succ 0 (by omega) l2Term_zero)
  | 3, _ => exact l2Term_succ 2 (by omega) (l2Term_succ 1 (by omega) (l2Term_succ 0 (by omega) l2Term_zero))
  | n + 4, h => omega
end Go.Proofs.YtiahmfpfimmbgaaGreatDoor
