/- The reference's draws of terms: l2Term, l2Asks. -/
import Derived.Test.YtiahmfpfimmbgaaGreatDoorJFnCtx16
/-! The reference's draws of terms: l2Term, l2Asks. -/
namespace Go.Proofs.YtiahmfpfimmbgaaGreatDoor
open Go Go.RowKit

theorem okT_node {o a b : Int} {ks : List T} (hl : ks.length ≤ 3) (h0 : 1 ≤ o) (h1 : o ≤ 9223372036854775807) (hk : ∀ k ∈ ks, T.All okT5 k) : T.All okT5 (.mk o a b ⟨#[]⟩ ks) :=
  .mk _ ⟨⟨by show ks.length ≤ 1048576; omega, by show (⟨#[]⟩ : ByteArray).size ≤ 1048576; decide⟩, h0, h1⟩ hk
/-- How many places a draw of that depth goes on at most. -/
def pk : Nat → Int
  | 0 => 20
  | n + 1 => 30 + 3 * pk n
theorem pk_le : ∀ n, n ≤ 3 → 0 ≤ pk n ∧ pk n ≤ 1000
  | 0, _ => by decide
  | 1, _ => by decide
  | 2, _ => by decide
  | 3, _ => by decide
  | n + 4, h => by omega
def TermD (n : Nat) : Prop := ∀ (r : Nat) (p s : Int) (A : Option Addr) (c : Nat) (ds : List D) (w : World), Rdr w r p → Lay.decl.Rd w A ds → okD5 ds → 0 ≤ s → s ≤ 8 → 0 ≤ p → p ≤ 850000000 - 10000 * (n : Int) →
  Calls Tryz.prog 112 #[.pointer (some ⟨r, 0, none⟩), .slice A ds.length c, .int .i64 s, .int .i64 (n : Int)] w (RetDT r p (pk n) w)
set_option maxRecDepth 100000 in
set_option maxHeartbeats 16000000 in
theorem l2Asks_any (n : Nat) (hn : n ≤ 2) (hT : TermD n) (r : Nat) (p : Int) (A : Option Addr) (c : Nat) (ds : List D) (w : World) (h : Rdr w r p) (hd : Lay.decl.Rd w A ds) (ho : okD5 ds) (p0 : 0 ≤ p) (p1 : p ≤ 850000100 - 10000 * ((n : Int) + 1)) :
    Calls Tryz.prog 128 #[.pointer (some ⟨r, 0, none⟩), .slice A ds.length c, .int .i64 ((n : Int) + 1)] w (RetDT r p (10 + 2 * pk n) w) := by
  obtain ⟨P, hP⟩ : ∃ P, P = pk n := ⟨_, rfl⟩
  have hPb := pk_le n (by omega)
  have HT := Lib.hid hT
  unfold TermD at HT
  rw [← hP] at hPb HT ⊢
  obtain ⟨P0, P1⟩ := hPb
  have hn1 : (n : Int) + 1 - 1 = (n : Int) := by omega
  clear hP hT hn1
  have hrl := h.lt
  have hal : Below w.heap.size w (w.alloc (.cells #[.int .i64 0, .int .i64 0, .int .i64 0, .string ⟨#[]⟩, .slice none 0 0] 48)) := (Below.refl _ _).alloc (Nat.le_refl _) _
  have HBX := Lib.hid (heap_alloc_new w (.cells #[.int .i64 0, .int .i64 0, .int .i64 0, .string ⟨#[]⟩, .slice none 0 0] 48))
  have HR := Lib.hid (h.up hal)
  have HD := Lib.hid (decl_notR (hd.up hal) HR.out)
  have HG : Hid (Gr (IsR r) w (w.alloc (.cells #[.int .i64 0, .int .i64 0, .int .i64 0, .string ⟨#[]⟩, .slice none 0 0] 48))) := Lib.hid (.below hal)
  have hrz : r < (w.alloc (.cells #[.int .i64 0, .int .i64 0, .int .i64 0, .string ⟨#[]⟩, .slice none 0 0] 48)).heap.size := by simp; omega
  have hwz : w.heap.size < (w.alloc (.cells #[.int .i64 0, .int .i64 0, .int .i64 0, .string ⟨#[]⟩, .slice none 0 0] 48)).heap.size := by simp
  have hwy : w.heap.size ≤ (w.alloc (.cells #[.int .i64 0, .int .i64 0, .int .i64 0, .string ⟨#[]⟩, .slice none 0 0] 48)).heap.size := by simp
  obtain ⟨hdl, hdd⟩ := id ho
  have HDD := Lib.hid hdd
  clear hal h hd hdd
  go_enter Tryz.func128, Tryz.ntmps128
  go_wp2_with fail
  generalize w.alloc (.cells #[.int .i64 0, .int .i64 0, .int .i64 0, .string ⟨#[]⟩, .slice none 0 0] 48) = w0 at *
  have HZ : Hid (w0.heap.size ≤ w0.heap.size) := Lib.hid (Nat.le_refl _)
  refine (pick_any r (p) (9) w0 HR.out (by omega) (by omega) (by omega) (by omega)).mono ?_
  rintro e u1 ⟨k, rfl, k0, k1, k2, hR9, hg9⟩
  have hg9 := Gr.one (S := IsR r) hg9 rfl
  have Hk1 := Lib.hid k1
  have Hk2 := Lib.hid k2
  clear k1 k2
  have HR1 := Lib.hid hR9
  have HG1 := Lib.hid (HG.out.trans hg9)
  have HD1 := Lib.hid (HD.out.gr hg9)
  have HB1 := Lib.hid (hg9.heap (by show ¬ _ = r; omega) HBX.out)
  have HZ1 : Hid (w0.heap.size ≤ u1.heap.size) := Lib.hid (Nat.le_trans HZ.out hg9.size)
  clear hg9 hR9
  have k1 := Hk1.out (by omega)
  by_cases hk0 : k = 0
  · skip
    subst hk0
    go_wp2_with fail
    refine (HT.out r (p + 1) (0) A c ds u1 HR1.out (HD1.out.ab_rd) ho (by omega) (by omega) (by omega) (by omega)).mono ?_
    rintro e u2 ⟨t2, At2, ct2, rfl, hct2, hkt2, hot2, q2, qa2, qb2, hR9, hg9⟩
    have hkt2 := hkt2.low HZ1.out
    have HOt2 := Lib.hid hot2
    clear hot2
    have HR2 := Lib.hid hR9
    have HG2 := Lib.hid (HG1.out.trans hg9)
    have HD2 := Lib.hid (HD1.out.gr hg9)
    have HB2 := Lib.hid (hg9.heap (by show ¬ _ = r; omega) HB1.out)
    have HZ2 : Hid (w0.heap.size ≤ u2.heap.size) := Lib.hid (Nat.le_trans HZ1.out hg9.size)
    clear hg9 hR9
    have HOK : Hid (T.All okT5 (.mk (25) (0) (0) ⟨#[]⟩ [t2])) := Lib.hid (okT_node (by simp) (by omega) (by omega) (fun k hk => by
      rw [List.mem_singleton.1 hk]
      exact HOt2.out))
    have HKt2 := Lib.hid hkt2
    have HCt2 := Lib.hid hct2
    have HQ9 : Hid (p ≤ q2 ∧ q2 ≤ p + (10 + 2 * P)) := Lib.hid ⟨by omega, by omega⟩
    have HWY := Lib.hid hwy
    have HWZ := Lib.hid hwz
    have HRL := Lib.hid hrl
    have hlt9 : w.heap.size < u2.heap.size := lt_of_block HB2.out
    have b0 : u2.cell? ⟨w.heap.size, 0, none⟩ = _ ∧ u2.frozen? ⟨w.heap.size, 0, none⟩ = false := cell_of_block HB2.out 0
    obtain ⟨cc0, gg0⟩ := b0
    have b1 : u2.cell? ⟨w.heap.size, 1, none⟩ = _ ∧ u2.frozen? ⟨w.heap.size, 1, none⟩ = false := cell_of_block HB2.out 1
    obtain ⟨cc1, gg1⟩ := b1
    have b2 : u2.cell? ⟨w.heap.size, 2, none⟩ = _ ∧ u2.frozen? ⟨w.heap.size, 2, none⟩ = false := cell_of_block HB2.out 2
    obtain ⟨cc2, gg2⟩ := b2
    have b3 : u2.cell? ⟨w.heap.size, 3, none⟩ = _ ∧ u2.frozen? ⟨w.heap.size, 3, none⟩ = false := cell_of_block HB2.out 3
    obtain ⟨cc3, gg3⟩ := b3
    have b4 : u2.cell? ⟨w.heap.size, 4, none⟩ = _ ∧ u2.frozen? ⟨w.heap.size, 4, none⟩ = false := cell_of_block HB2.out 4
    obtain ⟨cc4, gg4⟩ := b4
    clear hkt2 hct2
    go_wp2
    have hb5 := box5 (v0 := .int .i64 (25)) (v1 := .int .i64 (0)) (v2 := .int .i64 (0)) (v3 := .string ⟨#[]⟩) (v4 := .slice (some ⟨u2.heap.size, 0, none⟩) 1 1) HB2.out
    have HDN := drawn_store (M := 10 + 2 * P) (v0 := .int .i64 (25)) (v1 := .int .i64 (0)) (v2 := .int .i64 (0)) (v3 := .string ⟨#[]⟩) (v4 := .slice (some ⟨u2.heap.size, 0, none⟩) 1 1) HQ9.out.1 HQ9.out.2 HR2.out HG2.out (Nat.le_refl _) HRL.out
    have hxt2 := HKt2.out.box5 (v0 := .int .i64 (25)) (v1 := .int .i64 (0)) (v2 := .int .i64 (0)) (v3 := .string ⟨#[]⟩) (v4 := .slice (some ⟨u2.heap.size, 0, none⟩) 1 1) HWZ.out
    have hz9 : (((((u2.setCell ⟨w.heap.size, 0, none⟩ (.int .i64 (25))).setCell ⟨w.heap.size, 1, none⟩ (.int .i64 (0))).setCell ⟨w.heap.size, 2, none⟩ (.int .i64 (0))).setCell ⟨w.heap.size, 3, none⟩ (.string ⟨#[]⟩)).setCell ⟨w.heap.size, 4, none⟩ (.slice (some ⟨u2.heap.size, 0, none⟩) 1 1)).heap.size = u2.heap.size := by simp only [size_setCell]
    have hz8 : w0.heap.size ≤ (((((u2.setCell ⟨w.heap.size, 0, none⟩ (.int .i64 (25))).setCell ⟨w.heap.size, 1, none⟩ (.int .i64 (0))).setCell ⟨w.heap.size, 2, none⟩ (.int .i64 (0))).setCell ⟨w.heap.size, 3, none⟩ (.string ⟨#[]⟩)).setCell ⟨w.heap.size, 4, none⟩ (.slice (some ⟨u2.heap.size, 0, none⟩) 1 1)).heap.size := by rw [hz9]; exact HZ2.out
    generalize (((((u2.setCell ⟨w.heap.size, 0, none⟩ (.int .i64 (25))).setCell ⟨w.heap.size, 1, none⟩ (.int .i64 (0))).setCell ⟨w.heap.size, 2, none⟩ (.int .i64 (0))).setCell ⟨w.heap.size, 3, none⟩ (.string ⟨#[]⟩)).setCell ⟨w.heap.size, 4, none⟩ (.slice (some ⟨u2.heap.size, 0, none⟩) 1 1)) = w9 at *
    have hal9 : Below w9.heap.size w9 (w9.alloc (.cells #[.int .i64 t2.op, .int .i64 t2.a, .int .i64 t2.b, .string t2.name, .slice At2 t2.kids.length ct2] 48)) := (Below.refl _ _).alloc (Nat.le_refl _) _
    have hkl : TF w0.heap.size (w9.alloc (.cells #[.int .i64 t2.op, .int .i64 t2.a, .int .i64 t2.b, .string t2.name, .slice At2 t2.kids.length ct2] 48)) (some ⟨w9.heap.size, 0, none⟩) [t2] := lit_terms (Ak := fun i => if i = 0 then At2 else none) (ck := fun i => if i = 0 then ct2 else 0) hz8 (fun i k hk => by
      rcases i with _ | i
      · simp at hk; subst hk; exact ⟨HCt2.out, hxt2, fun j u hu => by
          match j, hu with
          | 0, hu => exact hu
          | 1, hu => exact hu
          | 2, hu => exact hu
          | 3, hu => exact hu
          | 4, hu => exact hu
          | j + 5, hu => simp at hu⟩
      simp at hk)
    rw [hz9] at hkl
    have hb6 := (hal9.block _ (lt_of_block hb5)).trans hb5
    obtain ⟨qf, qf0, qf1, hRf, hGf⟩ := HDN
    have HDF : Drawn r p (10 + 2 * P) w (w9.alloc (.cells #[.int .i64 t2.op, .int .i64 t2.a, .int .i64 t2.b, .string t2.name, .slice At2 t2.kids.length ct2] 48)) := ⟨qf, qf0, qf1, hRf.up hal9, hGf.up hal9⟩
    generalize w9.alloc (.cells #[.int .i64 t2.op, .int .i64 t2.a, .int .i64 t2.b, .string t2.name, .slice At2 t2.kids.length ct2] 48) = w8 at *
    have e0 := (cell_of_block hb6 0).1
    have e1 := (cell_of_block hb6 1).1
    have e2 := (cell_of_block hb6 2).1
    have e3 := (cell_of_block hb6 3).1
    have e4 := (cell_of_block hb6 4).1
    simp at e0 e1 e2 e3 e4
    refine bodyPost_ret (v := .agg #[.int .i64 (25), .int .i64 (0), .int .i64 (0), .string ⟨#[]⟩, .slice (some ⟨u2.heap.size, 0, none⟩) 1 1]) (by simp [results, Tryz.results128, go_sem, e0, e1, e2, e3, e4]) rfl ?_
    exact ret_box HOK.out (by simp) (hkl.low HWY.out) HDF
  have gk0 : (k == 0) = false := by simpa using hk0
  clear hk0
  by_cases hk1 : k = 1
  · skip
    subst hk1
    go_wp2_with fail
    refine (HT.out r (p + 1) (0) A c ds u1 HR1.out (HD1.out.ab_rd) ho (by omega) (by omega) (by omega) (by omega)).mono ?_
    rintro e u2 ⟨t2, At2, ct2, rfl, hct2, hkt2, hot2, q2, qa2, qb2, hR9, hg9⟩
    have hkt2 := hkt2.low HZ1.out
    have HOt2 := Lib.hid hot2
    clear hot2
    have HR2 := Lib.hid hR9
    have HG2 := Lib.hid (HG1.out.trans hg9)
    have HD2 := Lib.hid (HD1.out.gr hg9)
    have HB2 := Lib.hid (hg9.heap (by show ¬ _ = r; omega) HB1.out)
    have HZ2 : Hid (w0.heap.size ≤ u2.heap.size) := Lib.hid (Nat.le_trans HZ1.out hg9.size)
    clear hg9 hR9
    go_wp2_with fail
    refine (HT.out r (q2) (0) A c ds u2 HR2.out (HD2.out.ab_rd) ho (by omega) (by omega) (by omega) (by omega)).mono ?_
    rintro e u3 ⟨t3, At3, ct3, rfl, hct3, hkt3, hot3, q3, qa3, qb3, hR9, hg9⟩
    have hkt3 := hkt3.low HZ2.out
    have HOt3 := Lib.hid hot3
    clear hot3
    have HR3 := Lib.hid hR9
    have HG3 := Lib.hid (HG2.out.trans hg9)
    have HD3 := Lib.hid (HD2.out.gr hg9)
    have HB3 := Lib.hid (hg9.heap (by show ¬ _ = r; omega) HB2.out)
    have HZ3 : Hid (w0.heap.size ≤ u3.heap.size) := Lib.hid (Nat.le_trans HZ2.out hg9.size)
    have hkt2 := hkt2.gr hg9 (by omega)
    clear hg9 hR9
    have HOK : Hid (T.All okT5 (.mk (26) (0) (0) ⟨#[]⟩ [t2, t3])) := Lib.hid (okT_node (by simp) (by omega) (by omega) (fun k hk => by
      simp only [List.mem_cons, List.not_mem_nil, or_false] at hk
      rcases hk with rfl | rfl
      · exact HOt2.out
      · exact HOt3.out))
    have HKt2 := Lib.hid hkt2
    have HCt2 := Lib.hid hct2
    have HKt3 := Lib.hid hkt3
    have HCt3 := Lib.hid hct3
    have HQ9 : Hid (p ≤ q3 ∧ q3 ≤ p + (10 + 2 * P)) := Lib.hid ⟨by omega, by omega⟩
    have HWY := Lib.hid hwy
    have HWZ := Lib.hid hwz
    have HRL := Lib.hid hrl
    have hlt9 : w.heap.size < u3.heap.size := lt_of_block HB3.out
    have b0 : u3.cell? ⟨w.heap.size, 0, none⟩ = _ ∧ u3.frozen? ⟨w.heap.size, 0, none⟩ = false := cell_of_block HB3.out 0
    obtain ⟨cc0, gg0⟩ := b0
    have b1 : u3.cell? ⟨w.heap.size, 1, none⟩ = _ ∧ u3.frozen? ⟨w.heap.size, 1, none⟩ = false := cell_of_block HB3.out 1
    obtain ⟨cc1, gg1⟩ := b1
    have b2 : u3.cell? ⟨w.heap.size, 2, none⟩ = _ ∧ u3.frozen? ⟨w.heap.size, 2, none⟩ = false := cell_of_block HB3.out 2
    obtain ⟨cc2, gg2⟩ := b2
    have b3 : u3.cell? ⟨w.heap.size, 3, none⟩ = _ ∧ u3.frozen? ⟨w.heap.size, 3, none⟩ = false := cell_of_block HB3.out 3
    obtain ⟨cc3, gg3⟩ := b3
    have b4 : u3.cell? ⟨w.heap.size, 4, none⟩ = _ ∧ u3.frozen? ⟨w.heap.size, 4, none⟩ = false := cell_of_block HB3.out 4
    obtain ⟨cc4, gg4⟩ := b4
    clear hkt2 hct2 hkt3 hct3
    go_wp2
    have hb5 := box5 (v0 := .int .i64 (26)) (v1 := .int .i64 (0)) (v2 := .int .i64 (0)) (v3 := .string ⟨#[]⟩) (v4 := .slice (some ⟨u3.heap.size, 0, none⟩) 2 2) HB3.out
    have HDN := drawn_store (M := 10 + 2 * P) (v0 := .int .i64 (26)) (v1 := .int .i64 (0)) (v2 := .int .i64 (0)) (v3 := .string ⟨#[]⟩) (v4 := .slice (some ⟨u3.heap.size, 0, none⟩) 2 2) HQ9.out.1 HQ9.out.2 HR3.out HG3.out (Nat.le_refl _) HRL.out
    have hxt2 := HKt2.out.box5 (v0 := .int .i64 (26)) (v1 := .int .i64 (0)) (v2 := .int .i64 (0)) (v3 := .string ⟨#[]⟩) (v4 := .slice (some ⟨u3.heap.size, 0, none⟩) 2 2) HWZ.out
    have hxt3 := HKt3.out.box5 (v0 := .int .i64 (26)) (v1 := .int .i64 (0)) (v2 := .int .i64 (0)) (v3 := .string ⟨#[]⟩) (v4 := .slice (some ⟨u3.heap.size, 0, none⟩) 2 2) HWZ.out
    have hz9 : (((((u3.setCell ⟨w.heap.size, 0, none⟩ (.int .i64 (26))).setCell ⟨w.heap.size, 1, none⟩ (.int .i64 (0))).setCell ⟨w.heap.size, 2, none⟩ (.int .i64 (0))).setCell ⟨w.heap.size, 3, none⟩ (.string ⟨#[]⟩)).setCell ⟨w.heap.size, 4, none⟩ (.slice (some ⟨u3.heap.size, 0, none⟩) 2 2)).heap.size = u3.heap.size := by simp only [size_setCell]
    have hz8 : w0.heap.size ≤ (((((u3.setCell ⟨w.heap.size, 0, none⟩ (.int .i64 (26))).setCell ⟨w.heap.size, 1, none⟩ (.int .i64 (0))).setCell ⟨w.heap.size, 2, none⟩ (.int .i64 (0))).setCell ⟨w.heap.size, 3, none⟩ (.string ⟨#[]⟩)).setCell ⟨w.heap.size, 4, none⟩ (.slice (some ⟨u3.heap.size, 0, none⟩) 2 2)).heap.size := by rw [hz9]; exact HZ3.out
    generalize (((((u3.setCell ⟨w.heap.size, 0, none⟩ (.int .i64 (26))).setCell ⟨w.heap.size, 1, none⟩ (.int .i64 (0))).setCell ⟨w.heap.size, 2, none⟩ (.int .i64 (0))).setCell ⟨w.heap.size, 3, none⟩ (.string ⟨#[]⟩)).setCell ⟨w.heap.size, 4, none⟩ (.slice (some ⟨u3.heap.size, 0, none⟩) 2 2)) = w9 at *
    have hal9 : Below w9.heap.size w9 (w9.alloc (.cells #[.int .i64 t2.op, .int .i64 t2.a, .int .i64 t2.b, .string t2.name, .slice At2 t2.kids.length ct2, .int .i64 t3.op, .int .i64 t3.a, .int .i64 t3.b, .string t3.name, .slice At3 t3.kids.length ct3] 48)) := (Below.refl _ _).alloc (Nat.le_refl _) _
    have hkl : TF w0.heap.size (w9.alloc (.cells #[.int .i64 t2.op, .int .i64 t2.a, .int .i64 t2.b, .string t2.name, .slice At2 t2.kids.length ct2, .int .i64 t3.op, .int .i64 t3.a, .int .i64 t3.b, .string t3.name, .slice At3 t3.kids.length ct3] 48)) (some ⟨w9.heap.size, 0, none⟩) [t2, t3] := lit_terms (Ak := fun i => if i = 0 then At2 else if i = 1 then At3 else none) (ck := fun i => if i = 0 then ct2 else if i = 1 then ct3 else 0) hz8 (fun i k hk => by
      rcases i with _ | i
      · simp at hk; subst hk; exact ⟨HCt2.out, hxt2, fun j u hu => by
          match j, hu with
          | 0, hu => exact hu
          | 1, hu => exact hu
          | 2, hu => exact hu
          | 3, hu => exact hu
          | 4, hu => exact hu
          | j + 5, hu => simp at hu⟩
      rcases i with _ | i
      · simp at hk; subst hk; exact ⟨HCt3.out, hxt3, fun j u hu => by
          match j, hu with
          | 0, hu => exact hu
          | 1, hu => exact hu
          | 2, hu => exact hu
          | 3, hu => exact hu
          | 4, hu => exact hu
          | j + 5, hu => simp at hu⟩
      simp at hk)
    rw [hz9] at hkl
    have hb6 := (hal9.block _ (lt_of_block hb5)).trans hb5
    obtain ⟨qf, qf0, qf1, hRf, hGf⟩ := HDN
    have HDF : Drawn r p (10 + 2 * P) w (w9.alloc (.cells #[.int .i64 t2.op, .int .i64 t2.a, .int .i64 t2.b, .string t2.name, .slice At2 t2.kids.length ct2, .int .i64 t3.op, .int .i64 t3.a, .int .i64 t3.b, .string t3.name, .slice At3 t3.kids.length ct3] 48)) := ⟨qf, qf0, qf1, hRf.up hal9, hGf.up hal9⟩
    generalize w9.alloc (.cells #[.int .i64 t2.op, .int .i64 t2.a, .int .i64 t2.b, .string t2.name, .slice At2 t2.kids.length ct2, .int .i64 t3.op, .int .i64 t3.a, .int .i64 t3.b, .string t3.name, .slice At3 t3.kids.length ct3] 48) = w8 at *
    have e0 := (cell_of_block hb6 0).1
    have e1 := (cell_of_block hb6 1).1
    have e2 := (cell_of_block hb6 2).1
    have e3 := (cell_of_block hb6 3).1
    have e4 := (cell_of_block hb6 4).1
    simp at e0 e1 e2 e3 e4
    refine bodyPost_ret (v := .agg #[.int .i64 (26), .int .i64 (0), .int .i64 (0), .string ⟨#[]⟩, .slice (some ⟨u3.heap.size, 0, none⟩) 2 2]) (by simp [results, Tryz.results128, go_sem, e0, e1, e2, e3, e4]) rfl ?_
    exact ret_box HOK.out (by simp) (hkl.low HWY.out) HDF
  have gk1 : (k == 1) = false := by simpa using hk1
  clear hk1
  by_cases hk2 : k = 2
  · skip
    subst hk2
    go_wp2_with fail
    refine (HT.out r (p + 1) (0) A c ds u1 HR1.out (HD1.out.ab_rd) ho (by omega) (by omega) (by omega) (by omega)).mono ?_
    rintro e u2 ⟨t2, At2, ct2, rfl, hct2, hkt2, hot2, q2, qa2, qb2, hR9, hg9⟩
    have hkt2 := hkt2.low HZ1.out
    have HOt2 := Lib.hid hot2
    clear hot2
    have HR2 := Lib.hid hR9
    have HG2 := Lib.hid (HG1.out.trans hg9)
    have HD2 := Lib.hid (HD1.out.gr hg9)
    have HB2 := Lib.hid (hg9.heap (by show ¬ _ = r; omega) HB1.out)
    have HZ2 : Hid (w0.heap.size ≤ u2.heap.size) := Lib.hid (Nat.le_trans HZ1.out hg9.size)
    clear hg9 hR9
    go_wp2_with fail
    refine (HT.out r (q2) (0) A c ds u2 HR2.out (HD2.out.ab_rd) ho (by omega) (by omega) (by omega) (by omega)).mono ?_
    rintro e u3 ⟨t3, At3, ct3, rfl, hct3, hkt3, hot3, q3, qa3, qb3, hR9, hg9⟩
    have hkt3 := hkt3.low HZ2.out
    have HOt3 := Lib.hid hot3
    clear hot3
    have HR3 := Lib.hid hR9
    have HG3 := Lib.hid (HG2.out.trans hg9)
    have HD3 := Lib.hid (HD2.out.gr hg9)
    have HB3 := Lib.hid (hg9.heap (by show ¬ _ = r; omega) HB2.out)
    have HZ3 : Hid (w0.heap.size ≤ u3.heap.size) := Lib.hid (Nat.le_trans HZ2.out hg9.size)
    have hkt2 := hkt2.gr hg9 (by omega)
    clear hg9 hR9
    have HOK : Hid (T.All okT5 (.mk (27) (0) (0) ⟨#[]⟩ [t2, t3])) := Lib.hid (okT_node (by simp) (by omega) (by omega) (fun k hk => by
      simp only [List.mem_cons, List.not_mem_nil, or_false] at hk
      rcases hk with rfl | rfl
      · exact HOt2.out
      · exact HOt3.out))
    have HKt2 := Lib.hid hkt2
    have HCt2 := Lib.hid hct2
    have HKt3 := Lib.hid hkt3
    have HCt3 := Lib.hid hct3
    have HQ9 : Hid (p ≤ q3 ∧ q3 ≤ p + (10 + 2 * P)) := Lib.hid ⟨by omega, by omega⟩
    have HWY := Lib.hid hwy
    have HWZ := Lib.hid hwz
    have HRL := Lib.hid hrl
    have hlt9 : w.heap.size < u3.heap.size := lt_of_block HB3.out
    have b0 : u3.cell? ⟨w.heap.size, 0, none⟩ = _ ∧ u3.frozen? ⟨w.heap.size, 0, none⟩ = false := cell_of_block HB3.out 0
    obtain ⟨cc0, gg0⟩ := b0
    have b1 : u3.cell? ⟨w.heap.size, 1, none⟩ = _ ∧ u3.frozen? ⟨w.heap.size, 1, none⟩ = false := cell_of_block HB3.out 1
    obtain ⟨cc1, gg1⟩ := b1
    have b2 : u3.cell? ⟨w.heap.size, 2, none⟩ = _ ∧ u3.frozen? ⟨w.heap.size, 2, none⟩ = false := cell_of_block HB3.out 2
    obtain ⟨cc2, gg2⟩ := b2
    have b3 : u3.cell? ⟨w.heap.size, 3, none⟩ = _ ∧ u3.frozen? ⟨w.heap.size, 3, none⟩ = false := cell_of_block HB3.out 3
    obtain ⟨cc3, gg3⟩ := b3
    have b4 : u3.cell? ⟨w.heap.size, 4, none⟩ = _ ∧ u3.frozen? ⟨w.heap.size, 4, none⟩ = false := cell_of_block HB3.out 4
    obtain ⟨cc4, gg4⟩ := b4
    clear hkt2 hct2 hkt3 hct3
    go_wp2
    have hb5 := box5 (v0 := .int .i64 (27)) (v1 := .int .i64 (0)) (v2 := .int .i64 (0)) (v3 := .string ⟨#[]⟩) (v4 := .slice (some ⟨u3.heap.size, 0, none⟩) 2 2) HB3.out
    have HDN := drawn_store (M := 10 + 2 * P) (v0 := .int .i64 (27)) (v1 := .int .i64 (0)) (v2 := .int .i64 (0)) (v3 := .string ⟨#[]⟩) (v4 := .slice (some ⟨u3.heap.size, 0, none⟩) 2 2) HQ9.out.1 HQ9.out.2 HR3.out HG3.out (Nat.le_refl _) HRL.out
    have hxt2 := HKt2.out.box5 (v0 := .int .i64 (27)) (v1 := .int .i64 (0)) (v2 := .int .i64 (0)) (v3 := .string ⟨#[]⟩) (v4 := .slice (some ⟨u3.heap.size, 0, none⟩) 2 2) HWZ.out
    have hxt3 := HKt3.out.box5 (v0 := .int .i64 (27)) (v1 := .int .i64 (0)) (v2 := .int .i64 (0)) (v3 := .string ⟨#[]⟩) (v4 := .slice (some ⟨u3.heap.size, 0, none⟩) 2 2) HWZ.out
    have hz9 : (((((u3.setCell ⟨w.heap.size, 0, none⟩ (.int .i64 (27))).setCell ⟨w.heap.size, 1, none⟩ (.int .i64 (0))).setCell ⟨w.heap.size, 2, none⟩ (.int .i64 (0))).setCell ⟨w.heap.size, 3, none⟩ (.string ⟨#[]⟩)).setCell ⟨w.heap.size, 4, none⟩ (.slice (some ⟨u3.heap.size, 0, none⟩) 2 2)).heap.size = u3.heap.size := by simp only [size_setCell]
    have hz8 : w0.heap.size ≤ (((((u3.setCell ⟨w.heap.size, 0, none⟩ (.int .i64 (27))).setCell ⟨w.heap.size, 1, none⟩ (.int .i64 (0))).setCell ⟨w.heap.size, 2, none⟩ (.int .i64 (0))).setCell ⟨w.heap.size, 3, none⟩ (.string ⟨#[]⟩)).setCell ⟨w.heap.size, 4, none⟩ (.slice (some ⟨u3.heap.size, 0, none⟩) 2 2)).heap.size := by rw [hz9]; exact HZ3.out
    generalize (((((u3.setCell ⟨w.heap.size, 0, none⟩ (.int .i64 (27))).setCell ⟨w.heap.size, 1, none⟩ (.int .i64 (0))).setCell ⟨w.heap.size, 2, none⟩ (.int .i64 (0))).setCell ⟨w.heap.size, 3, none⟩ (.string ⟨#[]⟩)).setCell ⟨w.heap.size, 4, none⟩ (.slice (some ⟨u3.heap.size, 0, none⟩) 2 2)) = w9 at *
    have hal9 : Below w9.heap.size w9 (w9.alloc (.cells #[.int .i64 t2.op, .int .i64 t2.a, .int .i64 t2.b, .string t2.name, .slice At2 t2.kids.length ct2, .int .i64 t3.op, .int .i64 t3.a, .int .i64 t3.b, .string t3.name, .slice At3 t3.kids.length ct3] 48)) := (Below.refl _ _).alloc (Nat.le_refl _) _
    have hkl : TF w0.heap.size (w9.alloc (.cells #[.int .i64 t2.op, .int .i64 t2.a, .int .i64 t2.b, .string t2.name, .slice At2 t2.kids.length ct2, .int .i64 t3.op, .int .i64 t3.a, .int .i64 t3.b, .string t3.name, .slice At3 t3.kids.length ct3] 48)) (some ⟨w9.heap.size, 0, none⟩) [t2, t3] := lit_terms (Ak := fun i => if i = 0 then At2 else if i = 1 then At3 else none) (ck := fun i => if i = 0 then ct2 else if i = 1 then ct3 else 0) hz8 (fun i k hk => by
      rcases i with _ | i
      · simp at hk; subst hk; exact ⟨HCt2.out, hxt2, fun j u hu => by
          match j, hu with
          | 0, hu => exact hu
          | 1, hu => exact hu
          | 2, hu => exact hu
          | 3, hu => exact hu
          | 4, hu => exact hu
          | j + 5, hu => simp at hu⟩
      rcases i with _ | i
      · simp at hk; subst hk; exact ⟨HCt3.out, hxt3, fun j u hu => by
          match j, hu with
          | 0, hu => exact hu
          | 1, hu => exact hu
          | 2, hu => exact hu
          | 3, hu => exact hu
          | 4, hu => exact hu
          | j + 5, hu => simp at hu⟩
      simp at hk)
    rw [hz9] at hkl
    have hb6 := (hal9.block _ (lt_of_block hb5)).trans hb5
    obtain ⟨qf, qf0, qf1, hRf, hGf⟩ := HDN
    have HDF : Drawn r p (10 + 2 * P) w (w9.alloc (.cells #[.int .i64 t2.op, .int .i64 t2.a, .int .i64 t2.b, .string t2.name, .slice At2 t2.kids.length ct2, .int .i64 t3.op, .int .i64 t3.a, .int .i64 t3.b, .string t3.name, .slice At3 t3.kids.length ct3] 48)) := ⟨qf, qf0, qf1, hRf.up hal9, hGf.up hal9⟩
    generalize w9.alloc (.cells #[.int .i64 t2.op, .int .i64 t2.a, .int .i64 t2.b, .string t2.name, .slice At2 t2.kids.length ct2, .int .i64 t3.op, .int .i64 t3.a, .int .i64 t3.b, .string t3.name, .slice At3 t3.kids.length ct3] 48) = w8 at *
    have e0 := (cell_of_block hb6 0).1
    have e1 := (cell_of_block hb6 1).1
    have e2 := (cell_of_block hb6 2).1
    have e3 := (cell_of_block hb6 3).1
    have e4 := (cell_of_block hb6 4).1
    simp at e0 e1 e2 e3 e4
    refine bodyPost_ret (v := .agg #[.int .i64 (27), .int .i64 (0), .int .i64 (0), .string ⟨#[]⟩, .slice (some ⟨u3.heap.size, 0, none⟩) 2 2]) (by simp [results, Tryz.results128, go_sem, e0, e1, e2, e3, e4]) rfl ?_
    exact ret_box HOK.out (by simp) (hkl.low HWY.out) HDF
  have gk2 : (k == 2) = false := by simpa using hk2
  clear hk2
  go_wp2_with fail
  refine (pick_any r (p + 1) (4) u1 HR1.out (by omega) (by omega) (by omega) (by omega)).mono ?_
  rintro e u2 ⟨v, rfl, v0, v1, v2, hR9, hg9⟩
  have hg9 := Gr.one (S := IsR r) hg9 rfl
  have Hv1 := Lib.hid v1
  have Hv2 := Lib.hid v2
  clear v1 v2
  have HR2 := Lib.hid hR9
  have HG2 := Lib.hid (HG1.out.trans hg9)
  have HD2 := Lib.hid (HD1.out.gr hg9)
  have HB2 := Lib.hid (hg9.heap (by show ¬ _ = r; omega) HB1.out)
  have HZ2 : Hid (w0.heap.size ≤ u2.heap.size) := Lib.hid (Nat.le_trans HZ1.out hg9.size)
  clear hg9 hR9
  have v1 := Hv1.out (by omega)
  by_cases hd0 : 0 < ds.length
  · skip
    have hd1 : (0 : Int) < ds.length := by omega
    go_wp2_with fail
    refine (pick_any r (p + 1 + 1) (3) u2 HR2.out (by omega) (by omega) (by omega) (by omega)).mono ?_
    rintro e u3 ⟨y, rfl, y0, y1, y2, hR9, hg9⟩
    have hg9 := Gr.one (S := IsR r) hg9 rfl
    have Hy1 := Lib.hid y1
    have Hy2 := Lib.hid y2
    clear y1 y2
    have HR3 := Lib.hid hR9
    have HG3 := Lib.hid (HG2.out.trans hg9)
    have HD3 := Lib.hid (HD2.out.gr hg9)
    have HB3 := Lib.hid (hg9.heap (by show ¬ _ = r; omega) HB2.out)
    have HZ3 : Hid (w0.heap.size ≤ u3.heap.size) := Lib.hid (Nat.le_trans HZ2.out hg9.size)
    clear hg9 hR9
    have y1 := Hy1.out (by omega)
    by_cases hy : 0 < y
    · skip
      have gy : decide (0 < y) = true := decide_eq_true hy
      go_wp2_with fail
      refine (pick_any r (p + 1 + 1 + 1) (ds.length) u3 HR3.out (by omega) (by omega) (by omega) (by omega)).mono ?_
      rintro e u4 ⟨z, rfl, z0, z1, z2, hR9, hg9⟩
      have hg9 := Gr.one (S := IsR r) hg9 rfl
      have Hz1 := Lib.hid z1
      have Hz2 := Lib.hid z2
      clear z1 z2
      have HR4 := Lib.hid hR9
      have HG4 := Lib.hid (HG3.out.trans hg9)
      have HD4 := Lib.hid (HD3.out.gr hg9)
      have HB4 := Lib.hid (hg9.heap (by show ¬ _ = r; omega) HB3.out)
      have HZ4 : Hid (w0.heap.size ≤ u4.heap.size) := Lib.hid (Nat.le_trans HZ3.out hg9.size)
      clear hg9 hR9
      have z1 := Hz1.out (by omega)
      obtain ⟨m, hm⟩ : ∃ m : Nat, z = (m : Int) := ⟨z.toNat, by omega⟩
      subst hm
      clear gk0 gk1 gk2 k0 k1 y0 y1 hy gy
      have hml : m < ds.length := by omega
      obtain ⟨ad, hA, hf, d1, d2⟩ := HD4.out.at_decl hml
      subst hA
      obtain ⟨_, w1, w4⟩ := HDD.out _ (List.getElem_mem hml)
      obtain ⟨x, hx⟩ : ∃ x, x = ds[m].wide := ⟨_, rfl⟩
      rw [← hx] at d2 w1 w4
      clear hx d1
      have halL : Below u4.heap.size u4 (u4.alloc (.cells #[.int .i64 15, .int .i64 16, .int .i64 17, .int .i64 15] 3)) := (Below.refl _ _).alloc (Nat.le_refl _) _
      have hsL := lit_sl (S := IsR r) u4 [15, 16, 17, 15] #[.int .i64 15, .int .i64 16, .int .i64 17, .int .i64 15] 3 rfl (by show ¬ _ = r; have := lt_of_block HB4.out; omega)
      have HRL := Lib.hid (HR4.out.up halL)
      have HSL := Lib.hid hsL
      have hgL : Gr (IsR r) u4 (u4.alloc (.cells #[.int .i64 15, .int .i64 16, .int .i64 17, .int .i64 15] 3)) := .below halL
      have HGL := Lib.hid hgL
      clear halL hsL hgL
      go_wp2_with fail
      have HGL9 : Hid (Gr (IsR r) u4 (u4.alloc (.cells #[.int .i64 15, .int .i64 16, .int .i64 17, .int .i64 15] 3))) := HGL
      generalize u4.alloc (.cells #[.int .i64 15, .int .i64 16, .int .i64 17, .int .i64 15] 3) = wl at *
      refine (num_any r (p + 1 + 1 + 1 + 1) _ _ [15, 16, 17, 15] wl HRL.out HSL.out (by simp) (by simp) (by omega) (by omega)).mono ?_
      rintro e u5 ⟨op, hop, rfl, hR9, hg9⟩
      have hg9 := HGL.out.trans hg9
      have opb : 15 ≤ op ∧ op ≤ 17 := by simp at hop; omega
      obtain ⟨op0, op1⟩ := opb
      clear hop HRL HSL HGL HGL9
      have HR5 := Lib.hid hR9
      have HG5 := Lib.hid (HG4.out.trans hg9)
      have HD5 := Lib.hid (HD4.out.gr hg9)
      have HB5 := Lib.hid (hg9.heap (by show ¬ _ = r; omega) HB4.out)
      have HZ5 : Hid (w0.heap.size ≤ u5.heap.size) := Lib.hid (Nat.le_trans HZ4.out hg9.size)
      clear hg9 hR9
      go_wp2_with fail
      refine (HT.out r (p + 1 + 1 + 1 + 1 + 1) (x) (some ad) c ds u5 HR5.out (HD5.out.ab_rd) ho (by omega) (by omega) (by omega) (by omega)).mono ?_
      rintro e u6 ⟨t6, At6, ct6, rfl, hct6, hkt6, hot6, q6, qa6, qb6, hR9, hg9⟩
      have hkt6 := hkt6.low HZ5.out
      have HOt6 := Lib.hid hot6
      clear hot6
      have HR6 := Lib.hid hR9
      have HG6 := Lib.hid (HG5.out.trans hg9)
      have HD6 := Lib.hid (HD5.out.gr hg9)
      have HB6 := Lib.hid (hg9.heap (by show ¬ _ = r; omega) HB5.out)
      have HZ6 : Hid (w0.heap.size ≤ u6.heap.size) := Lib.hid (Nat.le_trans HZ5.out hg9.size)
      clear hg9 hR9
      go_wp2_with fail
      refine (HT.out r (q6) (x) (some ad) c ds u6 HR6.out (HD6.out.ab_rd) ho (by omega) (by omega) (by omega) (by omega)).mono ?_
      rintro e u7 ⟨t7, At7, ct7, rfl, hct7, hkt7, hot7, q7, qa7, qb7, hR9, hg9⟩
      have hkt7 := hkt7.low HZ6.out
      have HOt7 := Lib.hid hot7
      clear hot7
      have HR7 := Lib.hid hR9
      have HG7 := Lib.hid (HG6.out.trans hg9)
      have HD7 := Lib.hid (HD6.out.gr hg9)
      have HB7 := Lib.hid (hg9.heap (by show ¬ _ = r; omega) HB6.out)
      have HZ7 : Hid (w0.heap.size ≤ u7.heap.size) := Lib.hid (Nat.le_trans HZ6.out hg9.size)
      have hkt6 := hkt6.gr hg9 (by omega)
      clear hg9 hR9
      have HOK : Hid (T.All okT5 (.mk (op) (0) (0) ⟨#[]⟩ [t6, t7])) := Lib.hid (okT_node (by simp) (by omega) (by omega) (fun k hk => by
        simp only [List.mem_cons, List.not_mem_nil, or_false] at hk
        rcases hk with rfl | rfl
        · exact HOt6.out
        · exact HOt7.out))
      have HKt6 := Lib.hid hkt6
      have HCt6 := Lib.hid hct6
      have HKt7 := Lib.hid hkt7
      have HCt7 := Lib.hid hct7
      have HQ9 : Hid (p ≤ q7 ∧ q7 ≤ p + (10 + 2 * P)) := Lib.hid ⟨by omega, by omega⟩
      have HWY := Lib.hid hwy
      have HWZ := Lib.hid hwz
      have HRL := Lib.hid hrl
      have hlt9 : w.heap.size < u7.heap.size := lt_of_block HB7.out
      have b0 : u7.cell? ⟨w.heap.size, 0, none⟩ = _ ∧ u7.frozen? ⟨w.heap.size, 0, none⟩ = false := cell_of_block HB7.out 0
      obtain ⟨cc0, gg0⟩ := b0
      have b1 : u7.cell? ⟨w.heap.size, 1, none⟩ = _ ∧ u7.frozen? ⟨w.heap.size, 1, none⟩ = false := cell_of_block HB7.out 1
      obtain ⟨cc1, gg1⟩ := b1
      have b2 : u7.cell? ⟨w.heap.size, 2, none⟩ = _ ∧ u7.frozen? ⟨w.heap.size, 2, none⟩ = false := cell_of_block HB7.out 2
      obtain ⟨cc2, gg2⟩ := b2
      have b3 : u7.cell? ⟨w.heap.size, 3, none⟩ = _ ∧ u7.frozen? ⟨w.heap.size, 3, none⟩ = false := cell_of_block HB7.out 3
      obtain ⟨cc3, gg3⟩ := b3
      have b4 : u7.cell? ⟨w.heap.size, 4, none⟩ = _ ∧ u7.frozen? ⟨w.heap.size, 4, none⟩ = false := cell_of_block HB7.out 4
      obtain ⟨cc4, gg4⟩ := b4
      clear hkt6 hct6 hkt7 hct7
      go_wp2
      have hb5 := box5 (v0 := .int .i64 (op)) (v1 := .int .i64 (0)) (v2 := .int .i64 (0)) (v3 := .string ⟨#[]⟩) (v4 := .slice (some ⟨u7.heap.size, 0, none⟩) 2 2) HB7.out
      have HDN := drawn_store (M := 10 + 2 * P) (v0 := .int .i64 (op)) (v1 := .int .i64 (0)) (v2 := .int .i64 (0)) (v3 := .string ⟨#[]⟩) (v4 := .slice (some ⟨u7.heap.size, 0, none⟩) 2 2) HQ9.out.1 HQ9.out.2 HR7.out HG7.out (Nat.le_refl _) HRL.out
      have hxt6 := HKt6.out.box5 (v0 := .int .i64 (op)) (v1 := .int .i64 (0)) (v2 := .int .i64 (0)) (v3 := .string ⟨#[]⟩) (v4 := .slice (some ⟨u7.heap.size, 0, none⟩) 2 2) HWZ.out
      have hxt7 := HKt7.out.box5 (v0 := .int .i64 (op)) (v1 := .int .i64 (0)) (v2 := .int .i64 (0)) (v3 := .string ⟨#[]⟩) (v4 := .slice (some ⟨u7.heap.size, 0, none⟩) 2 2) HWZ.out
      have hz9 : (((((u7.setCell ⟨w.heap.size, 0, none⟩ (.int .i64 (op))).setCell ⟨w.heap.size, 1, none⟩ (.int .i64 (0))).setCell ⟨w.heap.size, 2, none⟩ (.int .i64 (0))).setCell ⟨w.heap.size, 3, none⟩ (.string ⟨#[]⟩)).setCell ⟨w.heap.size, 4, none⟩ (.slice (some ⟨u7.heap.size, 0, none⟩) 2 2)).heap.size = u7.heap.size := by simp only [size_setCell]
      have hz8 : w0.heap.size ≤ (((((u7.setCell ⟨w.heap.size, 0, none⟩ (.int .i64 (op))).setCell ⟨w.heap.size, 1, none⟩ (.int .i64 (0))).setCell ⟨w.heap.size, 2, none⟩ (.int .i64 (0))).setCell ⟨w.heap.size, 3, none⟩ (.string ⟨#[]⟩)).setCell ⟨w.heap.size, 4, none⟩ (.slice (some ⟨u7.heap.size, 0, none⟩) 2 2)).heap.size := by rw [hz9]; exact HZ7.out
      generalize (((((u7.setCell ⟨w.heap.size, 0, none⟩ (.int .i64 (op))).setCell ⟨w.heap.size, 1, none⟩ (.int .i64 (0))).setCell ⟨w.heap.size, 2, none⟩ (.int .i64 (0))).setCell ⟨w.heap.size, 3, none⟩ (.string ⟨#[]⟩)).setCell ⟨w.heap.size, 4, none⟩ (.slice (some ⟨u7.heap.size, 0, none⟩) 2 2)) = w9 at *
      have hal9 : Below w9.heap.size w9 (w9.alloc (.cells #[.int .i64 t6.op, .int .i64 t6.a, .int .i64 t6.b, .string t6.name, .slice At6 t6.kids.length ct6, .int .i64 t7.op, .int .i64 t7.a, .int .i64 t7.b, .string t7.name, .slice At7 t7.kids.length ct7] 48)) := (Below.refl _ _).alloc (Nat.le_refl _) _
      have hkl : TF w0.heap.size (w9.alloc (.cells #[.int .i64 t6.op, .int .i64 t6.a, .int .i64 t6.b, .string t6.name, .slice At6 t6.kids.length ct6, .int .i64 t7.op, .int .i64 t7.a, .int .i64 t7.b, .string t7.name, .slice At7 t7.kids.length ct7] 48)) (some ⟨w9.heap.size, 0, none⟩) [t6, t7] := lit_terms (Ak := fun i => if i = 0 then At6 else if i = 1 then At7 else none) (ck := fun i => if i = 0 then ct6 else if i = 1 then ct7 else 0) hz8 (fun i k hk => by
        rcases i with _ | i
        · simp at hk; subst hk; exact ⟨HCt6.out, hxt6, fun j u hu => by
            match j, hu with
            | 0, hu => exact hu
            | 1, hu => exact hu
            | 2, hu => exact hu
            | 3, hu => exact hu
            | 4, hu => exact hu
            | j + 5, hu => simp at hu⟩
        rcases i with _ | i
        · simp at hk; subst hk; exact ⟨HCt7.out, hxt7, fun j u hu => by
            match j, hu with
            | 0, hu => exact hu
            | 1, hu => exact hu
            | 2, hu => exact hu
            | 3, hu => exact hu
            | 4, hu => exact hu
            | j + 5, hu => simp at hu⟩
        simp at hk)
      rw [hz9] at hkl
      have hb6 := (hal9.block _ (lt_of_block hb5)).trans hb5
      obtain ⟨qf, qf0, qf1, hRf, hGf⟩ := HDN
      have HDF : Drawn r p (10 + 2 * P) w (w9.alloc (.cells #[.int .i64 t6.op, .int .i64 t6.a, .int .i64 t6.b, .string t6.name, .slice At6 t6.kids.length ct6, .int .i64 t7.op, .int .i64 t7.a, .int .i64 t7.b, .string t7.name, .slice At7 t7.kids.length ct7] 48)) := ⟨qf, qf0, qf1, hRf.up hal9, hGf.up hal9⟩
      generalize w9.alloc (.cells #[.int .i64 t6.op, .int .i64 t6.a, .int .i64 t6.b, .string t6.name, .slice At6 t6.kids.length ct6, .int .i64 t7.op, .int .i64 t7.a, .int .i64 t7.b, .string t7.name, .slice At7 t7.kids.length ct7] 48) = w8 at *
      have e0 := (cell_of_block hb6 0).1
      have e1 := (cell_of_block hb6 1).1
      have e2 := (cell_of_block hb6 2).1
      have e3 := (cell_of_block hb6 3).1
      have e4 := (cell_of_block hb6 4).1
      simp at e0 e1 e2 e3 e4
      refine bodyPost_ret (v := .agg #[.int .i64 (op), .int .i64 (0), .int .i64 (0), .string ⟨#[]⟩, .slice (some ⟨u7.heap.size, 0, none⟩) 2 2]) (by simp [results, Tryz.results128, go_sem, e0, e1, e2, e3, e4]) rfl ?_
      exact ret_box HOK.out (by simp) (hkl.low HWY.out) HDF
    · skip
      have gy : decide (0 < y) = false := decide_eq_false hy
      have halL : Below u3.heap.size u3 (u3.alloc (.cells #[.int .i64 15, .int .i64 16, .int .i64 17, .int .i64 15] 3)) := (Below.refl _ _).alloc (Nat.le_refl _) _
      have hsL := lit_sl (S := IsR r) u3 [15, 16, 17, 15] #[.int .i64 15, .int .i64 16, .int .i64 17, .int .i64 15] 3 rfl (by show ¬ _ = r; have := lt_of_block HB3.out; omega)
      have HRL := Lib.hid (HR3.out.up halL)
      have HSL := Lib.hid hsL
      have hgL : Gr (IsR r) u3 (u3.alloc (.cells #[.int .i64 15, .int .i64 16, .int .i64 17, .int .i64 15] 3)) := .below halL
      have HGL := Lib.hid hgL
      clear halL hsL hgL
      go_wp2_with fail
      have HGL9 : Hid (Gr (IsR r) u3 (u3.alloc (.cells #[.int .i64 15, .int .i64 16, .int .i64 17, .int .i64 15] 3))) := HGL
      generalize u3.alloc (.cells #[.int .i64 15, .int .i64 16, .int .i64 17, .int .i64 15] 3) = wl at *
      refine (num_any r (p + 1 + 1 + 1) _ _ [15, 16, 17, 15] wl HRL.out HSL.out (by simp) (by simp) (by omega) (by omega)).mono ?_
      rintro e u4 ⟨op, hop, rfl, hR9, hg9⟩
      have hg9 := HGL.out.trans hg9
      have opb : 15 ≤ op ∧ op ≤ 17 := by simp at hop; omega
      obtain ⟨op0, op1⟩ := opb
      clear hop HRL HSL HGL HGL9
      have HR4 := Lib.hid hR9
      have HG4 := Lib.hid (HG3.out.trans hg9)
      have HD4 := Lib.hid (HD3.out.gr hg9)
      have HB4 := Lib.hid (hg9.heap (by show ¬ _ = r; omega) HB3.out)
      have HZ4 : Hid (w0.heap.size ≤ u4.heap.size) := Lib.hid (Nat.le_trans HZ3.out hg9.size)
      clear hg9 hR9
      go_wp2_with fail
      refine (HT.out r (p + 1 + 1 + 1 + 1) (1 + v) A c ds u4 HR4.out (HD4.out.ab_rd) ho (by omega) (by omega) (by omega) (by omega)).mono ?_
      rintro e u5 ⟨t5, At5, ct5, rfl, hct5, hkt5, hot5, q5, qa5, qb5, hR9, hg9⟩
      have hkt5 := hkt5.low HZ4.out
      have HOt5 := Lib.hid hot5
      clear hot5
      have HR5 := Lib.hid hR9
      have HG5 := Lib.hid (HG4.out.trans hg9)
      have HD5 := Lib.hid (HD4.out.gr hg9)
      have HB5 := Lib.hid (hg9.heap (by show ¬ _ = r; omega) HB4.out)
      have HZ5 : Hid (w0.heap.size ≤ u5.heap.size) := Lib.hid (Nat.le_trans HZ4.out hg9.size)
      clear hg9 hR9
      go_wp2_with fail
      refine (HT.out r (q5) (1 + v) A c ds u5 HR5.out (HD5.out.ab_rd) ho (by omega) (by omega) (by omega) (by omega)).mono ?_
      rintro e u6 ⟨t6, At6, ct6, rfl, hct6, hkt6, hot6, q6, qa6, qb6, hR9, hg9⟩
      have hkt6 := hkt6.low HZ5.out
      have HOt6 := Lib.hid hot6
      clear hot6
      have HR6 := Lib.hid hR9
      have HG6 := Lib.hid (HG5.out.trans hg9)
      have HD6 := Lib.hid (HD5.out.gr hg9)
      have HB6 := Lib.hid (hg9.heap (by show ¬ _ = r; omega) HB5.out)
      have HZ6 : Hid (w0.heap.size ≤ u6.heap.size) := Lib.hid (Nat.le_trans HZ5.out hg9.size)
      have hkt5 := hkt5.gr hg9 (by omega)
      clear hg9 hR9
      have HOK : Hid (T.All okT5 (.mk (op) (0) (0) ⟨#[]⟩ [t5, t6])) := Lib.hid (okT_node (by simp) (by omega) (by omega) (fun k hk => by
        simp only [List.mem_cons, List.not_mem_nil, or_false] at hk
        rcases hk with rfl | rfl
        · exact HOt5.out
        · exact HOt6.out))
      have HKt5 := Lib.hid hkt5
      have HCt5 := Lib.hid hct5
      have HKt6 := Lib.hid hkt6
      have HCt6 := Lib.hid hct6
      have HQ9 : Hid (p ≤ q6 ∧ q6 ≤ p + (10 + 2 * P)) := Lib.hid ⟨by omega, by omega⟩
      have HWY := Lib.hid hwy
      have HWZ := Lib.hid hwz
      have HRL := Lib.hid hrl
      have hlt9 : w.heap.size < u6.heap.size := lt_of_block HB6.out
      have b0 : u6.cell? ⟨w.heap.size, 0, none⟩ = _ ∧ u6.frozen? ⟨w.heap.size, 0, none⟩ = false := cell_of_block HB6.out 0
      obtain ⟨cc0, gg0⟩ := b0
      have b1 : u6.cell? ⟨w.heap.size, 1, none⟩ = _ ∧ u6.frozen? ⟨w.heap.size, 1, none⟩ = false := cell_of_block HB6.out 1
      obtain ⟨cc1, gg1⟩ := b1
      have b2 : u6.cell? ⟨w.heap.size, 2, none⟩ = _ ∧ u6.frozen? ⟨w.heap.size, 2, none⟩ = false := cell_of_block HB6.out 2
      obtain ⟨cc2, gg2⟩ := b2
      have b3 : u6.cell? ⟨w.heap.size, 3, none⟩ = _ ∧ u6.frozen? ⟨w.heap.size, 3, none⟩ = false := cell_of_block HB6.out 3
      obtain ⟨cc3, gg3⟩ := b3
      have b4 : u6.cell? ⟨w.heap.size, 4, none⟩ = _ ∧ u6.frozen? ⟨w.heap.size, 4, none⟩ = false := cell_of_block HB6.out 4
      obtain ⟨cc4, gg4⟩ := b4
      clear hkt5 hct5 hkt6 hct6
      go_wp2
      have hb5 := box5 (v0 := .int .i64 (op)) (v1 := .int .i64 (0)) (v2 := .int .i64 (0)) (v3 := .string ⟨#[]⟩) (v4 := .slice (some ⟨u6.heap.size, 0, none⟩) 2 2) HB6.out
      have HDN := drawn_store (M := 10 + 2 * P) (v0 := .int .i64 (op)) (v1 := .int .i64 (0)) (v2 := .int .i64 (0)) (v3 := .string ⟨#[]⟩) (v4 := .slice (some ⟨u6.heap.size, 0, none⟩) 2 2) HQ9.out.1 HQ9.out.2 HR6.out HG6.out (Nat.le_refl _) HRL.out
      have hxt5 := HKt5.out.box5 (v0 := .int .i64 (op)) (v1 := .int .i64 (0)) (v2 := .int .i64 (0)) (v3 := .string ⟨#[]⟩) (v4 := .slice (some ⟨u6.heap.size, 0, none⟩) 2 2) HWZ.out
      have hxt6 := HKt6.out.box5 (v0 := .int .i64 (op)) (v1 := .int .i64 (0)) (v2 := .int .i64 (0)) (v3 := .string ⟨#[]⟩) (v4 := .slice (some ⟨u6.heap.size, 0, none⟩) 2 2) HWZ.out
      have hz9 : (((((u6.setCell ⟨w.heap.size, 0, none⟩ (.int .i64 (op))).setCell ⟨w.heap.size, 1, none⟩ (.int .i64 (0))).setCell ⟨w.heap.size, 2, none⟩ (.int .i64 (0))).setCell ⟨w.heap.size, 3, none⟩ (.string ⟨#[]⟩)).setCell ⟨w.heap.size, 4, none⟩ (.slice (some ⟨u6.heap.size, 0, none⟩) 2 2)).heap.size = u6.heap.size := by simp only [size_setCell]
      have hz8 : w0.heap.size ≤ (((((u6.setCell ⟨w.heap.size, 0, none⟩ (.int .i64 (op))).setCell ⟨w.heap.size, 1, none⟩ (.int .i64 (0))).setCell ⟨w.heap.size, 2, none⟩ (.int .i64 (0))).setCell ⟨w.heap.size, 3, none⟩ (.string ⟨#[]⟩)).setCell ⟨w.heap.size, 4, none⟩ (.slice (some ⟨u6.heap.size, 0, none⟩) 2 2)).heap.size := by rw [hz9]; exact HZ6.out
      generalize (((((u6.setCell ⟨w.heap.size, 0, none⟩ (.int .i64 (op))).setCell ⟨w.heap.size, 1, none⟩ (.int .i64 (0))).setCell ⟨w.heap.size, 2, none⟩ (.int .i64 (0))).setCell ⟨w.heap.size, 3, none⟩ (.string ⟨#[]⟩)).setCell ⟨w.heap.size, 4, none⟩ (.slice (some ⟨u6.heap.size, 0, none⟩) 2 2)) = w9 at *
      have hal9 : Below w9.heap.size w9 (w9.alloc (.cells #[.int .i64 t5.op, .int .i64 t5.a, .int .i64 t5.b, .string t5.name, .slice At5 t5.kids.length ct5, .int .i64 t6.op, .int .i64 t6.a, .int .i64 t6.b, .string t6.name, .slice At6 t6.kids.length ct6] 48)) := (Below.refl _ _).alloc (Nat.le_refl _) _
      have hkl : TF w0.heap.size (w9.alloc (.cells #[.int .i64 t5.op, .int .i64 t5.a, .int .i64 t5.b, .string t5.name, .slice At5 t5.kids.length ct5, .int .i64 t6.op, .int .i64 t6.a, .int .i64 t6.b, .string t6.name, .slice At6 t6.kids.length ct6] 48)) (some ⟨w9.heap.size, 0, none⟩) [t5, t6] := lit_terms (Ak := fun i => if i = 0 then At5 else if i = 1 then At6 else none) (ck := fun i => if i = 0 then ct5 else if i = 1 then ct6 else 0) hz8 (fun i k hk => by
        rcases i with _ | i
        · simp at hk; subst hk; exact ⟨HCt5.out, hxt5, fun j u hu => by
            match j, hu with
            | 0, hu => exact hu
            | 1, hu => exact hu
            | 2, hu => exact hu
            | 3, hu => exact hu
            | 4, hu => exact hu
            | j + 5, hu => simp at hu⟩
        rcases i with _ | i
        · simp at hk; subst hk; exact ⟨HCt6.out, hxt6, fun j u hu => by
            match j, hu with
            | 0, hu => exact hu
            | 1, hu => exact hu
            | 2, hu => exact hu
            | 3, hu => exact hu
            | 4, hu => exact hu
            | j + 5, hu => simp at hu⟩
        simp at hk)
      rw [hz9] at hkl
      have hb6 := (hal9.block _ (lt_of_block hb5)).trans hb5
      obtain ⟨qf, qf0, qf1, hRf, hGf⟩ := HDN
      have HDF : Drawn r p (10 + 2 * P) w (w9.alloc (.cells #[.int .i64 t5.op, .int .i64 t5.a, .int .i64 t5.b, .string t5.name, .slice At5 t5.kids.length ct5, .int .i64 t6.op, .int .i64 t6.a, .int .i64 t6.b, .string t6.name, .slice At6 t6.kids.length ct6] 48)) := ⟨qf, qf0, qf1, hRf.up hal9, hGf.up hal9⟩
      generalize w9.alloc (.cells #[.int .i64 t5.op, .int .i64 t5.a, .int .i64 t5.b, .string t5.name, .slice At5 t5.kids.length ct5, .int .i64 t6.op, .int .i64 t6.a, .int .i64 t6.b, .string t6.name, .slice At6 t6.kids.length ct6] 48) = w8 at *
      have e0 := (cell_of_block hb6 0).1
      have e1 := (cell_of_block hb6 1).1
      have e2 := (cell_of_block hb6 2).1
      have e3 := (cell_of_block hb6 3).1
      have e4 := (cell_of_block hb6 4).1
      simp at e0 e1 e2 e3 e4
      refine bodyPost_ret (v := .agg #[.int .i64 (op), .int .i64 (0), .int .i64 (0), .string ⟨#[]⟩, .slice (some ⟨u6.heap.size, 0, none⟩) 2 2]) (by simp [results, Tryz.results128, go_sem, e0, e1, e2, e3, e4]) rfl ?_
      exact ret_box HOK.out (by simp) (hkl.low HWY.out) HDF
  · skip
    have hd1 : ¬ (0 : Int) < ds.length := by omega
    have halL : Below u2.heap.size u2 (u2.alloc (.cells #[.int .i64 15, .int .i64 16, .int .i64 17, .int .i64 15] 3)) := (Below.refl _ _).alloc (Nat.le_refl _) _
    have hsL := lit_sl (S := IsR r) u2 [15, 16, 17, 15] #[.int .i64 15, .int .i64 16, .int .i64 17, .int .i64 15] 3 rfl (by show ¬ _ = r; have := lt_of_block HB2.out; omega)
    have HRL := Lib.hid (HR2.out.up halL)
    have HSL := Lib.hid hsL
    have hgL : Gr (IsR r) u2 (u2.alloc (.cells #[.int .i64 15, .int .i64 16, .int .i64 17, .int .i64 15] 3)) := .below halL
    have HGL := Lib.hid hgL
    clear halL hsL hgL
    go_wp2_with fail
    have HGL9 : Hid (Gr (IsR r) u2 (u2.alloc (.cells #[.int .i64 15, .int .i64 16, .int .i64 17, .int .i64 15] 3))) := HGL
    generalize u2.alloc (.cells #[.int .i64 15, .int .i64 16, .int .i64 17, .int .i64 15] 3) = wl at *
    refine (num_any r (p + 1 + 1) _ _ [15, 16, 17, 15] wl HRL.out HSL.out (by simp) (by simp) (by omega) (by omega)).mono ?_
    rintro e u3 ⟨op, hop, rfl, hR9, hg9⟩
    have hg9 := HGL.out.trans hg9
    have opb : 15 ≤ op ∧ op ≤ 17 := by simp at hop; omega
    obtain ⟨op0, op1⟩ := opb
    clear hop HRL HSL HGL HGL9
    have HR3 := Lib.hid hR9
    have HG3 := Lib.hid (HG2.out.trans hg9)
    have HD3 := Lib.hid (HD2.out.gr hg9)
    have HB3 := Lib.hid (hg9.heap (by show ¬ _ = r; omega) HB2.out)
    have HZ3 : Hid (w0.heap.size ≤ u3.heap.size) := Lib.hid (Nat.le_trans HZ2.out hg9.size)
    clear hg9 hR9
    go_wp2_with fail
    refine (HT.out r (p + 1 + 1 + 1) (1 + v) A c ds u3 HR3.out (HD3.out.ab_rd) ho (by omega) (by omega) (by omega) (by omega)).mono ?_
    rintro e u4 ⟨t4, At4, ct4, rfl, hct4, hkt4, hot4, q4, qa4, qb4, hR9, hg9⟩
    have hkt4 := hkt4.low HZ3.out
    have HOt4 := Lib.hid hot4
    clear hot4
    have HR4 := Lib.hid hR9
    have HG4 := Lib.hid (HG3.out.trans hg9)
    have HD4 := Lib.hid (HD3.out.gr hg9)
    have HB4 := Lib.hid (hg9.heap (by show ¬ _ = r; omega) HB3.out)
    have HZ4 : Hid (w0.heap.size ≤ u4.heap.size) := Lib.hid (Nat.le_trans HZ3.out hg9.size)
    clear hg9 hR9
    go_wp2_with fail
    refine (HT.out r (q4) (1 + v) A c ds u4 HR4.out (HD4.out.ab_rd) ho (by omega) (by omega) (by omega) (by omega)).mono ?_
    rintro e u5 ⟨t5, At5, ct5, rfl, hct5, hkt5, hot5, q5, qa5, qb5, hR9, hg9⟩
    have hkt5 := hkt5.low HZ4.out
    have HOt5 := Lib.hid hot5
    clear hot5
    have HR5 := Lib.hid hR9
    have HG5 := Lib.hid (HG4.out.trans hg9)
    have HD5 := Lib.hid (HD4.out.gr hg9)
    have HB5 := Lib.hid (hg9.heap (by show ¬ _ = r; omega) HB4.out)
    have HZ5 : Hid (w0.heap.size ≤ u5.heap.size) := Lib.hid (Nat.le_trans HZ4.out hg9.size)
    have hkt4 := hkt4.gr hg9 (by omega)
    clear hg9 hR9
    have HOK : Hid (T.All okT5 (.mk (op) (0) (0) ⟨#[]⟩ [t4, t5])) := Lib.hid (okT_node (by simp) (by omega) (by omega) (fun k hk => by
      simp only [List.mem_cons, List.not_mem_nil, or_false] at hk
      rcases hk with rfl | rfl
      · exact HOt4.out
      · exact HOt5.out))
    have HKt4 := Lib.hid hkt4
    have HCt4 := Lib.hid hct4
    have HKt5 := Lib.hid hkt5
    have HCt5 := Lib.hid hct5
    have HQ9 : Hid (p ≤ q5 ∧ q5 ≤ p + (10 + 2 * P)) := Lib.hid ⟨by omega, by omega⟩
    have HWY := Lib.hid hwy
    have HWZ := Lib.hid hwz
    have HRL := Lib.hid hrl
    have hlt9 : w.heap.size < u5.heap.size := lt_of_block HB5.out
    have b0 : u5.cell? ⟨w.heap.size, 0, none⟩ = _ ∧ u5.frozen? ⟨w.heap.size, 0, none⟩ = false := cell_of_block HB5.out 0
    obtain ⟨cc0, gg0⟩ := b0
    have b1 : u5.cell? ⟨w.heap.size, 1, none⟩ = _ ∧ u5.frozen? ⟨w.heap.size, 1, none⟩ = false := cell_of_block HB5.out 1
    obtain ⟨cc1, gg1⟩ := b1
    have b2 : u5.cell? ⟨w.heap.size, 2, none⟩ = _ ∧ u5.frozen? ⟨w.heap.size, 2, none⟩ = false := cell_of_block HB5.out 2
    obtain ⟨cc2, gg2⟩ := b2
    have b3 : u5.cell? ⟨w.heap.size, 3, none⟩ = _ ∧ u5.frozen? ⟨w.heap.size, 3, none⟩ = false := cell_of_block HB5.out 3
    obtain ⟨cc3, gg3⟩ := b3
    have b4 : u5.cell? ⟨w.heap.size, 4, none⟩ = _ ∧ u5.frozen? ⟨w.heap.size, 4, none⟩ = false := cell_of_block HB5.out 4
    obtain ⟨cc4, gg4⟩ := b4
    clear hkt4 hct4 hkt5 hct5
    go_wp2
    have hb5 := box5 (v0 := .int .i64 (op)) (v1 := .int .i64 (0)) (v2 := .int .i64 (0)) (v3 := .string ⟨#[]⟩) (v4 := .slice (some ⟨u5.heap.size, 0, none⟩) 2 2) HB5.out
    have HDN := drawn_store (M := 10 + 2 * P) (v0 := .int .i64 (op)) (v1 := .int .i64 (0)) (v2 := .int .i64 (0)) (v3 := .string ⟨#[]⟩) (v4 := .slice (some ⟨u5.heap.size, 0, none⟩) 2 2) HQ9.out.1 HQ9.out.2 HR5.out HG5.out (Nat.le_refl _) HRL.out
    have hxt4 := HKt4.out.box5 (v0 := .int .i64 (op)) (v1 := .int .i64 (0)) (v2 := .int .i64 (0)) (v3 := .string ⟨#[]⟩) (v4 := .slice (some ⟨u5.heap.size, 0, none⟩) 2 2) HWZ.out
    have hxt5 := HKt5.out.box5 (v0 := .int .i64 (op)) (v1 := .int .i64 (0)) (v2 := .int .i64 (0)) (v3 := .string ⟨#[]⟩) (v4 := .slice (some ⟨u5.heap.size, 0, none⟩) 2 2) HWZ.out
    have hz9 : (((((u5.setCell ⟨w.heap.size, 0, none⟩ (.int .i64 (op))).setCell ⟨w.heap.size, 1, none⟩ (.int .i64 (0))).setCell ⟨w.heap.size, 2, none⟩ (.int .i64 (0))).setCell ⟨w.heap.size, 3, none⟩ (.string ⟨#[]⟩)).setCell ⟨w.heap.size, 4, none⟩ (.slice (some ⟨u5.heap.size, 0, none⟩) 2 2)).heap.size = u5.heap.size := by simp only [size_setCell]
    have hz8 : w0.heap.size ≤ (((((u5.setCell ⟨w.heap.size, 0, none⟩ (.int .i64 (op))).setCell ⟨w.heap.size, 1, none⟩ (.int .i64 (0))).setCell ⟨w.heap.size, 2, none⟩ (.int .i64 (0))).setCell ⟨w.heap.size, 3, none⟩ (.string ⟨#[]⟩)).setCell ⟨w.heap.size, 4, none⟩ (.slice (some ⟨u5.heap.size, 0, none⟩) 2 2)).heap.size := by rw [hz9]; exact HZ5.out
    generalize (((((u5.setCell ⟨w.heap.size, 0, none⟩ (.int .i64 (op))).setCell ⟨w.heap.size, 1, none⟩ (.int .i64 (0))).setCell ⟨w.heap.size, 2, none⟩ (.int .i64 (0))).setCell ⟨w.heap.size, 3, none⟩ (.string ⟨#[]⟩)).setCell ⟨w.heap.size, 4, none⟩ (.slice (some ⟨u5.heap.size, 0, none⟩) 2 2)) = w9 at *
    have hal9 : Below w9.heap.size w9 (w9.alloc (.cells #[.int .i64 t4.op, .int .i64 t4.a, .int .i64 t4.b, .string t4.name, .slice At4 t4.kids.length ct4, .int .i64 t5.op, .int .i64 t5.a, .int .i64 t5.b, .string t5.name, .slice At5 t5.kids.length ct5] 48)) := (Below.refl _ _).alloc (Nat.le_refl _) _
    have hkl : TF w0.heap.size (w9.alloc (.cells #[.int .i64 t4.op, .int .i64 t4.a, .int .i64 t4.b, .string t4.name, .slice At4 t4.kids.length ct4, .int .i64 t5.op, .int .i64 t5.a, .int .i64 t5.b, .string t5.name, .slice At5 t5.kids.length ct5] 48)) (some ⟨w9.heap.size, 0, none⟩) [t4, t5] := lit_terms (Ak := fun i => if i = 0 then At4 else if i = 1 then At5 else none) (ck := fun i => if i = 0 then ct4 else if i = 1 then ct5 else 0) hz8 (fun i k hk => by
      rcases i with _ | i
      · simp at hk; subst hk; exact ⟨HCt4.out, hxt4, fun j u hu => by
          match j, hu with
          | 0, hu => exact hu
          | 1, hu => exact hu
          | 2, hu => exact hu
          | 3, hu => exact hu
          | 4, hu => exact hu
          | j + 5, hu => simp at hu⟩
      rcases i with _ | i
      · simp at hk; subst hk; exact ⟨HCt5.out, hxt5, fun j u hu => by
          match j, hu with
          | 0, hu => exact hu
          | 1, hu => exact hu
          | 2, hu => exact hu
          | 3, hu => exact hu
          | 4, hu => exact hu
          | j + 5, hu => simp at hu⟩
      simp at hk)
    rw [hz9] at hkl
    have hb6 := (hal9.block _ (lt_of_block hb5)).trans hb5
    obtain ⟨qf, qf0, qf1, hRf, hGf⟩ := HDN
    have HDF : Drawn r p (10 + 2 * P) w (w9.alloc (.cells #[.int .i64 t4.op, .int .i64 t4.a, .int .i64 t4.b, .string t4.name, .slice At4 t4.kids.length ct4, .int .i64 t5.op, .int .i64 t5.a, .int .i64 t5.b, .string t5.name, .slice At5 t5.kids.length ct5] 48)) := ⟨qf, qf0, qf1, hRf.up hal9, hGf.up hal9⟩
    generalize w9.alloc (.cells #[.int .i64 t4.op, .int .i64 t4.a, .int .i64 t4.b, .string t4.name, .slice At4 t4.kids.length ct4, .int .i64 t5.op, .int .i64 t5.a, .int .i64 t5.b, .string t5.name, .slice At5 t5.kids.length ct5] 48) = w8 at *
    have e0 := (cell_of_block hb6 0).1
    have e1 := (cell_of_block hb6 1).1
    have e2 := (cell_of_block hb6 2).1
    have e3 := (cell_of_block hb6 3).1
    have e4 := (cell_of_block hb6 4).1
    simp at e0 e1 e2 e3 e4
    refine bodyPost_ret (v := .agg #[.int .i64 (op), .int .i64 (0), .int .i64 (0), .string ⟨#[]⟩, .slice (some ⟨u5.heap.size, 0, none⟩) 2 2]) (by simp [results, Tryz.results128, go_sem, e0, e1, e2, e3, e4]) rfl ?_
    exact ret_box HOK.out (by simp) (hkl.low HWY.out) HDF
end Go.Proofs.YtiahmfpfimmbgaaGreatDoor
