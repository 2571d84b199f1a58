/- FnBitsUn: the operations on one number are right: for any bytes the law says true. -/
import Derived.Test.YtjghcaghigebjaaDoorRows
import Derived.ProofKit
import Derived.LaidMore
import Derived.OpenShut
import Derived.Stop.Joined
import Derived.ChangeSame
import Derived.ChangeVars
import Derived.RowKitTokens
import Derived.LaidLaws
import Derived.Test.YtjghcaghigebjaaDoorTie
import Derived.Test.YtjghcaghigebjaaDoorCards
import Derived.SevenTiedAt
import Derived.Deep.QuietTactic
import Derived.BigQuiet
import Derived.Test.YtjghcaghigebjaaDoorJFnBitsUn0
import Derived.Test.YtjghcaghigebjaaDoorJFnBitsUn2
import Derived.Test.YtjghcaghigebjaaDoorJFnBitsUn3
import Derived.Test.YtjghcaghigebjaaDoorJFnBitsUn4
import Derived.Test.YtjghcaghigebjaaDoorJFnBitsUn5
import Derived.Test.YtjghcaghigebjaaDoorJFnBitsUn7
/-! The program's VecUn where the vector is right. -/
namespace Go.Proofs.YtjghcaghigebjaaDoor
open Go Go.RowKit

theorem not_u64 {n : Int} (h0 : 0 ≤ n) (h : n < 16) : bits .xor .u64 18446744073709551615 n = 18446744073709551615 - n := by
  rcases sixteen h0 h with rfl | rfl | rfl | rfl | rfl | rfl | rfl | rfl | rfl | rfl | rfl | rfl | rfl | rfl | rfl | rfl <;> rfl
theorem and_u64 (u k : Nat) (hu : u < 18446744073709551616) (hk : k < 64) : bits .and .u64 (u : Int) ((2 ^ k - 1 : Nat) : Int) = ((u % 2 ^ k : Nat) : Int) := by
  have h2 : 2 ^ k ≤ 2 ^ 63 := Nat.pow_le_pow_right (by omega) (by omega)
  have h := bits_and_u64_nat u (2 ^ k - 1) hu (by omega)
  rw [Nat.and_two_pow_sub_one_eq_mod] at h
  exact h
set_option maxHeartbeats 1000000 in
theorem cut_1 (u : Nat) (r : Int) (w : World) (hu : u < 18446744073709551616) (hr : ((u % 2 : Nat) : Int) = r) :
    Calls Tryd.prog 103 #[.int .u64 u, .int .i64 1] w fun e w' => e = .returned (.int .u64 r) ∧ w = w' := by
  have hand : bits .and .u64 (u : Int) 1 = r := by rw [← hr]; exact and_u64 u 1 hu (by omega)
  clear hr
  go_enter Tryd.func103, Tryd.ntmps103
  go_wp2
  go_ret
  exact ⟨rfl, rfl⟩
set_option maxRecDepth 100000 in
set_option maxHeartbeats 2000000 in
theorem vec_1 (n : Int) (u : Nat) (r : Int) (w : World) (hu : u < 18446744073709551616) (hr : ((u % 2 : Nat) : Int) = r) :
    Calls Tryd.prog 73 #[.agg #[.int .i64 1, .int .i64 n], .int .u64 u] w fun e w' => e = .returned (.agg #[.int .i64 1, .int .i64 r]) ∧ Below w.heap.size w w' := by
  obtain ⟨hW, hB0, hB1, hWS⟩ := two_boxes w (.cells #[.int .i64 1, .int .i64 n] 54) (.cells #[.int .i64 0, .int .i64 0] 54)
  have HW := Lib.hid hW
  have HB0 := Lib.hid hB0
  have HB1 := Lib.hid hB1
  have HCUT := Lib.hid (fun z => cut_1 u r z hu hr)
  have hr0 : 0 ≤ r := by omega
  have hr1 : r < 2 := by omega
  clear hW hB0 hB1 hWS hr
  go_enter Tryd.func73, Tryd.ntmps73
  go_wp2
  generalize hX0 : (w.alloc (.cells #[.int .i64 1, .int .i64 n] 54)).alloc (.cells #[.int .i64 0, .int .i64 0] 54) = X0 at *
  clear hX0
  refine wp_region_rel4 [[], [(0, 5)], [], [], [(3, 8)], [(2, 7), (4, 9)], [(5, 10)], [(1, 6), (6, 11)], [(7, 12)]]
    (fun _ _ => True)
    []
    (fun f9 x9 => Below w.heap.size w x9 ∧ x9.heap[w.heap.size]? = some (.cells #[.int .i64 1, .int .i64 n] 54 (0, 0)) ∧ (f9 8 = false → x9.heap[w.heap.size + 1]? = some (.cells #[.int .i64 0, .int .i64 0] 54 (0, 0))) ∧ (f9 8 = true → x9.heap[w.heap.size + 1]? = some (.cells #[.int .i64 1, .int .i64 r] 54 (0, 0))))
    [fun vs9 _ => vs9 0 = (.pointer (some ⟨w.heap.size, 0, none⟩)),
    fun vs9 _ => vs9 1 = (.int .i64 1),
    fun vs9 _ => vs9 2 = (.int .u64 (u : Int)),
    fun vs9 _ => vs9 3 = (.pointer (some ⟨w.heap.size, 0, none⟩)),
    fun vs9 _ => vs9 4 = (.int .i64 1),
    fun vs9 _ => vs9 5 = (.int .u64 r),
    fun vs9 _ => vs9 6 = (.int .i64 r),
    fun vs9 _ => vs9 7 = (.agg #[.int .i64 1, .int .i64 r]),
    fun _ _ => True]
    [(0, 5), (1, 6), (2, 7), (3, 8), (4, 9), (5, 10), (6, 11), (7, 12)] (by kernel_rfl) (by kernel_rfl) (by kernel_rfl) (by kernel_rfl)
    (fun _ => trivial) trivial
    ⟨⟨.inr (fun _ _ _ h _ => h), trivial⟩,
    ⟨.inr (fun _ _ _ h _ => h), trivial⟩,
    ⟨.inr (fun _ _ _ h _ => h), trivial⟩,
    ⟨.inr (fun _ _ _ h _ => h), trivial⟩,
    ⟨.inr (fun _ _ _ h _ => h), trivial⟩,
    ⟨.inr (fun _ _ _ h _ => h), trivial⟩,
    ⟨.inr (fun _ _ _ h _ => h), trivial⟩,
    ⟨.inr (fun _ _ _ h _ => h), trivial⟩,
    ⟨.inr (fun _ _ _ h _ => h), trivial⟩, trivial⟩ ⟨fun vs vs' x h _ hv => (by dsimp only at hv ⊢; first | (rw [← h]; exact hv) | exact hv),
    fun vs vs' x h _ hv => (by dsimp only at hv ⊢; first | (rw [← h]; exact hv) | exact hv),
    fun vs vs' x h _ hv => (by dsimp only at hv ⊢; first | (rw [← h]; exact hv) | exact hv),
    fun vs vs' x h _ hv => (by dsimp only at hv ⊢; first | (rw [← h]; exact hv) | exact hv),
    fun vs vs' x h _ hv => (by dsimp only at hv ⊢; first | (rw [← h]; exact hv) | exact hv),
    fun vs vs' x h _ hv => (by dsimp only at hv ⊢; first | (rw [← h]; exact hv) | exact hv),
    fun vs vs' x h _ hv => (by dsimp only at hv ⊢; first | (rw [← h]; exact hv) | exact hv),
    fun vs vs' x h _ hv => (by dsimp only at hv ⊢; first | (rw [← h]; exact hv) | exact hv),
    fun _ _ _ _ _ _ => trivial, trivial⟩ (⟨HW.out.trans (below_drewN (Below.refl _ _) 1 |>.mono HW.out.size), HB0.out, fun _ => HB1.out, fun h => by cases h⟩) ⟨?_, ?_, ?_, ?_, ?_, ?_, ?_, ?_, ?_, trivial⟩ ?_
  · intro vals xw f hf1 hf2 hf3 hI hF
    clear hf2 hf3
    dsimp only [owes4, bare]
    simp only [putsD, Act.put, List.setIfInBounds_toArray, List.set_cons_zero, List.set_cons_succ]
    go_wp2
    exact ⟨rfl, rfl, trivial, hI⟩
  · intro vals xw f hf1 hf2 hf3 hI hF
    clear hf2 hf3
    simp only [saysD, List.getD_cons_zero, List.getD_cons_succ, and_true] at hF
    have e1 := hF
    dsimp only [owes4, bare]
    simp only [putsD, Act.put, List.setIfInBounds_toArray, List.set_cons_zero, List.set_cons_succ]
    simp only [e1]
    have v0 := (cell_of_block hI.2.1 0).1
    go_wp2
    exact ⟨rfl, rfl, trivial, hI⟩
  · intro vals xw f hf1 hf2 hf3 hI hF
    clear hf2 hf3
    dsimp only [owes4, bare]
    simp only [putsD, Act.put, List.setIfInBounds_toArray, List.set_cons_zero, List.set_cons_succ]
    go_wp2
    exact ⟨rfl, rfl, trivial, hI⟩
  · intro vals xw f hf1 hf2 hf3 hI hF
    clear hf2 hf3
    dsimp only [owes4, bare]
    simp only [putsD, Act.put, List.setIfInBounds_toArray, List.set_cons_zero, List.set_cons_succ]
    go_wp2
    exact ⟨rfl, rfl, trivial, hI⟩
  · intro vals xw f hf1 hf2 hf3 hI hF
    clear hf2 hf3
    simp only [saysD, List.getD_cons_zero, List.getD_cons_succ, and_true] at hF
    have e1 := hF
    dsimp only [owes4, bare]
    simp only [putsD, Act.put, List.setIfInBounds_toArray, List.set_cons_zero, List.set_cons_succ]
    simp only [e1]
    have v0 := (cell_of_block hI.2.1 0).1
    go_wp2
    exact ⟨rfl, rfl, trivial, hI⟩
  · intro vals xw f hf1 hf2 hf3 hI hF
    clear hf2 hf3
    simp only [saysD, List.getD_cons_zero, List.getD_cons_succ, and_true] at hF
    obtain ⟨e1, e2⟩ := hF
    dsimp only [owes4, bare]
    simp only [putsD, Act.put, List.setIfInBounds_toArray, List.set_cons_zero, List.set_cons_succ]
    simp only [e1, e2]
    go_wp2_with fail
    refine (HCUT.out _).mono ?_
    rintro e wx ⟨rfl, rfl⟩
    go_wp2
    exact ⟨rfl, rfl, trivial, hI⟩
  · intro vals xw f hf1 hf2 hf3 hI hF
    clear hf2 hf3
    simp only [saysD, List.getD_cons_zero, List.getD_cons_succ, and_true] at hF
    have e1 := hF
    dsimp only [owes4, bare]
    simp only [putsD, Act.put, List.setIfInBounds_toArray, List.set_cons_zero, List.set_cons_succ]
    simp only [e1]
    go_wp2
    exact ⟨rfl, rfl, trivial, hI⟩
  · intro vals xw f hf1 hf2 hf3 hI hF
    clear hf2 hf3
    simp only [saysD, List.getD_cons_zero, List.getD_cons_succ, and_true] at hF
    obtain ⟨e1, e2⟩ := hF
    dsimp only [owes4, bare]
    simp only [putsD, Act.put, List.setIfInBounds_toArray, List.set_cons_zero, List.set_cons_succ]
    simp only [e1, e2]
    go_wp2
    exact ⟨rfl, rfl, trivial, hI⟩
  · intro vals xw f hf1 hf2 hf3 hI hF
    clear hf2 hf3
    simp only [saysD, List.getD_cons_zero, List.getD_cons_succ, and_true] at hF
    have e1 := hF
    dsimp only [owes4, bare]
    simp only [putsD, Act.put, List.setIfInBounds_toArray, List.set_cons_zero, List.set_cons_succ]
    simp only [e1]
    obtain ⟨i1, i2, i3, i4⟩ := hI
    have j3 := i3 hf1
    have v0 := (cell_of_block j3 0).1
    have v1 := (cell_of_block j3 1).1
    have f0 := (cell_of_block j3 0).2
    have f1 := (cell_of_block j3 1).2
    have I1 := Lib.hid i1
    have I2 := Lib.hid i2
    have J3 := Lib.hid j3
    clear i1 i2 i3 i4 j3
    go_wp2
    have h2 := heap_set_same _ (w.heap.size + 1) 1 (.int .i64 r) _ _ (heap_set_same xw (w.heap.size + 1) 0 (.int .i64 1) _ _ J3.out)
    exact ⟨rfl, trivial, trivial, below_set (below_set I1.out (by show w.heap.size ≤ w.heap.size + 1; omega) _) (by show w.heap.size ≤ w.heap.size + 1; omega) _, (heap_setCell_other _ _ _ _ (by show w.heap.size ≠ w.heap.size + 1; omega)).trans ((heap_setCell_other _ _ _ _ (by show w.heap.size ≠ w.heap.size + 1; omega)).trans I2.out), fun h => absurd ((did_same f 8).symm.trans h) (by simp), fun _ => h2⟩
  · intro vals xw f hall hI hF
    rw [show List.range _ = [0, 1, 2, 3, 4, 5, 6, 7, 8] from rfl] at hF
    simp only [says, List.getD_cons_zero, List.getD_cons_succ, and_true] at hF
    obtain ⟨i1, i2, i3, i4⟩ := hI
    have j4 := i4 (hall 8 (by decide))
    have k5 := (cell_of_block j4 0).1
    have k6 := (cell_of_block j4 1).1
    have kf5 := (cell_of_block j4 0).2
    have kf6 := (cell_of_block j4 1).2
    have I1 := Lib.hid i1
    clear i1 i2 i3 i4 j4 hF
    simp only [putsD, Act.put, List.setIfInBounds_toArray, List.set_cons_zero, List.set_cons_succ]
    go_wp2
    refine bodyPost_ret (v := .agg #[.int .i64 1, .int .i64 r]) (by simp [results, Tryd.results73, go_sem, k5, k6, kf5, kf6]) rfl ?_
    exact ⟨rfl, I1.out⟩
set_option maxRecDepth 100000 in
set_option maxHeartbeats 2000000 in
theorem vecUn_1_1 (n : Int) (w : World) (n0 : 0 ≤ n) (hn : n < 2) :
    Calls Tryd.prog 37 #[.int .i64 1, .agg #[.int .i64 1, .int .i64 n]] w fun e w' => e = .returned (.tuple #[.agg #[.int .i64 1, .int .i64 (unV 1 1 n)], .bool true]) ∧ Below w.heap.size w w' := by
  obtain ⟨hW, hB0, hB1, hWS⟩ := two_boxes w (.cells #[.int .i64 1, .int .i64 n] 54) (.cells #[.int .i64 0, .int .i64 0] 54)
  obtain ⟨u, hu⟩ : ∃ u : Nat, (u : Int) = 18446744073709551615 - n := ⟨(18446744073709551615 - n).toNat, by omega⟩
  obtain ⟨r, hr⟩ : ∃ r : Int, r = unV 1 1 n := ⟨_, rfl⟩
  rw [← hr]
  have hr2 : ((u % 2 : Nat) : Int) = r := by rw [hr]; unfold unV; simp; omega
  have hul : u < 18446744073709551616 := by omega
  have HW := Lib.hid hW
  have HB1 := Lib.hid hB1
  have HOK := Lib.hid (fun z => vecOk_any 1 n z (by omega) (by omega) n0 (by simpa using hn))
  have HRAW := Lib.hid (fun z => raw_any 1 n z n0 (by omega))
  have HVEC := Lib.hid (fun z => vec_1 n u r z hul hr2)
  have HUX : Hid (bits .xor .u64 IntKind.u64.max n = (u : Int)) := Lib.hid (by rw [hu]; exact not_u64 n0 (by omega))
  have HB0 := Lib.hid hB0
  have v0 := (cell_of_block hB0 0).1
  have v1 := (cell_of_block hB0 1).1
  simp only [Int.cast_ofNat_Int] at HOK HRAW
  clear hW hB0 hB1 hWS hu hr hr2 hul
  go_enter Tryd.func37, Tryd.ntmps37
  go_wp2_with fail
  clear v0 v1
  refine (HOK.out _).mono ?_
  generalize hX0 : (w.alloc (.cells #[.int .i64 1, .int .i64 n] 54)).alloc (.cells #[.int .i64 0, .int .i64 0] 54) = X0 at *
  clear hX0
  rintro e w1 ⟨rfl, hb1⟩
  have HB0 := Lib.hid ((hb1.block _ (lt_of_block HB0.out)).trans HB0.out)
  have HB1 := Lib.hid ((hb1.block _ (lt_of_block HB1.out)).trans HB1.out)
  have HW := Lib.hid (bthen HW.out hb1)
  clear hb1 HOK
  go_wp2
  refine wp_region_rel4 [[], [], [(1, 15)], [(2, 16)], [(0, 14), (3, 17)], [(4, 18)], []]
    (fun _ _ => True)
    []
    (fun f9 x9 => Below w.heap.size w x9 ∧ x9.heap[w.heap.size]? = some (.cells #[.int .i64 1, .int .i64 n] 54 (0, 0)) ∧ (f9 5 = false → x9.heap[w.heap.size + 1]? = some (.cells #[.int .i64 0, .int .i64 0] 54 (0, 0))) ∧ (f9 5 = true → x9.heap[w.heap.size + 1]? = some (.cells #[.int .i64 1, .int .i64 r] 54 (0, 0))))
    [fun vs9 _ => vs9 0 = (.agg #[.int .i64 1, .int .i64 n]),
    fun vs9 _ => vs9 1 = (.agg #[.int .i64 1, .int .i64 n]),
    fun vs9 _ => vs9 2 = (.int .u64 n),
    fun vs9 _ => vs9 3 = (.int .u64 (u : Int)),
    fun vs9 _ => vs9 4 = (.agg #[.int .i64 1, .int .i64 r]),
    fun _ _ => True,
    fun vs9 _ => vs9 6 = (.bool true)]
    [(0, 14), (1, 15), (2, 16), (3, 17), (4, 18), (6, 5)] (by kernel_rfl) (by kernel_rfl) (by kernel_rfl) (by kernel_rfl)
    (fun _ => trivial) trivial
    ⟨⟨.inr (fun _ _ _ h _ => h), trivial⟩,
    ⟨.inr (fun _ _ _ h _ => h), trivial⟩,
    ⟨.inr (fun _ _ _ h _ => h), trivial⟩,
    ⟨.inr (fun _ _ _ h _ => h), trivial⟩,
    ⟨.inr (fun _ _ _ h _ => h), trivial⟩,
    ⟨.inr (fun _ _ _ h _ => h), trivial⟩,
    ⟨.inr (fun _ _ _ h _ => h), trivial⟩, trivial⟩ ⟨fun vs vs' x h _ hv => (by dsimp only at hv ⊢; first | (rw [← h]; exact hv) | exact hv),
    fun vs vs' x h _ hv => (by dsimp only at hv ⊢; first | (rw [← h]; exact hv) | exact hv),
    fun vs vs' x h _ hv => (by dsimp only at hv ⊢; first | (rw [← h]; exact hv) | exact hv),
    fun vs vs' x h _ hv => (by dsimp only at hv ⊢; first | (rw [← h]; exact hv) | exact hv),
    fun vs vs' x h _ hv => (by dsimp only at hv ⊢; first | (rw [← h]; exact hv) | exact hv),
    fun _ _ _ _ _ _ => trivial,
    fun vs vs' x h _ hv => (by dsimp only at hv ⊢; first | (rw [← h]; exact hv) | exact hv), trivial⟩ (⟨bthen HW.out (below_drewN (Below.refl _ _) 1), HB0.out, fun _ => HB1.out, fun h => by cases h⟩) ⟨?_, ?_, ?_, ?_, ?_, ?_, ?_, trivial⟩ ?_
  · intro vals xw f hf1 hf2 hf3 hI hF
    clear hf2 hf3
    dsimp only [owes4, bare]
    simp only [putsD, Act.put, List.setIfInBounds_toArray, List.set_cons_zero, List.set_cons_succ]
    have v0 := (cell_of_block hI.2.1 0).1
    have v1 := (cell_of_block hI.2.1 1).1
    go_wp2
    exact ⟨rfl, rfl, trivial, hI⟩
  · intro vals xw f hf1 hf2 hf3 hI hF
    clear hf2 hf3
    dsimp only [owes4, bare]
    simp only [putsD, Act.put, List.setIfInBounds_toArray, List.set_cons_zero, List.set_cons_succ]
    have v0 := (cell_of_block hI.2.1 0).1
    have v1 := (cell_of_block hI.2.1 1).1
    go_wp2
    exact ⟨rfl, rfl, trivial, hI⟩
  · intro vals xw f hf1 hf2 hf3 hI hF
    clear hf2 hf3
    simp only [saysD, List.getD_cons_zero, List.getD_cons_succ, and_true] at hF
    have e1 := hF
    dsimp only [owes4, bare]
    simp only [putsD, Act.put, List.setIfInBounds_toArray, List.set_cons_zero, List.set_cons_succ]
    simp only [e1]
    have HI := Lib.hid hI
    clear hI
    go_wp2_with fail
    refine (HRAW.out _).mono ?_
    rintro e wx ⟨rfl, hb9⟩
    have HQ := Lib.hid (show (fun f9 x9 => Below w.heap.size w x9 ∧ x9.heap[w.heap.size]? = some (.cells #[.int .i64 1, .int .i64 n] 54 (0, 0)) ∧ (f9 5 = false → x9.heap[w.heap.size + 1]? = some (.cells #[.int .i64 0, .int .i64 0] 54 (0, 0))) ∧ (f9 5 = true → x9.heap[w.heap.size + 1]? = some (.cells #[.int .i64 1, .int .i64 r] 54 (0, 0)))) (did f 2) wx from (by exact ⟨bthen HI.out.1 hb9, (hb9.block _ (lt_of_block HI.out.2.1)).trans HI.out.2.1, fun h => (hb9.block _ (lt_of_block (HI.out.2.2.1 h))).trans (HI.out.2.2.1 h), fun h => (hb9.block _ (lt_of_block (HI.out.2.2.2 h))).trans (HI.out.2.2.2 h)⟩))
    clear hb9
    go_wp2
    exact ⟨rfl, rfl, trivial, HQ.out⟩
  · intro vals xw f hf1 hf2 hf3 hI hF
    clear hf2 hf3
    simp only [saysD, List.getD_cons_zero, List.getD_cons_succ, and_true] at hF
    have e1 := hF
    dsimp only [owes4, bare]
    simp only [putsD, Act.put, List.setIfInBounds_toArray, List.set_cons_zero, List.set_cons_succ]
    simp only [e1]
    have ux := HUX.out
    go_wp2
    exact ⟨rfl, rfl, trivial, hI⟩
  · intro vals xw f hf1 hf2 hf3 hI hF
    clear hf2 hf3
    simp only [saysD, List.getD_cons_zero, List.getD_cons_succ, and_true] at hF
    obtain ⟨e1, e2⟩ := hF
    dsimp only [owes4, bare]
    simp only [putsD, Act.put, List.setIfInBounds_toArray, List.set_cons_zero, List.set_cons_succ]
    simp only [e1, e2]
    have HI := Lib.hid hI
    clear hI
    go_wp2_with fail
    refine (HVEC.out _).mono ?_
    rintro e wx ⟨rfl, hb9⟩
    have HQ := Lib.hid (show (fun f9 x9 => Below w.heap.size w x9 ∧ x9.heap[w.heap.size]? = some (.cells #[.int .i64 1, .int .i64 n] 54 (0, 0)) ∧ (f9 5 = false → x9.heap[w.heap.size + 1]? = some (.cells #[.int .i64 0, .int .i64 0] 54 (0, 0))) ∧ (f9 5 = true → x9.heap[w.heap.size + 1]? = some (.cells #[.int .i64 1, .int .i64 r] 54 (0, 0)))) (did f 4) wx from (by exact ⟨bthen HI.out.1 hb9, (hb9.block _ (lt_of_block HI.out.2.1)).trans HI.out.2.1, fun h => (hb9.block _ (lt_of_block (HI.out.2.2.1 h))).trans (HI.out.2.2.1 h), fun h => (hb9.block _ (lt_of_block (HI.out.2.2.2 h))).trans (HI.out.2.2.2 h)⟩))
    clear hb9
    go_wp2
    exact ⟨rfl, rfl, trivial, HQ.out⟩
  · intro vals xw f hf1 hf2 hf3 hI hF
    clear hf2 hf3
    simp only [saysD, List.getD_cons_zero, List.getD_cons_succ, and_true] at hF
    have e1 := hF
    dsimp only [owes4, bare]
    simp only [putsD, Act.put, List.setIfInBounds_toArray, List.set_cons_zero, List.set_cons_succ]
    simp only [e1]
    obtain ⟨i1, i2, i3, i4⟩ := hI
    have j3 := i3 hf1
    have v0 := (cell_of_block j3 0).1
    have v1 := (cell_of_block j3 1).1
    have f0 := (cell_of_block j3 0).2
    have f1 := (cell_of_block j3 1).2
    have I1 := Lib.hid i1
    have I2 := Lib.hid i2
    have J3 := Lib.hid j3
    clear i1 i2 i3 i4 j3
    go_wp2
    have h2 := heap_set_same _ (w.heap.size + 1) 1 (.int .i64 r) _ _ (heap_set_same xw (w.heap.size + 1) 0 (.int .i64 1) _ _ J3.out)
    exact ⟨rfl, trivial, trivial, below_set (below_set I1.out (by show w.heap.size ≤ w.heap.size + 1; omega) _) (by show w.heap.size ≤ w.heap.size + 1; omega) _, (heap_setCell_other _ _ _ _ (by show w.heap.size ≠ w.heap.size + 1; omega)).trans ((heap_setCell_other _ _ _ _ (by show w.heap.size ≠ w.heap.size + 1; omega)).trans I2.out), fun h => absurd ((did_same f 5).symm.trans h) (by simp), fun _ => h2⟩
  · intro vals xw f hf1 hf2 hf3 hI hF
    clear hf2 hf3
    dsimp only [owes4, bare]
    simp only [putsD, Act.put, List.setIfInBounds_toArray, List.set_cons_zero, List.set_cons_succ]
    go_wp2
    exact ⟨rfl, rfl, trivial, hI⟩
  · intro vals xw f hall hI hF
    rw [show List.range _ = [0, 1, 2, 3, 4, 5, 6] from rfl] at hF
    simp only [says, List.getD_cons_zero, List.getD_cons_succ, and_true] at hF
    obtain ⟨i1, i2, i3, i4⟩ := hI
    have j4 := i4 (hall 5 (by decide))
    have k5 := (cell_of_block j4 0).1
    have k6 := (cell_of_block j4 1).1
    have kf5 := (cell_of_block j4 0).2
    have kf6 := (cell_of_block j4 1).2
    have e9 : vals 6 = .bool true := by obtain ⟨_, _, _, _, _, _, e9⟩ := hF; exact e9
    have I1 := Lib.hid i1
    clear i1 i2 i3 i4 j4 hF
    simp only [putsD, Act.put, List.setIfInBounds_toArray, List.set_cons_zero, List.set_cons_succ]
    simp only [e9]
    clear e9
    go_wp2
    refine bodyPost_ret (v := .tuple #[.agg #[.int .i64 1, .int .i64 r], .bool true]) (by simp [results, Tryd.results37, go_sem, k5, k6, kf5, kf6]) rfl ?_
    exact ⟨rfl, I1.out⟩
set_option maxRecDepth 100000 in
set_option maxHeartbeats 2000000 in
theorem vecUn_1_2 (n : Int) (w : World) (n0 : 0 ≤ n) (hn : n < 2) :
    Calls Tryd.prog 37 #[.int .i64 2, .agg #[.int .i64 1, .int .i64 n]] w fun e w' => e = .returned (.tuple #[.agg #[.int .i64 1, .int .i64 (unV 2 1 n)], .bool true]) ∧ Below w.heap.size w w' := by
  obtain ⟨hW, hB0, hB1, hWS⟩ := two_boxes w (.cells #[.int .i64 1, .int .i64 n] 54) (.cells #[.int .i64 0, .int .i64 0] 54)
  obtain ⟨u, hu⟩ : ∃ u : Nat, (u : Int) = (18446744073709551616 - n) % 18446744073709551616 := ⟨((18446744073709551616 - n) % 18446744073709551616).toNat, by omega⟩
  obtain ⟨r, hr⟩ : ∃ r : Int, r = unV 2 1 n := ⟨_, rfl⟩
  rw [← hr]
  have hr2 : ((u % 2 : Nat) : Int) = r := by rw [hr]; unfold unV; simp; omega
  have hul : u < 18446744073709551616 := by omega
  have HW := Lib.hid hW
  have HB1 := Lib.hid hB1
  have HOK := Lib.hid (fun z => vecOk_any 1 n z (by omega) (by omega) n0 (by simpa using hn))
  have HRAW := Lib.hid (fun z => raw_any 1 n z n0 (by omega))
  have HVEC := Lib.hid (fun z => vec_1 n u r z hul hr2)
  have HUX : Hid (IntKind.u64.wrap (-n) = (u : Int)) := Lib.hid (by rw [hu]; rw [IntKind.wrap_u64]; omega)
  have HB0 := Lib.hid hB0
  have v0 := (cell_of_block hB0 0).1
  have v1 := (cell_of_block hB0 1).1
  simp only [Int.cast_ofNat_Int] at HOK HRAW
  clear hW hB0 hB1 hWS hu hr hr2 hul
  go_enter Tryd.func37, Tryd.ntmps37
  go_wp2_with fail
  clear v0 v1
  refine (HOK.out _).mono ?_
  generalize hX0 : (w.alloc (.cells #[.int .i64 1, .int .i64 n] 54)).alloc (.cells #[.int .i64 0, .int .i64 0] 54) = X0 at *
  clear hX0
  rintro e w1 ⟨rfl, hb1⟩
  have HB0 := Lib.hid ((hb1.block _ (lt_of_block HB0.out)).trans HB0.out)
  have HB1 := Lib.hid ((hb1.block _ (lt_of_block HB1.out)).trans HB1.out)
  have HW := Lib.hid (bthen HW.out hb1)
  clear hb1 HOK
  go_wp2
  refine wp_region_rel4 [[], [], [(1, 23)], [(2, 24)], [(0, 22), (3, 25)], [(4, 26)], []]
    (fun _ _ => True)
    []
    (fun f9 x9 => Below w.heap.size w x9 ∧ x9.heap[w.heap.size]? = some (.cells #[.int .i64 1, .int .i64 n] 54 (0, 0)) ∧ (f9 5 = false → x9.heap[w.heap.size + 1]? = some (.cells #[.int .i64 0, .int .i64 0] 54 (0, 0))) ∧ (f9 5 = true → x9.heap[w.heap.size + 1]? = some (.cells #[.int .i64 1, .int .i64 r] 54 (0, 0))))
    [fun vs9 _ => vs9 0 = (.agg #[.int .i64 1, .int .i64 n]),
    fun vs9 _ => vs9 1 = (.agg #[.int .i64 1, .int .i64 n]),
    fun vs9 _ => vs9 2 = (.int .u64 n),
    fun vs9 _ => vs9 3 = (.int .u64 (u : Int)),
    fun vs9 _ => vs9 4 = (.agg #[.int .i64 1, .int .i64 r]),
    fun _ _ => True,
    fun vs9 _ => vs9 6 = (.bool true)]
    [(0, 22), (1, 23), (2, 24), (3, 25), (4, 26), (6, 5)] (by kernel_rfl) (by kernel_rfl) (by kernel_rfl) (by kernel_rfl)
    (fun _ => trivial) trivial
    ⟨⟨.inr (fun _ _ _ h _ => h), trivial⟩,
    ⟨.inr (fun _ _ _ h _ => h), trivial⟩,
    ⟨.inr (fun _ _ _ h _ => h), trivial⟩,
    ⟨.inr (fun _ _ _ h _ => h), trivial⟩,
    ⟨.inr (fun _ _ _ h _ => h), trivial⟩,
    ⟨.inr (fun _ _ _ h _ => h), trivial⟩,
    ⟨.inr (fun _ _ _ h _ => h), trivial⟩, trivial⟩ ⟨fun vs vs' x h _ hv => (by dsimp only at hv ⊢; first | (rw [← h]; exact hv) | exact hv),
    fun vs vs' x h _ hv => (by dsimp only at hv ⊢; first | (rw [← h]; exact hv) | exact hv),
    fun vs vs' x h _ hv => (by dsimp only at hv ⊢; first | (rw [← h]; exact hv) | exact hv),
    fun vs vs' x h _ hv => (by dsimp only at hv ⊢; first | (rw [← h]; exact hv) | exact hv),
    fun vs vs' x h _ hv => (by dsimp only at hv ⊢; first | (rw [← h]; exact hv) | exact hv),
    fun _ _ _ _ _ _ => trivial,
    fun vs vs' x h _ hv => (by dsimp only at hv ⊢; first | (rw [← h]; exact hv) | exact hv), trivial⟩ (⟨bthen HW.out (below_drewN (Below.refl _ _) 1), HB0.out, fun _ => HB1.out, fun h => by cases h⟩) ⟨?_, ?_, ?_, ?_, ?_, ?_, ?_, trivial⟩ ?_
  · intro vals xw f hf1 hf2 hf3 hI hF
    clear hf2 hf3
    dsimp only [owes4, bare]
    simp only [putsD, Act.put, List.setIfInBounds_toArray, List.set_cons_zero, List.set_cons_succ]
    have v0 := (cell_of_block hI.2.1 0).1
    have v1 := (cell_of_block hI.2.1 1).1
    go_wp2
    exact ⟨rfl, rfl, trivial, hI⟩
  · intro vals xw f hf1 hf2 hf3 hI hF
    clear hf2 hf3
    dsimp only [owes4, bare]
    simp only [putsD, Act.put, List.setIfInBounds_toArray, List.set_cons_zero, List.set_cons_succ]
    have v0 := (cell_of_block hI.2.1 0).1
    have v1 := (cell_of_block hI.2.1 1).1
    go_wp2
    exact ⟨rfl, rfl, trivial, hI⟩
  · intro vals xw f hf1 hf2 hf3 hI hF
    clear hf2 hf3
    simp only [saysD, List.getD_cons_zero, List.getD_cons_succ, and_true] at hF
    have e1 := hF
    dsimp only [owes4, bare]
    simp only [putsD, Act.put, List.setIfInBounds_toArray, List.set_cons_zero, List.set_cons_succ]
    simp only [e1]
    have HI := Lib.hid hI
    clear hI
    go_wp2_with fail
    refine (HRAW.out _).mono ?_
    rintro e wx ⟨rfl, hb9⟩
    have HQ := Lib.hid (show (fun f9 x9 => Below w.heap.size w x9 ∧ x9.heap[w.heap.size]? = some (.cells #[.int .i64 1, .int .i64 n] 54 (0, 0)) ∧ (f9 5 = false → x9.heap[w.heap.size + 1]? = some (.cells #[.int .i64 0, .int .i64 0] 54 (0, 0))) ∧ (f9 5 = true → x9.heap[w.heap.size + 1]? = some (.cells #[.int .i64 1, .int .i64 r] 54 (0, 0)))) (did f 2) wx from (by exact ⟨bthen HI.out.1 hb9, (hb9.block _ (lt_of_block HI.out.2.1)).trans HI.out.2.1, fun h => (hb9.block _ (lt_of_block (HI.out.2.2.1 h))).trans (HI.out.2.2.1 h), fun h => (hb9.block _ (lt_of_block (HI.out.2.2.2 h))).trans (HI.out.2.2.2 h)⟩))
    clear hb9
    go_wp2
    exact ⟨rfl, rfl, trivial, HQ.out⟩
  · intro vals xw f hf1 hf2 hf3 hI hF
    clear hf2 hf3
    simp only [saysD, List.getD_cons_zero, List.getD_cons_succ, and_true] at hF
    have e1 := hF
    dsimp only [owes4, bare]
    simp only [putsD, Act.put, List.setIfInBounds_toArray, List.set_cons_zero, List.set_cons_succ]
    simp only [e1]
    have ux := HUX.out
    go_wp2
    exact ⟨rfl, rfl, trivial, hI⟩
  · intro vals xw f hf1 hf2 hf3 hI hF
    clear hf2 hf3
    simp only [saysD, List.getD_cons_zero, List.getD_cons_succ, and_true] at hF
    obtain ⟨e1, e2⟩ := hF
    dsimp only [owes4, bare]
    simp only [putsD, Act.put, List.setIfInBounds_toArray, List.set_cons_zero, List.set_cons_succ]
    simp only [e1, e2]
    have HI := Lib.hid hI
    clear hI
    go_wp2_with fail
    refine (HVEC.out _).mono ?_
    rintro e wx ⟨rfl, hb9⟩
    have HQ := Lib.hid (show (fun f9 x9 => Below w.heap.size w x9 ∧ x9.heap[w.heap.size]? = some (.cells #[.int .i64 1, .int .i64 n] 54 (0, 0)) ∧ (f9 5 = false → x9.heap[w.heap.size + 1]? = some (.cells #[.int .i64 0, .int .i64 0] 54 (0, 0))) ∧ (f9 5 = true → x9.heap[w.heap.size + 1]? = some (.cells #[.int .i64 1, .int .i64 r] 54 (0, 0)))) (did f 4) wx from (by exact ⟨bthen HI.out.1 hb9, (hb9.block _ (lt_of_block HI.out.2.1)).trans HI.out.2.1, fun h => (hb9.block _ (lt_of_block (HI.out.2.2.1 h))).trans (HI.out.2.2.1 h), fun h => (hb9.block _ (lt_of_block (HI.out.2.2.2 h))).trans (HI.out.2.2.2 h)⟩))
    clear hb9
    go_wp2
    exact ⟨rfl, rfl, trivial, HQ.out⟩
  · intro vals xw f hf1 hf2 hf3 hI hF
    clear hf2 hf3
    simp only [saysD, List.getD_cons_zero, List.getD_cons_succ, and_true] at hF
    have e1 := hF
    dsimp only [owes4, bare]
    simp only [putsD, Act.put, List.setIfInBounds_toArray, List.set_cons_zero, List.set_cons_succ]
    simp only [e1]
    obtain ⟨i1, i2, i3, i4⟩ := hI
    have j3 := i3 hf1
    have v0 := (cell_of_block j3 0).1
    have v1 := (cell_of_block j3 1).1
    have f0 := (cell_of_block j3 0).2
    have f1 := (cell_of_block j3 1).2
    have I1 := Lib.hid i1
    have I2 := Lib.hid i2
    have J3 := Lib.hid j3
    clear i1 i2 i3 i4 j3
    go_wp2
    have h2 := heap_set_same _ (w.heap.size + 1) 1 (.int .i64 r) _ _ (heap_set_same xw (w.heap.size + 1) 0 (.int .i64 1) _ _ J3.out)
    exact ⟨rfl, trivial, trivial, below_set (below_set I1.out (by show w.heap.size ≤ w.heap.size + 1; omega) _) (by show w.heap.size ≤ w.heap.size + 1; omega) _, (heap_setCell_other _ _ _ _ (by show w.heap.size ≠ w.heap.size + 1; omega)).trans ((heap_setCell_other _ _ _ _ (by show w.heap.size ≠ w.heap.size + 1; omega)).trans I2.out), fun h => absurd ((did_same f 5).symm.trans h) (by simp), fun _ => h2⟩
  · intro vals xw f hf1 hf2 hf3 hI hF
    clear hf2 hf3
    dsimp only [owes4, bare]
    simp only [putsD, Act.put, List.setIfInBounds_toArray, List.set_cons_zero, List.set_cons_succ]
    go_wp2
    exact ⟨rfl, rfl, trivial, hI⟩
  · intro vals xw f hall hI hF
    rw [show List.range _ = [0, 1, 2, 3, 4, 5, 6] from rfl] at hF
    simp only [says, List.getD_cons_zero, List.getD_cons_succ, and_true] at hF
    obtain ⟨i1, i2, i3, i4⟩ := hI
    have j4 := i4 (hall 5 (by decide))
    have k5 := (cell_of_block j4 0).1
    have k6 := (cell_of_block j4 1).1
    have kf5 := (cell_of_block j4 0).2
    have kf6 := (cell_of_block j4 1).2
    have e9 : vals 6 = .bool true := by obtain ⟨_, _, _, _, _, _, e9⟩ := hF; exact e9
    have I1 := Lib.hid i1
    clear i1 i2 i3 i4 j4 hF
    simp only [putsD, Act.put, List.setIfInBounds_toArray, List.set_cons_zero, List.set_cons_succ]
    simp only [e9]
    clear e9
    go_wp2
    refine bodyPost_ret (v := .tuple #[.agg #[.int .i64 1, .int .i64 r], .bool true]) (by simp [results, Tryd.results37, go_sem, k5, k6, kf5, kf6]) rfl ?_
    exact ⟨rfl, I1.out⟩
set_option maxHeartbeats 1000000 in
theorem cut_2 (u : Nat) (r : Int) (w : World) (hu : u < 18446744073709551616) (hr : ((u % 4 : Nat) : Int) = r) :
    Calls Tryd.prog 103 #[.int .u64 u, .int .i64 2] w fun e w' => e = .returned (.int .u64 r) ∧ w = w' := by
  have hand : bits .and .u64 (u : Int) 3 = r := by rw [← hr]; exact and_u64 u 2 hu (by omega)
  clear hr
  go_enter Tryd.func103, Tryd.ntmps103
  go_wp2
  go_ret
  exact ⟨rfl, rfl⟩
set_option maxRecDepth 100000 in
set_option maxHeartbeats 2000000 in
theorem vec_2 (n : Int) (u : Nat) (r : Int) (w : World) (hu : u < 18446744073709551616) (hr : ((u % 4 : Nat) : Int) = r) :
    Calls Tryd.prog 73 #[.agg #[.int .i64 2, .int .i64 n], .int .u64 u] w fun e w' => e = .returned (.agg #[.int .i64 2, .int .i64 r]) ∧ Below w.heap.size w w' := by
  obtain ⟨hW, hB0, hB1, hWS⟩ := two_boxes w (.cells #[.int .i64 2, .int .i64 n] 54) (.cells #[.int .i64 0, .int .i64 0] 54)
  have HW := Lib.hid hW
  have HB0 := Lib.hid hB0
  have HB1 := Lib.hid hB1
  have HCUT := Lib.hid (fun z => cut_2 u r z hu hr)
  have hr0 : 0 ≤ r := by omega
  have hr1 : r < 4 := by omega
  clear hW hB0 hB1 hWS hr
  go_enter Tryd.func73, Tryd.ntmps73
  go_wp2
  generalize hX0 : (w.alloc (.cells #[.int .i64 2, .int .i64 n] 54)).alloc (.cells #[.int .i64 0, .int .i64 0] 54) = X0 at *
  clear hX0
  refine wp_region_rel4 [[], [(0, 5)], [], [], [(3, 8)], [(2, 7), (4, 9)], [(5, 10)], [(1, 6), (6, 11)], [(7, 12)]]
    (fun _ _ => True)
    []
    (fun f9 x9 => Below w.heap.size w x9 ∧ x9.heap[w.heap.size]? = some (.cells #[.int .i64 2, .int .i64 n] 54 (0, 0)) ∧ (f9 8 = false → x9.heap[w.heap.size + 1]? = some (.cells #[.int .i64 0, .int .i64 0] 54 (0, 0))) ∧ (f9 8 = true → x9.heap[w.heap.size + 1]? = some (.cells #[.int .i64 2, .int .i64 r] 54 (0, 0))))
    [fun vs9 _ => vs9 0 = (.pointer (some ⟨w.heap.size, 0, none⟩)),
    fun vs9 _ => vs9 1 = (.int .i64 2),
    fun vs9 _ => vs9 2 = (.int .u64 (u : Int)),
    fun vs9 _ => vs9 3 = (.pointer (some ⟨w.heap.size, 0, none⟩)),
    fun vs9 _ => vs9 4 = (.int .i64 2),
    fun vs9 _ => vs9 5 = (.int .u64 r),
    fun vs9 _ => vs9 6 = (.int .i64 r),
    fun vs9 _ => vs9 7 = (.agg #[.int .i64 2, .int .i64 r]),
    fun _ _ => True]
    [(0, 5), (1, 6), (2, 7), (3, 8), (4, 9), (5, 10), (6, 11), (7, 12)] (by kernel_rfl) (by kernel_rfl) (by kernel_rfl) (by kernel_rfl)
    (fun _ => trivial) trivial
    ⟨⟨.inr (fun _ _ _ h _ => h), trivial⟩,
    ⟨.inr (fun _ _ _ h _ => h), trivial⟩,
    ⟨.inr (fun _ _ _ h _ => h), trivial⟩,
    ⟨.inr (fun _ _ _ h _ => h), trivial⟩,
    ⟨.inr (fun _ _ _ h _ => h), trivial⟩,
    ⟨.inr (fun _ _ _ h _ => h), trivial⟩,
    ⟨.inr (fun _ _ _ h _ => h), trivial⟩,
    ⟨.inr (fun _ _ _ h _ => h), trivial⟩,
    ⟨.inr (fun _ _ _ h _ => h), trivial⟩, trivial⟩ ⟨fun vs vs' x h _ hv => (by dsimp only at hv ⊢; first | (rw [← h]; exact hv) | exact hv),
    fun vs vs' x h _ hv => (by dsimp only at hv ⊢; first | (rw [← h]; exact hv) | exact hv),
    fun vs vs' x h _ hv => (by dsimp only at hv ⊢; first | (rw [← h]; exact hv) | exact hv),
    fun vs vs' x h _ hv => (by dsimp only at hv ⊢; first | (rw [← h]; exact hv) | exact hv),
    fun vs vs' x h _ hv => (by dsimp only at hv ⊢; first | (rw [← h]; exact hv) | exact hv),
    fun vs vs' x h _ hv => (by dsimp only at hv ⊢; first | (rw [← h]; exact hv) | exact hv),
    fun vs vs' x h _ hv => (by dsimp only at hv ⊢; first | (rw [← h]; exact hv) | exact hv),
    fun vs vs' x h _ hv => (by dsimp only at hv ⊢; first | (rw [← h]; exact hv) | exact hv),
    fun _ _ _ _ _ _ => trivial, trivial⟩ (⟨HW.out.trans (below_drewN (Below.refl _ _) 1 |>.mono HW.out.size), HB0.out, fun _ => HB1.out, fun h => by cases h⟩) ⟨?_, ?_, ?_, ?_, ?_, ?_, ?_, ?_, ?_, trivial⟩ ?_
  · intro vals xw f hf1 hf2 hf3 hI hF
    clear hf2 hf3
    dsimp only [owes4, bare]
    simp only [putsD, Act.put, List.setIfInBounds_toArray, List.set_cons_zero, List.set_cons_succ]
    go_wp2
    exact ⟨rfl, rfl, trivial, hI⟩
  · intro vals xw f hf1 hf2 hf3 hI hF
    clear hf2 hf3
    simp only [saysD, List.getD_cons_zero, List.getD_cons_succ, and_true] at hF
    have e1 := hF
    dsimp only [owes4, bare]
    simp only [putsD, Act.put, List.setIfInBounds_toArray, List.set_cons_zero, List.set_cons_succ]
    simp only [e1]
    have v0 := (cell_of_block hI.2.1 0).1
    go_wp2
    exact ⟨rfl, rfl, trivial, hI⟩
  · intro vals xw f hf1 hf2 hf3 hI hF
    clear hf2 hf3
    dsimp only [owes4, bare]
    simp only [putsD, Act.put, List.setIfInBounds_toArray, List.set_cons_zero, List.set_cons_succ]
    go_wp2
    exact ⟨rfl, rfl, trivial, hI⟩
  · intro vals xw f hf1 hf2 hf3 hI hF
    clear hf2 hf3
    dsimp only [owes4, bare]
    simp only [putsD, Act.put, List.setIfInBounds_toArray, List.set_cons_zero, List.set_cons_succ]
    go_wp2
    exact ⟨rfl, rfl, trivial, hI⟩
  · intro vals xw f hf1 hf2 hf3 hI hF
    clear hf2 hf3
    simp only [saysD, List.getD_cons_zero, List.getD_cons_succ, and_true] at hF
    have e1 := hF
    dsimp only [owes4, bare]
    simp only [putsD, Act.put, List.setIfInBounds_toArray, List.set_cons_zero, List.set_cons_succ]
    simp only [e1]
    have v0 := (cell_of_block hI.2.1 0).1
    go_wp2
    exact ⟨rfl, rfl, trivial, hI⟩
  · intro vals xw f hf1 hf2 hf3 hI hF
    clear hf2 hf3
    simp only [saysD, List.getD_cons_zero, List.getD_cons_succ, and_true] at hF
    obtain ⟨e1, e2⟩ := hF
    dsimp only [owes4, bare]
    simp only [putsD, Act.put, List.setIfInBounds_toArray, List.set_cons_zero, List.set_cons_succ]
    simp only [e1, e2]
    go_wp2_with fail
    refine (HCUT.out _).mono ?_
    rintro e wx ⟨rfl, rfl⟩
    go_wp2
    exact ⟨rfl, rfl, trivial, hI⟩
  · intro vals xw f hf1 hf2 hf3 hI hF
    clear hf2 hf3
    simp only [saysD, List.getD_cons_zero, List.getD_cons_succ, and_true] at hF
    have e1 := hF
    dsimp only [owes4, bare]
    simp only [putsD, Act.put, List.setIfInBounds_toArray, List.set_cons_zero, List.set_cons_succ]
    simp only [e1]
    go_wp2
    exact ⟨rfl, rfl, trivial, hI⟩
  · intro vals xw f hf1 hf2 hf3 hI hF
    clear hf2 hf3
    simp only [saysD, List.getD_cons_zero, List.getD_cons_succ, and_true] at hF
    obtain ⟨e1, e2⟩ := hF
    dsimp only [owes4, bare]
    simp only [putsD, Act.put, List.setIfInBounds_toArray, List.set_cons_zero, List.set_cons_succ]
    simp only [e1, e2]
    go_wp2
    exact ⟨rfl, rfl, trivial, hI⟩
  · intro vals xw f hf1 hf2 hf3 hI hF
    clear hf2 hf3
    simp only [saysD, List.getD_cons_zero, List.getD_cons_succ, and_true] at hF
    have e1 := hF
    dsimp only [owes4, bare]
    simp only [putsD, Act.put, List.setIfInBounds_toArray, List.set_cons_zero, List.set_cons_succ]
    simp only [e1]
    obtain ⟨i1, i2, i3, i4⟩ := hI
    have j3 := i3 hf1
    have v0 := (cell_of_block j3 0).1
    have v1 := (cell_of_block j3 1).1
    have f0 := (cell_of_block j3 0).2
    have f1 := (cell_of_block j3 1).2
    have I1 := Lib.hid i1
    have I2 := Lib.hid i2
    have J3 := Lib.hid j3
    clear i1 i2 i3 i4 j3
    go_wp2
    have h2 := heap_set_same _ (w.heap.size + 1) 1 (.int .i64 r) _ _ (heap_set_same xw (w.heap.size + 1) 0 (.int .i64 2) _ _ J3.out)
    exact ⟨rfl, trivial, trivial, below_set (below_set I1.out (by show w.heap.size ≤ w.heap.size + 1; omega) _) (by show w.heap.size ≤ w.heap.size + 1; omega) _, (heap_setCell_other _ _ _ _ (by show w.heap.size ≠ w.heap.size + 1; omega)).trans ((heap_setCell_other _ _ _ _ (by show w.heap.size ≠ w.heap.size + 1; omega)).trans I2.out), fun h => absurd ((did_same f 8).symm.trans h) (by simp), fun _ => h2⟩
  · intro vals xw f hall hI hF
    rw [show List.range _ = [0, 1, 2, 3, 4, 5, 6, 7, 8] from rfl] at hF
    simp only [says, List.getD_cons_zero, List.getD_cons_succ, and_true] at hF
    obtain ⟨i1, i2, i3, i4⟩ := hI
    have j4 := i4 (hall 8 (by decide))
    have k5 := (cell_of_block j4 0).1
    have k6 := (cell_of_block j4 1).1
    have kf5 := (cell_of_block j4 0).2
    have kf6 := (cell_of_block j4 1).2
    have I1 := Lib.hid i1
    clear i1 i2 i3 i4 j4 hF
    simp only [putsD, Act.put, List.setIfInBounds_toArray, List.set_cons_zero, List.set_cons_succ]
    go_wp2
    refine bodyPost_ret (v := .agg #[.int .i64 2, .int .i64 r]) (by simp [results, Tryd.results73, go_sem, k5, k6, kf5, kf6]) rfl ?_
    exact ⟨rfl, I1.out⟩
set_option maxRecDepth 100000 in
set_option maxHeartbeats 2000000 in
theorem vecUn_2_1 (n : Int) (w : World) (n0 : 0 ≤ n) (hn : n < 4) :
    Calls Tryd.prog 37 #[.int .i64 1, .agg #[.int .i64 2, .int .i64 n]] w fun e w' => e = .returned (.tuple #[.agg #[.int .i64 2, .int .i64 (unV 1 2 n)], .bool true]) ∧ Below w.heap.size w w' := by
  obtain ⟨hW, hB0, hB1, hWS⟩ := two_boxes w (.cells #[.int .i64 2, .int .i64 n] 54) (.cells #[.int .i64 0, .int .i64 0] 54)
  obtain ⟨u, hu⟩ : ∃ u : Nat, (u : Int) = 18446744073709551615 - n := ⟨(18446744073709551615 - n).toNat, by omega⟩
  obtain ⟨r, hr⟩ : ∃ r : Int, r = unV 1 2 n := ⟨_, rfl⟩
  rw [← hr]
  have hr2 : ((u % 4 : Nat) : Int) = r := by rw [hr]; unfold unV; simp; omega
  have hul : u < 18446744073709551616 := by omega
  have HW := Lib.hid hW
  have HB1 := Lib.hid hB1
  have HOK := Lib.hid (fun z => vecOk_any 2 n z (by omega) (by omega) n0 (by simpa using hn))
  have HRAW := Lib.hid (fun z => raw_any 2 n z n0 (by omega))
  have HVEC := Lib.hid (fun z => vec_2 n u r z hul hr2)
  have HUX : Hid (bits .xor .u64 IntKind.u64.max n = (u : Int)) := Lib.hid (by rw [hu]; exact not_u64 n0 (by omega))
  have HB0 := Lib.hid hB0
  have v0 := (cell_of_block hB0 0).1
  have v1 := (cell_of_block hB0 1).1
  simp only [Int.cast_ofNat_Int] at HOK HRAW
  clear hW hB0 hB1 hWS hu hr hr2 hul
  go_enter Tryd.func37, Tryd.ntmps37
  go_wp2_with fail
  clear v0 v1
  refine (HOK.out _).mono ?_
  generalize hX0 : (w.alloc (.cells #[.int .i64 2, .int .i64 n] 54)).alloc (.cells #[.int .i64 0, .int .i64 0] 54) = X0 at *
  clear hX0
  rintro e w1 ⟨rfl, hb1⟩
  have HB0 := Lib.hid ((hb1.block _ (lt_of_block HB0.out)).trans HB0.out)
  have HB1 := Lib.hid ((hb1.block _ (lt_of_block HB1.out)).trans HB1.out)
  have HW := Lib.hid (bthen HW.out hb1)
  clear hb1 HOK
  go_wp2
  refine wp_region_rel4 [[], [], [(1, 15)], [(2, 16)], [(0, 14), (3, 17)], [(4, 18)], []]
    (fun _ _ => True)
    []
    (fun f9 x9 => Below w.heap.size w x9 ∧ x9.heap[w.heap.size]? = some (.cells #[.int .i64 2, .int .i64 n] 54 (0, 0)) ∧ (f9 5 = false → x9.heap[w.heap.size + 1]? = some (.cells #[.int .i64 0, .int .i64 0] 54 (0, 0))) ∧ (f9 5 = true → x9.heap[w.heap.size + 1]? = some (.cells #[.int .i64 2, .int .i64 r] 54 (0, 0))))
    [fun vs9 _ => vs9 0 = (.agg #[.int .i64 2, .int .i64 n]),
    fun vs9 _ => vs9 1 = (.agg #[.int .i64 2, .int .i64 n]),
    fun vs9 _ => vs9 2 = (.int .u64 n),
    fun vs9 _ => vs9 3 = (.int .u64 (u : Int)),
    fun vs9 _ => vs9 4 = (.agg #[.int .i64 2, .int .i64 r]),
    fun _ _ => True,
    fun vs9 _ => vs9 6 = (.bool true)]
    [(0, 14), (1, 15), (2, 16), (3, 17), (4, 18), (6, 5)] (by kernel_rfl) (by kernel_rfl) (by kernel_rfl) (by kernel_rfl)
    (fun _ => trivial) trivial
    ⟨⟨.inr (fun _ _ _ h _ => h), trivial⟩,
    ⟨.inr (fun _ _ _ h _ => h), trivial⟩,
    ⟨.inr (fun _ _ _ h _ => h), trivial⟩,
    ⟨.inr (fun _ _ _ h _ => h), trivial⟩,
    ⟨.inr (fun _ _ _ h _ => h), trivial⟩,
    ⟨.inr (fun _ _ _ h _ => h), trivial⟩,
    ⟨.inr (fun _ _ _ h _ => h), trivial⟩, trivial⟩ ⟨fun vs vs' x h _ hv => (by dsimp only at hv ⊢; first | (rw [← h]; exact hv) | exact hv),
    fun vs vs' x h _ hv => (by dsimp only at hv ⊢; first | (rw [← h]; exact hv) | exact hv),
    fun vs vs' x h _ hv => (by dsimp only at hv ⊢; first | (rw [← h]; exact hv) | exact hv),
    fun vs vs' x h _ hv => (by dsimp only at hv ⊢; first | (rw [← h]; exact hv) | exact hv),
    fun vs vs' x h _ hv => (by dsimp only at hv ⊢; first | (rw [← h]; exact hv) | exact hv),
    fun _ _ _ _ _ _ => trivial,
    fun vs vs' x h _ hv => (by dsimp only at hv ⊢; first | (rw [← h]; exact hv) | exact hv), trivial⟩ (⟨bthen HW.out (below_drewN (Below.refl _ _) 1), HB0.out, fun _ => HB1.out, fun h => by cases h⟩) ⟨?_, ?_, ?_, ?_, ?_, ?_, ?_, trivial⟩ ?_
  · intro vals xw f hf1 hf2 hf3 hI hF
    clear hf2 hf3
    dsimp only [owes4, bare]
    simp only [putsD, Act.put, List.setIfInBounds_toArray, List.set_cons_zero, List.set_cons_succ]
    have v0 := (cell_of_block hI.2.1 0).1
    have v1 := (cell_of_block hI.2.1 1).1
    go_wp2
    exact ⟨rfl, rfl, trivial, hI⟩
  · intro vals xw f hf1 hf2 hf3 hI hF
    clear hf2 hf3
    dsimp only [owes4, bare]
    simp only [putsD, Act.put, List.setIfInBounds_toArray, List.set_cons_zero, List.set_cons_succ]
    have v0 := (cell_of_block hI.2.1 0).1
    have v1 := (cell_of_block hI.2.1 1).1
    go_wp2
    exact ⟨rfl, rfl, trivial, hI⟩
  · intro vals xw f hf1 hf2 hf3 hI hF
    clear hf2 hf3
    simp only [saysD, List.getD_cons_zero, List.getD_cons_succ, and_true] at hF
    have e1 := hF
    dsimp only [owes4, bare]
    simp only [putsD, Act.put, List.setIfInBounds_toArray, List.set_cons_zero, List.set_cons_succ]
    simp only [e1]
    have HI := Lib.hid hI
    clear hI
    go_wp2_with fail
    refine (HRAW.out _).mono ?_
    rintro e wx ⟨rfl, hb9⟩
    have HQ := Lib.hid (show (fun f9 x9 => Below w.heap.size w x9 ∧ x9.heap[w.heap.size]? = some (.cells #[.int .i64 2, .int .i64 n] 54 (0, 0)) ∧ (f9 5 = false → x9.heap[w.heap.size + 1]? = some (.cells #[.int .i64 0, .int .i64 0] 54 (0, 0))) ∧ (f9 5 = true → x9.heap[w.heap.size + 1]? = some (.cells #[.int .i64 2, .int .i64 r] 54 (0, 0)))) (did f 2) wx from (by exact ⟨bthen HI.out.1 hb9, (hb9.block _ (lt_of_block HI.out.2.1)).trans HI.out.2.1, fun h => (hb9.block _ (lt_of_block (HI.out.2.2.1 h))).trans (HI.out.2.2.1 h), fun h => (hb9.block _ (lt_of_block (HI.out.2.2.2 h))).trans (HI.out.2.2.2 h)⟩))
    clear hb9
    go_wp2
    exact ⟨rfl, rfl, trivial, HQ.out⟩
  · intro vals xw f hf1 hf2 hf3 hI hF
    clear hf2 hf3
    simp only [saysD, List.getD_cons_zero, List.getD_cons_succ, and_true] at hF
    have e1 := hF
    dsimp only [owes4, bare]
    simp only [putsD, Act.put, List.setIfInBounds_toArray, List.set_cons_zero, List.set_cons_succ]
    simp only [e1]
    have ux := HUX.out
    go_wp2
    exact ⟨rfl, rfl, trivial, hI⟩
  · intro vals xw f hf1 hf2 hf3 hI hF
    clear hf2 hf3
    simp only [saysD, List.getD_cons_zero, List.getD_cons_succ, and_true] at hF
    obtain ⟨e1, e2⟩ := hF
    dsimp only [owes4, bare]
    simp only [putsD, Act.put, List.setIfInBounds_toArray, List.set_cons_zero, List.set_cons_succ]
    simp only [e1, e2]
    have HI := Lib.hid hI
    clear hI
    go_wp2_with fail
    refine (HVEC.out _).mono ?_
    rintro e wx ⟨rfl, hb9⟩
    have HQ := Lib.hid (show (fun f9 x9 => Below w.heap.size w x9 ∧ x9.heap[w.heap.size]? = some (.cells #[.int .i64 2, .int .i64 n] 54 (0, 0)) ∧ (f9 5 = false → x9.heap[w.heap.size + 1]? = some (.cells #[.int .i64 0, .int .i64 0] 54 (0, 0))) ∧ (f9 5 = true → x9.heap[w.heap.size + 1]? = some (.cells #[.int .i64 2, .int .i64 r] 54 (0, 0)))) (did f 4) wx from (by exact ⟨bthen HI.out.1 hb9, (hb9.block _ (lt_of_block HI.out.2.1)).trans HI.out.2.1, fun h => (hb9.block _ (lt_of_block (HI.out.2.2.1 h))).trans (HI.out.2.2.1 h), fun h => (hb9.block _ (lt_of_block (HI.out.2.2.2 h))).trans (HI.out.2.2.2 h)⟩))
    clear hb9
    go_wp2
    exact ⟨rfl, rfl, trivial, HQ.out⟩
  · intro vals xw f hf1 hf2 hf3 hI hF
    clear hf2 hf3
    simp only [saysD, List.getD_cons_zero, List.getD_cons_succ, and_true] at hF
    have e1 := hF
    dsimp only [owes4, bare]
    simp only [putsD, Act.put, List.setIfInBounds_toArray, List.set_cons_zero, List.set_cons_succ]
    simp only [e1]
    obtain ⟨i1, i2, i3, i4⟩ := hI
    have j3 := i3 hf1
    have v0 := (cell_of_block j3 0).1
    have v1 := (cell_of_block j3 1).1
    have f0 := (cell_of_block j3 0).2
    have f1 := (cell_of_block j3 1).2
    have I1 := Lib.hid i1
    have I2 := Lib.hid i2
    have J3 := Lib.hid j3
    clear i1 i2 i3 i4 j3
    go_wp2
    have h2 := heap_set_same _ (w.heap.size + 1) 1 (.int .i64 r) _ _ (heap_set_same xw (w.heap.size + 1) 0 (.int .i64 2) _ _ J3.out)
    exact ⟨rfl, trivial, trivial, below_set (below_set I1.out (by show w.heap.size ≤ w.heap.size + 1; omega) _) (by show w.heap.size ≤ w.heap.size + 1; omega) _, (heap_setCell_other _ _ _ _ (by show w.heap.size ≠ w.heap.size + 1; omega)).trans ((heap_setCell_other _ _ _ _ (by show w.heap.size ≠ w.heap.size + 1; omega)).trans I2.out), fun h => absurd ((did_same f 5).symm.trans h) (by simp), fun _ => h2⟩
  · intro vals xw f hf1 hf2 hf3 hI hF
    clear hf2 hf3
    dsimp only [owes4, bare]
    simp only [putsD, Act.put, List.setIfInBounds_toArray, List.set_cons_zero, List.set_cons_succ]
    go_wp2
    exact ⟨rfl, rfl, trivial, hI⟩
  · intro vals xw f hall hI hF
    rw [show List.range _ = [0, 1, 2, 3, 4, 5, 6] from rfl] at hF
    simp only [says, List.getD_cons_zero, List.getD_cons_succ, and_true] at hF
    obtain ⟨i1, i2, i3, i4⟩ := hI
    have j4 := i4 (hall 5 (by decide))
    have k5 := (cell_of_block j4 0).1
    have k6 := (cell_of_block j4 1).1
    have kf5 := (cell_of_block j4 0).2
    have kf6 := (cell_of_block j4 1).2
    have e9 : vals 6 = .bool true := by obtain ⟨_, _, _, _, _, _, e9⟩ := hF; exact e9
    have I1 := Lib.hid i1
    clear i1 i2 i3 i4 j4 hF
    simp only [putsD, Act.put, List.setIfInBounds_toArray, List.set_cons_zero, List.set_cons_succ]
    simp only [e9]
    clear e9
    go_wp2
    refine bodyPost_ret (v := .tuple #[.agg #[.int .i64 2, .int .i64 r], .bool true]) (by simp [results, Tryd.results37, go_sem, k5, k6, kf5, kf6]) rfl ?_
    exact ⟨rfl, I1.out⟩
set_option maxRecDepth 100000 in
set_option maxHeartbeats 2000000 in
theorem vecUn_2_2 (n : Int) (w : World) (n0 : 0 ≤ n) (hn : n < 4) :
    Calls Tryd.prog 37 #[.int .i64 2, .agg #[.int .i64 2, .int .i64 n]] w fun e w' => e = .returned (.tuple #[.agg #[.int .i64 2, .int .i64 (unV 2 2 n)], .bool true]) ∧ Below w.heap.size w w' := by
  obtain ⟨hW, hB0, hB1, hWS⟩ := two_boxes w (.cells #[.int .i64 2, .int .i64 n] 54) (.cells #[.int .i64 0, .int .i64 0] 54)
  obtain ⟨u, hu⟩ : ∃ u : Nat, (u : Int) = (18446744073709551616 - n) % 18446744073709551616 := ⟨((18446744073709551616 - n) % 18446744073709551616).toNat, by omega⟩
  obtain ⟨r, hr⟩ : ∃ r : Int, r = unV 2 2 n := ⟨_, rfl⟩
  rw [← hr]
  have hr2 : ((u % 4 : Nat) : Int) = r := by rw [hr]; unfold unV; simp; omega
  have hul : u < 18446744073709551616 := by omega
  have HW := Lib.hid hW
  have HB1 := Lib.hid hB1
  have HOK := Lib.hid (fun z => vecOk_any 2 n z (by omega) (by omega) n0 (by simpa using hn))
  have HRAW := Lib.hid (fun z => raw_any 2 n z n0 (by omega))
  have HVEC := Lib.hid (fun z => vec_2 n u r z hul hr2)
  have HUX : Hid (IntKind.u64.wrap (-n) = (u : Int)) := Lib.hid (by rw [hu]; rw [IntKind.wrap_u64]; omega)
  have HB0 := Lib.hid hB0
  have v0 := (cell_of_block hB0 0).1
  have v1 := (cell_of_block hB0 1).1
  simp only [Int.cast_ofNat_Int] at HOK HRAW
  clear hW hB0 hB1 hWS hu hr hr2 hul
  go_enter Tryd.func37, Tryd.ntmps37
  go_wp2_with fail
  clear v0 v1
  refine (HOK.out _).mono ?_
  generalize hX0 : (w.alloc (.cells #[.int .i64 2, .int .i64 n] 54)).alloc (.cells #[.int .i64 0, .int .i64 0] 54) = X0 at *
  clear hX0
  rintro e w1 ⟨rfl, hb1⟩
  have HB0 := Lib.hid ((hb1.block _ (lt_of_block HB0.out)).trans HB0.out)
  have HB1 := Lib.hid ((hb1.block _ (lt_of_block HB1.out)).trans HB1.out)
  have HW := Lib.hid (bthen HW.out hb1)
  clear hb1 HOK
  go_wp2
  refine wp_region_rel4 [[], [], [(1, 23)], [(2, 24)], [(0, 22), (3, 25)], [(4, 26)], []]
    (fun _ _ => True)
    []
    (fun f9 x9 => Below w.heap.size w x9 ∧ x9.heap[w.heap.size]? = some (.cells #[.int .i64 2, .int .i64 n] 54 (0, 0)) ∧ (f9 5 = false → x9.heap[w.heap.size + 1]? = some (.cells #[.int .i64 0, .int .i64 0] 54 (0, 0))) ∧ (f9 5 = true → x9.heap[w.heap.size + 1]? = some (.cells #[.int .i64 2, .int .i64 r] 54 (0, 0))))
    [fun vs9 _ => vs9 0 = (.agg #[.int .i64 2, .int .i64 n]),
    fun vs9 _ => vs9 1 = (.agg #[.int .i64 2, .int .i64 n]),
    fun vs9 _ => vs9 2 = (.int .u64 n),
    fun vs9 _ => vs9 3 = (.int .u64 (u : Int)),
    fun vs9 _ => vs9 4 = (.agg #[.int .i64 2, .int .i64 r]),
    fun _ _ => True,
    fun vs9 _ => vs9 6 = (.bool true)]
    [(0, 22), (1, 23), (2, 24), (3, 25), (4, 26), (6, 5)] (by kernel_rfl) (by kernel_rfl) (by kernel_rfl) (by kernel_rfl)
    (fun _ => trivial) trivial
    ⟨⟨.inr (fun _ _ _ h _ => h), trivial⟩,
    ⟨.inr (fun _ _ _ h _ => h), trivial⟩,
    ⟨.inr (fun _ _ _ h _ => h), trivial⟩,
    ⟨.inr (fun _ _ _ h _ => h), trivial⟩,
    ⟨.inr (fun _ _ _ h _ => h), trivial⟩,
    ⟨.inr (fun _ _ _ h _ => h), trivial⟩,
    ⟨.inr (fun _ _ _ h _ => h), trivial⟩, trivial⟩ ⟨fun vs vs' x h _ hv => (by dsimp only at hv ⊢; first | (rw [← h]; exact hv) | exact hv),
    fun vs vs' x h _ hv => (by dsimp only at hv ⊢; first | (rw [← h]; exact hv) | exact hv),
    fun vs vs' x h _ hv => (by dsimp only at hv ⊢; first | (rw [← h]; exact hv) | exact hv),
    fun vs vs' x h _ hv => (by dsimp only at hv ⊢; first | (rw [← h]; exact hv) | exact hv),
    fun vs vs' x h _ hv => (by dsimp only at hv ⊢; first | (rw [← h]; exact hv) | exact hv),
    fun _ _ _ _ _ _ => trivial,
    fun vs vs' x h _ hv => (by dsimp only at hv ⊢; first | (rw [← h]; exact hv) | exact hv), trivial⟩ (⟨bthen HW.out (below_drewN (Below.refl _ _) 1), HB0.out, fun _ => HB1.out, fun h => by cases h⟩) ⟨?_, ?_, ?_, ?_, ?_, ?_, ?_, trivial⟩ ?_
  · intro vals xw f hf1 hf2 hf3 hI hF
    clear hf2 hf3
    dsimp only [owes4, bare]
    simp only [putsD, Act.put, List.setIfInBounds_toArray, List.set_cons_zero, List.set_cons_succ]
    have v0 := (cell_of_block hI.2.1 0).1
    have v1 := (cell_of_block hI.2.1 1).1
    go_wp2
    exact ⟨rfl, rfl, trivial, hI⟩
  · intro vals xw f hf1 hf2 hf3 hI hF
    clear hf2 hf3
    dsimp only [owes4, bare]
    simp only [putsD, Act.put, List.setIfInBounds_toArray, List.set_cons_zero, List.set_cons_succ]
    have v0 := (cell_of_block hI.2.1 0).1
    have v1 := (cell_of_block hI.2.1 1).1
    go_wp2
    exact ⟨rfl, rfl, trivial, hI⟩
  · intro vals xw f hf1 hf2 hf3 hI hF
    clear hf2 hf3
    simp only [saysD, List.getD_cons_zero, List.getD_cons_succ, and_true] at hF
    have e1 := hF
    dsimp only [owes4, bare]
    simp only [putsD, Act.put, List.setIfInBounds_toArray, List.set_cons_zero, List.set_cons_succ]
    simp only [e1]
    have HI := Lib.hid hI
    clear hI
    go_wp2_with fail
    refine (HRAW.out _).mono ?_
    rintro e wx ⟨rfl, hb9⟩
    have HQ := Lib.hid (show (fun f9 x9 => Below w.heap.size w x9 ∧ x9.heap[w.heap.size]? = some (.cells #[.int .i64 2, .int .i64 n] 54 (0, 0)) ∧ (f9 5 = false → x9.heap[w.heap.size + 1]? = some (.cells #[.int .i64 0, .int .i64 0] 54 (0, 0))) ∧ (f9 5 = true → x9.heap[w.heap.size + 1]? = some (.cells #[.int .i64 2, .int .i64 r] 54 (0, 0)))) (did f 2) wx from (by exact ⟨bthen HI.out.1 hb9, (hb9.block _ (lt_of_block HI.out.2.1)).trans HI.out.2.1, fun h => (hb9.block _ (lt_of_block (HI.out.2.2.1 h))).trans (HI.out.2.2.1 h), fun h => (hb9.block _ (lt_of_block (HI.out.2.2.2 h))).trans (HI.out.2.2.2 h)⟩))
    clear hb9
    go_wp2
    exact ⟨rfl, rfl, trivial, HQ.out⟩
  · intro vals xw f hf1 hf2 hf3 hI hF
    clear hf2 hf3
    simp only [saysD, List.getD_cons_zero, List.getD_cons_succ, and_true] at hF
    have e1 := hF
    dsimp only [owes4, bare]
    simp only [putsD, Act.put, List.setIfInBounds_toArray, List.set_cons_zero, List.set_cons_succ]
    simp only [e1]
    have ux := HUX.out
    go_wp2
    exact ⟨rfl, rfl, trivial, hI⟩
  · intro vals xw f hf1 hf2 hf3 hI hF
    clear hf2 hf3
    simp only [saysD, List.getD_cons_zero, List.getD_cons_succ, and_true] at hF
    obtain ⟨e1, e2⟩ := hF
    dsimp only [owes4, bare]
    simp only [putsD, Act.put, List.setIfInBounds_toArray, List.set_cons_zero, List.set_cons_succ]
    simp only [e1, e2]
    have HI := Lib.hid hI
    clear hI
    go_wp2_with fail
    refine (HVEC.out _).mono ?_
    rintro e wx ⟨rfl, hb9⟩
    have HQ := Lib.hid (show (fun f9 x9 => Below w.heap.size w x9 ∧ x9.heap[w.heap.size]? = some (.cells #[.int .i64 2, .int .i64 n] 54 (0, 0)) ∧ (f9 5 = false → x9.heap[w.heap.size + 1]? = some (.cells #[.int .i64 0, .int .i64 0] 54 (0, 0))) ∧ (f9 5 = true → x9.heap[w.heap.size + 1]? = some (.cells #[.int .i64 2, .int .i64 r] 54 (0, 0)))) (did f 4) wx from (by exact ⟨bthen HI.out.1 hb9, (hb9.block _ (lt_of_block HI.out.2.1)).trans HI.out.2.1, fun h => (hb9.block _ (lt_of_block (HI.out.2.2.1 h))).trans (HI.out.2.2.1 h), fun h => (hb9.block _ (lt_of_block (HI.out.2.2.2 h))).trans (HI.out.2.2.2 h)⟩))
    clear hb9
    go_wp2
    exact ⟨rfl, rfl, trivial, HQ.out⟩
  · intro vals xw f hf1 hf2 hf3 hI hF
    clear hf2 hf3
    simp only [saysD, List.getD_cons_zero, List.getD_cons_succ, and_true] at hF
    have e1 := hF
    dsimp only [owes4, bare]
    simp only [putsD, Act.put, List.setIfInBounds_toArray, List.set_cons_zero, List.set_cons_succ]
    simp only [e1]
    obtain ⟨i1, i2, i3, i4⟩ := hI
    have j3 := i3 hf1
    have v0 := (cell_of_block j3 0).1
    have v1 := (cell_of_block j3 1).1
    have f0 := (cell_of_block j3 0).2
    have f1 := (cell_of_block j3 1).2
    have I1 := Lib.hid i1
    have I2 := Lib.hid i2
    have J3 := Lib.hid j3
    clear i1 i2 i3 i4 j3
    go_wp2
    have h2 := heap_set_same _ (w.heap.size + 1) 1 (.int .i64 r) _ _ (heap_set_same xw (w.heap.size + 1) 0 (.int .i64 2) _ _ J3.out)
    exact ⟨rfl, trivial, trivial, below_set (below_set I1.out (by show w.heap.size ≤ w.heap.size + 1; omega) _) (by show w.heap.size ≤ w.heap.size + 1; omega) _, (heap_setCell_other _ _ _ _ (by show w.heap.size ≠ w.heap.size + 1; omega)).trans ((heap_setCell_other _ _ _ _ (by show w.heap.size ≠ w.heap.size + 1; omega)).trans I2.out), fun h => absurd ((did_same f 5).symm.trans h) (by simp), fun _ => h2⟩
  · intro vals xw f hf1 hf2 hf3 hI hF
    clear hf2 hf3
    dsimp only [owes4, bare]
    simp only [putsD, Act.put, List.setIfInBounds_toArray, List.set_cons_zero, List.set_cons_succ]
    go_wp2
    exact ⟨rfl, rfl, trivial, hI⟩
  · intro vals xw f hall hI hF
    rw [show List.range _ = [0, 1, 2, 3, 4, 5, 6] from rfl] at hF
    simp only [says, List.getD_cons_zero, List.getD_cons_succ, and_true] at hF
    obtain ⟨i1, i2, i3, i4⟩ := hI
    have j4 := i4 (hall 5 (by decide))
    have k5 := (cell_of_block j4 0).1
    have k6 := (cell_of_block j4 1).1
    have kf5 := (cell_of_block j4 0).2
    have kf6 := (cell_of_block j4 1).2
    have e9 : vals 6 = .bool true := by obtain ⟨_, _, _, _, _, _, e9⟩ := hF; exact e9
    have I1 := Lib.hid i1
    clear i1 i2 i3 i4 j4 hF
    simp only [putsD, Act.put, List.setIfInBounds_toArray, List.set_cons_zero, List.set_cons_succ]
    simp only [e9]
    clear e9
    go_wp2
    refine bodyPost_ret (v := .tuple #[.agg #[.int .i64 2, .int .i64 r], .bool true]) (by simp [results, Tryd.results37, go_sem, k5, k6, kf5, kf6]) rfl ?_
    exact ⟨rfl, I1.out⟩
set_option maxHeartbeats 1000000 in
theorem cut_3 (u : Nat) (r : Int) (w : World) (hu : u < 18446744073709551616) (hr : ((u % 8 : Nat) : Int) = r) :
    Calls Tryd.prog 103 #[.int .u64 u, .int .i64 3] w fun e w' => e = .returned (.int .u64 r) ∧ w = w' := by
  have hand : bits .and .u64 (u : Int) 7 = r := by rw [← hr]; exact and_u64 u 3 hu (by omega)
  clear hr
  go_enter Tryd.func103, Tryd.ntmps103
  go_wp2
  go_ret
  exact ⟨rfl, rfl⟩
set_option maxRecDepth 100000 in
set_option maxHeartbeats 2000000 in
theorem vec_3 (n : Int) (u : Nat) (r : Int) (w : World) (hu : u < 18446744073709551616) (hr : ((u % 8 : Nat) : Int) = r) :
    Calls Tryd.prog 73 #[.agg #[.int .i64 3, .int .i64 n], .int .u64 u] w fun e w' => e = .returned (.agg #[.int .i64 3, .int .i64 r]) ∧ Below w.heap.size w w' := by
  obtain ⟨hW, hB0, hB1, hWS⟩ := two_boxes w (.cells #[.int .i64 3, .int .i64 n] 54) (.cells #[.int .i64 0, .int .i64 0] 54)
  have HW := Lib.hid hW
  have HB0 := Lib.hid hB0
  have HB1 := Lib.hid hB1
  have HCUT := Lib.hid (fun z => cut_3 u r z hu hr)
  have hr0 : 0 ≤ r := by omega
  have hr1 : r < 8 := by omega
  clear hW hB0 hB1 hWS hr
  go_enter Tryd.func73, Tryd.ntmps73
  go_wp2
  generalize hX0 : (w.alloc (.cells #[.int .i64 3, .int .i64 n] 54)).alloc (.cells #[.int .i64 0, .int .i64 0] 54) = X0 at *
  clear hX0
  refine wp_region_rel4 [[], [(0, 5)], [], [], [(3, 8)], [(2, 7), (4, 9)], [(5, 10)], [(1, 6), (6, 11)], [(7, 12)]]
    (fun _ _ => True)
    []
    (fun f9 x9 => Below w.heap.size w x9 ∧ x9.heap[w.heap.size]? = some (.cells #[.int .i64 3, .int .i64 n] 54 (0, 0)) ∧ (f9 8 = false → x9.heap[w.heap.size + 1]? = some (.cells #[.int .i64 0, .int .i64 0] 54 (0, 0))) ∧ (f9 8 = true → x9.heap[w.heap.size + 1]? = some (.cells #[.int .i64 3, .int .i64 r] 54 (0, 0))))
    [fun vs9 _ => vs9 0 = (.pointer (some ⟨w.heap.size, 0, none⟩)),
    fun vs9 _ => vs9 1 = (.int .i64 3),
    fun vs9 _ => vs9 2 = (.int .u64 (u : Int)),
    fun vs9 _ => vs9 3 = (.pointer (some ⟨w.heap.size, 0, none⟩)),
    fun vs9 _ => vs9 4 = (.int .i64 3),
    fun vs9 _ => vs9 5 = (.int .u64 r),
    fun vs9 _ => vs9 6 = (.int .i64 r),
    fun vs9 _ => vs9 7 = (.agg #[.int .i64 3, .int .i64 r]),
    fun _ _ => True]
    [(0, 5), (1, 6), (2, 7), (3, 8), (4, 9), (5, 10), (6, 11), (7, 12)] (by kernel_rfl) (by kernel_rfl) (by kernel_rfl) (by kernel_rfl)
    (fun _ => trivial) trivial
    ⟨⟨.inr (fun _ _ _ h _ => h), trivial⟩,
    ⟨.inr (fun _ _ _ h _ => h), trivial⟩,
    ⟨.inr (fun _ _ _ h _ => h), trivial⟩,
    ⟨.inr (fun _ _ _ h _ => h), trivial⟩,
    ⟨.inr (fun _ _ _ h _ => h), trivial⟩,
    ⟨.inr (fun _ _ _ h _ => h), trivial⟩,
    ⟨.inr (fun _ _ _ h _ => h), trivial⟩,
    ⟨.inr (fun _ _ _ h _ => h), trivial⟩,
    ⟨.inr (fun _ _ _ h _ => h), trivial⟩, trivial⟩ ⟨fun vs vs' x h _ hv => (by dsimp only at hv ⊢; first | (rw [← h]; exact hv) | exact hv),
    fun vs vs' x h _ hv => (by dsimp only at hv ⊢; first | (rw [← h]; exact hv) | exact hv),
    fun vs vs' x h _ hv => (by dsimp only at hv ⊢; first | (rw [← h]; exact hv) | exact hv),
    fun vs vs' x h _ hv => (by dsimp only at hv ⊢; first | (rw [← h]; exact hv) | exact hv),
    fun vs vs' x h _ hv => (by dsimp only at hv ⊢; first | (rw [← h]; exact hv) | exact hv),
    fun vs vs' x h _ hv => (by dsimp only at hv ⊢; first | (rw [← h]; exact hv) | exact hv),
    fun vs vs' x h _ hv => (by dsimp only at hv ⊢; first | (rw [← h]; exact hv) | exact hv),
    fun vs vs' x h _ hv => (by dsimp only at hv ⊢; first | (rw [← h]; exact hv) | exact hv),
    fun _ _ _ _ _ _ => trivial, trivial⟩ (⟨HW.out.trans (below_drewN (Below.refl _ _) 1 |>.mono HW.out.size), HB0.out, fun _ => HB1.out, fun h => by cases h⟩) ⟨?_, ?_, ?_, ?_, ?_, ?_, ?_, ?_, ?_, trivial⟩ ?_
  · intro vals xw f hf1 hf2 hf3 hI hF
    clear hf2 hf3
    dsimp only [owes4, bare]
    simp only [putsD, Act.put, List.setIfInBounds_toArray, List.set_cons_zero, List.set_cons_succ]
    go_wp2
    exact ⟨rfl, rfl, trivial, hI⟩
  · intro vals xw f hf1 hf2 hf3 hI hF
    clear hf2 hf3
    simp only [saysD, List.getD_cons_zero, List.getD_cons_succ, and_true] at hF
    have e1 := hF
    dsimp only [owes4, bare]
    simp only [putsD, Act.put, List.setIfInBounds_toArray, List.set_cons_zero, List.set_cons_succ]
    simp only [e1]
    have v0 := (cell_of_block hI.2.1 0).1
    go_wp2
    exact ⟨rfl, rfl, trivial, hI⟩
  · intro vals xw f hf1 hf2 hf3 hI hF
    clear hf2 hf3
    dsimp only [owes4, bare]
    simp only [putsD, Act.put, List.setIfInBounds_toArray, List.set_cons_zero, List.set_cons_succ]
    go_wp2
    exact ⟨rfl, rfl, trivial, hI⟩
  · intro vals xw f hf1 hf2 hf3 hI hF
    clear hf2 hf3
    dsimp only [owes4, bare]
    simp only [putsD, Act.put, List.setIfInBounds_toArray, List.set_cons_zero, List.set_cons_succ]
    go_wp2
    exact ⟨rfl, rfl, trivial, hI⟩
  · intro vals xw f hf1 hf2 hf3 hI hF
    clear hf2 hf3
    simp only [saysD, List.getD_cons_zero, List.getD_cons_succ, and_true] at hF
    have e1 := hF
    dsimp only [owes4, bare]
    simp only [putsD, Act.put, List.setIfInBounds_toArray, List.set_cons_zero, List.set_cons_succ]
    simp only [e1]
    have v0 := (cell_of_block hI.2.1 0).1
    go_wp2
    exact ⟨rfl, rfl, trivial, hI⟩
  · intro vals xw f hf1 hf2 hf3 hI hF
    clear hf2 hf3
    simp only [saysD, List.getD_cons_zero, List.getD_cons_succ, and_true] at hF
    obtain ⟨e1, e2⟩ := hF
    dsimp only [owes4, bare]
    simp only [putsD, Act.put, List.setIfInBounds_toArray, List.set_cons_zero, List.set_cons_succ]
    simp only [e1, e2]
    go_wp2_with fail
    refine (HCUT.out _).mono ?_
    rintro e wx ⟨rfl, rfl⟩
    go_wp2
    exact ⟨rfl, rfl, trivial, hI⟩
  · intro vals xw f hf1 hf2 hf3 hI hF
    clear hf2 hf3
    simp only [saysD, List.getD_cons_zero, List.getD_cons_succ, and_true] at hF
    have e1 := hF
    dsimp only [owes4, bare]
    simp only [putsD, Act.put, List.setIfInBounds_toArray, List.set_cons_zero, List.set_cons_succ]
    simp only [e1]
    go_wp2
    exact ⟨rfl, rfl, trivial, hI⟩
  · intro vals xw f hf1 hf2 hf3 hI hF
    clear hf2 hf3
    simp only [saysD, List.getD_cons_zero, List.getD_cons_succ, and_true] at hF
    obtain ⟨e1, e2⟩ := hF
    dsimp only [owes4, bare]
    simp only [putsD, Act.put, List.setIfInBounds_toArray, List.set_cons_zero, List.set_cons_succ]
    simp only [e1, e2]
    go_wp2
    exact ⟨rfl, rfl, trivial, hI⟩
  · intro vals xw f hf1 hf2 hf3 hI hF
    clear hf2 hf3
    simp only [saysD, List.getD_cons_zero, List.getD_cons_succ, and_true] at hF
    have e1 := hF
    dsimp only [owes4, bare]
    simp only [putsD, Act.put, List.setIfInBounds_toArray, List.set_cons_zero, List.set_cons_succ]
    simp only [e1]
    obtain ⟨i1, i2, i3, i4⟩ := hI
    have j3 := i3 hf1
    have v0 := (cell_of_block j3 0).1
    have v1 := (cell_of_block j3 1).1
    have f0 := (cell_of_block j3 0).2
    have f1 := (cell_of_block j3 1).2
    have I1 := Lib.hid i1
    have I2 := Lib.hid i2
    have J3 := Lib.hid j3
    clear i1 i2 i3 i4 j3
    go_wp2
    have h2 := heap_set_same _ (w.heap.size + 1) 1 (.int .i64 r) _ _ (heap_set_same xw (w.heap.size + 1) 0 (.int .i64 3) _ _ J3.out)
    exact ⟨rfl, trivial, trivial, below_set (below_set I1.out (by show w.heap.size ≤ w.heap.size + 1; omega) _) (by show w.heap.size ≤ w.heap.size + 1; omega) _, (heap_setCell_other _ _ _ _ (by show w.heap.size ≠ w.heap.size + 1; omega)).trans ((heap_setCell_other _ _ _ _ (by show w.heap.size ≠ w.heap.size + 1; omega)).trans I2.out), fun h => absurd ((did_same f 8).symm.trans h) (by simp), fun _ => h2⟩
  · intro vals xw f hall hI hF
    rw [show List.range _ = [0, 1, 2, 3, 4, 5, 6, 7, 8] from rfl] at hF
    simp only [says, List.getD_cons_zero, List.getD_cons_succ, and_true] at hF
    obtain ⟨i1, i2, i3, i4⟩ := hI
    have j4 := i4 (hall 8 (by decide))
    have k5 := (cell_of_block j4 0).1
    have k6 := (cell_of_block j4 1).1
    have kf5 := (cell_of_block j4 0).2
    have kf6 := (cell_of_block j4 1).2
    have I1 := Lib.hid i1
    clear i1 i2 i3 i4 j4 hF
    simp only [putsD, Act.put, List.setIfInBounds_toArray, List.set_cons_zero, List.set_cons_succ]
    go_wp2
    refine bodyPost_ret (v := .agg #[.int .i64 3, .int .i64 r]) (by simp [results, Tryd.results73, go_sem, k5, k6, kf5, kf6]) rfl ?_
    exact ⟨rfl, I1.out⟩
set_option maxRecDepth 100000 in
set_option maxHeartbeats 2000000 in
theorem vecUn_3_1 (n : Int) (w : World) (n0 : 0 ≤ n) (hn : n < 8) :
    Calls Tryd.prog 37 #[.int .i64 1, .agg #[.int .i64 3, .int .i64 n]] w fun e w' => e = .returned (.tuple #[.agg #[.int .i64 3, .int .i64 (unV 1 3 n)], .bool true]) ∧ Below w.heap.size w w' := by
  obtain ⟨hW, hB0, hB1, hWS⟩ := two_boxes w (.cells #[.int .i64 3, .int .i64 n] 54) (.cells #[.int .i64 0, .int .i64 0] 54)
  obtain ⟨u, hu⟩ : ∃ u : Nat, (u : Int) = 18446744073709551615 - n := ⟨(18446744073709551615 - n).toNat, by omega⟩
  obtain ⟨r, hr⟩ : ∃ r : Int, r = unV 1 3 n := ⟨_, rfl⟩
  rw [← hr]
  have hr2 : ((u % 8 : Nat) : Int) = r := by rw [hr]; unfold unV; simp; omega
  have hul : u < 18446744073709551616 := by omega
  have HW := Lib.hid hW
  have HB1 := Lib.hid hB1
  have HOK := Lib.hid (fun z => vecOk_any 3 n z (by omega) (by omega) n0 (by simpa using hn))
  have HRAW := Lib.hid (fun z => raw_any 3 n z n0 (by omega))
  have HVEC := Lib.hid (fun z => vec_3 n u r z hul hr2)
  have HUX : Hid (bits .xor .u64 IntKind.u64.max n = (u : Int)) := Lib.hid (by rw [hu]; exact not_u64 n0 (by omega))
  have HB0 := Lib.hid hB0
  have v0 := (cell_of_block hB0 0).1
  have v1 := (cell_of_block hB0 1).1
  simp only [Int.cast_ofNat_Int] at HOK HRAW
  clear hW hB0 hB1 hWS hu hr hr2 hul
  go_enter Tryd.func37, Tryd.ntmps37
  go_wp2_with fail
  clear v0 v1
  refine (HOK.out _).mono ?_
  generalize hX0 : (w.alloc (.cells #[.int .i64 3, .int .i64 n] 54)).alloc (.cells #[.int .i64 0, .int .i64 0] 54) = X0 at *
  clear hX0
  rintro e w1 ⟨rfl, hb1⟩
  have HB0 := Lib.hid ((hb1.block _ (lt_of_block HB0.out)).trans HB0.out)
  have HB1 := Lib.hid ((hb1.block _ (lt_of_block HB1.out)).trans HB1.out)
  have HW := Lib.hid (bthen HW.out hb1)
  clear hb1 HOK
  go_wp2
  refine wp_region_rel4 [[], [], [(1, 15)], [(2, 16)], [(0, 14), (3, 17)], [(4, 18)], []]
    (fun _ _ => True)
    []
    (fun f9 x9 => Below w.heap.size w x9 ∧ x9.heap[w.heap.size]? = some (.cells #[.int .i64 3, .int .i64 n] 54 (0, 0)) ∧ (f9 5 = false → x9.heap[w.heap.size + 1]? = some (.cells #[.int .i64 0, .int .i64 0] 54 (0, 0))) ∧ (f9 5 = true → x9.heap[w.heap.size + 1]? = some (.cells #[.int .i64 3, .int .i64 r] 54 (0, 0))))
    [fun vs9 _ => vs9 0 = (.agg #[.int .i64 3, .int .i64 n]),
    fun vs9 _ => vs9 1 = (.agg #[.int .i64 3, .int .i64 n]),
    fun vs9 _ => vs9 2 = (.int .u64 n),
    fun vs9 _ => vs9 3 = (.int .u64 (u : Int)),
    fun vs9 _ => vs9 4 = (.agg #[.int .i64 3, .int .i64 r]),
    fun _ _ => True,
    fun vs9 _ => vs9 6 = (.bool true)]
    [(0, 14), (1, 15), (2, 16), (3, 17), (4, 18), (6, 5)] (by kernel_rfl) (by kernel_rfl) (by kernel_rfl) (by kernel_rfl)
    (fun _ => trivial) trivial
    ⟨⟨.inr (fun _ _ _ h _ => h), trivial⟩,
    ⟨.inr (fun _ _ _ h _ => h), trivial⟩,
    ⟨.inr (fun _ _ _ h _ => h), trivial⟩,
    ⟨.inr (fun _ _ _ h _ => h), trivial⟩,
    ⟨.inr (fun _ _ _ h _ => h), trivial⟩,
    ⟨.inr (fun _ _ _ h _ => h), trivial⟩,
    ⟨.inr (fun _ _ _ h _ => h), trivial⟩, trivial⟩ ⟨fun vs vs' x h _ hv => (by dsimp only at hv ⊢; first | (rw [← h]; exact hv) | exact hv),
    fun vs vs' x h _ hv => (by dsimp only at hv ⊢; first | (rw [← h]; exact hv) | exact hv),
    fun vs vs' x h _ hv => (by dsimp only at hv ⊢; first | (rw [← h]; exact hv) | exact hv),
    fun vs vs' x h _ hv => (by dsimp only at hv ⊢; first | (rw [← h]; exact hv) | exact hv),
    fun vs vs' x h _ hv => (by dsimp only at hv ⊢; first | (rw [← h]; exact hv) | exact hv),
    fun _ _ _ _ _ _ => trivial,
    fun vs vs' x h _ hv => (by dsimp only at hv ⊢; first | (rw [← h]; exact hv) | exact hv), trivial⟩ (⟨bthen HW.out (below_drewN (Below.refl _ _) 1), HB0.out, fun _ => HB1.out, fun h => by cases h⟩) ⟨?_, ?_, ?_, ?_, ?_, ?_, ?_, trivial⟩ ?_
  · intro vals xw f hf1 hf2 hf3 hI hF
    clear hf2 hf3
    dsimp only [owes4, bare]
    simp only [putsD, Act.put, List.setIfInBounds_toArray, List.set_cons_zero, List.set_cons_succ]
    have v0 := (cell_of_block hI.2.1 0).1
    have v1 := (cell_of_block hI.2.1 1).1
    go_wp2
    exact ⟨rfl, rfl, trivial, hI⟩
  · intro vals xw f hf1 hf2 hf3 hI hF
    clear hf2 hf3
    dsimp only [owes4, bare]
    simp only [putsD, Act.put, List.setIfInBounds_toArray, List.set_cons_zero, List.set_cons_succ]
    have v0 := (cell_of_block hI.2.1 0).1
    have v1 := (cell_of_block hI.2.1 1).1
    go_wp2
    exact ⟨rfl, rfl, trivial, hI⟩
  · intro vals xw f hf1 hf2 hf3 hI hF
    clear hf2 hf3
    simp only [saysD, List.getD_cons_zero, List.getD_cons_succ, and_true] at hF
    have e1 := hF
    dsimp only [owes4, bare]
    simp only [putsD, Act.put, List.setIfInBounds_toArray, List.set_cons_zero, List.set_cons_succ]
    simp only [e1]
    have HI := Lib.hid hI
    clear hI
    go_wp2_with fail
    refine (HRAW.out _).mono ?_
    rintro e wx ⟨rfl, hb9⟩
    have HQ := Lib.hid (show (fun f9 x9 => Below w.heap.size w x9 ∧ x9.heap[w.heap.size]? = some (.cells #[.int .i64 3, .int .i64 n] 54 (0, 0)) ∧ (f9 5 = false → x9.heap[w.heap.size + 1]? = some (.cells #[.int .i64 0, .int .i64 0] 54 (0, 0))) ∧ (f9 5 = true → x9.heap[w.heap.size + 1]? = some (.cells #[.int .i64 3, .int .i64 r] 54 (0, 0)))) (did f 2) wx from (by exact ⟨bthen HI.out.1 hb9, (hb9.block _ (lt_of_block HI.out.2.1)).trans HI.out.2.1, fun h => (hb9.block _ (lt_of_block (HI.out.2.2.1 h))).trans (HI.out.2.2.1 h), fun h => (hb9.block _ (lt_of_block (HI.out.2.2.2 h))).trans (HI.out.2.2.2 h)⟩))
    clear hb9
    go_wp2
    exact ⟨rfl, rfl, trivial, HQ.out⟩
  · intro vals xw f hf1 hf2 hf3 hI hF
    clear hf2 hf3
    simp only [saysD, List.getD_cons_zero, List.getD_cons_succ, and_true] at hF
    have e1 := hF
    dsimp only [owes4, bare]
    simp only [putsD, Act.put, List.setIfInBounds_toArray, List.set_cons_zero, List.set_cons_succ]
    simp only [e1]
    have ux := HUX.out
    go_wp2
    exact ⟨rfl, rfl, trivial, hI⟩
  · intro vals xw f hf1 hf2 hf3 hI hF
    clear hf2 hf3
    simp only [saysD, List.getD_cons_zero, List.getD_cons_succ, and_true] at hF
    obtain ⟨e1, e2⟩ := hF
    dsimp only [owes4, bare]
    simp only [putsD, Act.put, List.setIfInBounds_toArray, List.set_cons_zero, List.set_cons_succ]
    simp only [e1, e2]
    have HI := Lib.hid hI
    clear hI
    go_wp2_with fail
    refine (HVEC.out _).mono ?_
    rintro e wx ⟨rfl, hb9⟩
    have HQ := Lib.hid (show (fun f9 x9 => Below w.heap.size w x9 ∧ x9.heap[w.heap.size]? = some (.cells #[.int .i64 3, .int .i64 n] 54 (0, 0)) ∧ (f9 5 = false → x9.heap[w.heap.size + 1]? = some (.cells #[.int .i64 0, .int .i64 0] 54 (0, 0))) ∧ (f9 5 = true → x9.heap[w.heap.size + 1]? = some (.cells #[.int .i64 3, .int .i64 r] 54 (0, 0)))) (did f 4) wx from (by exact ⟨bthen HI.out.1 hb9, (hb9.block _ (lt_of_block HI.out.2.1)).trans HI.out.2.1, fun h => (hb9.block _ (lt_of_block (HI.out.2.2.1 h))).trans (HI.out.2.2.1 h), fun h => (hb9.block _ (lt_of_block (HI.out.2.2.2 h))).trans (HI.out.2.2.2 h)⟩))
    clear hb9
    go_wp2
    exact ⟨rfl, rfl, trivial, HQ.out⟩
  · intro vals xw f hf1 hf2 hf3 hI hF
    clear hf2 hf3
    simp only [saysD, List.getD_cons_zero, List.getD_cons_succ, and_true] at hF
    have e1 := hF
    dsimp only [owes4, bare]
    simp only [putsD, Act.put, List.setIfInBounds_toArray, List.set_cons_zero, List.set_cons_succ]
    simp only [e1]
    obtain ⟨i1, i2, i3, i4⟩ := hI
    have j3 := i3 hf1
    have v0 := (cell_of_block j3 0).1
    have v1 := (cell_of_block j3 1).1
    have f0 := (cell_of_block j3 0).2
    have f1 := (cell_of_block j3 1).2
    have I1 := Lib.hid i1
    have I2 := Lib.hid i2
    have J3 := Lib.hid j3
    clear i1 i2 i3 i4 j3
    go_wp2
    have h2 := heap_set_same _ (w.heap.size + 1) 1 (.int .i64 r) _ _ (heap_set_same xw (w.heap.size + 1) 0 (.int .i64 3) _ _ J3.out)
    exact ⟨rfl, trivial, trivial, below_set (below_set I1.out (by show w.heap.size ≤ w.heap.size + 1; omega) _) (by show w.heap.size ≤ w.heap.size + 1; omega) _, (heap_setCell_other _ _ _ _ (by show w.heap.size ≠ w.heap.size + 1; omega)).trans ((heap_setCell_other _ _ _ _ (by show w.heap.size ≠ w.heap.size + 1; omega)).trans I2.out), fun h => absurd ((did_same f 5).symm.trans h) (by simp), fun _ => h2⟩
  · intro vals xw f hf1 hf2 hf3 hI hF
    clear hf2 hf3
    dsimp only [owes4, bare]
    simp only [putsD, Act.put, List.setIfInBounds_toArray, List.set_cons_zero, List.set_cons_succ]
    go_wp2
    exact ⟨rfl, rfl, trivial, hI⟩
  · intro vals xw f hall hI hF
    rw [show List.range _ = [0, 1, 2, 3, 4, 5, 6] from rfl] at hF
    simp only [says, List.getD_cons_zero, List.getD_cons_succ, and_true] at hF
    obtain ⟨i1, i2, i3, i4⟩ := hI
    have j4 := i4 (hall 5 (by decide))
    have k5 := (cell_of_block j4 0).1
    have k6 := (cell_of_block j4 1).1
    have kf5 := (cell_of_block j4 0).2
    have kf6 := (cell_of_block j4 1).2
    have e9 : vals 6 = .bool true := by obtain ⟨_, _, _, _, _, _, e9⟩ := hF; exact e9
    have I1 := Lib.hid i1
    clear i1 i2 i3 i4 j4 hF
    simp only [putsD, Act.put, List.setIfInBounds_toArray, List.set_cons_zero, List.set_cons_succ]
    simp only [e9]
    clear e9
    go_wp2
    refine bodyPost_ret (v := .tuple #[.agg #[.int .i64 3, .int .i64 r], .bool true]) (by simp [results, Tryd.results37, go_sem, k5, k6, kf5, kf6]) rfl ?_
    exact ⟨rfl, I1.out⟩
set_option maxRecDepth 100000 in
set_option maxHeartbeats 2000000 in
theorem vecUn_3_2 (n : Int) (w : World) (n0 : 0 ≤ n) (hn : n < 8) :
    Calls Tryd.prog 37 #[.int .i64 2, .agg #[.int .i64 3, .int .i64 n]] w fun e w' => e = .returned (.tuple #[.agg #[.int .i64 3, .int .i64 (unV 2 3 n)], .bool true]) ∧ Below w.heap.size w w' := by
  obtain ⟨hW, hB0, hB1, hWS⟩ := two_boxes w (.cells #[.int .i64 3, .int .i64 n] 54) (.cells #[.int .i64 0, .int .i64 0] 54)
  obtain ⟨u, hu⟩ : ∃ u : Nat, (u : Int) = (18446744073709551616 - n) % 18446744073709551616 := ⟨((18446744073709551616 - n) % 18446744073709551616).toNat, by omega⟩
  obtain ⟨r, hr⟩ : ∃ r : Int, r = unV 2 3 n := ⟨_, rfl⟩
  rw [← hr]
  have hr2 : ((u % 8 : Nat) : Int) = r := by rw [hr]; unfold unV; simp; omega
  have hul : u < 18446744073709551616 := by omega
  have HW := Lib.hid hW
  have HB1 := Lib.hid hB1
  have HOK := Lib.hid (fun z => vecOk_any 3 n z (by omega) (by omega) n0 (by simpa using hn))
  have HRAW := Lib.hid (fun z => raw_any 3 n z n0 (by omega))
  have HVEC := Lib.hid (fun z => vec_3 n u r z hul hr2)
  have HUX : Hid (IntKind.u64.wrap (-n) = (u : Int)) := Lib.hid (by rw [hu]; rw [IntKind.wrap_u64]; omega)
  have HB0 := Lib.hid hB0
  have v0 := (cell_of_block hB0 0).1
  have v1 := (cell_of_block hB0 1).1
  simp only [Int.cast_ofNat_Int] at HOK HRAW
  clear hW hB0 hB1 hWS hu hr hr2 hul
  go_enter Tryd.func37, Tryd.ntmps37
  go_wp2_with fail
  clear v0 v1
  refine (HOK.out _).mono ?_
  generalize hX0 : (w.alloc (.cells #[.int .i64 3, .int .i64 n] 54)).alloc (.cells #[.int .i64 0, .int .i64 0] 54) = X0 at *
  clear hX0
  rintro e w1 ⟨rfl, hb1⟩
  have HB0 := Lib.hid ((hb1.block _ (lt_of_block HB0.out)).trans HB0.out)
  have HB1 := Lib.hid ((hb1.block _ (lt_of_block HB1.out)).trans HB1.out)
  have HW := Lib.hid (bthen HW.out hb1)
  clear hb1 HOK
  go_wp2
  refine wp_region_rel4 [[], [], [(1, 23)], [(2, 24)], [(0, 22), (3, 25)], [(4, 26)], []]
    (fun _ _ => True)
    []
    (fun f9 x9 => Below w.heap.size w x9 ∧ x9.heap[w.heap.size]? = some (.cells #[.int .i64 3, .int .i64 n] 54 (0, 0)) ∧ (f9 5 = false → x9.heap[w.heap.size + 1]? = some (.cells #[.int .i64 0, .int .i64 0] 54 (0, 0))) ∧ (f9 5 = true → x9.heap[w.heap.size + 1]? = some (.cells #[.int .i64 3, .int .i64 r] 54 (0, 0))))
    [fun vs9 _ => vs9 0 = (.agg #[.int .i64 3, .int .i64 n]),
    fun vs9 _ => vs9 1 = (.agg #[.int .i64 3, .int .i64 n]),
    fun vs9 _ => vs9 2 = (.int .u64 n),
    fun vs9 _ => vs9 3 = (.int .u64 (u : Int)),
    fun vs9 _ => vs9 4 = (.agg #[.int .i64 3, .int .i64 r]),
    fun _ _ => True,
    fun vs9 _ => vs9 6 = (.bool true)]
    [(0, 22), (1, 23), (2, 24), (3, 25), (4, 26), (6, 5)] (by kernel_rfl) (by kernel_rfl) (by kernel_rfl) (by kernel_rfl)
    (fun _ => trivial) trivial
    ⟨⟨.inr (fun _ _ _ h _ => h), trivial⟩,
    ⟨.inr (fun _ _ _ h _ => h), trivial⟩,
    ⟨.inr (fun _ _ _ h _ => h), trivial⟩,
    ⟨.inr (fun _ _ _ h _ => h), trivial⟩,
    ⟨.inr (fun _ _ _ h _ => h), trivial⟩,
    ⟨.inr (fun _ _ _ h _ => h), trivial⟩,
    ⟨.inr (fun _ _ _ h _ => h), trivial⟩, trivial⟩ ⟨fun vs vs' x h _ hv => (by dsimp only at hv ⊢; first | (rw [← h]; exact hv) | exact hv),
    fun vs vs' x h _ hv => (by dsimp only at hv ⊢; first | (rw [← h]; exact hv) | exact hv),
    fun vs vs' x h _ hv => (by dsimp only at hv ⊢; first | (rw [← h]; exact hv) | exact hv),
    fun vs vs' x h _ hv => (by dsimp only at hv ⊢; first | (rw [← h]; exact hv) | exact hv),
    fun vs vs' x h _ hv => (by dsimp only at hv ⊢; first | (rw [← h]; exact hv) | exact hv),
    fun _ _ _ _ _ _ => trivial,
    fun vs vs' x h _ hv => (by dsimp only at hv ⊢; first | (rw [← h]; exact hv) | exact hv), trivial⟩ (⟨bthen HW.out (below_drewN (Below.refl _ _) 1), HB0.out, fun _ => HB1.out, fun h => by cases h⟩) ⟨?_, ?_, ?_, ?_, ?_, ?_, ?_, trivial⟩ ?_
  · intro vals xw f hf1 hf2 hf3 hI hF
    clear hf2 hf3
    dsimp only [owes4, bare]
    simp only [putsD, Act.put, List.setIfInBounds_toArray, List.set_cons_zero, List.set_cons_succ]
    have v0 := (cell_of_block hI.2.1 0).1
    have v1 := (cell_of_block hI.2.1 1).1
    go_wp2
    exact ⟨rfl, rfl, trivial, hI⟩
  · intro vals xw f hf1 hf2 hf3 hI hF
    clear hf2 hf3
    dsimp only [owes4, bare]
    simp only [putsD, Act.put, List.setIfInBounds_toArray, List.set_cons_zero, List.set_cons_succ]
    have v0 := (cell_of_block hI.2.1 0).1
    have v1 := (cell_of_block hI.2.1 1).1
    go_wp2
    exact ⟨rfl, rfl, trivial, hI⟩
  · intro vals xw f hf1 hf2 hf3 hI hF
    clear hf2 hf3
    simp only [saysD, List.getD_cons_zero, List.getD_cons_succ, and_true] at hF
    have e1 := hF
    dsimp only [owes4, bare]
    simp only [putsD, Act.put, List.setIfInBounds_toArray, List.set_cons_zero, List.set_cons_succ]
    simp only [e1]
    have HI := Lib.hid hI
    clear hI
    go_wp2_with fail
    refine (HRAW.out _).mono ?_
    rintro e wx ⟨rfl, hb9⟩
    have HQ := Lib.hid (show (fun f9 x9 => Below w.heap.size w x9 ∧ x9.heap[w.heap.size]? = some (.cells #[.int .i64 3, .int .i64 n] 54 (0, 0)) ∧ (f9 5 = false → x9.heap[w.heap.size + 1]? = some (.cells #[.int .i64 0, .int .i64 0] 54 (0, 0))) ∧ (f9 5 = true → x9.heap[w.heap.size + 1]? = some (.cells #[.int .i64 3, .int .i64 r] 54 (0, 0)))) (did f 2) wx from (by exact ⟨bthen HI.out.1 hb9, (hb9.block _ (lt_of_block HI.out.2.1)).trans HI.out.2.1, fun h => (hb9.block _ (lt_of_block (HI.out.2.2.1 h))).trans (HI.out.2.2.1 h), fun h => (hb9.block _ (lt_of_block (HI.out.2.2.2 h))).trans (HI.out.2.2.2 h)⟩))
    clear hb9
    go_wp2
    exact ⟨rfl, rfl, trivial, HQ.out⟩
  · intro vals xw f hf1 hf2 hf3 hI hF
    clear hf2 hf3
    simp only [saysD, List.getD_cons_zero, List.getD_cons_succ, and_true] at hF
    have e1 := hF
    dsimp only [owes4, bare]
    simp only [putsD, Act.put, List.setIfInBounds_toArray, List.set_cons_zero, List.set_cons_succ]
    simp only [e1]
    have ux := HUX.out
    go_wp2
    exact ⟨rfl, rfl, trivial, hI⟩
  · intro vals xw f hf1 hf2 hf3 hI hF
    clear hf2 hf3
    simp only [saysD, List.getD_cons_zero, List.getD_cons_succ, and_true] at hF
    obtain ⟨e1, e2⟩ := hF
    dsimp only [owes4, bare]
    simp only [putsD, Act.put, List.setIfInBounds_toArray, List.set_cons_zero, List.set_cons_succ]
    simp only [e1, e2]
    have HI := Lib.hid hI
    clear hI
    go_wp2_with fail
    refine (HVEC.out _).mono ?_
    rintro e wx ⟨rfl, hb9⟩
    have HQ := Lib.hid (show (fun f9 x9 => Below w.heap.size w x9 ∧ x9.heap[w.heap.size]? = some (.cells #[.int .i64 3, .int .i64 n] 54 (0, 0)) ∧ (f9 5 = false → x9.heap[w.heap.size + 1]? = some (.cells #[.int .i64 0, .int .i64 0] 54 (0, 0))) ∧ (f9 5 = true → x9.heap[w.heap.size + 1]? = some (.cells #[.int .i64 3, .int .i64 r] 54 (0, 0)))) (did f 4) wx from (by exact ⟨bthen HI.out.1 hb9, (hb9.block _ (lt_of_block HI.out.2.1)).trans HI.out.2.1, fun h => (hb9.block _ (lt_of_block (HI.out.2.2.1 h))).trans (HI.out.2.2.1 h), fun h => (hb9.block _ (lt_of_block (HI.out.2.2.2 h))).trans (HI.out.2.2.2 h)⟩))
    clear hb9
    go_wp2
    exact ⟨rfl, rfl, trivial, HQ.out⟩
  · intro vals xw f hf1 hf2 hf3 hI hF
    clear hf2 hf3
    simp only [saysD, List.getD_cons_zero, List.getD_cons_succ, and_true] at hF
    have e1 := hF
    dsimp only [owes4, bare]
    simp only [putsD, Act.put, List.setIfInBounds_toArray, List.set_cons_zero, List.set_cons_succ]
    simp only [e1]
    obtain ⟨i1, i2, i3, i4⟩ := hI
    have j3 := i3 hf1
    have v0 := (cell_of_block j3 0).1
    have v1 := (cell_of_block j3 1).1
    have f0 := (cell_of_block j3 0).2
    have f1 := (cell_of_block j3 1).2
    have I1 := Lib.hid i1
    have I2 := Lib.hid i2
    have J3 := Lib.hid j3
    clear i1 i2 i3 i4 j3
    go_wp2
    have h2 := heap_set_same _ (w.heap.size + 1) 1 (.int .i64 r) _ _ (heap_set_same xw (w.heap.size + 1) 0 (.int .i64 3) _ _ J3.out)
    exact ⟨rfl, trivial, trivial, below_set (below_set I1.out (by show w.heap.size ≤ w.heap.size + 1; omega) _) (by show w.heap.size ≤ w.heap.size + 1; omega) _, (heap_setCell_other _ _ _ _ (by show w.heap.size ≠ w.heap.size + 1; omega)).trans ((heap_setCell_other _ _ _ _ (by show w.heap.size ≠ w.heap.size + 1; omega)).trans I2.out), fun h => absurd ((did_same f 5).symm.trans h) (by simp), fun _ => h2⟩
  · intro vals xw f hf1 hf2 hf3 hI hF
    clear hf2 hf3
    dsimp only [owes4, bare]
    simp only [putsD, Act.put, List.setIfInBounds_toArray, List.set_cons_zero, List.set_cons_succ]
    go_wp2
    exact ⟨rfl, rfl, trivial, hI⟩
  · intro vals xw f hall hI hF
    rw [show List.range _ = [0, 1, 2, 3, 4, 5, 6] from rfl] at hF
    simp only [says, List.getD_cons_zero, List.getD_cons_succ, and_true] at hF
    obtain ⟨i1, i2, i3, i4⟩ := hI
    have j4 := i4 (hall 5 (by decide))
    have k5 := (cell_of_block j4 0).1
    have k6 := (cell_of_block j4 1).1
    have kf5 := (cell_of_block j4 0).2
    have kf6 := (cell_of_block j4 1).2
    have e9 : vals 6 = .bool true := by obtain ⟨_, _, _, _, _, _, e9⟩ := hF; exact e9
    have I1 := Lib.hid i1
    clear i1 i2 i3 i4 j4 hF
    simp only [putsD, Act.put, List.setIfInBounds_toArray, List.set_cons_zero, List.set_cons_succ]
    simp only [e9]
    clear e9
    go_wp2
    refine bodyPost_ret (v := .tuple #[.agg #[.int .i64 3, .int .i64 r], .bool true]) (by simp [results, Tryd.results37, go_sem, k5, k6, kf5, kf6]) rfl ?_
    exact ⟨rfl, I1.out⟩
set_option maxHeartbeats 1000000 in
theorem cut_4 (u : Nat) (r : Int) (w : World) (hu : u < 18446744073709551616) (hr : ((u % 16 : Nat) : Int) = r) :
    Calls Tryd.prog 103 #[.int .u64 u, .int .i64 4] w fun e w' => e = .returned (.int .u64 r) ∧ w = w' := by
  have hand : bits .and .u64 (u : Int) 15 = r := by rw [← hr]; exact and_u64 u 4 hu (by omega)
  clear hr
  go_enter Tryd.func103, Tryd.ntmps103
  go_wp2
  go_ret
  exact ⟨rfl, rfl⟩
set_option maxRecDepth 100000 in
set_option maxHeartbeats 2000000 in
theorem vec_4 (n : Int) (u : Nat) (r : Int) (w : World) (hu : u < 18446744073709551616) (hr : ((u % 16 : Nat) : Int) = r) :
    Calls Tryd.prog 73 #[.agg #[.int .i64 4, .int .i64 n], .int .u64 u] w fun e w' => e = .returned (.agg #[.int .i64 4, .int .i64 r]) ∧ Below w.heap.size w w' := by
  obtain ⟨hW, hB0, hB1, hWS⟩ := two_boxes w (.cells #[.int .i64 4, .int .i64 n] 54) (.cells #[.int .i64 0, .int .i64 0] 54)
  have HW := Lib.hid hW
  have HB0 := Lib.hid hB0
  have HB1 := Lib.hid hB1
  have HCUT := Lib.hid (fun z => cut_4 u r z hu hr)
  have hr0 : 0 ≤ r := by omega
  have hr1 : r < 16 := by omega
  clear hW hB0 hB1 hWS hr
  go_enter Tryd.func73, Tryd.ntmps73
  go_wp2
  generalize hX0 : (w.alloc (.cells #[.int .i64 4, .int .i64 n] 54)).alloc (.cells #[.int .i64 0, .int .i64 0] 54) = X0 at *
  clear hX0
  refine wp_region_rel4 [[], [(0, 5)], [], [], [(3, 8)], [(2, 7), (4, 9)], [(5, 10)], [(1, 6), (6, 11)], [(7, 12)]]
    (fun _ _ => True)
    []
    (fun f9 x9 => Below w.heap.size w x9 ∧ x9.heap[w.heap.size]? = some (.cells #[.int .i64 4, .int .i64 n] 54 (0, 0)) ∧ (f9 8 = false → x9.heap[w.heap.size + 1]? = some (.cells #[.int .i64 0, .int .i64 0] 54 (0, 0))) ∧ (f9 8 = true → x9.heap[w.heap.size + 1]? = some (.cells #[.int .i64 4, .int .i64 r] 54 (0, 0))))
    [fun vs9 _ => vs9 0 = (.pointer (some ⟨w.heap.size, 0, none⟩)),
    fun vs9 _ => vs9 1 = (.int .i64 4),
    fun vs9 _ => vs9 2 = (.int .u64 (u : Int)),
    fun vs9 _ => vs9 3 = (.pointer (some ⟨w.heap.size, 0, none⟩)),
    fun vs9 _ => vs9 4 = (.int .i64 4),
    fun vs9 _ => vs9 5 = (.int .u64 r),
    fun vs9 _ => vs9 6 = (.int .i64 r),
    fun vs9 _ => vs9 7 = (.agg #[.int .i64 4, .int .i64 r]),
    fun _ _ => True]
    [(0, 5), (1, 6), (2, 7), (3, 8), (4, 9), (5, 10), (6, 11), (7, 12)] (by kernel_rfl) (by kernel_rfl) (by kernel_rfl) (by kernel_rfl)
    (fun _ => trivial) trivial
    ⟨⟨.inr (fun _ _ _ h _ => h), trivial⟩,
    ⟨.inr (fun _ _ _ h _ => h), trivial⟩,
    ⟨.inr (fun _ _ _ h _ => h), trivial⟩,
    ⟨.inr (fun _ _ _ h _ => h), trivial⟩,
    ⟨.inr (fun _ _ _ h _ => h), trivial⟩,
    ⟨.inr (fun _ _ _ h _ => h), trivial⟩,
    ⟨.inr (fun _ _ _ h _ => h), trivial⟩,
    ⟨.inr (fun _ _ _ h _ => h), trivial⟩,
    ⟨.inr (fun _ _ _ h _ => h), trivial⟩, trivial⟩ ⟨fun vs vs' x h _ hv => (by dsimp only at hv ⊢; first | (rw [← h]; exact hv) | exact hv),
    fun vs vs' x h _ hv => (by dsimp only at hv ⊢; first | (rw [← h]; exact hv) | exact hv),
    fun vs vs' x h _ hv => (by dsimp only at hv ⊢; first | (rw [← h]; exact hv) | exact hv),
    fun vs vs' x h _ hv => (by dsimp only at hv ⊢; first | (rw [← h]; exact hv) | exact hv),
    fun vs vs' x h _ hv => (by dsimp only at hv ⊢; first | (rw [← h]; exact hv) | exact hv),
    fun vs vs' x h _ hv => (by dsimp only at hv ⊢; first | (rw [← h]; exact hv) | exact hv),
    fun vs vs' x h _ hv => (by dsimp only at hv ⊢; first | (rw [← h]; exact hv) | exact hv),
    fun vs vs' x h _ hv => (by dsimp only at hv ⊢; first | (rw [← h]; exact hv) | exact hv),
    fun _ _ _ _ _ _ => trivial, trivial⟩ (⟨HW.out.trans (below_drewN (Below.refl _ _) 1 |>.mono HW.out.size), HB0.out, fun _ => HB1.out, fun h => by cases h⟩) ⟨?_, ?_, ?_, ?_, ?_, ?_, ?_, ?_, ?_, trivial⟩ ?_
  · intro vals xw f hf1 hf2 hf3 hI hF
    clear hf2 hf3
    dsimp only [owes4, bare]
    simp only [putsD, Act.put, List.setIfInBounds_toArray, List.set_cons_zero, List.set_cons_succ]
    go_wp2
    exact ⟨rfl, rfl, trivial, hI⟩
  · intro vals xw f hf1 hf2 hf3 hI hF
    clear hf2 hf3
    simp only [saysD, List.getD_cons_zero, List.getD_cons_succ, and_true] at hF
    have e1 := hF
    dsimp only [owes4, bare]
    simp only [putsD, Act.put, List.setIfInBounds_toArray, List.set_cons_zero, List.set_cons_succ]
    simp only [e1]
    have v0 := (cell_of_block hI.2.1 0).1
    go_wp2
    exact ⟨rfl, rfl, trivial, hI⟩
  · intro vals xw f hf1 hf2 hf3 hI hF
    clear hf2 hf3
    dsimp only [owes4, bare]
    simp only [putsD, Act.put, List.setIfInBounds_toArray, List.set_cons_zero, List.set_cons_succ]
    go_wp2
    exact ⟨rfl, rfl, trivial, hI⟩
  · intro vals xw f hf1 hf2 hf3 hI hF
    clear hf2 hf3
    dsimp only [owes4, bare]
    simp only [putsD, Act.put, List.setIfInBounds_toArray, List.set_cons_zero, List.set_cons_succ]
    go_wp2
    exact ⟨rfl, rfl, trivial, hI⟩
  · intro vals xw f hf1 hf2 hf3 hI hF
    clear hf2 hf3
    simp only [saysD, List.getD_cons_zero, List.getD_cons_succ, and_true] at hF
    have e1 := hF
    dsimp only [owes4, bare]
    simp only [putsD, Act.put, List.setIfInBounds_toArray, List.set_cons_zero, List.set_cons_succ]
    simp only [e1]
    have v0 := (cell_of_block hI.2.1 0).1
    go_wp2
    exact ⟨rfl, rfl, trivial, hI⟩
  · intro vals xw f hf1 hf2 hf3 hI hF
    clear hf2 hf3
    simp only [saysD, List.getD_cons_zero, List.getD_cons_succ, and_true] at hF
    obtain ⟨e1, e2⟩ := hF
    dsimp only [owes4, bare]
    simp only [putsD, Act.put, List.setIfInBounds_toArray, List.set_cons_zero, List.set_cons_succ]
    simp only [e1, e2]
    go_wp2_with fail
    refine (HCUT.out _).mono ?_
    rintro e wx ⟨rfl, rfl⟩
    go_wp2
    exact ⟨rfl, rfl, trivial, hI⟩
  · intro vals xw f hf1 hf2 hf3 hI hF
    clear hf2 hf3
    simp only [saysD, List.getD_cons_zero, List.getD_cons_succ, and_true] at hF
    have e1 := hF
    dsimp only [owes4, bare]
    simp only [putsD, Act.put, List.setIfInBounds_toArray, List.set_cons_zero, List.set_cons_succ]
    simp only [e1]
    go_wp2
    exact ⟨rfl, rfl, trivial, hI⟩
  · intro vals xw f hf1 hf2 hf3 hI hF
    clear hf2 hf3
    simp only [saysD, List.getD_cons_zero, List.getD_cons_succ, and_true] at hF
    obtain ⟨e1, e2⟩ := hF
    dsimp only [owes4, bare]
    simp only [putsD, Act.put, List.setIfInBounds_toArray, List.set_cons_zero, List.set_cons_succ]
    simp only [e1, e2]
    go_wp2
    exact ⟨rfl, rfl, trivial, hI⟩
  · intro vals xw f hf1 hf2 hf3 hI hF
    clear hf2 hf3
    simp only [saysD, List.getD_cons_zero, List.getD_cons_succ, and_true] at hF
    have e1 := hF
    dsimp only [owes4, bare]
    simp only [putsD, Act.put, List.setIfInBounds_toArray, List.set_cons_zero, List.set_cons_succ]
    simp only [e1]
    obtain ⟨i1, i2, i3, i4⟩ := hI
    have j3 := i3 hf1
    have v0 := (cell_of_block j3 0).1
    have v1 := (cell_of_block j3 1).1
    have f0 := (cell_of_block j3 0).2
    have f1 := (cell_of_block j3 1).2
    have I1 := Lib.hid i1
    have I2 := Lib.hid i2
    have J3 := Lib.hid j3
    clear i1 i2 i3 i4 j3
    go_wp2
    have h2 := heap_set_same _ (w.heap.size + 1) 1 (.int .i64 r) _ _ (heap_set_same xw (w.heap.size + 1) 0 (.int .i64 4) _ _ J3.out)
    exact ⟨rfl, trivial, trivial, below_set (below_set I1.out (by show w.heap.size ≤ w.heap.size + 1; omega) _) (by show w.heap.size ≤ w.heap.size + 1; omega) _, (heap_setCell_other _ _ _ _ (by show w.heap.size ≠ w.heap.size + 1; omega)).trans ((heap_setCell_other _ _ _ _ (by show w.heap.size ≠ w.heap.size + 1; omega)).trans I2.out), fun h => absurd ((did_same f 8).symm.trans h) (by simp), fun _ => h2⟩
  · intro vals xw f hall hI hF
    rw [show List.range _ = [0, 1, 2, 3, 4, 5, 6, 7, 8] from rfl] at hF
    simp only [says, List.getD_cons_zero, List.getD_cons_succ, and_true] at hF
    obtain ⟨i1, i2, i3, i4⟩ := hI
    have j4 := i4 (hall 8 (by decide))
    have k5 := (cell_of_block j4 0).1
    have k6 := (cell_of_block j4 1).1
    have kf5 := (cell_of_block j4 0).2
    have kf6 := (cell_of_block j4 1).2
    have I1 := Lib.hid i1
    clear i1 i2 i3 i4 j4 hF
    simp only [putsD, Act.put, List.setIfInBounds_toArray, List.set_cons_zero, List.set_cons_succ]
    go_wp2
    refine bodyPost_ret (v := .agg #[.int .i64 4, .int .i64 r]) (by simp [results, Tryd.results73, go_sem, k5, k6, kf5, kf6]) rfl ?_
    exact ⟨rfl, I1.out⟩
set_option maxRecDepth 100000 in
set_option maxHeartbeats 2000000 in
theorem vecUn_4_1 (n : Int) (w : World) (n0 : 0 ≤ n) (hn : n < 16) :
    Calls Tryd.prog 37 #[.int .i64 1, .agg #[.int .i64 4, .int .i64 n]] w fun e w' => e = .returned (.tuple #[.agg #[.int .i64 4, .int .i64 (unV 1 4 n)], .bool true]) ∧ Below w.heap.size w w' := by
  obtain ⟨hW, hB0, hB1, hWS⟩ := two_boxes w (.cells #[.int .i64 4, .int .i64 n] 54) (.cells #[.int .i64 0, .int .i64 0] 54)
  obtain ⟨u, hu⟩ : ∃ u : Nat, (u : Int) = 18446744073709551615 - n := ⟨(18446744073709551615 - n).toNat, by omega⟩
  obtain ⟨r, hr⟩ : ∃ r : Int, r = unV 1 4 n := ⟨_, rfl⟩
  rw [← hr]
  have hr2 : ((u % 16 : Nat) : Int) = r := by rw [hr]; unfold unV; simp; omega
  have hul : u < 18446744073709551616 := by omega
  have HW := Lib.hid hW
  have HB1 := Lib.hid hB1
  have HOK := Lib.hid (fun z => vecOk_any 4 n z (by omega) (by omega) n0 (by simpa using hn))
  have HRAW := Lib.hid (fun z => raw_any 4 n z n0 (by omega))
  have HVEC := Lib.hid (fun z => vec_4 n u r z hul hr2)
  have HUX : Hid (bits .xor .u64 IntKind.u64.max n = (u : Int)) := Lib.hid (by rw [hu]; exact not_u64 n0 (by omega))
  have HB0 := Lib.hid hB0
  have v0 := (cell_of_block hB0 0).1
  have v1 := (cell_of_block hB0 1).1
  simp only [Int.cast_ofNat_Int] at HOK HRAW
  clear hW hB0 hB1 hWS hu hr hr2 hul
  go_enter Tryd.func37, Tryd.ntmps37
  go_wp2_with fail
  clear v0 v1
  refine (HOK.out _).mono ?_
  generalize hX0 : (w.alloc (.cells #[.int .i64 4, .int .i64 n] 54)).alloc (.cells #[.int .i64 0, .int .i64 0] 54) = X0 at *
  clear hX0
  rintro e w1 ⟨rfl, hb1⟩
  have HB0 := Lib.hid ((hb1.block _ (lt_of_block HB0.out)).trans HB0.out)
  have HB1 := Lib.hid ((hb1.block _ (lt_of_block HB1.out)).trans HB1.out)
  have HW := Lib.hid (bthen HW.out hb1)
  clear hb1 HOK
  go_wp2
  refine wp_region_rel4 [[], [], [(1, 15)], [(2, 16)], [(0, 14), (3, 17)], [(4, 18)], []]
    (fun _ _ => True)
    []
    (fun f9 x9 => Below w.heap.size w x9 ∧ x9.heap[w.heap.size]? = some (.cells #[.int .i64 4, .int .i64 n] 54 (0, 0)) ∧ (f9 5 = false → x9.heap[w.heap.size + 1]? = some (.cells #[.int .i64 0, .int .i64 0] 54 (0, 0))) ∧ (f9 5 = true → x9.heap[w.heap.size + 1]? = some (.cells #[.int .i64 4, .int .i64 r] 54 (0, 0))))
    [fun vs9 _ => vs9 0 = (.agg #[.int .i64 4, .int .i64 n]),
    fun vs9 _ => vs9 1 = (.agg #[.int .i64 4, .int .i64 n]),
    fun vs9 _ => vs9 2 = (.int .u64 n),
    fun vs9 _ => vs9 3 = (.int .u64 (u : Int)),
    fun vs9 _ => vs9 4 = (.agg #[.int .i64 4, .int .i64 r]),
    fun _ _ => True,
    fun vs9 _ => vs9 6 = (.bool true)]
    [(0, 14), (1, 15), (2, 16), (3, 17), (4, 18), (6, 5)] (by kernel_rfl) (by kernel_rfl) (by kernel_rfl) (by kernel_rfl)
    (fun _ => trivial) trivial
    ⟨⟨.inr (fun _ _ _ h _ => h), trivial⟩,
    ⟨.inr (fun _ _ _ h _ => h), trivial⟩,
    ⟨.inr (fun _ _ _ h _ => h), trivial⟩,
    ⟨.inr (fun _ _ _ h _ => h), trivial⟩,
    ⟨.inr (fun _ _ _ h _ => h), trivial⟩,
    ⟨.inr (fun _ _ _ h _ => h), trivial⟩,
    ⟨.inr (fun _ _ _ h _ => h), trivial⟩, trivial⟩ ⟨fun vs vs' x h _ hv => (by dsimp only at hv ⊢; first | (rw [← h]; exact hv) | exact hv),
    fun vs vs' x h _ hv => (by dsimp only at hv ⊢; first | (rw [← h]; exact hv) | exact hv),
    fun vs vs' x h _ hv => (by dsimp only at hv ⊢; first | (rw [← h]; exact hv) | exact hv),
    fun vs vs' x h _ hv => (by dsimp only at hv ⊢; first | (rw [← h]; exact hv) | exact hv),
    fun vs vs' x h _ hv => (by dsimp only at hv ⊢; first | (rw [← h]; exact hv) | exact hv),
    fun _ _ _ _ _ _ => trivial,
    fun vs vs' x h _ hv => (by dsimp only at hv ⊢; first | (rw [← h]; exact hv) | exact hv), trivial⟩ (⟨bthen HW.out (below_drewN (Below.refl _ _) 1), HB0.out, fun _ => HB1.out, fun h => by cases h⟩) ⟨?_, ?_, ?_, ?_, ?_, ?_, ?_, trivial⟩ ?_
  · intro vals xw f hf1 hf2 hf3 hI hF
    clear hf2 hf3
    dsimp only [owes4, bare]
    simp only [putsD, Act.put, List.setIfInBounds_toArray, List.set_cons_zero, List.set_cons_succ]
    have v0 := (cell_of_block hI.2.1 0).1
    have v1 := (cell_of_block hI.2.1 1).1
    go_wp2
    exact ⟨rfl, rfl, trivial, hI⟩
  · intro vals xw f hf1 hf2 hf3 hI hF
    clear hf2 hf3
    dsimp only [owes4, bare]
    simp only [putsD, Act.put, List.setIfInBounds_toArray, List.set_cons_zero, List.set_cons_succ]
    have v0 := (cell_of_block hI.2.1 0).1
    have v1 := (cell_of_block hI.2.1 1).1
    go_wp2
    exact ⟨rfl, rfl, trivial, hI⟩
  · intro vals xw f hf1 hf2 hf3 hI hF
    clear hf2 hf3
    simp only [saysD, List.getD_cons_zero, List.getD_cons_succ, and_true] at hF
    have e1 := hF
    dsimp only [owes4, bare]
    simp only [putsD, Act.put, List.setIfInBounds_toArray, List.set_cons_zero, List.set_cons_succ]
    simp only [e1]
    have HI := Lib.hid hI
    clear hI
    go_wp2_with fail
    refine (HRAW.out _).mono ?_
    rintro e wx ⟨rfl, hb9⟩
    have HQ := Lib.hid (show (fun f9 x9 => Below w.heap.size w x9 ∧ x9.heap[w.heap.size]? = some (.cells #[.int .i64 4, .int .i64 n] 54 (0, 0)) ∧ (f9 5 = false → x9.heap[w.heap.size + 1]? = some (.cells #[.int .i64 0, .int .i64 0] 54 (0, 0))) ∧ (f9 5 = true → x9.heap[w.heap.size + 1]? = some (.cells #[.int .i64 4, .int .i64 r] 54 (0, 0)))) (did f 2) wx from (by exact ⟨bthen HI.out.1 hb9, (hb9.block _ (lt_of_block HI.out.2.1)).trans HI.out.2.1, fun h => (hb9.block _ (lt_of_block (HI.out.2.2.1 h))).trans (HI.out.2.2.1 h), fun h => (hb9.block _ (lt_of_block (HI.out.2.2.2 h))).trans (HI.out.2.2.2 h)⟩))
    clear hb9
    go_wp2
    exact ⟨rfl, rfl, trivial, HQ.out⟩
  · intro vals xw f hf1 hf2 hf3 hI hF
    clear hf2 hf3
    simp only [saysD, List.getD_cons_zero, List.getD_cons_succ, and_true] at hF
    have e1 := hF
    dsimp only [owes4, bare]
    simp only [putsD, Act.put, List.setIfInBounds_toArray, List.set_cons_zero, List.set_cons_succ]
    simp only [e1]
    have ux := HUX.out
    go_wp2
    exact ⟨rfl, rfl, trivial, hI⟩
  · intro vals xw f hf1 hf2 hf3 hI hF
    clear hf2 hf3
    simp only [saysD, List.getD_cons_zero, List.getD_cons_succ, and_true] at hF
    obtain ⟨e1, e2⟩ := hF
    dsimp only [owes4, bare]
    simp only [putsD, Act.put, List.setIfInBounds_toArray, List.set_cons_zero, List.set_cons_succ]
    simp only [e1, e2]
    have HI := Lib.hid hI
    clear hI
    go_wp2_with fail
    refine (HVEC.out _).mono ?_
    rintro e wx ⟨rfl, hb9⟩
    have HQ := Lib.hid (show (fun f9 x9 => Below w.heap.size w x9 ∧ x9.heap[w.heap.size]? = some (.cells #[.int .i64 4, .int .i64 n] 54 (0, 0)) ∧ (f9 5 = false → x9.heap[w.heap.size + 1]? = some (.cells #[.int .i64 0, .int .i64 0] 54 (0, 0))) ∧ (f9 5 = true → x9.heap[w.heap.size + 1]? = some (.cells #[.int .i64 4, .int .i64 r] 54 (0, 0)))) (did f 4) wx from (by exact ⟨bthen HI.out.1 hb9, (hb9.block _ (lt_of_block HI.out.2.1)).trans HI.out.2.1, fun h => (hb9.block _ (lt_of_block (HI.out.2.2.1 h))).trans (HI.out.2.2.1 h), fun h => (hb9.block _ (lt_of_block (HI.out.2.2.2 h))).trans (HI.out.2.2.2 h)⟩))
    clear hb9
    go_wp2
    exact ⟨rfl, rfl, trivial, HQ.out⟩
  · intro vals xw f hf1 hf2 hf3 hI hF
    clear hf2 hf3
    simp only [saysD, List.getD_cons_zero, List.getD_cons_succ, and_true] at hF
    have e1 := hF
    dsimp only [owes4, bare]
    simp only [putsD, Act.put, List.setIfInBounds_toArray, List.set_cons_zero, List.set_cons_succ]
    simp only [e1]
    obtain ⟨i1, i2, i3, i4⟩ := hI
    have j3 := i3 hf1
    have v0 := (cell_of_block j3 0).1
    have v1 := (cell_of_block j3 1).1
    have f0 := (cell_of_block j3 0).2
    have f1 := (cell_of_block j3 1).2
    have I1 := Lib.hid i1
    have I2 := Lib.hid i2
    have J3 := Lib.hid j3
    clear i1 i2 i3 i4 j3
    go_wp2
    have h2 := heap_set_same _ (w.heap.size + 1) 1 (.int .i64 r) _ _ (heap_set_same xw (w.heap.size + 1) 0 (.int .i64 4) _ _ J3.out)
    exact ⟨rfl, trivial, trivial, below_set (below_set I1.out (by show w.heap.size ≤ w.heap.size + 1; omega) _) (by show w.heap.size ≤ w.heap.size + 1; omega) _, (heap_setCell_other _ _ _ _ (by show w.heap.size ≠ w.heap.size + 1; omega)).trans ((heap_setCell_other _ _ _ _ (by show w.heap.size ≠ w.heap.size + 1; omega)).trans I2.out), fun h => absurd ((did_same f 5).symm.trans h) (by simp), fun _ => h2⟩
  · intro vals xw f hf1 hf2 hf3 hI hF
    clear hf2 hf3
    dsimp only [owes4, bare]
    simp only [putsD, Act.put, List.setIfInBounds_toArray, List.set_cons_zero, List.set_cons_succ]
    go_wp2
    exact ⟨rfl, rfl, trivial, hI⟩
  · intro vals xw f hall hI hF
    rw [show List.range _ = [0, 1, 2, 3, 4, 5, 6] from rfl] at hF
    simp only [says, List.getD_cons_zero, List.getD_cons_succ, and_true] at hF
    obtain ⟨i1, i2, i3, i4⟩ := hI
    have j4 := i4 (hall 5 (by decide))
    have k5 := (cell_of_block j4 0).1
    have k6 := (cell_of_block j4 1).1
    have kf5 := (cell_of_block j4 0).2
    have kf6 := (cell_of_block j4 1).2
    have e9 : vals 6 = .bool true := by obtain ⟨_, _, _, _, _, _, e9⟩ := hF; exact e9
    have I1 := Lib.hid i1
    clear i1 i2 i3 i4 j4 hF
    simp only [putsD, Act.put, List.setIfInBounds_toArray, List.set_cons_zero, List.set_cons_succ]
    simp only [e9]
    clear e9
    go_wp2
    refine bodyPost_ret (v := .tuple #[.agg #[.int .i64 4, .int .i64 r], .bool true]) (by simp [results, Tryd.results37, go_sem, k5, k6, kf5, kf6]) rfl ?_
    exact ⟨rfl, I1.out⟩
set_option maxRecDepth 100000 in
set_option maxHeartbeats 2000000 in
theorem vecUn_4_2 (n : Int) (w : World) (n0 : 0 ≤ n) (hn : n < 16) :
    Calls Tryd.prog 37 #[.int .i64 2, .agg #[.int .i64 4, .int .i64 n]] w fun e w' => e = .returned (.tuple #[.agg #[.int .i64 4, .int .i64 (unV 2 4 n)], .bool true]) ∧ Below w.heap.size w w' := by
  obtain ⟨hW, hB0, hB1, hWS⟩ := two_boxes w (.cells #[.int .i64 4, .int .i64 n] 54) (.cells #[.int .i64 0, .int .i64 0] 54)
  obtain ⟨u, hu⟩ : ∃ u : Nat, (u : Int) = (18446744073709551616 - n) % 18446744073709551616 := ⟨((18446744073709551616 - n) % 18446744073709551616).toNat, by omega⟩
  obtain ⟨r, hr⟩ : ∃ r : Int, r = unV 2 4 n := ⟨_, rfl⟩
  rw [← hr]
  have hr2 : ((u % 16 : Nat) : Int) = r := by rw [hr]; unfold unV; simp; omega
  have hul : u < 18446744073709551616 := by omega
  have HW := Lib.hid hW
  have HB1 := Lib.hid hB1
  have HOK := Lib.hid (fun z => vecOk_any 4 n z (by omega) (by omega) n0 (by simpa using hn))
  have HRAW := Lib.hid (fun z => raw_any 4 n z n0 (by omega))
  have HVEC := Lib.hid (fun z => vec_4 n u r z hul hr2)
  have HUX : Hid (IntKind.u64.wrap (-n) = (u : Int)) := Lib.hid (by rw [hu]; rw [IntKind.wrap_u64]; omega)
  have HB0 := Lib.hid hB0
  have v0 := (cell_of_block hB0 0).1
  have v1 := (cell_of_block hB0 1).1
  simp only [Int.cast_ofNat_Int] at HOK HRAW
  clear hW hB0 hB1 hWS hu hr hr2 hul
  go_enter Tryd.func37, Tryd.ntmps37
  go_wp2_with fail
  clear v0 v1
  refine (HOK.out _).mono ?_
  generalize hX0 : (w.alloc (.cells #[.int .i64 4, .int .i64 n] 54)).alloc (.cells #[.int .i64 0, .int .i64 0] 54) = X0 at *
  clear hX0
  rintro e w1 ⟨rfl, hb1⟩
  have HB0 := Lib.hid ((hb1.block _ (lt_of_block HB0.out)).trans HB0.out)
  have HB1 := Lib.hid ((hb1.block _ (lt_of_block HB1.out)).trans HB1.out)
  have HW := Lib.hid (bthen HW.out hb1)
  clear hb1 HOK
  go_wp2
  refine wp_region_rel4 [[], [], [(1, 23)], [(2, 24)], [(0, 22), (3, 25)], [(4, 26)], []]
    (fun _ _ => True)
    []
    (fun f9 x9 => Below w.heap.size w x9 ∧ x9.heap[w.heap.size]? = some (.cells #[.int .i64 4, .int .i64 n] 54 (0, 0)) ∧ (f9 5 = false → x9.heap[w.heap.size + 1]? = some (.cells #[.int .i64 0, .int .i64 0] 54 (0, 0))) ∧ (f9 5 = true → x9.heap[w.heap.size + 1]? = some (.cells #[.int .i64 4, .int .i64 r] 54 (0, 0))))
    [fun vs9 _ => vs9 0 = (.agg #[.int .i64 4, .int .i64 n]),
    fun vs9 _ => vs9 1 = (.agg #[.int .i64 4, .int .i64 n]),
    fun vs9 _ => vs9 2 = (.int .u64 n),
    fun vs9 _ => vs9 3 = (.int .u64 (u : Int)),
    fun vs9 _ => vs9 4 = (.agg #[.int .i64 4, .int .i64 r]),
    fun _ _ => True,
    fun vs9 _ => vs9 6 = (.bool true)]
    [(0, 22), (1, 23), (2, 24), (3, 25), (4, 26), (6, 5)] (by kernel_rfl) (by kernel_rfl) (by kernel_rfl) (by kernel_rfl)
    (fun _ => trivial) trivial
    ⟨⟨.inr (fun _ _ _ h _ => h), trivial⟩,
    ⟨.inr (fun _ _ _ h _ => h), trivial⟩,
    ⟨.inr (fun _ _ _ h _ => h), trivial⟩,
    ⟨.inr (fun _ _ _ h _ => h), trivial⟩,
    ⟨.inr (fun _ _ _ h _ => h), trivial⟩,
    ⟨.inr (fun _ _ _ h _ => h), trivial⟩,
    ⟨.inr (fun _ _ _ h _ => h), trivial⟩, trivial⟩ ⟨fun vs vs' x h _ hv => (by dsimp only at hv ⊢; first | (rw [← h]; exact hv) | exact hv),
    fun vs vs' x h _ hv => (by dsimp only at hv ⊢; first | (rw [← h]; exact hv) | exact hv),
    fun vs vs' x h _ hv => (by dsimp only at hv ⊢; first | (rw [← h]; exact hv) | exact hv),
    fun vs vs' x h _ hv => (by dsimp only at hv ⊢; first | (rw [← h]; exact hv) | exact hv),
    fun vs vs' x h _ hv => (by dsimp only at hv ⊢; first | (rw [← h]; exact hv) | exact hv),
    fun _ _ _ _ _ _ => trivial,
    fun vs vs' x h _ hv => (by dsimp only at hv ⊢; first | (rw [← h]; exact hv) | exact hv), trivial⟩ (⟨bthen HW.out (below_drewN (Below.refl _ _) 1), HB0.out, fun _ => HB1.out, fun h => by cases h⟩) ⟨?_, ?_, ?_, ?_, ?_, ?_, ?_, trivial⟩ ?_
  · intro vals xw f hf1 hf2 hf3 hI hF
    clear hf2 hf3
    dsimp only [owes4, bare]
    simp only [putsD, Act.put, List.setIfInBounds_toArray, List.set_cons_zero, List.set_cons_succ]
    have v0 := (cell_of_block hI.2.1 0).1
    have v1 := (cell_of_block hI.2.1 1).1
    go_wp2
    exact ⟨rfl, rfl, trivial, hI⟩
  · intro vals xw f hf1 hf2 hf3 hI hF
    clear hf2 hf3
    dsimp only [owes4, bare]
    simp only [putsD, Act.put, List.setIfInBounds_toArray, List.set_cons_zero, List.set_cons_succ]
    have v0 := (cell_of_block hI.2.1 0).1
    have v1 := (cell_of_block hI.2.1 1).1
    go_wp2
    exact ⟨rfl, rfl, trivial, hI⟩
  · intro vals xw f hf1 hf2 hf3 hI hF
    clear hf2 hf3
    simp only [saysD, List.getD_cons_zero, List.getD_cons_succ, and_true] at hF
    have e1 := hF
    dsimp only [owes4, bare]
    simp only [putsD, Act.put, List.setIfInBounds_toArray, List.set_cons_zero, List.set_cons_succ]
    simp only [e1]
    have HI := Lib.hid hI
    clear hI
    go_wp2_with fail
    refine (HRAW.out _).mono ?_
    rintro e wx ⟨rfl, hb9⟩
    have HQ := Lib.hid (show (fun f9 x9 => Below w.heap.size w x9 ∧ x9.heap[w.heap.size]? = some (.cells #[.int .i64 4, .int .i64 n] 54 (0, 0)) ∧ (f9 5 = false → x9.heap[w.heap.size + 1]? = some (.cells #[.int .i64 0, .int .i64 0] 54 (0, 0))) ∧ (f9 5 = true → x9.heap[w.heap.size + 1]? = some (.cells #[.int .i64 4, .int .i64 r] 54 (0, 0)))) (did f 2) wx from (by exact ⟨bthen HI.out.1 hb9, (hb9.block _ (lt_of_block HI.out.2.1)).trans HI.out.2.1, fun h => (hb9.block _ (lt_of_block (HI.out.2.2.1 h))).trans (HI.out.2.2.1 h), fun h => (hb9.block _ (lt_of_block (HI.out.2.2.2 h))).trans (HI.out.2.2.2 h)⟩))
    clear hb9
    go_wp2
    exact ⟨rfl, rfl, trivial, HQ.out⟩
  · intro vals xw f hf1 hf2 hf3 hI hF
    clear hf2 hf3
    simp only [saysD, List.getD_cons_zero, List.getD_cons_succ, and_true] at hF
    have e1 := hF
    dsimp only [owes4, bare]
    simp only [putsD, Act.put, List.setIfInBounds_toArray, List.set_cons_zero, List.set_cons_succ]
    simp only [e1]
    have ux := HUX.out
    go_wp2
    exact ⟨rfl, rfl, trivial, hI⟩
  · intro vals xw f hf1 hf2 hf3 hI hF
    clear hf2 hf3
    simp only [saysD, List.getD_cons_zero, List.getD_cons_succ, and_true] at hF
    obtain ⟨e1, e2⟩ := hF
    dsimp only [owes4, bare]
    simp only [putsD, Act.put, List.setIfInBounds_toArray, List.set_cons_zero, List.set_cons_succ]
    simp only [e1, e2]
    have HI := Lib.hid hI
    clear hI
    go_wp2_with fail
    refine (HVEC.out _).mono ?_
    rintro e wx ⟨rfl, hb9⟩
    have HQ := Lib.hid (show (fun f9 x9 => Below w.heap.size w x9 ∧ x9.heap[w.heap.size]? = some (.cells #[.int .i64 4, .int .i64 n] 54 (0, 0)) ∧ (f9 5 = false → x9.heap[w.heap.size + 1]? = some (.cells #[.int .i64 0, .int .i64 0] 54 (0, 0))) ∧ (f9 5 = true → x9.heap[w.heap.size + 1]? = some (.cells #[.int .i64 4, .int .i64 r] 54 (0, 0)))) (did f 4) wx from (by exact ⟨bthen HI.out.1 hb9, (hb9.block _ (lt_of_block HI.out.2.1)).trans HI.out.2.1, fun h => (hb9.block _ (lt_of_block (HI.out.2.2.1 h))).trans (HI.out.2.2.1 h), fun h => (hb9.block _ (lt_of_block (HI.out.2.2.2 h))).trans (HI.out.2.2.2 h)⟩))
    clear hb9
    go_wp2
    exact ⟨rfl, rfl, trivial, HQ.out⟩
  · intro vals xw f hf1 hf2 hf3 hI hF
    clear hf2 hf3
    simp only [saysD, List.getD_cons_zero, List.getD_cons_succ, and_true] at hF
    have e1 := hF
    dsimp only [owes4, bare]
    simp only [putsD, Act.put, List.setIfInBounds_toArray, List.set_cons_zero, List.set_cons_succ]
    simp only [e1]
    obtain ⟨i1, i2, i3, i4⟩ := hI
    have j3 := i3 hf1
    have v0 := (cell_of_block j3 0).1
    have v1 := (cell_of_block j3 1).1
    have f0 := (cell_of_block j3 0).2
    have f1 := (cell_of_block j3 1).2
    have I1 := Lib.hid i1
    have I2 := Lib.hid i2
    have J3 := Lib.hid j3
    clear i1 i2 i3 i4 j3
    go_wp2
    have h2 := heap_set_same _ (w.heap.size + 1) 1 (.int .i64 r) _ _ (heap_set_same xw (w.heap.size + 1) 0 (.int .i64 4) _ _ J3.out)
    exact ⟨rfl, trivial, trivial, below_set (below_set I1.out (by show w.heap.size ≤ w.heap.size + 1; omega) _) (by show w.heap.size ≤ w.heap.size + 1; omega) _, (heap_setCell_other _ _ _ _ (by show w.heap.size ≠ w.heap.size + 1; omega)).trans ((heap_setCell_other _ _ _ _ (by show w.heap.size ≠ w.heap.size + 1; omega)).trans I2.out), fun h => absurd ((did_same f 5).symm.trans h) (by simp), fun _ => h2⟩
  · intro vals xw f hf1 hf2 hf3 hI hF
    clear hf2 hf3
    dsimp only [owes4, bare]
    simp only [putsD, Act.put, List.setIfInBounds_toArray, List.set_cons_zero, List.set_cons_succ]
    go_wp2
    exact ⟨rfl, rfl, trivial, hI⟩
  · intro vals xw f hall hI hF
    rw [show List.range _ = [0, 1, 2, 3, 4, 5, 6] from rfl] at hF
    simp only [says, List.getD_cons_zero, List.getD_cons_succ, and_true] at hF
    obtain ⟨i1, i2, i3, i4⟩ := hI
    have j4 := i4 (hall 5 (by decide))
    have k5 := (cell_of_block j4 0).1
    have k6 := (cell_of_block j4 1).1
    have kf5 := (cell_of_block j4 0).2
    have kf6 := (cell_of_block j4 1).2
    have e9 : vals 6 = .bool true := by obtain ⟨_, _, _, _, _, _, e9⟩ := hF; exact e9
    have I1 := Lib.hid i1
    clear i1 i2 i3 i4 j4 hF
    simp only [putsD, Act.put, List.setIfInBounds_toArray, List.set_cons_zero, List.set_cons_succ]
    simp only [e9]
    clear e9
    go_wp2
    refine bodyPost_ret (v := .tuple #[.agg #[.int .i64 4, .int .i64 r], .bool true]) (by simp [results, Tryd.results37, go_sem, k5, k6, kf5, kf6]) rfl ?_
    exact ⟨rfl, I1.out⟩
theorem vecUn_any (op : Int) (m : Nat) (n : Int) (w : World) (ho : op = 1 ∨ op = 2) (h : 1 ≤ m) (h' : m ≤ 4) (n0 : 0 ≤ n) (hn : n < 2 ^ m) :
    Calls Tryd.prog 37 #[.int .i64 op, .agg #[.int .i64 (m : Int), .int .i64 n]] w fun e w' => e = .returned (.tuple #[.agg #[.int .i64 (m : Int), .int .i64 (unV op m n)], .bool true]) ∧ Below w.heap.size w w' := by
  rcases two_pow_cases h h' hn with ⟨rfl, hn⟩ | ⟨rfl, hn⟩ | ⟨rfl, hn⟩ | ⟨rfl, hn⟩ <;> rcases ho with rfl | rfl
  · exact vecUn_1_1 n w n0 hn
  · exact vecUn_1_2 n w n0 hn
  · exact vecUn_2_1 n w n0 hn
  · exact vecUn_2_2 n w n0 hn
  · exact vecUn_3_1 n w n0 hn
  · exact vecUn_3_2 n w n0 hn
  · exact vecUn_4_1 n w n0 hn
  · exact vecUn_4_2 n w n0 hn
end Go.Proofs.YtjghcaghigebjaaDoor

/-! The two sentinels: what the condition on the package's variables gives; the variables read again; the world that the initialisers leave. -/
namespace Go.Proofs.YtjghcaghigebjaaDoor
open Go Go.ChangeShapes Go.WideShapes Go.ChangeAt Go.RowKit

theorem dr_own : ownKnob Tryd.prog.godebug = none := by kernel_rfl
theorem dr_g0 : Tryd.prog.globalNamed "loop.example/seedlip/impl.errBits" = some 0 := by kernel_rfl
theorem dr_g1 : Tryd.prog.globalNamed "loop.example/seedlip/impl.errRoom" = some 1 := by kernel_rfl
theorem dr_t0 : (Tryd.prog.globals[0]?).map (·.type) = some 80 := by kernel_rfl
theorem dr_t1 : (Tryd.prog.globals[1]?).map (·.type) = some 80 := by kernel_rfl
theorem dr_c0 : Tryd.prog.cellsOf 210 = 1 := by kernel_rfl
theorem dr_c1 : Tryd.prog.cellsOf 9 = 1 := by kernel_rfl
theorem dr_star : "*" ++ "errors.errorString" = "*errors.errorString" := by decide
theorem dr_row (u : TypeId) (h : Tryd.prog.typeName? 3 u = some "*errors.errorString") : u = 183 :=
  typeName_ptr_named (nm := "errors.errorString") (by rw [dr_star]; kernel_rfl) (by kernel_rfl) (by decide) u (by rw [dr_star]; exact h)
/-- What is listed of the package's variables. -/
abbrev laid2 : List (String × DataW Unit) := [("loop.example/seedlip/impl.errRoom", Rows.laid_loop_example_seedlip_impl_errRoom), ("loop.example/seedlip/impl.errBits", Rows.laid_loop_example_seedlip_impl_errBits)]
set_option maxRecDepth 100000 in
theorem glb_of_laid {W : World} (h : laidMetH Tryd.prog laid2 W) :
    ∃ a0 a1 : Addr, Glb a0 a1 W.heap.size W ∧ W.var? Tryd.prog "loop.example/seedlip/impl.errBits" = some #[sentV a0] ∧ W.var? Tryd.prog "loop.example/seedlip/impl.errRoom" = some #[sentV a1] := by
  rw [MakeChecks.laidMetH_plain _ _ _ (by kernel_rfl)] at h
  obtain ⟨ps, ⟨g1, t1, cs1, f1, p1, q1, hg1, ht1, hv1, hd1, ⟨g0, t0, cs0, f0, p0, q0, hg0, ht0, hv0, hd0, hq0, e0⟩, e1⟩, hnd, hrows⟩ := h
  obtain rfl := Option.some.inj (dr_g0.symm.trans hg0)
  obtain rfl := Option.some.inj (dr_g1.symm.trans hg1)
  obtain rfl := Option.some.inj (dr_t0.symm.trans ht0)
  obtain rfl := Option.some.inj (dr_t1.symm.trans ht1)
  have hq0' : q0 = [] := hq0
  subst hq0'
  subst e0
  subst e1
  obtain ⟨l0⟩ := cs0
  obtain ⟨l1⟩ := cs1
  have ok0 : ∀ u v, l0 = [.iface u v] → Value.okWide Tryd.prog W .any 0 u v := fun u v e => by
    subst e
    exact (hrows 0 0 (by simp [MemPlace.row])).2 u v (by simpa using World.var?_cell hg0 hv0 0)
  have ok1 : ∀ u v, l1 = [.iface u v] → Value.okWide Tryd.prog W .any 0 u v := fun u v e => by
    subst e
    exact (hrows 1 0 (by simp [MemPlace.row])).2 u v (by simpa using World.var?_cell hg1 hv1 0)
  obtain ⟨a0, s0, rfl, hc0, hs0, hz0, rfl⟩ := errorString_of_trod Tryd.underlying80 dr_row Tryd.underlying183 Tryd.underlying210 rfl rfl Tryd.underlying9 dr_c0 dr_c1 hd0 ok0
  obtain ⟨a1, s1, rfl, hc1, hs1, hz1, rfl⟩ := errorString_of_trod Tryd.underlying80 dr_row Tryd.underlying183 Tryd.underlying210 rfl rfl Tryd.underlying9 dr_c0 dr_c1 hd1 ok1
  obtain ⟨c0, t0, hb0⟩ := (hrows a0.block a0.off (by simp [MemPlace.row])).1
  obtain ⟨c1, t1, hb1⟩ := (hrows a1.block a1.off (by simp [MemPlace.row])).1
  have k0 : W.cell? ⟨0, 0, none⟩ = some (sentV a0) := by simpa using World.var?_cell dr_g0 hv0 0
  have k1 : W.cell? ⟨1, 0, none⟩ = some (sentV a1) := by simpa using World.var?_cell dr_g1 hv1 0
  refine ⟨a0, a1, ⟨k0, k1, ⟨c0, t0, hb0⟩, ⟨c1, t1, hb1⟩, ?_, ?_, (Array.getElem?_eq_some_iff.1 hb0).1, (Array.getElem?_eq_some_iff.1 hb1).1⟩, hv0, hv1⟩
  · rintro rfl
    simp [MemPlace.row] at hnd
  · have := World.block_lt_of_cell? W _ k1
    exact this
/-- The variables hold below a mark what they held. -/
theorem var_below {W W' : World} {n : String} {g : Nat} {cs : Array Value} (hg : Tryd.prog.globalNamed n = some g) (h : W.var? Tryd.prog n = some cs) (hb : Below W.heap.size W W') : W'.var? Tryd.prog n = some cs := by
  unfold World.var? at h ⊢
  rw [hg] at h ⊢
  simp only [Option.bind_some] at h ⊢
  have hlt : g < W.heap.size := by
    rcases Nat.lt_or_ge g W.heap.size with h' | h'
    · exact h'
    · simp [Array.getElem?_eq_none h'] at h
  rw [hb.block g hlt]; exact h
theorem vars_read {H : Type} (enc : TypeId × Value → H) {W : World} {x0 x1 : Value} (h0 : W.var? Tryd.prog "loop.example/seedlip/impl.errBits" = some #[x0]) (h1 : W.var? Tryd.prog "loop.example/seedlip/impl.errRoom" = some #[x1]) (i0 : IsIface x0) (i1 : IsIface x1) (sp : Nat → Bool) :
    DataW.TrodVars enc Tryd.prog W sp ["loop.example/seedlip/impl.errBits", "loop.example/seedlip/impl.errRoom"] [tok enc x0, tok enc x1] [.cell 0 0, .cell 1 0] :=
  ⟨0, 80, #[x0], 1, [], [.cell 1 0], dr_g0, dr_t0, h0, trod_held Tryd.underlying80 i0 0, ⟨1, 80, #[x1], 1, [], [], dr_g1, dr_t1, h1, trod_held Tryd.underlying80 i1 0, rfl, rfl⟩, rfl⟩
/-- The heap that the initialisers leave meets the condition. -/
theorem door_met (os : Os) (args : Array Value) : laidMetH Tryd.prog laid2 ((World.doorLaid Tryd.prog 400 os).forCall (fun _ _ => 0) ⟨#[], args, []⟩).memory :=
  laidMetH_of_parts3 (fuel := 8) (laidMet_of_run' 8 (by kernel_rfl) (by kernel_rfl)) (by kernel_rfl) (by kernel_rfl)
end Go.Proofs.YtjghcaghigebjaaDoor

/-! The laws' own comparison of integer rows. -/
namespace Go.Proofs.YtjghcaghigebjaaDoor
open Go Go.RowKit

set_option maxHeartbeats 400000 in
theorem wpInts_any (A B : Option Addr) (c d : Nat) (xs ys : List Int) (F G : Nat → Prop) (w : World) (h : Lay.int.Sl w F A xs) (h' : Lay.int.Sl w G B ys) (hn : xs.length ≤ 1048576) (hn' : ys.length ≤ 1048576) :
    Calls Tryd.prog 23 #[.slice A xs.length c, .slice B ys.length d] w fun e w' => e = .returned (.bool (decide (xs = ys))) ∧ ∃ n, w' = w.drewN n := by
  by_cases hl : xs.length = ys.length
  · have hne : (((xs.length : Int) != (ys.length : Int))) = false := by simp [hl]
    have HL := Lib.hid hl
    clear hl
    go_enter Tryd.func23, Tryd.ntmps23
    go_wp2
    clear hne
    go_loopw [5] (fun i wr => ∃ k m : Nat, k ≤ xs.length ∧ i = .int .i64 k ∧ wr = w.drewN m ∧ xs.take k = ys.take k) (fun i _ => xs.length - (intOf i).toNat)
    case atStart => exact ⟨0, 0, Nat.zero_le _, rfl, rfl, rfl⟩
    case round =>
      obtain ⟨k, m, hk, rfl, rfl, ht⟩ := hrel
      have HT := Lib.hid ht
      clear ht
      by_cases hlt : k < xs.length
      · have hlt' : k < ys.length := by have := HL.out; omega
        obtain ⟨ad, rfl, hf, hc⟩ := h.at_int hlt
        obtain ⟨ad', rfl, hf', hc'⟩ := h'.at_int hlt'
        have hk0 : (0 : Int) ≤ k := by omega
        have hk1 : (k : Int) < xs.length := by omega
        have hk2 : (k : Int) < ys.length := by omega
        clear h h' hf hf'
        by_cases hxy : xs[k] = ys[k]
        · have hb : (xs[k] != ys[k]) = false := by simp [hxy]
          have HX := Lib.hid hxy
          clear hxy
          go_wp2
          go_quiet (fail)
          go_wp2
          go_roundw
          case rel => exact ⟨k + 1, _, by omega, by go_num, rfl, take_eq_step hlt hlt' HT.out HX.out⟩
          case measure => simp [intOf]; omega
        · have hb : (xs[k] != ys[k]) = true := by simp [hxy]
          go_wp2
          go_quiet (fail)
          go_wp2
          go_ret
          exact ⟨ret_bool (by simp; rintro rfl; exact hxy rfl), m + nq, by rw [World.drewN_drewN]⟩
      · have : k = xs.length := by omega
        subst this
        go_wp2
        go_ret
        exact ⟨ret_bool (by have := HL.out; have := HT.out; simp [eq_of_take HL.out HT.out]), _, rfl⟩
  · have hne : (((xs.length : Int) != (ys.length : Int))) = true := by simp; omega
    go_enter Tryd.func23, Tryd.ntmps23
    go_wp2
    go_ret
    exact ⟨ret_bool (by simp; rintro rfl; exact hl rfl), 0, rfl⟩

theorem wpInts_u (xs ys : List Int) (A B : Option Addr) (c d : Nat) (w : World) (h : Lay.int.Rd w A xs) (h' : Lay.int.Rd w B ys) (hs : xs.length ≤ 1048576) (hs' : ys.length ≤ 1048576) :
    Calls Tryd.prog 23 #[.slice A xs.length c, .slice B ys.length d] w (RetB w (decide (xs = ys))) :=
  (wpInts_any A B c d xs ys _ _ w h h' hs hs').mono fun _ _ ⟨h, m, hm⟩ => ⟨h, by rw [hm]; exact below_drewN (Below.refl _ _) m⟩
end Go.Proofs.YtjghcaghigebjaaDoor

/-! FnBitsUn: the operations on one number are right: for any bytes the law says true. -/
namespace Go.Proofs.YtjghcaghigebjaaDoor
open Go Go.RowKit Go.ChangeShapes Go.WideShapes Go.ChangeAt Go.Deep

theorem opens_bytes : Opens Tryd.prog 39 Lay.byte.slice (fun xs => xs.length ≤ maxLen ∧ ∀ x ∈ xs, True) := Opens.slice Tryd.underlying39 (by kernel_rfl) (by decide) (Opens.byte Tryd.underlying5)
def Fact.num9 (W : World) (M : Int) : Fact := .of (fun v x => ∃ k : Int, v = .int .i64 k ∧ 0 ≤ k ∧ k ≤ M) fun _ _ _ h _ => h
def Fact.ins9 (W : World) (m : Int) : Fact := .of (fun v x => ∃ (bs : List Bool) (A : Option Addr) (c : Nat), v = .slice A bs.length c ∧ bs.length ≤ 100 ∧ (bs.length : Int) = m ∧ Lay.bool.Rd x A bs) fun _ _ _ ⟨bs, A, c, h1, h2, h3, h4⟩ hb => ⟨bs, A, c, h1, h2, h3, h4.up hb⟩
def Fact.vals9 (W : World) (m : Int) (y : N) : Fact := .of (fun v x => ∃ (bs : List Bool) (A : Option Addr) (c : Nat), v = .slice A (netVals y bs).length c ∧ (bs.length : Int) = m ∧ Lay.bool.Rd x A (netVals y bs) ∧ Below W.heap.size W x) fun _ _ _ ⟨bs, A, c, h1, h2, h3, h4⟩ hb => ⟨bs, A, c, h1, h2, h3.up hb, bthen h4 hb⟩
theorem vecUn_bits {op : Int} {xs : List Int} {w : List Bool} (ho : op = 1 ∨ op = 2) (h : 1 ≤ xs.length ∧ xs.length ≤ 4) (z : World) :
    Calls Tryd.prog 37 #[.int .i64 op, .agg #[.int .i64 (xs.length : Int), .int .i64 (bitsVal w xs)]] z fun e w' => e = .returned (.tuple #[.agg #[.int .i64 (xs.length : Int), .int .i64 (unV op xs.length (bitsVal w xs))], .bool true]) ∧ Below z.heap.size z w' := by
  have b1 : 0 ≤ bitsVal w xs ∧ bitsVal w xs < 2 ^ xs.length := by unfold bitsVal; rw [if_neg (by omega)]; exact bitsOf_lt _ _
  exact vecUn_any op xs.length _ z ho h.1 h.2 b1.1 b1.2

set_option maxRecDepth 100000 in
set_option maxHeartbeats 8000000 in
theorem fnBitsUn_walk (W : World) (a0 a1 : Addr) {A0 : Option Addr} {c0 : Nat} {x0 : List UInt8} {A1' : Option Addr} {c1 : Nat} {x1 : List UInt8} (hglb : Glb a0 a1 W.heap.size W) (hc0 : x0.length ≤ c0) (hok0 : x0.length ≤ maxLen ∧ ∀ z ∈ x0, True) (h0 : Lay.byte.Rd W A0 x0) (hc1 : x1.length ≤ c1) (hok1 : x1.length ≤ maxLen ∧ ∀ z ∈ x1, True) (h1 : Lay.byte.Rd W A1' x1) :
    Calls Tryd.prog 8 #[.slice A0 x0.length c0, .slice A1' x1.length c1] W (LawC W) := by
  have GLB := Lib.hid hglb
  clear hglb
  have hm0 : x0.length ≤ 9223372036854775807 := by have := hok0.1; unfold maxLen at this; omega
  clear hok0
  have hm1 : x1.length ≤ 9223372036854775807 := by have := hok1.1; unfold maxLen at this; omega
  clear hok1
  by_cases hbig0 : (1048576 : Int) < x0.length
  · go_enter Tryd.func8, Tryd.ntmps8
    go_wp2
    go_ret
    exact ⟨rfl, Below.refl _ _⟩
  by_cases hbig1 : (1048576 : Int) < x1.length
  · go_enter Tryd.func8, Tryd.ntmps8
    go_wp2
    go_ret
    exact ⟨rfl, Below.refl _ _⟩
  have hb : Below W.heap.size W W := Below.refl _ _
  go_enter Tryd.func8, Tryd.ntmps8
  go_wp2_with fail
  refine (drawBitsUn_any A0 c0 x0 _ h0 hc0 hm0).mono ?_
  rintro e u1 ⟨n, A1, d1, a, xs, X1, e1, rfl, hn, hxs, hbn, ha, hkx, hcx, hb9⟩
  have hb := bthen hb hb9
  clear hb9
  clear h0
  have h1 := h1.up hb
  have hnl : n.gs.length ≤ 4 := hbn.2.2.1
  have hni : n.ins ≤ 9 := hbn.2.1
  have HI := Lib.hid hbn.2.2.2
  have HKX := Lib.hid hkx
  have HA := Lib.hid ha
  have hx5 : xs.length ≤ 5 := hkx.1
  clear hbn hkx
  unfold okInt at ha
  obtain ⟨r, hr⟩ : ∃ r, r = pickN (netOk n) (bitsUnR n a xs) := ⟨_, rfl⟩
  have HR := Lib.hid hr
  have HLEN := Lib.hid (show r.1.gs.length ≤ 1048576 ∧ r.2.length ≤ 1048576 by rw [hr]; exact bitsUn_len)
  have HLW := Lib.hid (fun h : r.2 ≠ [] => bitsUn_law hr h)
  have HEM := Lib.hid (fun h : r.2 = [] => bitsUn_empty hr h)
  have hrl := HLEN.out.1
  have hol := HLEN.out.2
  clear hr
  have hal : Below u1.heap.size u1 (u1.alloc (.cells #[.int .i64 n.ins, .slice A1 n.gs.length d1] 29)) := (Below.refl _ _).alloc (Nat.le_refl _) _
  have B9 : (u1.alloc (.cells #[.int .i64 n.ins, .slice A1 n.gs.length d1] 29)).heap[u1.heap.size]? = some (.cells #[.int .i64 n.ins, .slice A1 n.gs.length d1] 29 (0, 0)) := heap_alloc_new _ _
  have hb := bthen hb hal
  have h1 := h1.up hal
  have hn := hn.up hal
  have hxs := hxs.up hal
  clear hal
  have BN := Lib.hid B9
  clear B9
  go_wp2_with fail
  generalize u1.alloc (.cells #[.int .i64 n.ins, .slice A1 n.gs.length d1] 29) = u2 at *
  generalize u1.heap.size = iBN at *
  refine (implBitsUn_any a0 a1 W.heap.size n a xs A1 X1 d1 e1 _ (GLB.out.below hb) hb.size hn (by omega) (sl_nonnil hn) HI.out hxs (fun l hl => HKX.out.2 l hl) HA.out (by omega)).mono ?_
  rw [← HR.out]
  rintro e u3 ⟨A2, B2, d2, e2, rfl, hd2, he2, g2, o2, hb9, _⟩
  have hb := bthen hb hb9
  have h1 := h1.up hb9
  have hn := hn.up hb9
  have hxs := hxs.up hb9
  have BN := Lib.hid ((hb9.block _ (lt_of_block BN.out)).trans BN.out)
  clear hb9
  have hx := g2.own_rd
  have ho := o2.own_rd
  clear g2 o2
  have kBN_0 : u3.cell? ⟨iBN, 0, none⟩ = some (.int .i64 n.ins) := (cell_of_block BN.out 0).1
  have kBN_1 : u3.cell? ⟨iBN, 1, none⟩ = some (.slice A1 n.gs.length d1) := (cell_of_block BN.out 1).1
  have ltBN : iBN < u3.heap.size := lt_of_block BN.out
  have hal : Below u3.heap.size u3 (u3.alloc (.cells #[.int .i64 r.1.ins, .slice A2 r.1.gs.length d2] 29)) := (Below.refl _ _).alloc (Nat.le_refl _) _
  have B9 : (u3.alloc (.cells #[.int .i64 r.1.ins, .slice A2 r.1.gs.length d2] 29)).heap[u3.heap.size]? = some (.cells #[.int .i64 r.1.ins, .slice A2 r.1.gs.length d2] 29 (0, 0)) := heap_alloc_new _ _
  have hb := bthen hb hal
  have h1 := h1.up hal
  have hn := hn.up hal
  have hxs := hxs.up hal
  have BN := Lib.hid ((hal.block _ (lt_of_block BN.out)).trans BN.out)
  have hx := hx.up hal
  have ho := ho.up hal
  clear hal
  have BX := Lib.hid B9
  clear B9
  go_wp2_with fail
  clear kBN_0 kBN_1 ltBN
  generalize u3.alloc (.cells #[.int .i64 r.1.ins, .slice A2 r.1.gs.length d2] 29) = u4 at *
  generalize u3.heap.size = iBX at *
  refine (specBitsUn_any n a xs A1 X1 d1 e1 _ hn (by omega) (sl_nonnil hn) HI.out hxs (fun l hl => HKX.out.2 l hl) HA.out (by omega)).mono ?_
  rw [← HR.out]
  rintro e u5 ⟨A3, B3, d3, e3, rfl, hd3, he3, g3, o3, hb9, _⟩
  have hb := bthen hb hb9
  have h1 := h1.up hb9
  have hn := hn.up hb9
  have hxs := hxs.up hb9
  have BN := Lib.hid ((hb9.block _ (lt_of_block BN.out)).trans BN.out)
  have hx := hx.up hb9
  have ho := ho.up hb9
  have BX := Lib.hid ((hb9.block _ (lt_of_block BX.out)).trans BX.out)
  clear hb9
  have hx3 := g3.own_rd
  have ho3 := o3.own_rd
  clear g3 o3
  have kBX_0 : u5.cell? ⟨iBX, 0, none⟩ = some (.int .i64 r.1.ins) := (cell_of_block BX.out 0).1
  have kBX_1 : u5.cell? ⟨iBX, 1, none⟩ = some (.slice A2 r.1.gs.length d2) := (cell_of_block BX.out 1).1
  have ltBX : iBX < u5.heap.size := lt_of_block BX.out
  have hal : Below u5.heap.size u5 (u5.alloc (.cells #[.int .i64 r.1.ins, .slice A3 r.1.gs.length d3] 29)) := (Below.refl _ _).alloc (Nat.le_refl _) _
  have B9 : (u5.alloc (.cells #[.int .i64 r.1.ins, .slice A3 r.1.gs.length d3] 29)).heap[u5.heap.size]? = some (.cells #[.int .i64 r.1.ins, .slice A3 r.1.gs.length d3] 29 (0, 0)) := heap_alloc_new _ _
  have hb := bthen hb hal
  have h1 := h1.up hal
  have hn := hn.up hal
  have hxs := hxs.up hal
  have BN := Lib.hid ((hal.block _ (lt_of_block BN.out)).trans BN.out)
  have hx := hx.up hal
  have ho := ho.up hal
  have BX := Lib.hid ((hal.block _ (lt_of_block BX.out)).trans BX.out)
  have hx3 := hx3.up hal
  have ho3 := ho3.up hal
  clear hal
  have BY := Lib.hid B9
  clear B9
  go_wp2_with fail
  clear kBX_0 kBX_1 ltBX
  generalize u5.alloc (.cells #[.int .i64 r.1.ins, .slice A3 r.1.gs.length d3] 29) = u6 at *
  generalize u5.heap.size = iBY at *
  refine (netSame_any r.1 r.1 A2 A3 d2 d3 _ hx hx3 hrl hrl).mono ?_
  rintro e u7 ⟨rfl, hb9⟩
  have hb := bthen hb hb9
  have h1 := h1.up hb9
  have hn := hn.up hb9
  have hxs := hxs.up hb9
  have BN := Lib.hid ((hb9.block _ (lt_of_block BN.out)).trans BN.out)
  have hx := hx.up hb9
  have ho := ho.up hb9
  have BX := Lib.hid ((hb9.block _ (lt_of_block BX.out)).trans BX.out)
  have hx3 := hx3.up hb9
  have ho3 := ho3.up hb9
  have BY := Lib.hid ((hb9.block _ (lt_of_block BY.out)).trans BY.out)
  clear hb9
  rw [show decide (r.1 = r.1) = true by simp]
  go_wp2_with fail
  refine (wpInts_u r.2 r.2 B2 B3 e2 e3 _ ho ho3 hol hol).mono ?_
  rintro e u8 ⟨rfl, hb9⟩
  have hb := bthen hb hb9
  have h1 := h1.up hb9
  have hn := hn.up hb9
  have hxs := hxs.up hb9
  have BN := Lib.hid ((hb9.block _ (lt_of_block BN.out)).trans BN.out)
  have hx := hx.up hb9
  have ho := ho.up hb9
  have BX := Lib.hid ((hb9.block _ (lt_of_block BX.out)).trans BX.out)
  have hx3 := hx3.up hb9
  have ho3 := ho3.up hb9
  have BY := Lib.hid ((hb9.block _ (lt_of_block BY.out)).trans BY.out)
  clear hb9
  rw [show decide (r.2 = r.2) = true by simp]
  clear hx3 ho3
  clear BY
  by_cases hz : r.2 = []
  · skip
    have HZ := Lib.hid (HEM.out hz)
    have hz0 : ((r.2.length : Int) == 0) = true := by rw [hz]; rfl
    clear hz
    have kBX_0 : u8.cell? ⟨iBX, 0, none⟩ = some (.int .i64 r.1.ins) := (cell_of_block BX.out 0).1
    have kBX_1 : u8.cell? ⟨iBX, 1, none⟩ = some (.slice A2 r.1.gs.length d2) := (cell_of_block BX.out 1).1
    go_wp2_with fail
    clear kBX_0 kBX_1
    refine (netSame_any r.1 ⟨0, []⟩ A2 none d2 0 _ hx (.nil _ _ _ _) hrl (by simp)).mono ?_
    rintro e u9 ⟨rfl, hb9⟩
    have hb := bthen hb hb9
    have h1 := h1.up hb9
    have hn := hn.up hb9
    have hxs := hxs.up hb9
    have BN := Lib.hid ((hb9.block _ (lt_of_block BN.out)).trans BN.out)
    have hx := hx.up hb9
    have ho := ho.up hb9
    have BX := Lib.hid ((hb9.block _ (lt_of_block BX.out)).trans BX.out)
    clear hb9
    rw [show decide (r.1 = (⟨0, []⟩ : N)) = true from decide_eq_true HZ.out]
    go_wp2
    go_ret
    exact ⟨rfl, hb⟩
  have hz0 : ((r.2.length : Int) == 0) = false := by simpa using (fun h : r.2.length = 0 => hz (List.eq_nil_of_length_eq_zero h))
  have lg := HLW.out hz
  have LG := Lib.hid lg
  have HRI := Lib.hid (okInts_of lg.ext.ok)
  have hro := HRI.out
  have N09 := (netOk_all.1 lg.ok).1
  have N19 := (netOk_all.1 lg.ok).2.1
  have HMI : Hid (∀ m ∈ r.2, okInt m) := Lib.hid (fun m hm => by have h9 := netMark_iff.1 (lg.mks m hm); have h8 := netOk_all.1 lg.ext.ok; unfold okInt; omega)
  have HVL : Hid (∀ ins : List Bool, (ins.length : Int) = n.ins → (netVals r.1 ins).length ≤ 1048576) := Lib.hid (fun ins hi => by have h9 := (obeys_vals lg.ext.ok (by rw [lg.ext.ins]; exact hi)).2.1; have h8 := netOk_all.1 lg.ext.ok; omega)
  have HL9 : Hid ((r.2.length : Int) = xs.length) := Lib.hid (by have := lg.len; omega)
  have hl4 := lg.lx
  clear lg hz hro
  go_wp2
  have HB0 := Lib.hid hb
  clear hb
  have H_h1 := Lib.hid h1
  clear h1
  have H_hn := Lib.hid hn
  clear hn
  have H_hxs := Lib.hid hxs
  clear hxs
  have H_hx := Lib.hid hx
  clear hx
  have H_ho := Lib.hid ho
  clear ho
  go_loopw [12] (fun i wr => ∃ j : Nat, j ≤ 12 ∧ i = .int .i64 j ∧ Below u8.heap.size u8 wr) (fun i _ => 12 - (intOf i).toNat)
  case atStart => exact ⟨0, Nat.zero_le _, rfl, Below.refl _ _⟩
  case round =>
    obtain ⟨j, hj, rfl, hbr⟩ := hrel
    have h1 := H_h1.out.up hbr
    have hn := H_hn.out.up hbr
    have hxs := H_hxs.out.up hbr
    have hx := H_hx.out.up hbr
    have ho := H_ho.out.up hbr
    have B_N := Lib.hid ((hbr.block _ (lt_of_block BN.out)).trans BN.out)
    have B_X := Lib.hid ((hbr.block _ (lt_of_block BX.out)).trans BX.out)
    have HBR := Lib.hid hbr
    clear hbr
    by_cases hlt : j < 12
    · have hj1 : (j : Int) < 12 := by omega
      have dn0 := Later.cell (cell_of_block B_N.out 0).1
      have dn1 := Later.cell (cell_of_block B_N.out 1).1
      have dx0 := Later.cell (cell_of_block B_X.out 0).1
      have dx1 := Later.cell (cell_of_block B_X.out 1).1
      have H1 := Lib.hid h1
      have HX := Lib.hid hx
      clear h1 hx
      go_wp2
      refine wp_region_shares [[], [], [], [(2, 66)], [], [(4, 68)], [(3, 67), (5, 69)], [(1, 65), (6, 70)], [(0, 64), (7, 71)], [(8, 72)]]
        [.eq (.agg #[.int .i64 r.1.ins, .slice A2 r.1.gs.length d2]), .eq (.agg #[.int .i64 n.ins, .slice A1 n.gs.length d1]), .eq (.slice A1' x1.length c1), Fact.num9 wr 1048576, .eq (.int .i64 (j : Int)), .eq (.int .i64 (37 * (j : Int))), Fact.num9 wr 2097152, Fact.ins9 wr n.ins, Fact.vals9 wr n.ins r.1, Fact.vals9 wr n.ins r.1]
        [] [] [] [9] [(0, 64), (1, 65), (2, 66), (3, 67), (4, 68), (5, 69), (6, 70), (7, 71), (8, 72), (9, 13)] (by kernel_rfl) (by kernel_rfl) (by kernel_rfl) (by kernel_rfl)
        ⟨?_, ?_, ?_, ?_, ?_, ?_, ?_, ?_, ?_, ?_, trivial⟩ ?_
      · intro vals x9 hC hF
        have hC := hC.resolve_left (by simp)
        have hsz := hC.size
        have e1 : x9.cell? _ = _ := dx0 ⟨x9, hC⟩
        have e2 : x9.cell? _ = _ := dx1 ⟨x9, hC⟩
        simp only [putsD, Act.put, List.setIfInBounds_toArray, List.set_cons_zero, List.set_cons_succ]
        go_wp2
        exact ⟨rfl, rfl, .inr (Below.refl _ _), .inr (.inl (by simp))⟩
      · intro vals x9 hC hF
        have hC := hC.resolve_left (by simp)
        have hsz := hC.size
        have e1 : x9.cell? _ = _ := dn0 ⟨x9, hC⟩
        have e2 : x9.cell? _ = _ := dn1 ⟨x9, hC⟩
        simp only [putsD, Act.put, List.setIfInBounds_toArray, List.set_cons_zero, List.set_cons_succ]
        go_wp2
        exact ⟨rfl, rfl, .inr (Below.refl _ _), .inr (.inl (by simp))⟩
      · intro vals x9 hC hF
        simp only [putsD, Act.put, List.setIfInBounds_toArray, List.set_cons_zero, List.set_cons_succ]
        go_wp2
        exact ⟨rfl, rfl, .inr (Below.refl _ _), .inr (.inl (by simp))⟩
      · intro vals x9 hC hF
        have hC := hC.resolve_left (by simp)
        have hsz := hC.size
        simp only [factsD, List.getD_cons_zero, List.getD_cons_succ, Fact.eq, Fact.row, Fact.lit, Fact.lit0, Fact.of, and_true, Fact.num9, Fact.ins9, Fact.vals9] at hF
        simp only [putsD, Act.put, List.setIfInBounds_toArray, List.set_cons_zero, List.set_cons_succ]
        simp only [hF]
        go_wp2_with fail
        refine (wpHash_any A1' c1 x1 x9 (H1.out.up hC) (by omega)).mono ?_
        rintro e wx ⟨k9, rfl, k90, k91, hb9⟩
        go_wp2
        exact ⟨rfl, ⟨k9, rfl, k90, k91⟩, .inr hb9, .inr (.inl (by simp))⟩
      · intro vals x9 hC hF
        simp only [putsD, Act.put, List.setIfInBounds_toArray, List.set_cons_zero, List.set_cons_succ]
        go_wp2
        exact ⟨rfl, rfl, .inr (Below.refl _ _), .inr (.inl (by simp))⟩
      · intro vals x9 hC hF
        simp only [factsD, List.getD_cons_zero, List.getD_cons_succ, Fact.eq, Fact.row, Fact.lit, Fact.lit0, Fact.of, and_true, Fact.num9, Fact.ins9, Fact.vals9] at hF
        simp only [putsD, Act.put, List.setIfInBounds_toArray, List.set_cons_zero, List.set_cons_succ]
        simp only [hF]
        go_wp2
        exact ⟨rfl, rfl, .inr (Below.refl _ _), .inr (.inl (by simp))⟩
      · intro vals x9 hC hF
        have hC := hC.resolve_left (by simp)
        have hsz := hC.size
        simp only [factsD, List.getD_cons_zero, List.getD_cons_succ, Fact.eq, Fact.row, Fact.lit, Fact.lit0, Fact.of, and_true, Fact.num9, Fact.ins9, Fact.vals9] at hF
        obtain ⟨⟨k9, e70, k90, k91⟩, e72⟩ := hF
        simp only [putsD, Act.put, List.setIfInBounds_toArray, List.set_cons_zero, List.set_cons_succ]
        simp only [e70, e72]
        go_wp2
        exact ⟨rfl, ⟨k9 + 37 * (j : Int), rfl, by omega, by omega⟩, .inr (Below.refl _ _), .inr (.inl (by simp))⟩
      · intro vals x9 hC hF
        have hC := hC.resolve_left (by simp)
        have hsz := hC.size
        simp only [factsD, List.getD_cons_zero, List.getD_cons_succ, Fact.eq, Fact.row, Fact.lit, Fact.lit0, Fact.of, and_true, Fact.num9, Fact.ins9, Fact.vals9] at hF
        obtain ⟨e68, k9, e73, k90, k91⟩ := hF
        simp only [putsD, Act.put, List.setIfInBounds_toArray, List.set_cons_zero, List.set_cons_succ]
        simp only [e68, e73]
        go_wp2_with fail
        refine (wpIns_any n A1 d1 k9 x9 k90 (by omega) (by omega)).mono ?_
        rintro e wx ⟨bs, B9, c9, rfl, hl1, hl2, hrd, hb9⟩
        have HB9 := Lib.hid hb9
        have HRD := Lib.hid hrd
        have HL1 := Lib.hid (And.intro hl1 (hl2 N09))
        clear hb9 hrd hl1 hl2
        go_wp2
        exact ⟨rfl, ⟨bs, B9, c9, rfl, HL1.out.1, HL1.out.2, HRD.out⟩, .inr HB9.out, .inr (.inl (by simp))⟩
      · intro vals x9 hC hF
        have hC := hC.resolve_left (by simp)
        have hsz := hC.size
        simp only [factsD, List.getD_cons_zero, List.getD_cons_succ, Fact.eq, Fact.row, Fact.lit, Fact.lit0, Fact.of, and_true, Fact.num9, Fact.ins9, Fact.vals9] at hF
        obtain ⟨e67, bs, B9, c9, e74, hl1, hl2, hrd⟩ := hF
        simp only [putsD, Act.put, List.setIfInBounds_toArray, List.set_cons_zero, List.set_cons_succ]
        simp only [e67, e74]
        have HL2 := Lib.hid hl2
        have HC9 := Lib.hid (netVals_any r.1 bs A2 B9 d2 c9 x9 (HX.out.up hC) hrl HRI.out hrd (by omega))
        clear hl2 hrd
        go_wp2_with fail
        refine HC9.out.mono ?_
        rintro e wx ⟨V9, v9, rfl, _, hrd9, hb9⟩
        have HB9 := Lib.hid hb9
        have HRD := Lib.hid hrd9
        clear hb9 hrd9 HC9
        go_wp2
        exact ⟨rfl, ⟨bs, V9, v9, rfl, HL2.out, HRD.out, bthen hC HB9.out⟩, .inr HB9.out, .inr (.inl (by simp))⟩
      · intro vals x9 hC hF
        have hC := hC.resolve_left (by simp)
        have hsz := hC.size
        simp only [factsD, List.getD_cons_zero, List.getD_cons_succ, Fact.eq, Fact.row, Fact.lit, Fact.lit0, Fact.of, and_true, Fact.num9, Fact.ins9, Fact.vals9] at hF
        obtain ⟨bs, V9, v9, e75, hl2, hrd9, hb9⟩ := hF
        simp only [putsD, Act.put, List.setIfInBounds_toArray, List.set_cons_zero, List.set_cons_succ]
        simp only [e75]
        go_wp2
        exact ⟨rfl, ⟨bs, V9, v9, rfl, hl2, hrd9, hb9⟩, .inr (Below.refl _ _), .inr (.inl (by simp))⟩
      · intro vals x9 hF
        simp only [facts, List.getD_cons_zero, List.getD_cons_succ, Fact.eq, Fact.row, Fact.lit, Fact.lit0, Fact.of, and_true, Fact.num9, Fact.ins9, Fact.vals9] at hF
        obtain ⟨bs, V9, v9, e14, hl2, hrd9, hb9⟩ := hF
        simp only [putsD, Act.put, List.setIfInBounds_toArray, List.set_cons_zero, List.set_cons_succ]
        simp only [e14]
        clear e14
        have hlaw := LG.out.val bs hl2
        have hvl := HVL.out bs hl2
        generalize hvv : netVals r.1 bs = vv at *
        clear hvv hl2
        have HB9 := Lib.hid hb9
        have HXS := Lib.hid (hxs.up hb9)
        have HOS := Lib.hid (ho.up hb9)
        have HV := Lib.hid hrd9
        clear hb9 hxs ho hn hrd9
        have hrng : ∀ l : List Int, (∀ x ∈ l, okInt x) → ∀ x ∈ l, -9223372036854775808 ≤ x ∧ x ≤ 9223372036854775807 := fun l h x hx => by have := h x hx; unfold okInt at this; exact this
        have HRNG := Lib.hid hrng
        clear hrng
        have HVC := Lib.hid (vecUn_bits (w := vv) LG.out.hop LG.out.lx)
        obtain ⟨bb, hbb⟩ : ∃ bb, bb = unV a xs.length (bitsVal vv xs) := ⟨_, rfl⟩
        rw [← hbb] at HVC hlaw
        have HLAW := Lib.hid hlaw
        clear hlaw hbb
        go_wp2_with fail
        refine (implBitsVal_any V9 X1 v9 e1 vv xs _ _ _ HV.out (by omega) HXS.out (HRNG.out xs HKX.out.2) (by omega)).mono ?_
        rintro e wx ⟨rfl, rfl⟩
        go_wp2_with fail
        refine (HVC.out _).mono ?_
        rintro e wx ⟨rfl, hb9⟩
        have HBW := Lib.hid (bthen HB9.out hb9)
        have HOS := Lib.hid (HOS.out.up hb9)
        have HV := Lib.hid (HV.out.up hb9)
        clear hb9 HVC
        have hal : Below wx.heap.size wx (wx.alloc (.cells #[.int .i64 (xs.length : Int), .int .i64 bb] 54)) := (Below.refl _ _).alloc (Nat.le_refl _) _
        have hnew : (wx.alloc (.cells #[.int .i64 (xs.length : Int), .int .i64 bb] 54)).heap[wx.heap.size]? = some (.cells #[.int .i64 (xs.length : Int), .int .i64 bb] 54 (0, 0)) := heap_alloc_new _ _
        have HBW := Lib.hid (bthen HBW.out hal)
        have HOS := Lib.hid (HOS.out.up hal)
        have HV := Lib.hid (HV.out.up hal)
        have v0 := (cell_of_block hnew 0).1
        have v1 := (cell_of_block hnew 1).1
        clear hal hnew
        have hlx : ((xs.length : Int) != (r.2.length : Int)) = false := by rw [HL9.out]; simp
        have hbx : (bb != bb) = false := by simp
        go_wp2
        generalize wx.alloc (.cells #[.int .i64 (xs.length : Int), .int .i64 bb] 54) = W5 at *
        have HBV := Lib.hid (fun m => show Calls Tryd.prog 27 _ (W5.drewN m) fun e w' => e = .returned (.int .i64 bb) ∧ W5.drewN m = w' from by have h9 := implBitsVal_any V9 B2 v9 e2 vv r.2 _ _ (W5.drewN m) (HV.out.up (below_drewN (Below.refl _ _) m)) (by omega) (HOS.out.up (below_drewN (Below.refl _ _) m)) (HRNG.out r.2 HMI.out) (by omega); rw [HLAW.out] at h9; exact h9)
        clear HLAW
        go_quiet ((go_at_call 27; with_reducible exact quiet_left (HBV.out _)))
        clear HBV
        go_wp2
        go_roundw
        case rel => exact ⟨j + 1, by omega, by go_num, bthen HBR.out (below_drewN HBW.out _)⟩
        case measure => simp [intOf]; omega
    · have hj1 : ¬ (j : Int) < 12 := by omega
      have hb := bthen HB0.out HBR.out
      have v0 := (cell_of_block B_N.out 0).1
      have v1 := (cell_of_block B_N.out 1).1
      have u0 := (cell_of_block B_X.out 0).1
      have u1 := (cell_of_block B_X.out 1).1
      have HC9 := Lib.hid (wpGrown_any n r.1 A1 A2 d1 d2 wr hn (by omega) hx hrl hd2 HRI.out LG.out.ext.ok LG.out.ext.ins LG.out.ext.ext)
      clear hn hx h1 hxs ho
      go_wp2_with fail
      clear v0 v1 u0 u1
      refine HC9.out.mono ?_
      rintro e wx ⟨rfl, hb9⟩
      have HB9 := Lib.hid (bthen hb hb9)
      clear hb9 HC9 hb
      go_wp2
      go_ret
      exact ⟨rfl, HB9.out⟩

set_option maxRecDepth 100000 in
theorem fnBitsUn_lifted (os : Os) (started : os.Started) (H : Type) (enc : TypeId × Value → H) :
    ReturnsInHanded {} Tryd.checked os 8 .any (fun w args => (Rows.fnBitsUnSpec.pre enc Tryd.prog Tryd.f8 [] false w args ∧ laidMetH Tryd.prog laid2 w) ∧ sizedMet enc Tryd.prog Tryd.f8 (OpenSpec.ofChange Rows.fnBitsUnSpec) false w args)
      (Rows.fnBitsUnSpec.post enc Tryd.prog Tryd.f8 false true false false) := by
  refine returnsInHanded_of_change_and (C := Tryd.checked) (X := fun w _ => laidMetH Tryd.prog laid2 w) (fun _ _ _ hh h => h.of_heap hh) dr_own started (by kernel_rfl) Tryd.func8
    (ChangeSpec.witness_shaped (enc := enc) (C := Tryd.checked) (os := os) (X := fun w _ => laidMetH Tryd.prog laid2 w) false (World.doorLaid Tryd.prog 400 os) #[.slice none 0 0, .slice none 0 0] 16 rfl (World.shaped_of_RefB (by kernel_rfl) (by kernel_rfl)) (by kernel_rfl) (by kernel_rfl) (by kernel_rfl) (door_met os _)) ?_
  intro W base args ds gs before hval0 hW _ _ hL _
  have hval : ∀ (j : Nat) t v, Tryd.f8.params[j]? = some t → args[j]? = some v → Value.okWide Tryd.prog W .any base t v := hval0
  have hW' := hW
  obtain ⟨p, q, hA0, hV0, rfl, hfz, hnd⟩ := hW
  have hV : DataW.TrodVars enc Tryd.prog W (fun _ => true) ["loop.example/seedlip/impl.errBits", "loop.example/seedlip/impl.errRoom"] gs q := hV0
  obtain ⟨a0, a1, hglb, hv0, hv1⟩ := glb_of_laid hL
  have hA : DataW.TrodAll enc Tryd.prog W 0 (fun _ => true) true Tryd.f8.params.toList args.toList ds p := hA0
  rw [Tryd.params8] at hA hval
  obtain ⟨v0, vs0, d0, ds0, p0, q0, hargs, rfl, rfl, h0, r0⟩ := trodAll_cons hA
  obtain ⟨v1, vs1, d1, ds1, p1, q1, rfl, rfl, rfl, h1, r1⟩ := trodAll_cons r0
  obtain ⟨rfl, rfl, rfl⟩ := trodAll_nil r1
  obtain rfl : args = #[v0, v1] := by cases args; simp_all
  obtain ⟨rfl, rfl⟩ := hV.unique (vars_read enc hv0 hv1 trivial trivial _)
  have k0 := h0
  have lt0 : ∀ x ∈ p0, x.block < W.heap.size := by obtain ⟨m, hm⟩ := k0; exact DataW.trod_lt m _ _ _ hm
  have k1 := h1
  have lt1 : ∀ x ∈ p1, x.block < W.heap.size := by obtain ⟨m, hm⟩ := k1; exact DataW.trod_lt m _ _ _ hm
  obtain ⟨A0, c0, x0, rfl, hc0, ok0, rd0⟩ := open_arg Tryd.underlying39 opens_bytes (hval 0 39 v0 rfl rfl) h0
  obtain ⟨A1, c1, x1, rfl, hc1, ok1, rd1⟩ := open_arg Tryd.underlying39 opens_bytes (hval 1 39 v1 rfl rfl) h1
  clear hA0 hval0 hV0
  refine (fnBitsUn_walk W a0 a1 hglb hc0 ok0 rd0 hc1 ok1 rd1).mono fun e W' ⟨he, bel⟩ => ?_
  subst he
  exact ⟨_, rfl, _, _, _, [], _, [.cell 0 0, .cell 1 0], hW', trodAll_mk1 (shut_bool Tryd.underlying4 _), (trodAll_cons_mk (Below.trod (by kernel_rfl) (by kernel_rfl) (of_decide_eq_true (by kernel_rfl)) k0 bel lt0) (trodAll_cons_mk (Below.trod (by kernel_rfl) (by kernel_rfl) (of_decide_eq_true (by kernel_rfl)) k1 bel lt1) trodAll_mk0)), vars_read enc (var_below dr_g0 hv0 bel) (var_below dr_g1 hv1 bel) trivial trivial _, bel.frame _, fun h => by cases h⟩

/-- The given row. -/
theorem fnBitsUn_row : Rows.FnBitsUnSaid :=
  OpenClaim.holds_of_wide 8 Tryd.f8 rfl rfl rfl rfl rfl rfl rfl ⟨rfl, rfl, rfl, rfl, rfl⟩ rfl rfl rfl rfl rfl (by kernel_rfl) Tryd.func8 (by kernel_rfl)
    (of_decide_eq_true (by kernel_rfl)) (by unfold Func.isWrapper; first | (rw [if_pos (by decide +kernel)]; kernel_rfl) | (rw [if_neg (by decide +kernel)]; exact ⟨rfl, rfl⟩))
    (fun os started H enc _ => fnBitsUn_lifted os started H enc)
/-- The given statement: the row, what it lists tied to the program's text. -/
theorem fnBitsUn_holds : Rows.FnBitsUnCardSaid :=
  Claim7.holds_tied_plain_at .later [] [.sentinel, .sentinel] true Rows.fnBitsUnCard.stood.harness Rows.fnBitsUnCard.stood.looks
    fnBitsUn_row (fun _ h => by cases h) (by kernel_rfl) (fun _ h => by cases h) fnBitsUn_row_tie rfl ⟨rfl, rfl⟩ (by kernel_rfl) rfl
    (fun f fn hf hfn => by
      obtain rfl : f = 8 := Option.some.inj ((show Tryd.prog.funcNamed "loop.example/seedlip/laws.FnBitsUn" = some 8 by kernel_rfl).symm.trans hf) |>.symm
      obtain rfl : fn = Tryd.f8 := (Option.some.inj (Tryd.func8.symm.trans hfn)).symm
      exact ⟨by kernel_rfl, fun j t ht => by
        rw [Tryd.params8] at ht
        have hm : t ∈ [39, 39] := by simpa using Array.mem_of_getElem? ht
        have hall : ([39, 39].all fun u => !Tryd.prog.wantsStandIn u) = true := by kernel_rfl
        exact (show Tryd.prog.wantsStandIn t = false by simpa using List.all_eq_true.1 hall t hm)⟩)
    (by kernel_rfl)
#print axioms fnBitsUn_holds
end Go.Proofs.YtjghcaghigebjaaDoor
