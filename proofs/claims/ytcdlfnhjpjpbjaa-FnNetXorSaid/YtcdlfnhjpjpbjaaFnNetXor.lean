/- FnNetXor: difference gates are shared and right: for any bytes the law says true. -/
import Derived.Test.YtcdlfnhjpjpbjaaLawC
import Derived.Test.YtcdlfnhjpjpbjaaNetG
import Derived.Test.YtcdlfnhjpjpbjaaDrT
import Derived.Test.YtcdlfnhjpjpbjaaOpenT
import Derived.Test.YtcdlfnhjpjpbjaaRows
namespace Go.Proofs.Ytcdlfnhjpjpbjaa
open Go Go.RowKit Go.ChangeShapes Go.WideShapes Go.ChangeAt Go.Deep

theorem opens_bytes : Opens Try.prog 22 Lay.byte.slice (fun xs => xs.length ≤ maxLen ∧ ∀ x ∈ xs, True) := Opens.slice Try.underlying22 (by kernel_rfl) (by decide) (Opens.byte Try.underlying5)
theorem netOp_small {m : Nat} {n : N} {op : N → Int → Int → N × Int} {a b : Int} (h : bentN m n) (hop : ∀ n' : N, smallN m n' → netMark n' a = true → netMark n' b = true → smallN (m + 1) (op n' a b).1) : (netOp op n a b).1.gs.length ≤ m + 1 ∧ okInts (netOp op n a b).1 := by
  unfold netOp
  split
  · rename_i hc
    simp only [Bool.and_eq_true] at hc
    obtain ⟨h0, h1, h2, _⟩ := netOk_all.1 hc.1
    have := hop n ⟨h0, h1, h.2.2.1, h.2.2.2⟩ hc.2.1 hc.2.2
    exact ⟨this.2.2.1, this.2.2.2⟩
  · exact ⟨Nat.zero_le _, fun g hg => by cases hg⟩
theorem and_small {m : Nat} {n : N} {a b : Int} (h : bentN m n) (ha : okInt a) (hb : okInt b) : (netOp and1 n a b).1.gs.length ≤ m + 1 ∧ okInts (netOp and1 n a b).1 := netOp_small h fun _ hs _ _ => and1_small hs ha hb
theorem xor_small {m : Nat} {n : N} {a b : Int} (hm : m ≤ 1000) (h : bentN m n) : (netOp xor1 n a b).1.gs.length ≤ m + 1 ∧ okInts (netOp xor1 n a b).1 := netOp_small h fun n' hs ha hb => by
  have := netMark_iff.1 ha; have := netMark_iff.1 hb; have := hs.1; have := hs.2.1; have := hs.2.2.1
  exact xor1_small hs (by omega) (by omega)
theorem bent_of_ok {m : Nat} {n : N} (h : netOk n = true) (hl : n.gs.length ≤ m) (hi : okInts n) : bentN m n := by
  have := netOk_all.1 h; exact ⟨by omega, by omega, hl, hi⟩
theorem and1_z {m : N} {a b : Int} : 0 ≤ m.ins → a ≠ 0 → b ≠ 0 → (and1 m a b).2 = 0 → and1 m a b = (⟨0, []⟩, 0) := fun h0 ha hb h => and1_zero h0 ha hb h
theorem xor1_z {m : N} {a b : Int} : 0 ≤ m.ins → a ≠ 0 → b ≠ 0 → (xor1 m a b).2 = 0 → xor1 m a b = (⟨0, []⟩, 0) := fun h0 ha hb h => xor1_zero h0 ha hb h
theorem vals_len {n : N} {ins : List Bool} (h : netOk n = true) (hl : (ins.length : Int) = n.ins) : 1 ≤ (netVals n ins).length ∧ (netVals n ins).length ≤ 1048576 := by
  have h1 := (obeys_vals h hl).2.1
  have := netOk_all.1 h
  omega
theorem mark_int {n : N} {m : Int} (h : netOk n = true) (hm : netMark n m = true) : okInt m := by
  have := netMark_iff.1 hm; have := netOk_all.1 h; unfold okInt; omega
theorem none_of {w : World} {A : Option Addr} {xs : List G} (h : Lay.gate.Rd w A xs) : A = none → xs.length = 0 := fun e => sl_none h e

set_option maxRecDepth 100000 in
set_option maxHeartbeats 4000000 in
theorem fnNetXor_walk (W : World) {A0 : Option Addr} {c0 : Nat} {x0 : List UInt8} {A1 : Option Addr} {c1 : Nat} {x1 : List UInt8} (hc0 : x0.length ≤ c0) (hok0 : x0.length ≤ maxLen ∧ ∀ z ∈ x0, True) (h0 : Lay.byte.Rd W A0 x0) (hc1 : x1.length ≤ c1) (hok1 : x1.length ≤ maxLen ∧ ∀ z ∈ x1, True) (h1 : Lay.byte.Rd W A1 x1) :
    Calls Try.prog 4 #[.slice A0 x0.length c0, .slice A1 x1.length c1] W (LawC W) := by
  have hm0 : x0.length ≤ 9223372036854775807 := by have := hok0.1; unfold maxLen at this; omega
  clear hok0
  have hm1 : x1.length ≤ 9223372036854775807 := by have := hok1.1; unfold maxLen at this; omega
  clear hok1
  by_cases hbig0 : (1048576 : Int) < x0.length
  · go_enter Try.func4, Try.ntmps4
    go_wp2
    go_ret
    exact ⟨rfl, Below.refl _ _⟩
  by_cases hbig1 : (1048576 : Int) < x1.length
  · go_enter Try.func4, Try.ntmps4
    go_wp2
    go_ret
    exact ⟨rfl, Below.refl _ _⟩
  have hb : Below W.heap.size W W := Below.refl _ _
  go_enter Try.func4, Try.ntmps4
  go_wp2_with fail
  refine (drawNetXor_any A0 c0 x0 _ h0 hc0 hm0).mono ?_
  rintro e u1 ⟨n, A1, d1, a, b, rfl, hn, hbn, ha, hb9', hb9⟩
  have hb := bthen hb hb9
  clear hb9
  clear h0 h1
  have hnl : n.gs.length ≤ 101 := hbn.2.2.1
  have HI := Lib.hid hbn.2.2.2
  have HBN := Lib.hid hbn
  clear hbn
  unfold okInt at ha hb9'
  obtain ⟨r, hr⟩ : ∃ r, r = netOp xor1 n a b := ⟨_, rfl⟩
  have HR := Lib.hid hr
  have HRS := Lib.hid (show r.1.gs.length ≤ 102 ∧ okInts r.1 by rw [hr]; exact xor_small (by omega) HBN.out)
  have HRZ := Lib.hid (fun h : r.2 = 0 => by rw [hr] at h ⊢; exact netOp_no (op := xor1) (fun h0 ha hb h => xor1_z h0 ha hb h) h : r.2 = 0 → r = (⟨0, []⟩, 0))
  have HLW := Lib.hid (fun h : r.2 ≠ 0 => xor_law hr h)
  have hrl := HRS.out.1
  clear hr
  have q2 : (r.2 != r.2) = false := by simp
  have hal : Below u1.heap.size u1 (u1.alloc (.cells #[.int .i64 n.ins, .slice A1 n.gs.length d1] 25)) := (Below.refl _ _).alloc (Nat.le_refl _) _
  have B9 : (u1.alloc (.cells #[.int .i64 n.ins, .slice A1 n.gs.length d1] 25)).heap[u1.heap.size]? = some (.cells #[.int .i64 n.ins, .slice A1 n.gs.length d1] 25 (0, 0)) := heap_alloc_new _ _
  have hb := bthen hb hal
  have hn := hn.up hal
  clear hal
  have BN := Lib.hid B9
  clear B9
  go_wp2_with fail
  generalize u1.alloc (.cells #[.int .i64 n.ins, .slice A1 n.gs.length d1] 25) = u2 at *
  generalize u1.heap.size = iBN at *
  refine (implNetXor_any A1 d1 n a b _ hn (by omega) (none_of hn) HI.out ha hb9').mono ?_
  rw [← HR.out]
  rintro e u3 ⟨A2, d2, rfl, ho2, hb9⟩
  have hb := bthen hb hb9
  have hn := hn.up hb9
  have BN := Lib.hid ((hb9.block _ (lt_of_block BN.out)).trans BN.out)
  clear hb9
  have hr2 : Lay.gate.Rd u3 A2 r.1.gs := ho2.sl.2.rd
  clear ho2
  have kBN_0 : u3.cell? ⟨iBN, 0, none⟩ = some (.int .i64 n.ins) := (cell_of_block BN.out 0).1
  have kBN_1 : u3.cell? ⟨iBN, 1, none⟩ = some (.slice A1 n.gs.length d1) := (cell_of_block BN.out 1).1
  have ltBN : iBN < u3.heap.size := lt_of_block BN.out
  have hal : Below u3.heap.size u3 (u3.alloc (.cells #[.int .i64 r.1.ins, .slice A2 r.1.gs.length d2] 25)) := (Below.refl _ _).alloc (Nat.le_refl _) _
  have B9 : (u3.alloc (.cells #[.int .i64 r.1.ins, .slice A2 r.1.gs.length d2] 25)).heap[u3.heap.size]? = some (.cells #[.int .i64 r.1.ins, .slice A2 r.1.gs.length d2] 25 (0, 0)) := heap_alloc_new _ _
  have hb := bthen hb hal
  have hn := hn.up hal
  have BN := Lib.hid ((hal.block _ (lt_of_block BN.out)).trans BN.out)
  have hr2 := hr2.up hal
  clear hal
  have BX := Lib.hid B9
  clear B9
  go_wp2_with fail
  clear kBN_0 kBN_1 ltBN
  generalize u3.alloc (.cells #[.int .i64 r.1.ins, .slice A2 r.1.gs.length d2] 25) = u4 at *
  generalize u3.heap.size = iBX at *
  refine (specNetXor_any A1 d1 n a b _ hn (by omega) (none_of hn) HI.out ha hb9').mono ?_
  rw [← HR.out]
  rintro e u5 ⟨A3, d3, rfl, ho3, hb9⟩
  have hb := bthen hb hb9
  have hn := hn.up hb9
  have BN := Lib.hid ((hb9.block _ (lt_of_block BN.out)).trans BN.out)
  have hr2 := hr2.up hb9
  have BX := Lib.hid ((hb9.block _ (lt_of_block BX.out)).trans BX.out)
  clear hb9
  have hr3 : Lay.gate.Rd u5 A3 r.1.gs := ho3.sl.2.rd
  clear ho3
  have kBX_0 : u5.cell? ⟨iBX, 0, none⟩ = some (.int .i64 r.1.ins) := (cell_of_block BX.out 0).1
  have kBX_1 : u5.cell? ⟨iBX, 1, none⟩ = some (.slice A2 r.1.gs.length d2) := (cell_of_block BX.out 1).1
  have ltBX : iBX < u5.heap.size := lt_of_block BX.out
  have hal : Below u5.heap.size u5 (u5.alloc (.cells #[.int .i64 r.1.ins, .slice A3 r.1.gs.length d3] 25)) := (Below.refl _ _).alloc (Nat.le_refl _) _
  have B9 : (u5.alloc (.cells #[.int .i64 r.1.ins, .slice A3 r.1.gs.length d3] 25)).heap[u5.heap.size]? = some (.cells #[.int .i64 r.1.ins, .slice A3 r.1.gs.length d3] 25 (0, 0)) := heap_alloc_new _ _
  have hb := bthen hb hal
  have hn := hn.up hal
  have BN := Lib.hid ((hal.block _ (lt_of_block BN.out)).trans BN.out)
  have hr2 := hr2.up hal
  have BX := Lib.hid ((hal.block _ (lt_of_block BX.out)).trans BX.out)
  have hr3 := hr3.up hal
  clear hal
  have BZ := Lib.hid B9
  clear B9
  go_wp2_with fail
  clear kBX_0 kBX_1 ltBX
  generalize u5.alloc (.cells #[.int .i64 r.1.ins, .slice A3 r.1.gs.length d3] 25) = u6 at *
  generalize u5.heap.size = iBZ at *
  refine (netSame_any r.1 r.1 A2 A3 d2 d3 _ hr2 hr3 (by omega) (by omega)).mono ?_
  rintro e u7 ⟨rfl, hb9⟩
  have hb := bthen hb hb9
  have hn := hn.up hb9
  have BN := Lib.hid ((hb9.block _ (lt_of_block BN.out)).trans BN.out)
  have hr2 := hr2.up hb9
  have BX := Lib.hid ((hb9.block _ (lt_of_block BX.out)).trans BX.out)
  have hr3 := hr3.up hb9
  have BZ := Lib.hid ((hb9.block _ (lt_of_block BZ.out)).trans BZ.out)
  clear hb9
  simp only [decide_true]
  by_cases hz : r.2 = 0
  · skip
    have hr0 := HRZ.out hz
    have hzb : (r.2 == 0) = true := by simpa using hz
    have HR1 : Hid (r.1 = ⟨0, []⟩) := Lib.hid (by rw [hr0])
    clear hr0 hz
    have kBX_0 : u7.cell? ⟨iBX, 0, none⟩ = some (.int .i64 r.1.ins) := (cell_of_block BX.out 0).1
    have kBX_1 : u7.cell? ⟨iBX, 1, none⟩ = some (.slice A2 r.1.gs.length d2) := (cell_of_block BX.out 1).1
    go_wp2_with fail
    clear kBX_0 kBX_1
    refine (netSame_any r.1 ⟨0, []⟩ A2 none d2 0 _ hr2 (.nil _ _ _ _) (by omega) (by simp)).mono ?_
    rintro e u8 ⟨rfl, hb9⟩
    have hb := bthen hb hb9
    have hn := hn.up hb9
    have BN := Lib.hid ((hb9.block _ (lt_of_block BN.out)).trans BN.out)
    have hr2 := hr2.up hb9
    have BX := Lib.hid ((hb9.block _ (lt_of_block BX.out)).trans BX.out)
    have hr3 := hr3.up hb9
    have BZ := Lib.hid ((hb9.block _ (lt_of_block BZ.out)).trans BZ.out)
    clear hb9
    rw [show decide (r.1 = (⟨0, []⟩ : N)) = true from decide_eq_true HR1.out]
    go_wp2
    go_ret
    exact ⟨rfl, hb⟩
  have hzb : (r.2 == 0) = false := by simpa using hz
  obtain ⟨l1, l1n, l2, l4, N0, N1, ⟨NA0, NA1⟩, l5⟩ := HLW.out hz
  have L1 := Lib.hid l1
  have L2 := Lib.hid l2
  have L4 := Lib.hid l4
  have L5 := Lib.hid l5
  have HOKN : Hid (netOk n = true ∧ netMark r.1 r.2 = true) := Lib.hid ⟨(netOp_yes (by rw [← HR.out]; exact hz)).1, by rw [HR.out] at hz ⊢; obtain ⟨e1, e2, e3, e4⟩ := netOp_yes hz; rw [e4] at hz ⊢; exact (xor1_says e1 e2 e3 hz).1.mark⟩
  have hrm : okInt r.2 := mark_int l2 HOKN.out.2
  have L1N := Lib.hid l1n
  clear l1n
  have en : IntKind.i64.wrap (-a) = -a := IntWalk.i64_in _ (by omega)
  clear l1 l2 l4 l5 hz
  have kBX_0 : u7.cell? ⟨iBX, 0, none⟩ = some (.int .i64 r.1.ins) := (cell_of_block BX.out 0).1
  have kBX_1 : u7.cell? ⟨iBX, 1, none⟩ = some (.slice A2 r.1.gs.length d2) := (cell_of_block BX.out 1).1
  go_wp2_with fail
  clear kBX_0 kBX_1
  refine (implNetXor_any A2 d2 r.1 b a _ hr2 (by omega) (none_of hr2) HRS.out.2 hb9' ha).mono ?_
  rw [L1.out]
  rintro e u9 ⟨A4, d4, rfl, ho4, hb9⟩
  have hb := bthen hb hb9
  have hn := hn.up hb9
  have BN := Lib.hid ((hb9.block _ (lt_of_block BN.out)).trans BN.out)
  have hr2 := hr2.up hb9
  have BX := Lib.hid ((hb9.block _ (lt_of_block BX.out)).trans BX.out)
  have hr3 := hr3.up hb9
  have BZ := Lib.hid ((hb9.block _ (lt_of_block BZ.out)).trans BZ.out)
  clear hb9
  have hr4 : Lay.gate.Rd u9 A4 r.1.gs := ho4.sl.2.rd
  clear ho4
  obtain ⟨t9, ht9⟩ : ∃ t9 : N × Int, t9 = (r.1, -r.2) := ⟨_, rfl⟩
  have HT1 := Lib.hid (show t9.1 = r.1 by rw [ht9])
  have HT2 := Lib.hid (show t9.2 = -r.2 by rw [ht9])
  have HT9 := Lib.hid ht9
  clear ht9
  have htl : t9.1.gs.length ≤ 102 := by rw [HT1.out]; exact hrl
  have hem : IntKind.i64.wrap (-r.2) = -r.2 := IntWalk.i64_in _ (by unfold okInt at hrm; have := netMark_iff.1 HOKN.out.2; have := netOk_all.1 L2.out; omega)
  have q3 : (-r.2 != -r.2) = false := by simp
  have kBX_0 : u9.cell? ⟨iBX, 0, none⟩ = some (.int .i64 r.1.ins) := (cell_of_block BX.out 0).1
  have kBX_1 : u9.cell? ⟨iBX, 1, none⟩ = some (.slice A2 r.1.gs.length d2) := (cell_of_block BX.out 1).1
  have ltBX : iBX < u9.heap.size := lt_of_block BX.out
  have hal : Below u9.heap.size u9 (u9.alloc (.cells #[.int .i64 r.1.ins, .slice A4 r.1.gs.length d4] 25)) := (Below.refl _ _).alloc (Nat.le_refl _) _
  have B9 : (u9.alloc (.cells #[.int .i64 r.1.ins, .slice A4 r.1.gs.length d4] 25)).heap[u9.heap.size]? = some (.cells #[.int .i64 r.1.ins, .slice A4 r.1.gs.length d4] 25 (0, 0)) := heap_alloc_new _ _
  have hb := bthen hb hal
  have hn := hn.up hal
  have BN := Lib.hid ((hal.block _ (lt_of_block BN.out)).trans BN.out)
  have hr2 := hr2.up hal
  have BX := Lib.hid ((hal.block _ (lt_of_block BX.out)).trans BX.out)
  have hr3 := hr3.up hal
  have BZ := Lib.hid ((hal.block _ (lt_of_block BZ.out)).trans BZ.out)
  have hr4 := hr4.up hal
  clear hal
  have BA := Lib.hid B9
  clear B9
  go_wp2_with fail
  clear kBX_0 kBX_1 ltBX
  generalize u9.alloc (.cells #[.int .i64 r.1.ins, .slice A4 r.1.gs.length d4] 25) = u10 at *
  generalize u9.heap.size = iBA at *
  refine (implNetXor_any A2 d2 r.1 (-a) b _ hr2 (by omega) (none_of hr2) HRS.out.2 (by omega) hb9').mono ?_
  rw [L1N.out]
  rw [← HT9.out]
  rintro e u11 ⟨A5, d5, rfl, ho5, hb9⟩
  have hb := bthen hb hb9
  have hn := hn.up hb9
  have BN := Lib.hid ((hb9.block _ (lt_of_block BN.out)).trans BN.out)
  have hr2 := hr2.up hb9
  have BX := Lib.hid ((hb9.block _ (lt_of_block BX.out)).trans BX.out)
  have hr3 := hr3.up hb9
  have BZ := Lib.hid ((hb9.block _ (lt_of_block BZ.out)).trans BZ.out)
  have hr4 := hr4.up hb9
  have BA := Lib.hid ((hb9.block _ (lt_of_block BA.out)).trans BA.out)
  clear hb9
  have ht95 : Lay.gate.Rd u11 A5 t9.1.gs := ho5.sl.2.rd
  clear ho5
  have kBA_0 : u11.cell? ⟨iBA, 0, none⟩ = some (.int .i64 r.1.ins) := (cell_of_block BA.out 0).1
  have kBA_1 : u11.cell? ⟨iBA, 1, none⟩ = some (.slice A4 r.1.gs.length d4) := (cell_of_block BA.out 1).1
  have kBX_0 : u11.cell? ⟨iBX, 0, none⟩ = some (.int .i64 r.1.ins) := (cell_of_block BX.out 0).1
  have kBX_1 : u11.cell? ⟨iBX, 1, none⟩ = some (.slice A2 r.1.gs.length d2) := (cell_of_block BX.out 1).1
  have ltBA : iBA < u11.heap.size := lt_of_block BA.out
  have ltBX : iBX < u11.heap.size := lt_of_block BX.out
  have hal : Below u11.heap.size u11 (u11.alloc (.cells #[.int .i64 t9.1.ins, .slice A5 t9.1.gs.length d5] 25)) := (Below.refl _ _).alloc (Nat.le_refl _) _
  have B9 : (u11.alloc (.cells #[.int .i64 t9.1.ins, .slice A5 t9.1.gs.length d5] 25)).heap[u11.heap.size]? = some (.cells #[.int .i64 t9.1.ins, .slice A5 t9.1.gs.length d5] 25 (0, 0)) := heap_alloc_new _ _
  have hb := bthen hb hal
  have hn := hn.up hal
  have BN := Lib.hid ((hal.block _ (lt_of_block BN.out)).trans BN.out)
  have hr2 := hr2.up hal
  have BX := Lib.hid ((hal.block _ (lt_of_block BX.out)).trans BX.out)
  have hr3 := hr3.up hal
  have BZ := Lib.hid ((hal.block _ (lt_of_block BZ.out)).trans BZ.out)
  have hr4 := hr4.up hal
  have BA := Lib.hid ((hal.block _ (lt_of_block BA.out)).trans BA.out)
  have ht95 := ht95.up hal
  clear hal
  have BB := Lib.hid B9
  clear B9
  go_wp2_with fail
  clear kBA_0 kBA_1 kBX_0 kBX_1 ltBA ltBX
  generalize u11.alloc (.cells #[.int .i64 t9.1.ins, .slice A5 t9.1.gs.length d5] 25) = u12 at *
  generalize u11.heap.size = iBB at *
  refine (netSame_any r.1 r.1 A4 A2 d4 d2 _ hr4 hr2 (by omega) (by omega)).mono ?_
  rintro e u13 ⟨rfl, hb9⟩
  have hb := bthen hb hb9
  have hn := hn.up hb9
  have BN := Lib.hid ((hb9.block _ (lt_of_block BN.out)).trans BN.out)
  have hr2 := hr2.up hb9
  have BX := Lib.hid ((hb9.block _ (lt_of_block BX.out)).trans BX.out)
  have hr3 := hr3.up hb9
  have BZ := Lib.hid ((hb9.block _ (lt_of_block BZ.out)).trans BZ.out)
  have hr4 := hr4.up hb9
  have BA := Lib.hid ((hb9.block _ (lt_of_block BA.out)).trans BA.out)
  have ht95 := ht95.up hb9
  have BB := Lib.hid ((hb9.block _ (lt_of_block BB.out)).trans BB.out)
  clear hb9
  simp only [decide_true]
  have kBB_0 : u13.cell? ⟨iBB, 0, none⟩ = some (.int .i64 t9.1.ins) := (cell_of_block BB.out 0).1
  have kBB_1 : u13.cell? ⟨iBB, 1, none⟩ = some (.slice A5 t9.1.gs.length d5) := (cell_of_block BB.out 1).1
  have kBX_0 : u13.cell? ⟨iBX, 0, none⟩ = some (.int .i64 r.1.ins) := (cell_of_block BX.out 0).1
  have kBX_1 : u13.cell? ⟨iBX, 1, none⟩ = some (.slice A2 r.1.gs.length d2) := (cell_of_block BX.out 1).1
  go_wp2_with fail
  clear kBB_0 kBB_1 kBX_0 kBX_1
  refine (netSame_any t9.1 r.1 A5 A2 d5 d2 _ ht95 hr2 (by omega) (by omega)).mono ?_
  rintro e u14 ⟨rfl, hb9⟩
  have hb := bthen hb hb9
  have hn := hn.up hb9
  have BN := Lib.hid ((hb9.block _ (lt_of_block BN.out)).trans BN.out)
  have hr2 := hr2.up hb9
  have BX := Lib.hid ((hb9.block _ (lt_of_block BX.out)).trans BX.out)
  have hr3 := hr3.up hb9
  have BZ := Lib.hid ((hb9.block _ (lt_of_block BZ.out)).trans BZ.out)
  have hr4 := hr4.up hb9
  have BA := Lib.hid ((hb9.block _ (lt_of_block BA.out)).trans BA.out)
  have ht95 := ht95.up hb9
  have BB := Lib.hid ((hb9.block _ (lt_of_block BB.out)).trans BB.out)
  clear hb9
  rw [show decide (t9.1 = r.1) = true from decide_eq_true HT1.out]
  have ht2 := HT2.out
  have kBX_0 : u14.cell? ⟨iBX, 0, none⟩ = some (.int .i64 r.1.ins) := (cell_of_block BX.out 0).1
  have kBX_1 : u14.cell? ⟨iBX, 1, none⟩ = some (.slice A2 r.1.gs.length d2) := (cell_of_block BX.out 1).1
  go_wp2_with fail
  clear kBX_0 kBX_1
  refine (netOk_any r.1 A2 d2 _ hr2 (by omega) HRS.out.2).mono ?_
  rintro e u15 ⟨rfl, hb9⟩
  have hb := bthen hb hb9
  have hn := hn.up hb9
  have BN := Lib.hid ((hb9.block _ (lt_of_block BN.out)).trans BN.out)
  have hr2 := hr2.up hb9
  have BX := Lib.hid ((hb9.block _ (lt_of_block BX.out)).trans BX.out)
  have hr3 := hr3.up hb9
  have BZ := Lib.hid ((hb9.block _ (lt_of_block BZ.out)).trans BZ.out)
  have hr4 := hr4.up hb9
  have BA := Lib.hid ((hb9.block _ (lt_of_block BA.out)).trans BA.out)
  have ht95 := ht95.up hb9
  have BB := Lib.hid ((hb9.block _ (lt_of_block BB.out)).trans BB.out)
  clear hb9
  rw [L2.out]
  have kBN_0 : u15.cell? ⟨iBN, 0, none⟩ = some (.int .i64 n.ins) := (cell_of_block BN.out 0).1
  have kBN_1 : u15.cell? ⟨iBN, 1, none⟩ = some (.slice A1 n.gs.length d1) := (cell_of_block BN.out 1).1
  have kBX_0 : u15.cell? ⟨iBX, 0, none⟩ = some (.int .i64 r.1.ins) := (cell_of_block BX.out 0).1
  have kBX_1 : u15.cell? ⟨iBX, 1, none⟩ = some (.slice A2 r.1.gs.length d2) := (cell_of_block BX.out 1).1
  go_wp2_with fail
  clear kBN_0 kBN_1 kBX_0 kBX_1
  refine (wpGate_any n r.1 A1 A2 d1 d2 a b r.2 true x1.length _ hn (by omega) HI.out hr2 (by omega) HRS.out.2 ha hb9' hrm (by omega) (by omega) N0 N1 (fun ins hl => ⟨L5.out ins hl, (vals_len HOKN.out.1 hl).1, (vals_len L2.out (by rw [L4.out]; exact hl)).2⟩)).mono ?_
  rintro e u16 ⟨rfl, hb9⟩
  have hb := bthen hb hb9
  have hn := hn.up hb9
  have BN := Lib.hid ((hb9.block _ (lt_of_block BN.out)).trans BN.out)
  have hr2 := hr2.up hb9
  have BX := Lib.hid ((hb9.block _ (lt_of_block BX.out)).trans BX.out)
  have hr3 := hr3.up hb9
  have BZ := Lib.hid ((hb9.block _ (lt_of_block BZ.out)).trans BZ.out)
  have hr4 := hr4.up hb9
  have BA := Lib.hid ((hb9.block _ (lt_of_block BA.out)).trans BA.out)
  have ht95 := ht95.up hb9
  have BB := Lib.hid ((hb9.block _ (lt_of_block BB.out)).trans BB.out)
  clear hb9
  go_wp2
  go_ret
  exact ⟨rfl, hb⟩

set_option maxRecDepth 100000 in
theorem fnNetXor_lifted (os : Os) (started : os.Started) (H : Type) (enc : TypeId × Value → H) :
    ReturnsInHanded {} Try.checked os 4 .any (Rows.fnNetXorSpec.pre6 enc Try.prog Try.f4 Rows.fnNetXorRow.domain false) (Rows.fnNetXorSpec.post enc Try.prog Try.f4 false true false false) := by
  refine returnsInHanded_of_change (C := Try.checked) (by kernel_rfl) started (by kernel_rfl) Try.func4
    (ChangeSpec.witness6 (enc := enc) (C := Try.checked) false ⟨#[], #[.slice none 0 0, .slice none 0 0], []⟩ 16 (by kernel_rfl) (by kernel_rfl) (by kernel_rfl) (by kernel_rfl)) ?_
  intro W base args ds gs before hval0 hW hcnd _
  have hval : ∀ (j : Nat) t v, Try.f4.params[j]? = some t → args[j]? = some v → Value.okWide Try.prog W .any base t v := hval0
  have hW' := hW
  obtain ⟨p, q, hA0, hV, rfl, hfz, hnd⟩ := hW
  have hA : DataW.TrodAll enc Try.prog W 0 (fun _ => true) true Try.f4.params.toList args.toList ds p := hA0
  rw [Try.params4] at hA hval
  obtain ⟨v0, vs0, d0, ds0, p0, q0, hargs, rfl, rfl, h0, r0⟩ := trodAll_cons hA
  obtain ⟨v1, vs1, d1, ds1, p1, q1, rfl, rfl, rfl, h1, r1⟩ := trodAll_cons r0
  obtain ⟨rfl, rfl, rfl⟩ := trodAll_nil r1
  obtain rfl : args = #[v0, v1] := by cases args; simp_all
  obtain ⟨rfl, rfl⟩ := trodVars_none hV
  have k0 := h0
  have lt0 : ∀ x ∈ p0, x.block < W.heap.size := by obtain ⟨m, hm⟩ := k0; exact DataW.trod_lt m _ _ _ hm
  have k1 := h1
  have lt1 : ∀ x ∈ p1, x.block < W.heap.size := by obtain ⟨m, hm⟩ := k1; exact DataW.trod_lt m _ _ _ hm
  obtain ⟨A0, c0, x0, rfl, hc0, ok0, rd0⟩ := open_arg Try.underlying22 opens_bytes (hval 0 22 v0 rfl rfl) h0
  obtain ⟨A1, c1, x1, rfl, hc1, ok1, rd1⟩ := open_arg Try.underlying22 opens_bytes (hval 1 22 v1 rfl rfl) h1
  clear hA0 hval0
  refine (fnNetXor_walk W hc0 ok0 rd0 hc1 ok1 rd1).mono fun e W' ⟨he, bel⟩ => ?_
  subst he
  exact ⟨_, rfl, _, _, _, [], _, [], hW', trodAll_mk1 (shut_bool Try.underlying4 _), (trodAll_cons_mk (Below.trod (by kernel_rfl) (by kernel_rfl) (of_decide_eq_true (by kernel_rfl)) k0 bel lt0) (trodAll_cons_mk (Below.trod (by kernel_rfl) (by kernel_rfl) (of_decide_eq_true (by kernel_rfl)) k1 bel lt1) trodAll_mk0)), rfl, bel.frame _, fun h => by cases h⟩

/-- The given statement. -/
theorem fnNetXor_holds : Rows.FnNetXorSaid :=
  OpenClaim.holds_of_wide 4 Try.f4 rfl rfl rfl rfl rfl rfl rfl ⟨rfl, rfl, rfl, rfl, rfl⟩ rfl rfl rfl rfl rfl (by kernel_rfl) Try.func4 (by kernel_rfl)
    (of_decide_eq_true (by kernel_rfl)) (by unfold Func.isWrapper; first | (rw [if_pos (by decide +kernel)]; kernel_rfl) | (rw [if_neg (by decide +kernel)]; exact ⟨rfl, rfl⟩))
    (fun os started H enc _ => fnNetXor_lifted os started H enc)
#print axioms fnNetXor_holds
end Go.Proofs.Ytcdlfnhjpjpbjaa
