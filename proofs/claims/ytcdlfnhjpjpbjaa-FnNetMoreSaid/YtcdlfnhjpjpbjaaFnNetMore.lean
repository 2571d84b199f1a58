/- FnNetMore: the order of making gates does not change what they say: for any bytes the law says true. -/
import Derived.Test.YtcdlfnhjpjpbjaaLawC
import Derived.Test.YtcdlfnhjpjpbjaaNetG
import Derived.Test.YtcdlfnhjpjpbjaaDrT
import Derived.Test.YtcdlfnhjpjpbjaaOpenT
import Derived.Test.YtcdlfnhjpjpbjaaRows
namespace Go.Proofs.Ytcdlfnhjpjpbjaa
open Go Go.RowKit Go.ChangeShapes Go.WideShapes Go.ChangeAt Go.Deep

theorem opens_bytes : Opens Try.prog 22 Lay.byte.slice (fun xs => xs.length ≤ maxLen ∧ ∀ x ∈ xs, True) := Opens.slice Try.underlying22 (by kernel_rfl) (by decide) (Opens.byte Try.underlying5)
theorem netOp_small {m : Nat} {n : N} {op : N → Int → Int → N × Int} {a b : Int} (h : bentN m n) (hop : ∀ n' : N, smallN m n' → netMark n' a = true → netMark n' b = true → smallN (m + 1) (op n' a b).1) : (netOp op n a b).1.gs.length ≤ m + 1 ∧ okInts (netOp op n a b).1 := by
  unfold netOp
  split
  · rename_i hc
    simp only [Bool.and_eq_true] at hc
    obtain ⟨h0, h1, h2, _⟩ := netOk_all.1 hc.1
    have := hop n ⟨h0, h1, h.2.2.1, h.2.2.2⟩ hc.2.1 hc.2.2
    exact ⟨this.2.2.1, this.2.2.2⟩
  · exact ⟨Nat.zero_le _, fun g hg => by cases hg⟩
theorem and_small {m : Nat} {n : N} {a b : Int} (h : bentN m n) (ha : okInt a) (hb : okInt b) : (netOp and1 n a b).1.gs.length ≤ m + 1 ∧ okInts (netOp and1 n a b).1 := netOp_small h fun _ hs _ _ => and1_small hs ha hb
theorem xor_small {m : Nat} {n : N} {a b : Int} (hm : m ≤ 1000) (h : bentN m n) : (netOp xor1 n a b).1.gs.length ≤ m + 1 ∧ okInts (netOp xor1 n a b).1 := netOp_small h fun n' hs ha hb => by
  have := netMark_iff.1 ha; have := netMark_iff.1 hb; have := hs.1; have := hs.2.1; have := hs.2.2.1
  exact xor1_small hs (by omega) (by omega)
theorem bent_of_ok {m : Nat} {n : N} (h : netOk n = true) (hl : n.gs.length ≤ m) (hi : okInts n) : bentN m n := by
  have := netOk_all.1 h; exact ⟨by omega, by omega, hl, hi⟩
theorem and1_z {m : N} {a b : Int} : 0 ≤ m.ins → a ≠ 0 → b ≠ 0 → (and1 m a b).2 = 0 → and1 m a b = (⟨0, []⟩, 0) := fun h0 ha hb h => and1_zero h0 ha hb h
theorem xor1_z {m : N} {a b : Int} : 0 ≤ m.ins → a ≠ 0 → b ≠ 0 → (xor1 m a b).2 = 0 → xor1 m a b = (⟨0, []⟩, 0) := fun h0 ha hb h => xor1_zero h0 ha hb h
theorem vals_len {n : N} {ins : List Bool} (h : netOk n = true) (hl : (ins.length : Int) = n.ins) : 1 ≤ (netVals n ins).length ∧ (netVals n ins).length ≤ 1048576 := by
  have h1 := (obeys_vals h hl).2.1
  have := netOk_all.1 h
  omega
theorem mark_int {n : N} {m : Int} (h : netOk n = true) (hm : netMark n m = true) : okInt m := by
  have := netMark_iff.1 hm; have := netOk_all.1 h; unfold okInt; omega
theorem none_of {w : World} {A : Option Addr} {xs : List G} (h : Lay.gate.Rd w A xs) : A = none → xs.length = 0 := fun e => sl_none h e

set_option maxRecDepth 100000 in
set_option maxHeartbeats 4000000 in
theorem fnNetMore_walk (W : World) {A0 : Option Addr} {c0 : Nat} {x0 : List UInt8} {A1 : Option Addr} {c1 : Nat} {x1 : List UInt8} (hc0 : x0.length ≤ c0) (hok0 : x0.length ≤ maxLen ∧ ∀ z ∈ x0, True) (h0 : Lay.byte.Rd W A0 x0) (hc1 : x1.length ≤ c1) (hok1 : x1.length ≤ maxLen ∧ ∀ z ∈ x1, True) (h1 : Lay.byte.Rd W A1 x1) :
    Calls Try.prog 5 #[.slice A0 x0.length c0, .slice A1 x1.length c1] W (LawC W) := by
  have hm0 : x0.length ≤ 9223372036854775807 := by have := hok0.1; unfold maxLen at this; omega
  clear hok0
  have hm1 : x1.length ≤ 9223372036854775807 := by have := hok1.1; unfold maxLen at this; omega
  clear hok1
  by_cases hbig0 : (1048576 : Int) < x0.length
  · go_enter Try.func5, Try.ntmps5
    go_wp2
    go_ret
    exact ⟨rfl, Below.refl _ _⟩
  by_cases hbig1 : (1048576 : Int) < x1.length
  · go_enter Try.func5, Try.ntmps5
    go_wp2
    go_ret
    exact ⟨rfl, Below.refl _ _⟩
  have hb : Below W.heap.size W W := Below.refl _ _
  go_enter Try.func5, Try.ntmps5
  go_wp2_with fail
  refine (drawNetAnd_any A0 c0 x0 _ h0 hc0 hm0).mono ?_
  rintro e u1 ⟨n, A1, d1, a, b, rfl, hn, hbn, ha, hb9', hb9⟩
  have hb := bthen hb hb9
  clear hb9
  clear h0 h1
  have hnl : n.gs.length ≤ 101 := hbn.2.2.1
  have HI := Lib.hid hbn.2.2.2
  have HBN := Lib.hid hbn
  clear hbn
  unfold okInt at ha hb9'
  obtain ⟨r, hr⟩ : ∃ r, r = netOp and1 n a b := ⟨_, rfl⟩
  obtain ⟨t, ht⟩ : ∃ t, t = netOp xor1 n a b := ⟨_, rfl⟩
  obtain ⟨p, hp⟩ : ∃ p, p = netOp xor1 r.1 a b := ⟨_, rfl⟩
  obtain ⟨q, hq⟩ : ∃ q, q = netOp and1 t.1 a b := ⟨_, rfl⟩
  have HR := Lib.hid hr
  have HT := Lib.hid ht
  have HP := Lib.hid hp
  have HQ := Lib.hid hq
  have HRS := Lib.hid (show r.1.gs.length ≤ 102 ∧ okInts r.1 by rw [hr]; exact and_small HBN.out ha hb9')
  have HTS := Lib.hid (show t.1.gs.length ≤ 102 ∧ okInts t.1 by rw [ht]; exact xor_small (by omega) HBN.out)
  have hok1 : r.2 ≠ 0 → netOk r.1 = true := fun h => by rw [hr] at h ⊢; obtain ⟨e1, e2, e3, e4⟩ := netOp_yes h; rw [e4] at h ⊢; exact (and1_says e1 e2 e3 h).1.ok
  have hok2 : t.2 ≠ 0 → netOk t.1 = true := fun h => by rw [ht] at h ⊢; obtain ⟨e1, e2, e3, e4⟩ := netOp_yes h; rw [e4] at h ⊢; exact (xor1_says e1 e2 e3 h).1.ok
  have hok3 : p.2 ≠ 0 → netOk p.1 = true ∧ netMark p.1 p.2 = true ∧ p.1.ins = r.1.ins := fun h => by rw [hp] at h ⊢; obtain ⟨e1, e2, e3, e4⟩ := netOp_yes h; rw [e4] at h ⊢; exact ⟨(xor1_says e1 e2 e3 h).1.ok, (xor1_says e1 e2 e3 h).1.mark, (xor1_says e1 e2 e3 h).1.ins⟩
  have hok4 : q.2 ≠ 0 → netOk q.1 = true ∧ netMark q.1 q.2 = true ∧ q.1.ins = t.1.ins := fun h => by rw [hq] at h ⊢; obtain ⟨e1, e2, e3, e4⟩ := netOp_yes h; rw [e4] at h ⊢; exact ⟨(and1_says e1 e2 e3 h).1.ok, (and1_says e1 e2 e3 h).1.mark, (and1_says e1 e2 e3 h).1.ins⟩
  have hgr1 : r.2 ≠ 0 → netOk n = true ∧ netMark r.1 r.2 = true ∧ r.1.ins = n.ins := fun h => by rw [hr] at h ⊢; obtain ⟨e1, e2, e3, e4⟩ := netOp_yes h; rw [e4] at h ⊢; exact ⟨e1, (and1_says e1 e2 e3 h).1.mark, (and1_says e1 e2 e3 h).1.ins⟩
  have hgr2 : t.2 ≠ 0 → netOk n = true ∧ netMark t.1 t.2 = true ∧ t.1.ins = n.ins := fun h => by rw [ht] at h ⊢; obtain ⟨e1, e2, e3, e4⟩ := netOp_yes h; rw [e4] at h ⊢; exact ⟨e1, (xor1_says e1 e2 e3 h).1.mark, (xor1_says e1 e2 e3 h).1.ins⟩
  have HML : Hid (r.2 ≠ 0 → t.2 ≠ 0 → p.2 ≠ 0 → q.2 ≠ 0 → p.1.gs.length = q.1.gs.length ∧ 0 ≤ n.ins ∧ n.ins ≤ 8 ∧ ∀ ins : List Bool, (ins.length : Int) = n.ins → gateLaw n p.1 a b p.2 true ins = true ∧ gateLaw n q.1 a b q.2 false ins = true ∧ gateLaw n p.1 a b r.2 false ins = true ∧ gateLaw n q.1 a b t.2 true ins = true) := Lib.hid (fun h1 h2 h3 h4 => by subst hp hq hr ht; exact more_law h1 h2 h3 h4)
  have HK1 := Lib.hid hok1
  have HK2 := Lib.hid hok2
  have HK3 := Lib.hid hok3
  have HK4 := Lib.hid hok4
  have HG1 := Lib.hid hgr1
  have HG2 := Lib.hid hgr2
  have hrl := HRS.out.1
  have htl := HTS.out.1
  clear hr ht hp hq hok1 hok2 hok3 hok4 hgr1 hgr2
  have q2 : (r.2 != r.2) = false := by simp
  have q2e : (r.2 == r.2) = true := by simp
  have hal : Below u1.heap.size u1 (u1.alloc (.cells #[.int .i64 n.ins, .slice A1 n.gs.length d1] 25)) := (Below.refl _ _).alloc (Nat.le_refl _) _
  have B9 : (u1.alloc (.cells #[.int .i64 n.ins, .slice A1 n.gs.length d1] 25)).heap[u1.heap.size]? = some (.cells #[.int .i64 n.ins, .slice A1 n.gs.length d1] 25 (0, 0)) := heap_alloc_new _ _
  have hb := bthen hb hal
  have hn := hn.up hal
  clear hal
  have BN := Lib.hid B9
  clear B9
  go_wp2_with fail
  generalize u1.alloc (.cells #[.int .i64 n.ins, .slice A1 n.gs.length d1] 25) = u2 at *
  generalize u1.heap.size = iBN at *
  refine (implNetAnd_any A1 d1 n a b _ hn (by omega) (none_of hn) HI.out ha hb9').mono ?_
  rw [← HR.out]
  rintro e u3 ⟨A2, d2, rfl, ho2, hb9⟩
  have hb := bthen hb hb9
  have hn := hn.up hb9
  have BN := Lib.hid ((hb9.block _ (lt_of_block BN.out)).trans BN.out)
  clear hb9
  have hr2 : Lay.gate.Rd u3 A2 r.1.gs := ho2.sl.2.rd
  clear ho2
  have kBN_0 : u3.cell? ⟨iBN, 0, none⟩ = some (.int .i64 n.ins) := (cell_of_block BN.out 0).1
  have kBN_1 : u3.cell? ⟨iBN, 1, none⟩ = some (.slice A1 n.gs.length d1) := (cell_of_block BN.out 1).1
  have ltBN : iBN < u3.heap.size := lt_of_block BN.out
  have hal : Below u3.heap.size u3 (u3.alloc (.cells #[.int .i64 r.1.ins, .slice A2 r.1.gs.length d2] 25)) := (Below.refl _ _).alloc (Nat.le_refl _) _
  have B9 : (u3.alloc (.cells #[.int .i64 r.1.ins, .slice A2 r.1.gs.length d2] 25)).heap[u3.heap.size]? = some (.cells #[.int .i64 r.1.ins, .slice A2 r.1.gs.length d2] 25 (0, 0)) := heap_alloc_new _ _
  have hb := bthen hb hal
  have hn := hn.up hal
  have BN := Lib.hid ((hal.block _ (lt_of_block BN.out)).trans BN.out)
  have hr2 := hr2.up hal
  clear hal
  have BX := Lib.hid B9
  clear B9
  go_wp2_with fail
  clear kBN_0 kBN_1 ltBN
  generalize u3.alloc (.cells #[.int .i64 r.1.ins, .slice A2 r.1.gs.length d2] 25) = u4 at *
  generalize u3.heap.size = iBX at *
  refine (specNetAnd_any A1 d1 n a b _ hn (by omega) (none_of hn) HI.out ha hb9').mono ?_
  rw [← HR.out]
  rintro e u5 ⟨A3, d3, rfl, ho3, hb9⟩
  have hb := bthen hb hb9
  have hn := hn.up hb9
  have BN := Lib.hid ((hb9.block _ (lt_of_block BN.out)).trans BN.out)
  have hr2 := hr2.up hb9
  have BX := Lib.hid ((hb9.block _ (lt_of_block BX.out)).trans BX.out)
  clear hb9
  have hr3 : Lay.gate.Rd u5 A3 r.1.gs := ho3.sl.2.rd
  clear ho3
  have kBN_0 : u5.cell? ⟨iBN, 0, none⟩ = some (.int .i64 n.ins) := (cell_of_block BN.out 0).1
  have kBN_1 : u5.cell? ⟨iBN, 1, none⟩ = some (.slice A1 n.gs.length d1) := (cell_of_block BN.out 1).1
  have ltBN : iBN < u5.heap.size := lt_of_block BN.out
  have hal : Below u5.heap.size u5 (u5.alloc (.cells #[.int .i64 r.1.ins, .slice A3 r.1.gs.length d3] 25)) := (Below.refl _ _).alloc (Nat.le_refl _) _
  have B9 : (u5.alloc (.cells #[.int .i64 r.1.ins, .slice A3 r.1.gs.length d3] 25)).heap[u5.heap.size]? = some (.cells #[.int .i64 r.1.ins, .slice A3 r.1.gs.length d3] 25 (0, 0)) := heap_alloc_new _ _
  have hb := bthen hb hal
  have hn := hn.up hal
  have BN := Lib.hid ((hal.block _ (lt_of_block BN.out)).trans BN.out)
  have hr2 := hr2.up hal
  have BX := Lib.hid ((hal.block _ (lt_of_block BX.out)).trans BX.out)
  have hr3 := hr3.up hal
  clear hal
  have BS := Lib.hid B9
  clear B9
  go_wp2_with fail
  clear kBN_0 kBN_1 ltBN
  generalize u5.alloc (.cells #[.int .i64 r.1.ins, .slice A3 r.1.gs.length d3] 25) = u6 at *
  generalize u5.heap.size = iBS at *
  refine (implNetXor_any A1 d1 n a b _ hn (by omega) (none_of hn) HI.out ha hb9').mono ?_
  rw [← HT.out]
  rintro e u7 ⟨A4, d4, rfl, ho4, hb9⟩
  have hb := bthen hb hb9
  have hn := hn.up hb9
  have BN := Lib.hid ((hb9.block _ (lt_of_block BN.out)).trans BN.out)
  have hr2 := hr2.up hb9
  have BX := Lib.hid ((hb9.block _ (lt_of_block BX.out)).trans BX.out)
  have hr3 := hr3.up hb9
  have BS := Lib.hid ((hb9.block _ (lt_of_block BS.out)).trans BS.out)
  clear hb9
  have ht4 : Lay.gate.Rd u7 A4 t.1.gs := ho4.sl.2.rd
  clear ho4
  by_cases hz1 : r.2 = 0
  · have hzb : (r.2 == 0) = true := by simpa using hz1
    have HZ := Lib.hid hz1
    clear hz1
    go_wp2
    go_ret
    exact ⟨rfl, bthen hb ((Below.refl _ _).alloc (Nat.le_refl _) _)⟩
  have hzb : (r.2 == 0) = false := by simpa using hz1
  by_cases hz2 : t.2 = 0
  · have hzc : (t.2 == 0) = true := by simpa using hz2
    have HZ := Lib.hid hz2
    clear hz2 hz1
    go_wp2
    go_ret
    exact ⟨rfl, bthen hb ((Below.refl _ _).alloc (Nat.le_refl _) _)⟩
  have hzc : (t.2 == 0) = false := by simpa using hz2
  have HPS := Lib.hid (show p.1.gs.length ≤ 103 ∧ okInts p.1 by rw [HP.out]; exact xor_small (by omega) (bent_of_ok (HK1.out hz1) (by omega) HRS.out.2))
  have HQS := Lib.hid (show q.1.gs.length ≤ 103 ∧ okInts q.1 by rw [HQ.out]; exact and_small (bent_of_ok (HK2.out hz2) (by omega) HTS.out.2) ha hb9')
  have hpl := HPS.out.1
  have hql := HQS.out.1
  have HN1 := Lib.hid hz1
  have HN2 := Lib.hid hz2
  clear hz1 hz2
  have kBX_0 : u7.cell? ⟨iBX, 0, none⟩ = some (.int .i64 r.1.ins) := (cell_of_block BX.out 0).1
  have kBX_1 : u7.cell? ⟨iBX, 1, none⟩ = some (.slice A2 r.1.gs.length d2) := (cell_of_block BX.out 1).1
  have ltBX : iBX < u7.heap.size := lt_of_block BX.out
  have hal : Below u7.heap.size u7 (u7.alloc (.cells #[.int .i64 t.1.ins, .slice A4 t.1.gs.length d4] 25)) := (Below.refl _ _).alloc (Nat.le_refl _) _
  have B9 : (u7.alloc (.cells #[.int .i64 t.1.ins, .slice A4 t.1.gs.length d4] 25)).heap[u7.heap.size]? = some (.cells #[.int .i64 t.1.ins, .slice A4 t.1.gs.length d4] 25 (0, 0)) := heap_alloc_new _ _
  have hb := bthen hb hal
  have hn := hn.up hal
  have BN := Lib.hid ((hal.block _ (lt_of_block BN.out)).trans BN.out)
  have hr2 := hr2.up hal
  have BX := Lib.hid ((hal.block _ (lt_of_block BX.out)).trans BX.out)
  have hr3 := hr3.up hal
  have BS := Lib.hid ((hal.block _ (lt_of_block BS.out)).trans BS.out)
  have ht4 := ht4.up hal
  clear hal
  have BY := Lib.hid B9
  clear B9
  go_wp2_with fail
  clear kBX_0 kBX_1 ltBX
  generalize u7.alloc (.cells #[.int .i64 t.1.ins, .slice A4 t.1.gs.length d4] 25) = u8 at *
  generalize u7.heap.size = iBY at *
  refine (implNetXor_any A2 d2 r.1 a b _ hr2 (by omega) (none_of hr2) HRS.out.2 ha hb9').mono ?_
  rw [← HP.out]
  rintro e u9 ⟨A5, d5, rfl, ho5, hb9⟩
  have hb := bthen hb hb9
  have hn := hn.up hb9
  have BN := Lib.hid ((hb9.block _ (lt_of_block BN.out)).trans BN.out)
  have hr2 := hr2.up hb9
  have BX := Lib.hid ((hb9.block _ (lt_of_block BX.out)).trans BX.out)
  have hr3 := hr3.up hb9
  have BS := Lib.hid ((hb9.block _ (lt_of_block BS.out)).trans BS.out)
  have ht4 := ht4.up hb9
  have BY := Lib.hid ((hb9.block _ (lt_of_block BY.out)).trans BY.out)
  clear hb9
  have hp5 : Lay.gate.Rd u9 A5 p.1.gs := ho5.sl.2.rd
  clear ho5
  have kBY_0 : u9.cell? ⟨iBY, 0, none⟩ = some (.int .i64 t.1.ins) := (cell_of_block BY.out 0).1
  have kBY_1 : u9.cell? ⟨iBY, 1, none⟩ = some (.slice A4 t.1.gs.length d4) := (cell_of_block BY.out 1).1
  have ltBY : iBY < u9.heap.size := lt_of_block BY.out
  have hal : Below u9.heap.size u9 (u9.alloc (.cells #[.int .i64 p.1.ins, .slice A5 p.1.gs.length d5] 25)) := (Below.refl _ _).alloc (Nat.le_refl _) _
  have B9 : (u9.alloc (.cells #[.int .i64 p.1.ins, .slice A5 p.1.gs.length d5] 25)).heap[u9.heap.size]? = some (.cells #[.int .i64 p.1.ins, .slice A5 p.1.gs.length d5] 25 (0, 0)) := heap_alloc_new _ _
  have hb := bthen hb hal
  have hn := hn.up hal
  have BN := Lib.hid ((hal.block _ (lt_of_block BN.out)).trans BN.out)
  have hr2 := hr2.up hal
  have BX := Lib.hid ((hal.block _ (lt_of_block BX.out)).trans BX.out)
  have hr3 := hr3.up hal
  have BS := Lib.hid ((hal.block _ (lt_of_block BS.out)).trans BS.out)
  have ht4 := ht4.up hal
  have BY := Lib.hid ((hal.block _ (lt_of_block BY.out)).trans BY.out)
  have hp5 := hp5.up hal
  clear hal
  have BP := Lib.hid B9
  clear B9
  go_wp2_with fail
  clear kBY_0 kBY_1 ltBY
  generalize u9.alloc (.cells #[.int .i64 p.1.ins, .slice A5 p.1.gs.length d5] 25) = u10 at *
  generalize u9.heap.size = iBP at *
  refine (implNetAnd_any A4 d4 t.1 a b _ ht4 (by omega) (none_of ht4) HTS.out.2 ha hb9').mono ?_
  rw [← HQ.out]
  rintro e u11 ⟨A6, d6, rfl, ho6, hb9⟩
  have hb := bthen hb hb9
  have hn := hn.up hb9
  have BN := Lib.hid ((hb9.block _ (lt_of_block BN.out)).trans BN.out)
  have hr2 := hr2.up hb9
  have BX := Lib.hid ((hb9.block _ (lt_of_block BX.out)).trans BX.out)
  have hr3 := hr3.up hb9
  have BS := Lib.hid ((hb9.block _ (lt_of_block BS.out)).trans BS.out)
  have ht4 := ht4.up hb9
  have BY := Lib.hid ((hb9.block _ (lt_of_block BY.out)).trans BY.out)
  have hp5 := hp5.up hb9
  have BP := Lib.hid ((hb9.block _ (lt_of_block BP.out)).trans BP.out)
  clear hb9
  have hq6 : Lay.gate.Rd u11 A6 q.1.gs := ho6.sl.2.rd
  clear ho6
  by_cases hz3 : p.2 = 0
  · have hzd : (p.2 == 0) = true := by simpa using hz3
    have HZ := Lib.hid hz3
    clear hz3
    go_wp2
    go_ret
    exact ⟨rfl, bthen hb ((Below.refl _ _).alloc (Nat.le_refl _) _)⟩
  have hzd : (p.2 == 0) = false := by simpa using hz3
  by_cases hz4 : q.2 = 0
  · have hze : (q.2 == 0) = true := by simpa using hz4
    have HZ := Lib.hid hz4
    clear hz4 hz3
    go_wp2
    go_ret
    exact ⟨rfl, bthen hb ((Below.refl _ _).alloc (Nat.le_refl _) _)⟩
  have hze : (q.2 == 0) = false := by simpa using hz4
  obtain ⟨l1, N0, N1, l4⟩ := HML.out HN1.out HN2.out hz3 hz4
  have L4 := Lib.hid l4
  have hlb : ((p.1.gs.length : Int) == (q.1.gs.length : Int)) = true := by rw [l1]; simp
  have KP := Lib.hid (HK3.out hz3)
  have KQ := Lib.hid (HK4.out hz4)
  have KR := Lib.hid (HG1.out HN1.out)
  have KT := Lib.hid (HG2.out HN2.out)
  have o1 : okInt p.2 := mark_int KP.out.1 KP.out.2.1
  have o2 : okInt q.2 := mark_int KQ.out.1 KQ.out.2.1
  have o3 : okInt r.2 := mark_int (HK1.out HN1.out) KR.out.2.1
  have o4 : okInt t.2 := mark_int (HK2.out HN2.out) KT.out.2.1
  clear l1 l4 hz3 hz4
  have kBN_0 : u11.cell? ⟨iBN, 0, none⟩ = some (.int .i64 n.ins) := (cell_of_block BN.out 0).1
  have kBN_1 : u11.cell? ⟨iBN, 1, none⟩ = some (.slice A1 n.gs.length d1) := (cell_of_block BN.out 1).1
  have kBP_0 : u11.cell? ⟨iBP, 0, none⟩ = some (.int .i64 p.1.ins) := (cell_of_block BP.out 0).1
  have kBP_1 : u11.cell? ⟨iBP, 1, none⟩ = some (.slice A5 p.1.gs.length d5) := (cell_of_block BP.out 1).1
  have ltBN : iBN < u11.heap.size := lt_of_block BN.out
  have ltBP : iBP < u11.heap.size := lt_of_block BP.out
  have hal : Below u11.heap.size u11 (u11.alloc (.cells #[.int .i64 q.1.ins, .slice A6 q.1.gs.length d6] 25)) := (Below.refl _ _).alloc (Nat.le_refl _) _
  have B9 : (u11.alloc (.cells #[.int .i64 q.1.ins, .slice A6 q.1.gs.length d6] 25)).heap[u11.heap.size]? = some (.cells #[.int .i64 q.1.ins, .slice A6 q.1.gs.length d6] 25 (0, 0)) := heap_alloc_new _ _
  have hb := bthen hb hal
  have hn := hn.up hal
  have BN := Lib.hid ((hal.block _ (lt_of_block BN.out)).trans BN.out)
  have hr2 := hr2.up hal
  have BX := Lib.hid ((hal.block _ (lt_of_block BX.out)).trans BX.out)
  have hr3 := hr3.up hal
  have BS := Lib.hid ((hal.block _ (lt_of_block BS.out)).trans BS.out)
  have ht4 := ht4.up hal
  have BY := Lib.hid ((hal.block _ (lt_of_block BY.out)).trans BY.out)
  have hp5 := hp5.up hal
  have BP := Lib.hid ((hal.block _ (lt_of_block BP.out)).trans BP.out)
  have hq6 := hq6.up hal
  clear hal
  have BQ := Lib.hid B9
  clear B9
  go_wp2_with fail
  clear kBN_0 kBN_1 kBP_0 kBP_1 ltBN ltBP
  generalize u11.alloc (.cells #[.int .i64 q.1.ins, .slice A6 q.1.gs.length d6] 25) = u12 at *
  generalize u11.heap.size = iBQ at *
  refine (wpGate_any n p.1 A1 A5 d1 d5 a b p.2 true x1.length _ hn (by omega) HI.out hp5 (by omega) HPS.out.2 ha hb9' o1 (by omega) (by omega) N0 N1 (fun ins hl => ⟨(L4.out ins hl).1, (vals_len KR.out.1 hl).1, (vals_len KP.out.1 (by rw [KP.out.2.2, KR.out.2.2]; exact hl)).2⟩)).mono ?_
  rintro e u13 ⟨rfl, hb9⟩
  have hb := bthen hb hb9
  have hn := hn.up hb9
  have BN := Lib.hid ((hb9.block _ (lt_of_block BN.out)).trans BN.out)
  have hr2 := hr2.up hb9
  have BX := Lib.hid ((hb9.block _ (lt_of_block BX.out)).trans BX.out)
  have hr3 := hr3.up hb9
  have BS := Lib.hid ((hb9.block _ (lt_of_block BS.out)).trans BS.out)
  have ht4 := ht4.up hb9
  have BY := Lib.hid ((hb9.block _ (lt_of_block BY.out)).trans BY.out)
  have hp5 := hp5.up hb9
  have BP := Lib.hid ((hb9.block _ (lt_of_block BP.out)).trans BP.out)
  have hq6 := hq6.up hb9
  have BQ := Lib.hid ((hb9.block _ (lt_of_block BQ.out)).trans BQ.out)
  clear hb9
  have kBN_0 : u13.cell? ⟨iBN, 0, none⟩ = some (.int .i64 n.ins) := (cell_of_block BN.out 0).1
  have kBN_1 : u13.cell? ⟨iBN, 1, none⟩ = some (.slice A1 n.gs.length d1) := (cell_of_block BN.out 1).1
  have kBQ_0 : u13.cell? ⟨iBQ, 0, none⟩ = some (.int .i64 q.1.ins) := (cell_of_block BQ.out 0).1
  have kBQ_1 : u13.cell? ⟨iBQ, 1, none⟩ = some (.slice A6 q.1.gs.length d6) := (cell_of_block BQ.out 1).1
  go_wp2_with fail
  clear kBN_0 kBN_1 kBQ_0 kBQ_1
  refine (wpGate_any n q.1 A1 A6 d1 d6 a b q.2 false x1.length _ hn (by omega) HI.out hq6 (by omega) HQS.out.2 ha hb9' o2 (by omega) (by omega) N0 N1 (fun ins hl => ⟨(L4.out ins hl).2.1, (vals_len KR.out.1 hl).1, (vals_len KQ.out.1 (by rw [KQ.out.2.2, KT.out.2.2]; exact hl)).2⟩)).mono ?_
  rintro e u14 ⟨rfl, hb9⟩
  have hb := bthen hb hb9
  have hn := hn.up hb9
  have BN := Lib.hid ((hb9.block _ (lt_of_block BN.out)).trans BN.out)
  have hr2 := hr2.up hb9
  have BX := Lib.hid ((hb9.block _ (lt_of_block BX.out)).trans BX.out)
  have hr3 := hr3.up hb9
  have BS := Lib.hid ((hb9.block _ (lt_of_block BS.out)).trans BS.out)
  have ht4 := ht4.up hb9
  have BY := Lib.hid ((hb9.block _ (lt_of_block BY.out)).trans BY.out)
  have hp5 := hp5.up hb9
  have BP := Lib.hid ((hb9.block _ (lt_of_block BP.out)).trans BP.out)
  have hq6 := hq6.up hb9
  have BQ := Lib.hid ((hb9.block _ (lt_of_block BQ.out)).trans BQ.out)
  clear hb9
  have kBN_0 : u14.cell? ⟨iBN, 0, none⟩ = some (.int .i64 n.ins) := (cell_of_block BN.out 0).1
  have kBN_1 : u14.cell? ⟨iBN, 1, none⟩ = some (.slice A1 n.gs.length d1) := (cell_of_block BN.out 1).1
  have kBP_0 : u14.cell? ⟨iBP, 0, none⟩ = some (.int .i64 p.1.ins) := (cell_of_block BP.out 0).1
  have kBP_1 : u14.cell? ⟨iBP, 1, none⟩ = some (.slice A5 p.1.gs.length d5) := (cell_of_block BP.out 1).1
  go_wp2_with fail
  clear kBN_0 kBN_1 kBP_0 kBP_1
  refine (wpGate_any n p.1 A1 A5 d1 d5 a b r.2 false x1.length _ hn (by omega) HI.out hp5 (by omega) HPS.out.2 ha hb9' o3 (by omega) (by omega) N0 N1 (fun ins hl => ⟨(L4.out ins hl).2.2.1, (vals_len KR.out.1 hl).1, (vals_len KP.out.1 (by rw [KP.out.2.2, KR.out.2.2]; exact hl)).2⟩)).mono ?_
  rintro e u15 ⟨rfl, hb9⟩
  have hb := bthen hb hb9
  have hn := hn.up hb9
  have BN := Lib.hid ((hb9.block _ (lt_of_block BN.out)).trans BN.out)
  have hr2 := hr2.up hb9
  have BX := Lib.hid ((hb9.block _ (lt_of_block BX.out)).trans BX.out)
  have hr3 := hr3.up hb9
  have BS := Lib.hid ((hb9.block _ (lt_of_block BS.out)).trans BS.out)
  have ht4 := ht4.up hb9
  have BY := Lib.hid ((hb9.block _ (lt_of_block BY.out)).trans BY.out)
  have hp5 := hp5.up hb9
  have BP := Lib.hid ((hb9.block _ (lt_of_block BP.out)).trans BP.out)
  have hq6 := hq6.up hb9
  have BQ := Lib.hid ((hb9.block _ (lt_of_block BQ.out)).trans BQ.out)
  clear hb9
  have kBN_0 : u15.cell? ⟨iBN, 0, none⟩ = some (.int .i64 n.ins) := (cell_of_block BN.out 0).1
  have kBN_1 : u15.cell? ⟨iBN, 1, none⟩ = some (.slice A1 n.gs.length d1) := (cell_of_block BN.out 1).1
  have kBQ_0 : u15.cell? ⟨iBQ, 0, none⟩ = some (.int .i64 q.1.ins) := (cell_of_block BQ.out 0).1
  have kBQ_1 : u15.cell? ⟨iBQ, 1, none⟩ = some (.slice A6 q.1.gs.length d6) := (cell_of_block BQ.out 1).1
  go_wp2_with fail
  clear kBN_0 kBN_1 kBQ_0 kBQ_1
  refine (wpGate_any n q.1 A1 A6 d1 d6 a b t.2 true x1.length _ hn (by omega) HI.out hq6 (by omega) HQS.out.2 ha hb9' o4 (by omega) (by omega) N0 N1 (fun ins hl => ⟨(L4.out ins hl).2.2.2, (vals_len KR.out.1 hl).1, (vals_len KQ.out.1 (by rw [KQ.out.2.2, KT.out.2.2]; exact hl)).2⟩)).mono ?_
  rintro e u16 ⟨rfl, hb9⟩
  have hb := bthen hb hb9
  have hn := hn.up hb9
  have BN := Lib.hid ((hb9.block _ (lt_of_block BN.out)).trans BN.out)
  have hr2 := hr2.up hb9
  have BX := Lib.hid ((hb9.block _ (lt_of_block BX.out)).trans BX.out)
  have hr3 := hr3.up hb9
  have BS := Lib.hid ((hb9.block _ (lt_of_block BS.out)).trans BS.out)
  have ht4 := ht4.up hb9
  have BY := Lib.hid ((hb9.block _ (lt_of_block BY.out)).trans BY.out)
  have hp5 := hp5.up hb9
  have BP := Lib.hid ((hb9.block _ (lt_of_block BP.out)).trans BP.out)
  have hq6 := hq6.up hb9
  have BQ := Lib.hid ((hb9.block _ (lt_of_block BQ.out)).trans BQ.out)
  clear hb9
  go_wp2
  go_ret
  exact ⟨rfl, hb⟩

set_option maxRecDepth 100000 in
theorem fnNetMore_lifted (os : Os) (started : os.Started) (H : Type) (enc : TypeId × Value → H) :
    ReturnsInHanded {} Try.checked os 5 .any (Rows.fnNetMoreSpec.pre6 enc Try.prog Try.f5 Rows.fnNetMoreRow.domain false) (Rows.fnNetMoreSpec.post enc Try.prog Try.f5 false true false false) := by
  refine returnsInHanded_of_change (C := Try.checked) (by kernel_rfl) started (by kernel_rfl) Try.func5
    (ChangeSpec.witness6 (enc := enc) (C := Try.checked) false ⟨#[], #[.slice none 0 0, .slice none 0 0], []⟩ 16 (by kernel_rfl) (by kernel_rfl) (by kernel_rfl) (by kernel_rfl)) ?_
  intro W base args ds gs before hval0 hW hcnd _
  have hval : ∀ (j : Nat) t v, Try.f5.params[j]? = some t → args[j]? = some v → Value.okWide Try.prog W .any base t v := hval0
  have hW' := hW
  obtain ⟨p, q, hA0, hV, rfl, hfz, hnd⟩ := hW
  have hA : DataW.TrodAll enc Try.prog W 0 (fun _ => true) true Try.f5.params.toList args.toList ds p := hA0
  rw [Try.params5] at hA hval
  obtain ⟨v0, vs0, d0, ds0, p0, q0, hargs, rfl, rfl, h0, r0⟩ := trodAll_cons hA
  obtain ⟨v1, vs1, d1, ds1, p1, q1, rfl, rfl, rfl, h1, r1⟩ := trodAll_cons r0
  obtain ⟨rfl, rfl, rfl⟩ := trodAll_nil r1
  obtain rfl : args = #[v0, v1] := by cases args; simp_all
  obtain ⟨rfl, rfl⟩ := trodVars_none hV
  have k0 := h0
  have lt0 : ∀ x ∈ p0, x.block < W.heap.size := by obtain ⟨m, hm⟩ := k0; exact DataW.trod_lt m _ _ _ hm
  have k1 := h1
  have lt1 : ∀ x ∈ p1, x.block < W.heap.size := by obtain ⟨m, hm⟩ := k1; exact DataW.trod_lt m _ _ _ hm
  obtain ⟨A0, c0, x0, rfl, hc0, ok0, rd0⟩ := open_arg Try.underlying22 opens_bytes (hval 0 22 v0 rfl rfl) h0
  obtain ⟨A1, c1, x1, rfl, hc1, ok1, rd1⟩ := open_arg Try.underlying22 opens_bytes (hval 1 22 v1 rfl rfl) h1
  clear hA0 hval0
  refine (fnNetMore_walk W hc0 ok0 rd0 hc1 ok1 rd1).mono fun e W' ⟨he, bel⟩ => ?_
  subst he
  exact ⟨_, rfl, _, _, _, [], _, [], hW', trodAll_mk1 (shut_bool Try.underlying4 _), (trodAll_cons_mk (Below.trod (by kernel_rfl) (by kernel_rfl) (of_decide_eq_true (by kernel_rfl)) k0 bel lt0) (trodAll_cons_mk (Below.trod (by kernel_rfl) (by kernel_rfl) (of_decide_eq_true (by kernel_rfl)) k1 bel lt1) trodAll_mk0)), rfl, bel.frame _, fun h => by cases h⟩

/-- The given statement. -/
theorem fnNetMore_holds : Rows.FnNetMoreSaid :=
  OpenClaim.holds_of_wide 5 Try.f5 rfl rfl rfl rfl rfl rfl rfl ⟨rfl, rfl, rfl, rfl, rfl⟩ rfl rfl rfl rfl rfl (by kernel_rfl) Try.func5 (by kernel_rfl)
    (of_decide_eq_true (by kernel_rfl)) (by unfold Func.isWrapper; first | (rw [if_pos (by decide +kernel)]; kernel_rfl) | (rw [if_neg (by decide +kernel)]; exact ⟨rfl, rfl⟩))
    (fun os started H enc _ => fnNetMore_lifted os started H enc)
#print axioms fnNetMore_holds
end Go.Proofs.Ytcdlfnhjpjpbjaa
