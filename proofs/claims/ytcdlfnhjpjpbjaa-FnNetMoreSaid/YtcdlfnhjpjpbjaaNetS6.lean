/- The reference's NetXor. -/
import Derived.Test.YtcdlfnhjpjpbjaaNetS5
namespace Go.Proofs.Ytcdlfnhjpjpbjaa
open Go Go.RowKit
theorem xor1_len (n : N) (a b : Int) : (xor1 n a b).1.gs.length ≤ n.gs.length + 1 := by
  unfold xor1
  repeat' split
  all_goals first | exact put_len _ _ | simp

set_option maxHeartbeats 1000000 in
theorem specNetXor_any (A : Option Addr) (c : Nat) (n : N) (a b : Int) (w : World) (h : Lay.gate.Rd w A n.gs) (hn : n.gs.length ≤ 1048576) (hA : A = none → n.gs.length = 0) (hi : okInts n)
    (ha : -9223372036854775808 ≤ a ∧ a ≤ 9223372036854775807) (hb : -9223372036854775808 ≤ b ∧ b ≤ 9223372036854775807) :
    Calls Try.prog 15 #[.agg #[.int .i64 n.ins, .slice A n.gs.length c], .int .i64 a, .int .i64 b] w (RetNetOwn w (netOp xor1 n a b)) := by
  have hW : Below w.heap.size w ((w.alloc (.cells #[.int .i64 n.ins, .slice A n.gs.length c] 25)).alloc (.cells #[.int .i64 0, .slice none 0 0] 25)) := ((Below.refl _ _).alloc (Nat.le_refl _) _).alloc (by simp) _
  cases hok : netOk n
  · have hr : netOp xor1 n a b = (⟨0, []⟩, 0) := by simp [netOp, hok]
    go_enter Try.func15, Try.ntmps15
    go_wp2_with fail
    refine (specNetOk_any A c n _ (h.up hW) hn hi).mono ?_
    rintro e w' ⟨rfl, hb'⟩
    rw [hok]
    obtain ⟨k5, k6, kf5, kf6⟩ := res_cells hb'
    obtain ⟨j5, j6⟩ := box_cells hb'
    go_wp2_with fail
    refine bodyPost_ret (v := .tuple #[.agg #[.int .i64 0, .slice none 0 0], .int .i64 0]) (by simp [results, Try.results15, go_sem, k5, k6, kf5, kf6]) rfl ?_
    rw [hr]
    refine ⟨none, 0, rfl, World.ownsRow_nil _ _ _ _, ?_⟩
    refine below_set (below_set (bthen hW hb') ?_ _) ?_ _ <;> (show w.heap.size ≤ w.heap.size + 1; omega)
  have hni : 0 ≤ n.ins ∧ n.ins ≤ 8 ∧ n.gs.length ≤ 600 := by
    have := (netOk_iff n).1 hok; exact ⟨this.1, this.2.1, this.2.2.1⟩
  cases hma : netMark n a
  · have hr : netOp xor1 n a b = (⟨0, []⟩, 0) := by simp [netOp, hma]
    go_enter Try.func15, Try.ntmps15
    go_wp2_with fail
    refine (specNetOk_any A c n _ (h.up hW) hn hi).mono ?_
    rintro e w' ⟨rfl, hb'⟩
    rw [hok]
    obtain ⟨k5, k6, kf5, kf6⟩ := res_cells hb'
    obtain ⟨j5, j6⟩ := box_cells hb'
    go_wp2_with fail
    refine (l6Mark_any A c n a _ hn hni.1 (by omega) ha.1 ha.2).mono ?_
    rintro e w'' ⟨rfl, hb''⟩
    have hb' := hb'.trans (hb''.mono hb'.size)
    rw [hma]
    clear k5 k6 kf5 kf6 j5 j6 hb''
    obtain ⟨k5, k6, kf5, kf6⟩ := res_cells hb'
    obtain ⟨j5, j6⟩ := box_cells hb'
    go_wp2_with fail
    refine bodyPost_ret (v := .tuple #[.agg #[.int .i64 0, .slice none 0 0], .int .i64 0]) (by simp [results, Try.results15, go_sem, k5, k6, kf5, kf6]) rfl ?_
    rw [hr]
    refine ⟨none, 0, rfl, World.ownsRow_nil _ _ _ _, ?_⟩
    refine below_set (below_set (bthen hW hb') ?_ _) ?_ _ <;> (show w.heap.size ≤ w.heap.size + 1; omega)
  cases hmb : netMark n b
  · have hr : netOp xor1 n a b = (⟨0, []⟩, 0) := by simp [netOp, hmb]
    go_enter Try.func15, Try.ntmps15
    go_wp2_with fail
    refine (specNetOk_any A c n _ (h.up hW) hn hi).mono ?_
    rintro e w' ⟨rfl, hb'⟩
    rw [hok]
    obtain ⟨k5, k6, kf5, kf6⟩ := res_cells hb'
    obtain ⟨j5, j6⟩ := box_cells hb'
    go_wp2_with fail
    refine (l6Mark_any A c n a _ hn hni.1 (by omega) ha.1 ha.2).mono ?_
    rintro e w'' ⟨rfl, hb''⟩
    have hb' := hb'.trans (hb''.mono hb'.size)
    rw [hma]
    clear k5 k6 kf5 kf6 j5 j6 hb''
    obtain ⟨k5, k6, kf5, kf6⟩ := res_cells hb'
    obtain ⟨j5, j6⟩ := box_cells hb'
    go_wp2_with fail
    refine (l6Mark_any A c n b _ hn hni.1 (by omega) hb.1 hb.2).mono ?_
    rintro e w'' ⟨rfl, hb''⟩
    have hb' := hb'.trans (hb''.mono hb'.size)
    rw [hmb]
    clear k5 k6 kf5 kf6 j5 j6 hb''
    obtain ⟨k5, k6, kf5, kf6⟩ := res_cells hb'
    obtain ⟨j5, j6⟩ := box_cells hb'
    go_wp2_with fail
    refine bodyPost_ret (v := .tuple #[.agg #[.int .i64 0, .slice none 0 0], .int .i64 0]) (by simp [results, Try.results15, go_sem, k5, k6, kf5, kf6]) rfl ?_
    rw [hr]
    refine ⟨none, 0, rfl, World.ownsRow_nil _ _ _ _, ?_⟩
    refine below_set (below_set (bthen hW hb') ?_ _) ?_ _ <;> (show w.heap.size ≤ w.heap.size + 1; omega)
  have hr : netOp xor1 n a b = xor1 n a b := by simp [netOp, hok, hma, hmb]
  rw [hr]
  have ba : -2000000000 ≤ a ∧ a ≤ 2000000000 := by have := hma; simp [netMark, sigOf] at this; omega
  have bb : -2000000000 ≤ b ∧ b ≤ 2000000000 := by have := hmb; simp [netMark, sigOf] at this; omega
  go_enter Try.func15, Try.ntmps15
  go_wp2_with fail
  refine (specNetOk_any A c n _ (h.up hW) hn hi).mono ?_
  rintro e w' ⟨rfl, hb'⟩
  rw [hok]
  obtain ⟨k5, k6, kf5, kf6⟩ := res_cells hb'
  obtain ⟨j5, j6⟩ := box_cells hb'
  go_wp2_with fail
  refine (l6Mark_any A c n a _ hn hni.1 (by omega) ha.1 ha.2).mono ?_
  rintro e w'' ⟨rfl, hb''⟩
  have hb' := hb'.trans (hb''.mono hb'.size)
  rw [hma]
  clear k5 k6 kf5 kf6 j5 j6 hb''
  obtain ⟨k5, k6, kf5, kf6⟩ := res_cells hb'
  obtain ⟨j5, j6⟩ := box_cells hb'
  go_wp2_with fail
  refine (l6Mark_any A c n b _ hn hni.1 (by omega) hb.1 hb.2).mono ?_
  rintro e w'' ⟨rfl, hb''⟩
  have hb' := hb'.trans (hb''.mono hb'.size)
  rw [hmb]
  clear k5 k6 kf5 kf6 j5 j6 hb''
  obtain ⟨k5, k6, kf5, kf6⟩ := res_cells hb'
  obtain ⟨j5, j6⟩ := box_cells hb'
  go_wp2_with fail
  have hww := bthen hW hb'
  refine (l6Xor_any (· < w.heap.size) A c n a b _ (h.below hww (fun _ h => h)) (fun _ h => Nat.lt_of_lt_of_le h hww.size) hn hA hni.1 (by omega) ba bb).mono ?_
  rintro e w3 ⟨A3, c3, rfl, hA3, h3, hb3⟩
  have hlen := xor1_len n a b
  generalize xor1 n a b = r at *
  have hb' := hb'.trans (hb3.mono hb'.size)
  clear k5 k6 kf5 kf6 j5 j6
  obtain ⟨k5, k6, kf5, kf6⟩ := res_cells hb'
  go_wp2_with fail
  have hl3 : w.heap.size + 1 < w3.heap.size := by have := hb'.size; simp at this; omega
  have hq : Below w3.heap.size w3 (w3.alloc (.cells #[.int .i64 r.1.ins, .slice A3 r.1.gs.length c3] 25)) := (Below.refl _ _).alloc (Nat.le_refl _) _
  have h4 := Lay.Sl.up (h3.mono (G := (· < w3.heap.size)) (by
    rintro b' (hb9 | hb9)
    · exact Nat.lt_of_lt_of_le hb9 (Nat.le_trans hww.size hb3.size)
    · exact hb9.2)) hq
  refine (l6Fresh_any A3 c3 r.1 _ h4 (by omega) hA3).mono ?_
  rintro e w5 ⟨A5, c5, rfl, ho5, hb5⟩
  have hb' := hb'.trans ((bthen hq hb5).mono hb'.size)
  clear k5 k6 kf5 kf6
  obtain ⟨k5, k6, kf5, kf6⟩ := res_cells hb'
  go_wp2_with fail
  refine bodyPost_ret (v := .tuple #[.agg #[.int .i64 r.1.ins, .slice A5 r.1.gs.length c5], .int .i64 r.2]) (by simp [results, Try.results15, go_sem, k5, k6, kf5, kf6]) rfl ?_
  have hz3 := hq.size
  refine ⟨A5, c5, rfl, own_mono (own_far (own_far ho5 _ _ (by show w.heap.size + 1 < _; omega)) _ _ (by show w.heap.size + 1 < _; omega)) (by omega), ?_⟩
  refine below_set (below_set (bthen hW hb') ?_ _) ?_ _ <;> (show w.heap.size ≤ w.heap.size + 1; omega)
end Go.Proofs.Ytcdlfnhjpjpbjaa
