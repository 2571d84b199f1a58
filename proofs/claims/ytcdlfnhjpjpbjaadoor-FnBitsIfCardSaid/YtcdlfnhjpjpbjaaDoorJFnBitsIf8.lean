/- FnBitsIf: multiplexers are right: for any bytes the law says true. -/
import Derived.Test.YtcdlfnhjpjpbjaaDoorRows
import Derived.Test.YtcdlfnhjpjpbjaaDoorTie
import Derived.Test.YtcdlfnhjpjpbjaaDoorCards
import Derived.SevenTiedAt
import Derived.Test.YtcdlfnhjpjpbjaaDoorJFnBitsIf0
import Derived.Test.YtcdlfnhjpjpbjaaDoorJFnBitsIf4
import Derived.Test.YtcdlfnhjpjpbjaaDoorJFnBitsIf5
import Derived.Test.YtcdlfnhjpjpbjaaDoorJFnBitsIf6
import Derived.Test.YtcdlfnhjpjpbjaaDoorJFnBitsIf7
/-! The laws' own comparison of integer rows. -/
namespace Go.Proofs.YtcdlfnhjpjpbjaaDoor
open Go Go.RowKit

set_option maxHeartbeats 400000 in
theorem wpInts_any (A B : Option Addr) (c d : Nat) (xs ys : List Int) (F G : Nat → Prop) (w : World) (h : Lay.int.Sl w F A xs) (h' : Lay.int.Sl w G B ys) (hn : xs.length ≤ 1048576) (hn' : ys.length ≤ 1048576) :
    Calls Tryd.prog 18 #[.slice A xs.length c, .slice B ys.length d] w fun e w' => e = .returned (.bool (decide (xs = ys))) ∧ ∃ n, w' = w.drewN n := by
  by_cases hl : xs.length = ys.length
  · have hne : (((xs.length : Int) != (ys.length : Int))) = false := by simp [hl]
    have HL := Lib.hid hl
    clear hl
    go_enter Tryd.func18, Tryd.ntmps18
    go_wp2
    clear hne
    go_loopw [5] (fun i wr => ∃ k m : Nat, k ≤ xs.length ∧ i = .int .i64 k ∧ wr = w.drewN m ∧ xs.take k = ys.take k) (fun i _ => xs.length - (intOf i).toNat)
    case atStart => exact ⟨0, 0, Nat.zero_le _, rfl, rfl, rfl⟩
    case round =>
      obtain ⟨k, m, hk, rfl, rfl, ht⟩ := hrel
      have HT := Lib.hid ht
      clear ht
      by_cases hlt : k < xs.length
      · have hlt' : k < ys.length := by have := HL.out; omega
        obtain ⟨ad, rfl, hf, hc⟩ := h.at_int hlt
        obtain ⟨ad', rfl, hf', hc'⟩ := h'.at_int hlt'
        have hk0 : (0 : Int) ≤ k := by omega
        have hk1 : (k : Int) < xs.length := by omega
        have hk2 : (k : Int) < ys.length := by omega
        clear h h' hf hf'
        by_cases hxy : xs[k] = ys[k]
        · have hb : (xs[k] != ys[k]) = false := by simp [hxy]
          have HX := Lib.hid hxy
          clear hxy
          go_wp2
          go_quiet (fail)
          go_wp2
          go_roundw
          case rel => exact ⟨k + 1, _, by omega, by go_num, rfl, take_eq_step hlt hlt' HT.out HX.out⟩
          case measure => simp [intOf]; omega
        · have hb : (xs[k] != ys[k]) = true := by simp [hxy]
          go_wp2
          go_quiet (fail)
          go_wp2
          go_ret
          exact ⟨ret_bool (by simp; rintro rfl; exact hxy rfl), m + nq, by rw [World.drewN_drewN]⟩
      · have : k = xs.length := by omega
        subst this
        go_wp2
        go_ret
        exact ⟨ret_bool (by have := HL.out; have := HT.out; simp [eq_of_take HL.out HT.out]), _, rfl⟩
  · have hne : (((xs.length : Int) != (ys.length : Int))) = true := by simp; omega
    go_enter Tryd.func18, Tryd.ntmps18
    go_wp2
    go_ret
    exact ⟨ret_bool (by simp; rintro rfl; exact hl rfl), 0, rfl⟩

theorem wpInts_u (xs ys : List Int) (A B : Option Addr) (c d : Nat) (w : World) (h : Lay.int.Rd w A xs) (h' : Lay.int.Rd w B ys) (hs : xs.length ≤ 1048576) (hs' : ys.length ≤ 1048576) :
    Calls Tryd.prog 18 #[.slice A xs.length c, .slice B ys.length d] w (RetB w (decide (xs = ys))) :=
  (wpInts_any A B c d xs ys _ _ w h h' hs hs').mono fun _ _ ⟨h, m, hm⟩ => ⟨h, by rw [hm]; exact below_drewN (Below.refl _ _) m⟩
end Go.Proofs.YtcdlfnhjpjpbjaaDoor

/-! FnBitsIf: multiplexers are right: for any bytes the law says true. -/
namespace Go.Proofs.YtcdlfnhjpjpbjaaDoor
open Go Go.RowKit Go.ChangeShapes Go.WideShapes Go.ChangeAt Go.Deep

theorem opens_bytes : Opens Tryd.prog 39 Lay.byte.slice (fun xs => xs.length ≤ maxLen ∧ ∀ x ∈ xs, True) := Opens.slice Tryd.underlying39 (by kernel_rfl) (by decide) (Opens.byte Tryd.underlying5)
def Fact.num9 (W : World) (M : Int) : Fact := .of (fun v x => ∃ k : Int, v = .int .i64 k ∧ 0 ≤ k ∧ k ≤ M) fun _ _ _ h _ => h
def Fact.ins9 (W : World) (m : Int) : Fact := .of (fun v x => ∃ (bs : List Bool) (A : Option Addr) (c : Nat), v = .slice A bs.length c ∧ bs.length ≤ 100 ∧ (bs.length : Int) = m ∧ Lay.bool.Rd x A bs) fun _ _ _ ⟨bs, A, c, h1, h2, h3, h4⟩ hb => ⟨bs, A, c, h1, h2, h3, h4.up hb⟩
def Fact.vals9 (W : World) (m : Int) (y : N) : Fact := .of (fun v x => ∃ (bs : List Bool) (A : Option Addr) (c : Nat), v = .slice A (netVals y bs).length c ∧ (bs.length : Int) = m ∧ Lay.bool.Rd x A (netVals y bs) ∧ Below W.heap.size W x) fun _ _ _ ⟨bs, A, c, h1, h2, h3, h4⟩ hb => ⟨bs, A, c, h1, h2, h3.up hb, bthen h4 hb⟩

set_option maxRecDepth 100000 in
set_option maxHeartbeats 8000000 in
theorem fnBitsIf_walk (W : World) (a0 a1 : Addr) {A0 : Option Addr} {c0 : Nat} {x0 : List UInt8} {A1' : Option Addr} {c1 : Nat} {x1 : List UInt8} (hglb : Glb a0 a1 W.heap.size W) (hc0 : x0.length ≤ c0) (hok0 : x0.length ≤ maxLen ∧ ∀ z ∈ x0, True) (h0 : Lay.byte.Rd W A0 x0) (hc1 : x1.length ≤ c1) (hok1 : x1.length ≤ maxLen ∧ ∀ z ∈ x1, True) (h1 : Lay.byte.Rd W A1' x1) :
    Calls Tryd.prog 4 #[.slice A0 x0.length c0, .slice A1' x1.length c1] W (LawC W) := by
  have GLB := Lib.hid hglb
  clear hglb
  have hm0 : x0.length ≤ 9223372036854775807 := by have := hok0.1; unfold maxLen at this; omega
  clear hok0
  have hm1 : x1.length ≤ 9223372036854775807 := by have := hok1.1; unfold maxLen at this; omega
  clear hok1
  by_cases hbig0 : (1048576 : Int) < x0.length
  · go_enter Tryd.func4, Tryd.ntmps4
    go_wp2
    go_ret
    exact ⟨rfl, Below.refl _ _⟩
  by_cases hbig1 : (1048576 : Int) < x1.length
  · go_enter Tryd.func4, Tryd.ntmps4
    go_wp2
    go_ret
    exact ⟨rfl, Below.refl _ _⟩
  have hb : Below W.heap.size W W := Below.refl _ _
  go_enter Tryd.func4, Tryd.ntmps4
  go_wp2_with fail
  refine (drawBitsIf_any A0 c0 x0 _ h0 hc0 hm0).mono ?_
  rintro e u1 ⟨n, A1, d1, a, xs, X1, e1, ys, Y1, k1, rfl, hn, hxs, hys, hbn, ha, hkx, hky, hcx, hcy, hb9⟩
  have hb := bthen hb hb9
  clear hb9
  clear h0
  have h1 := h1.up hb
  have hnl : n.gs.length ≤ 4 := hbn.2.2.1
  have hni : n.ins ≤ 9 := hbn.2.1
  have HI := Lib.hid hbn.2.2.2
  have HKX := Lib.hid hkx
  have HKY := Lib.hid hky
  have HA := Lib.hid ha
  have hx5 : xs.length ≤ 5 := hkx.1
  have hy5 : ys.length ≤ 5 := hky.1
  clear hbn hkx hky
  unfold okInt at ha
  obtain ⟨r, hr⟩ : ∃ r, r = pickN (netOk n) (bitsIfR n a xs ys) := ⟨_, rfl⟩
  have HR := Lib.hid hr
  have HLEN := Lib.hid (show r.1.gs.length ≤ 1048576 ∧ r.2.length ≤ 1048576 by rw [hr]; exact bitsIf_len)
  have HLW := Lib.hid (fun h : r.2 ≠ [] => bitsIf_law hr h)
  have HEM := Lib.hid (fun h : r.2 = [] => bitsIf_empty hr h)
  have hrl := HLEN.out.1
  have hol := HLEN.out.2
  clear hr
  have hal : Below u1.heap.size u1 (u1.alloc (.cells #[.int .i64 n.ins, .slice A1 n.gs.length d1] 29)) := (Below.refl _ _).alloc (Nat.le_refl _) _
  have B9 : (u1.alloc (.cells #[.int .i64 n.ins, .slice A1 n.gs.length d1] 29)).heap[u1.heap.size]? = some (.cells #[.int .i64 n.ins, .slice A1 n.gs.length d1] 29 (0, 0)) := heap_alloc_new _ _
  have hb := bthen hb hal
  have h1 := h1.up hal
  have hn := hn.up hal
  have hxs := hxs.up hal
  have hys := hys.up hal
  clear hal
  have BN := Lib.hid B9
  clear B9
  go_wp2_with fail
  generalize u1.alloc (.cells #[.int .i64 n.ins, .slice A1 n.gs.length d1] 29) = u2 at *
  generalize u1.heap.size = iBN at *
  refine (implBitsIf_any a0 a1 W.heap.size n a xs ys A1 X1 Y1 d1 e1 k1 _ (GLB.out.below hb) hb.size hn (by omega) (sl_nonnil hn) HI.out hxs hys (fun l hl => HKX.out.2 l hl) (fun l hl => HKY.out.2 l hl) ha (by omega) (by omega)).mono ?_
  rw [← HR.out]
  rintro e u3 ⟨A2, B2, d2, e2, rfl, hd2, he2, g2, o2, hb9, _⟩
  have hb := bthen hb hb9
  have h1 := h1.up hb9
  have hn := hn.up hb9
  have hxs := hxs.up hb9
  have hys := hys.up hb9
  have BN := Lib.hid ((hb9.block _ (lt_of_block BN.out)).trans BN.out)
  clear hb9
  have hx := g2.own_rd
  have ho := o2.own_rd
  clear g2 o2
  have kBN_0 : u3.cell? ⟨iBN, 0, none⟩ = some (.int .i64 n.ins) := (cell_of_block BN.out 0).1
  have kBN_1 : u3.cell? ⟨iBN, 1, none⟩ = some (.slice A1 n.gs.length d1) := (cell_of_block BN.out 1).1
  have ltBN : iBN < u3.heap.size := lt_of_block BN.out
  have hal : Below u3.heap.size u3 (u3.alloc (.cells #[.int .i64 r.1.ins, .slice A2 r.1.gs.length d2] 29)) := (Below.refl _ _).alloc (Nat.le_refl _) _
  have B9 : (u3.alloc (.cells #[.int .i64 r.1.ins, .slice A2 r.1.gs.length d2] 29)).heap[u3.heap.size]? = some (.cells #[.int .i64 r.1.ins, .slice A2 r.1.gs.length d2] 29 (0, 0)) := heap_alloc_new _ _
  have hb := bthen hb hal
  have h1 := h1.up hal
  have hn := hn.up hal
  have hxs := hxs.up hal
  have hys := hys.up hal
  have BN := Lib.hid ((hal.block _ (lt_of_block BN.out)).trans BN.out)
  have hx := hx.up hal
  have ho := ho.up hal
  clear hal
  have BX := Lib.hid B9
  clear B9
  go_wp2_with fail
  clear kBN_0 kBN_1 ltBN
  generalize u3.alloc (.cells #[.int .i64 r.1.ins, .slice A2 r.1.gs.length d2] 29) = u4 at *
  generalize u3.heap.size = iBX at *
  refine (specBitsIf_any n a xs ys A1 X1 Y1 d1 e1 k1 _  hn (by omega) (sl_nonnil hn) HI.out hxs hys (fun l hl => HKX.out.2 l hl) (fun l hl => HKY.out.2 l hl) ha (by omega) (by omega)).mono ?_
  rw [← HR.out]
  rintro e u5 ⟨A3, B3, d3, e3, rfl, hd3, he3, g3, o3, hb9, _⟩
  have hb := bthen hb hb9
  have h1 := h1.up hb9
  have hn := hn.up hb9
  have hxs := hxs.up hb9
  have hys := hys.up hb9
  have BN := Lib.hid ((hb9.block _ (lt_of_block BN.out)).trans BN.out)
  have hx := hx.up hb9
  have ho := ho.up hb9
  have BX := Lib.hid ((hb9.block _ (lt_of_block BX.out)).trans BX.out)
  clear hb9
  have hx3 := g3.own_rd
  have ho3 := o3.own_rd
  clear g3 o3
  have kBX_0 : u5.cell? ⟨iBX, 0, none⟩ = some (.int .i64 r.1.ins) := (cell_of_block BX.out 0).1
  have kBX_1 : u5.cell? ⟨iBX, 1, none⟩ = some (.slice A2 r.1.gs.length d2) := (cell_of_block BX.out 1).1
  have ltBX : iBX < u5.heap.size := lt_of_block BX.out
  have hal : Below u5.heap.size u5 (u5.alloc (.cells #[.int .i64 r.1.ins, .slice A3 r.1.gs.length d3] 29)) := (Below.refl _ _).alloc (Nat.le_refl _) _
  have B9 : (u5.alloc (.cells #[.int .i64 r.1.ins, .slice A3 r.1.gs.length d3] 29)).heap[u5.heap.size]? = some (.cells #[.int .i64 r.1.ins, .slice A3 r.1.gs.length d3] 29 (0, 0)) := heap_alloc_new _ _
  have hb := bthen hb hal
  have h1 := h1.up hal
  have hn := hn.up hal
  have hxs := hxs.up hal
  have hys := hys.up hal
  have BN := Lib.hid ((hal.block _ (lt_of_block BN.out)).trans BN.out)
  have hx := hx.up hal
  have ho := ho.up hal
  have BX := Lib.hid ((hal.block _ (lt_of_block BX.out)).trans BX.out)
  have hx3 := hx3.up hal
  have ho3 := ho3.up hal
  clear hal
  have BY := Lib.hid B9
  clear B9
  go_wp2_with fail
  clear kBX_0 kBX_1 ltBX
  generalize u5.alloc (.cells #[.int .i64 r.1.ins, .slice A3 r.1.gs.length d3] 29) = u6 at *
  generalize u5.heap.size = iBY at *
  refine (netSame_any r.1 r.1 A2 A3 d2 d3 _ hx hx3 hrl hrl).mono ?_
  rintro e u7 ⟨rfl, hb9⟩
  have hb := bthen hb hb9
  have h1 := h1.up hb9
  have hn := hn.up hb9
  have hxs := hxs.up hb9
  have hys := hys.up hb9
  have BN := Lib.hid ((hb9.block _ (lt_of_block BN.out)).trans BN.out)
  have hx := hx.up hb9
  have ho := ho.up hb9
  have BX := Lib.hid ((hb9.block _ (lt_of_block BX.out)).trans BX.out)
  have hx3 := hx3.up hb9
  have ho3 := ho3.up hb9
  have BY := Lib.hid ((hb9.block _ (lt_of_block BY.out)).trans BY.out)
  clear hb9
  rw [show decide (r.1 = r.1) = true by simp]
  go_wp2_with fail
  refine (wpInts_u r.2 r.2 B2 B3 e2 e3 _ ho ho3 hol hol).mono ?_
  rintro e u8 ⟨rfl, hb9⟩
  have hb := bthen hb hb9
  have h1 := h1.up hb9
  have hn := hn.up hb9
  have hxs := hxs.up hb9
  have hys := hys.up hb9
  have BN := Lib.hid ((hb9.block _ (lt_of_block BN.out)).trans BN.out)
  have hx := hx.up hb9
  have ho := ho.up hb9
  have BX := Lib.hid ((hb9.block _ (lt_of_block BX.out)).trans BX.out)
  have hx3 := hx3.up hb9
  have ho3 := ho3.up hb9
  have BY := Lib.hid ((hb9.block _ (lt_of_block BY.out)).trans BY.out)
  clear hb9
  rw [show decide (r.2 = r.2) = true by simp]
  clear hx3 ho3
  clear BY
  by_cases hz : r.2 = []
  · skip
    have HZ := Lib.hid (HEM.out hz)
    have hz0 : ((r.2.length : Int) == 0) = true := by rw [hz]; rfl
    clear hz
    have kBX_0 : u8.cell? ⟨iBX, 0, none⟩ = some (.int .i64 r.1.ins) := (cell_of_block BX.out 0).1
    have kBX_1 : u8.cell? ⟨iBX, 1, none⟩ = some (.slice A2 r.1.gs.length d2) := (cell_of_block BX.out 1).1
    go_wp2_with fail
    clear kBX_0 kBX_1
    refine (netSame_any r.1 ⟨0, []⟩ A2 none d2 0 _ hx (.nil _ _ _ _) hrl (by simp)).mono ?_
    rintro e u9 ⟨rfl, hb9⟩
    have hb := bthen hb hb9
    have h1 := h1.up hb9
    have hn := hn.up hb9
    have hxs := hxs.up hb9
    have hys := hys.up hb9
    have BN := Lib.hid ((hb9.block _ (lt_of_block BN.out)).trans BN.out)
    have hx := hx.up hb9
    have ho := ho.up hb9
    have BX := Lib.hid ((hb9.block _ (lt_of_block BX.out)).trans BX.out)
    clear hb9
    rw [show decide (r.1 = (⟨0, []⟩ : N)) = true from decide_eq_true HZ.out]
    go_wp2
    go_ret
    exact ⟨rfl, hb⟩
  have hz0 : ((r.2.length : Int) == 0) = false := by simpa using (fun h : r.2.length = 0 => hz (List.eq_nil_of_length_eq_zero h))
  obtain ⟨lg, l4, l5, law⟩ := HLW.out hz
  have LG := Lib.hid lg
  have LAW := Lib.hid law
  have L5 := Lib.hid l5
  have HRI := Lib.hid (okInts_of lg.ext.ok)
  have hro := HRI.out
  have N09 := (netOk_all.1 lg.ok).1
  have N19 := (netOk_all.1 lg.ok).2.1
  have HMI : Hid (∀ m ∈ r.2, okInt m) := Lib.hid (fun m hm => by have h9 := netMark_iff.1 (lg.mks m hm); have h8 := netOk_all.1 lg.ext.ok; unfold okInt; omega)
  have HVL : Hid (∀ ins : List Bool, (ins.length : Int) = n.ins → (netVals r.1 ins).length ≤ 1048576) := Lib.hid (fun ins hi => by have h9 := (obeys_vals lg.ext.ok (by rw [lg.ext.ins]; exact hi)).2.1; have h8 := netOk_all.1 lg.ext.ok; omega)
  have hl9 : (r.2.length : Int) = xs.length := by have := lg.len; omega
  have HL9 := Lib.hid hl9
  clear lg law l5 hz hl9 hro
  go_wp2
  have HB0 := Lib.hid hb
  clear hb
  have H_h1 := Lib.hid h1
  clear h1
  have H_hn := Lib.hid hn
  clear hn
  have H_hxs := Lib.hid hxs
  clear hxs
  have H_hys := Lib.hid hys
  clear hys
  have H_hx := Lib.hid hx
  clear hx
  have H_ho := Lib.hid ho
  clear ho
  go_loopw [13] (fun i wr => ∃ j : Nat, j ≤ 12 ∧ i = .int .i64 j ∧ Below u8.heap.size u8 wr) (fun i _ => 12 - (intOf i).toNat)
  case atStart => exact ⟨0, Nat.zero_le _, rfl, Below.refl _ _⟩
  case round =>
    obtain ⟨j, hj, rfl, hbr⟩ := hrel
    have h1 := H_h1.out.up hbr
    have hn := H_hn.out.up hbr
    have hxs := H_hxs.out.up hbr
    have hys := H_hys.out.up hbr
    have hx := H_hx.out.up hbr
    have ho := H_ho.out.up hbr
    have B_N := Lib.hid ((hbr.block _ (lt_of_block BN.out)).trans BN.out)
    have B_X := Lib.hid ((hbr.block _ (lt_of_block BX.out)).trans BX.out)
    have HBR := Lib.hid hbr
    clear hbr
    by_cases hlt : j < 12
    · have hj1 : (j : Int) < 12 := by omega
      have dn0 := Later.cell (cell_of_block B_N.out 0).1
      have dn1 := Later.cell (cell_of_block B_N.out 1).1
      have dx0 := Later.cell (cell_of_block B_X.out 0).1
      have dx1 := Later.cell (cell_of_block B_X.out 1).1
      have H1 := Lib.hid h1
      have HX := Lib.hid hx
      clear h1 hx
      go_wp2
      refine wp_region_shares [[], [], [], [(2, 69)], [], [(4, 71)], [(3, 70), (5, 72)], [(1, 68), (6, 73)], [(0, 67), (7, 74)], [(8, 75)]]
        [.eq (.agg #[.int .i64 r.1.ins, .slice A2 r.1.gs.length d2]), .eq (.agg #[.int .i64 n.ins, .slice A1 n.gs.length d1]), .eq (.slice A1' x1.length c1), Fact.num9 wr 1048576, .eq (.int .i64 (j : Int)), .eq (.int .i64 (37 * (j : Int))), Fact.num9 wr 2097152, Fact.ins9 wr n.ins, Fact.vals9 wr n.ins r.1, Fact.vals9 wr n.ins r.1]
        [] [] [] [9] [(0, 67), (1, 68), (2, 69), (3, 70), (4, 71), (5, 72), (6, 73), (7, 74), (8, 75), (9, 14)] (by kernel_rfl) (by kernel_rfl) (by kernel_rfl) (by kernel_rfl)
        ⟨?_, ?_, ?_, ?_, ?_, ?_, ?_, ?_, ?_, ?_, trivial⟩ ?_
      · intro vals x9 hC hF
        have hC := hC.resolve_left (by simp)
        have hsz := hC.size
        have e1 : x9.cell? _ = _ := dx0 ⟨x9, hC⟩
        have e2 : x9.cell? _ = _ := dx1 ⟨x9, hC⟩
        simp only [putsD, Act.put, List.setIfInBounds_toArray, List.set_cons_zero, List.set_cons_succ]
        go_wp2
        exact ⟨rfl, rfl, .inr (Below.refl _ _), .inr (.inl (by simp))⟩
      · intro vals x9 hC hF
        have hC := hC.resolve_left (by simp)
        have hsz := hC.size
        have e1 : x9.cell? _ = _ := dn0 ⟨x9, hC⟩
        have e2 : x9.cell? _ = _ := dn1 ⟨x9, hC⟩
        simp only [putsD, Act.put, List.setIfInBounds_toArray, List.set_cons_zero, List.set_cons_succ]
        go_wp2
        exact ⟨rfl, rfl, .inr (Below.refl _ _), .inr (.inl (by simp))⟩
      · intro vals x9 hC hF
        simp only [putsD, Act.put, List.setIfInBounds_toArray, List.set_cons_zero, List.set_cons_succ]
        go_wp2
        exact ⟨rfl, rfl, .inr (Below.refl _ _), .inr (.inl (by simp))⟩
      · intro vals x9 hC hF
        have hC := hC.resolve_left (by simp)
        have hsz := hC.size
        simp only [factsD, List.getD_cons_zero, List.getD_cons_succ, Fact.eq, Fact.row, Fact.lit, Fact.lit0, Fact.of, and_true, Fact.num9, Fact.ins9, Fact.vals9] at hF
        simp only [putsD, Act.put, List.setIfInBounds_toArray, List.set_cons_zero, List.set_cons_succ]
        simp only [hF]
        go_wp2_with fail
        refine (wpHash_any A1' c1 x1 x9 (H1.out.up hC) (by omega)).mono ?_
        rintro e wx ⟨k9, rfl, k90, k91, hb9⟩
        go_wp2
        exact ⟨rfl, ⟨k9, rfl, k90, k91⟩, .inr hb9, .inr (.inl (by simp))⟩
      · intro vals x9 hC hF
        simp only [putsD, Act.put, List.setIfInBounds_toArray, List.set_cons_zero, List.set_cons_succ]
        go_wp2
        exact ⟨rfl, rfl, .inr (Below.refl _ _), .inr (.inl (by simp))⟩
      · intro vals x9 hC hF
        simp only [factsD, List.getD_cons_zero, List.getD_cons_succ, Fact.eq, Fact.row, Fact.lit, Fact.lit0, Fact.of, and_true, Fact.num9, Fact.ins9, Fact.vals9] at hF
        simp only [putsD, Act.put, List.setIfInBounds_toArray, List.set_cons_zero, List.set_cons_succ]
        simp only [hF]
        go_wp2
        exact ⟨rfl, rfl, .inr (Below.refl _ _), .inr (.inl (by simp))⟩
      · intro vals x9 hC hF
        have hC := hC.resolve_left (by simp)
        have hsz := hC.size
        simp only [factsD, List.getD_cons_zero, List.getD_cons_succ, Fact.eq, Fact.row, Fact.lit, Fact.lit0, Fact.of, and_true, Fact.num9, Fact.ins9, Fact.vals9] at hF
        obtain ⟨⟨k9, e70, k90, k91⟩, e72⟩ := hF
        simp only [putsD, Act.put, List.setIfInBounds_toArray, List.set_cons_zero, List.set_cons_succ]
        simp only [e70, e72]
        go_wp2
        exact ⟨rfl, ⟨k9 + 37 * (j : Int), rfl, by omega, by omega⟩, .inr (Below.refl _ _), .inr (.inl (by simp))⟩
      · intro vals x9 hC hF
        have hC := hC.resolve_left (by simp)
        have hsz := hC.size
        simp only [factsD, List.getD_cons_zero, List.getD_cons_succ, Fact.eq, Fact.row, Fact.lit, Fact.lit0, Fact.of, and_true, Fact.num9, Fact.ins9, Fact.vals9] at hF
        obtain ⟨e68, k9, e73, k90, k91⟩ := hF
        simp only [putsD, Act.put, List.setIfInBounds_toArray, List.set_cons_zero, List.set_cons_succ]
        simp only [e68, e73]
        go_wp2_with fail
        refine (wpIns_any n A1 d1 k9 x9 k90 (by omega) (by omega)).mono ?_
        rintro e wx ⟨bs, B9, c9, rfl, hl1, hl2, hrd, hb9⟩
        have HB9 := Lib.hid hb9
        have HRD := Lib.hid hrd
        have HL1 := Lib.hid (And.intro hl1 (hl2 N09))
        clear hb9 hrd hl1 hl2
        go_wp2
        exact ⟨rfl, ⟨bs, B9, c9, rfl, HL1.out.1, HL1.out.2, HRD.out⟩, .inr HB9.out, .inr (.inl (by simp))⟩
      · intro vals x9 hC hF
        have hC := hC.resolve_left (by simp)
        have hsz := hC.size
        simp only [factsD, List.getD_cons_zero, List.getD_cons_succ, Fact.eq, Fact.row, Fact.lit, Fact.lit0, Fact.of, and_true, Fact.num9, Fact.ins9, Fact.vals9] at hF
        obtain ⟨e67, bs, B9, c9, e74, hl1, hl2, hrd⟩ := hF
        simp only [putsD, Act.put, List.setIfInBounds_toArray, List.set_cons_zero, List.set_cons_succ]
        simp only [e67, e74]
        have HL2 := Lib.hid hl2
        have HC9 := Lib.hid (netVals_any r.1 bs A2 B9 d2 c9 x9 (HX.out.up hC) hrl HRI.out hrd (by omega))
        clear hl2 hrd
        go_wp2_with fail
        refine HC9.out.mono ?_
        rintro e wx ⟨V9, v9, rfl, _, hrd9, hb9⟩
        have HB9 := Lib.hid hb9
        have HRD := Lib.hid hrd9
        clear hb9 hrd9 HC9
        go_wp2
        exact ⟨rfl, ⟨bs, V9, v9, rfl, HL2.out, HRD.out, bthen hC HB9.out⟩, .inr HB9.out, .inr (.inl (by simp))⟩
      · intro vals x9 hC hF
        have hC := hC.resolve_left (by simp)
        have hsz := hC.size
        simp only [factsD, List.getD_cons_zero, List.getD_cons_succ, Fact.eq, Fact.row, Fact.lit, Fact.lit0, Fact.of, and_true, Fact.num9, Fact.ins9, Fact.vals9] at hF
        obtain ⟨bs, V9, v9, e75, hl2, hrd9, hb9⟩ := hF
        simp only [putsD, Act.put, List.setIfInBounds_toArray, List.set_cons_zero, List.set_cons_succ]
        simp only [e75]
        go_wp2
        exact ⟨rfl, ⟨bs, V9, v9, rfl, hl2, hrd9, hb9⟩, .inr (Below.refl _ _), .inr (.inl (by simp))⟩
      · intro vals x9 hF
        simp only [facts, List.getD_cons_zero, List.getD_cons_succ, Fact.eq, Fact.row, Fact.lit, Fact.lit0, Fact.of, and_true, Fact.num9, Fact.ins9, Fact.vals9] at hF
        obtain ⟨bs, V9, v9, e14, hl2, hrd9, hb9⟩ := hF
        simp only [putsD, Act.put, List.setIfInBounds_toArray, List.set_cons_zero, List.set_cons_succ]
        simp only [e14]
        clear e14
        have hlaw := LAW.out bs hl2
        have hvl := HVL.out bs hl2
        generalize hvv : netVals r.1 bs = vv at *
        clear hvv hl2
        have HLAW := Lib.hid hlaw
        have HB9 := Lib.hid hb9
        have HXS := Lib.hid (hxs.up hb9)
        have HYS := Lib.hid (hys.up hb9)
        have HOS := Lib.hid (ho.up hb9)
        have HV := Lib.hid hrd9
        clear hlaw hb9 hxs hys ho hn hrd9
        have hrng : ∀ l : List Int, (∀ x ∈ l, okInt x) → ∀ x ∈ l, -9223372036854775808 ≤ x ∧ x ≤ 9223372036854775807 := fun l h x hx => by have := h x hx; unfold okInt at this; exact this
        have HRNG := Lib.hid hrng
        clear hrng
        go_wp2_with fail
        refine (implBitsVal_any V9 Y1 v9 k1 vv ys _ _ _ HV.out (by omega) HYS.out (HRNG.out ys HKY.out.2) (by omega)).mono ?_
        rintro e wx ⟨rfl, rfl⟩
        go_wp2_with fail
        refine (implNetLit_any V9 v9 vv a _ _ HV.out (by omega) ha.1 ha.2).mono ?_
        rintro e wx ⟨rfl, rfl⟩
        cases hlit : netLit vv a
        · have HE : Hid (bitsVal vv r.2 = bitsVal vv ys) := Lib.hid (by rw [HLAW.out, hlit]; rfl)
          clear hlit
          go_wp2_with fail
          refine (implBitsVal_any V9 B2 v9 e2 vv r.2 _ _ _ HV.out (by omega) HOS.out (HRNG.out r.2 HMI.out) (by omega)).mono ?_
          rw [HE.out]
          rintro e wx ⟨rfl, rfl⟩
          have hq9 : (bitsVal vv ys != bitsVal vv ys) = false := by simp
          go_wp2
          go_roundw
          case rel => exact ⟨j + 1, by omega, by go_num, bthen HBR.out HB9.out⟩
          case measure => simp [intOf]; omega
        · have HE : Hid (bitsVal vv r.2 = bitsVal vv xs) := Lib.hid (by rw [HLAW.out, hlit]; rfl)
          clear hlit
          go_wp2_with fail
          refine (implBitsVal_any V9 X1 v9 e1 vv xs _ _ _ HV.out (by omega) HXS.out (HRNG.out xs HKX.out.2) (by omega)).mono ?_
          rintro e wx ⟨rfl, rfl⟩
          go_wp2_with fail
          refine (implBitsVal_any V9 B2 v9 e2 vv r.2 _ _ _ HV.out (by omega) HOS.out (HRNG.out r.2 HMI.out) (by omega)).mono ?_
          rw [HE.out]
          rintro e wx ⟨rfl, rfl⟩
          have hq9 : (bitsVal vv xs != bitsVal vv xs) = false := by simp
          go_wp2
          go_roundw
          case rel => exact ⟨j + 1, by omega, by go_num, bthen HBR.out HB9.out⟩
          case measure => simp [intOf]; omega
    · have hj1 : ¬ (j : Int) < 12 := by omega
      have hb := bthen HB0.out HBR.out
      have v0 := (cell_of_block B_N.out 0).1
      have v1 := (cell_of_block B_N.out 1).1
      have u0 := (cell_of_block B_X.out 0).1
      have u1 := (cell_of_block B_X.out 1).1
      have HC9 := Lib.hid (wpGrown_any n r.1 A1 A2 d1 d2 wr hn (by omega) hx hrl hd2 HRI.out LG.out.ext.ok LG.out.ext.ins LG.out.ext.ext)
      clear hn hx h1 hxs hys ho
      go_wp2_with fail
      clear v0 v1 u0 u1
      refine HC9.out.mono ?_
      rintro e wx ⟨rfl, hb9⟩
      have HB9 := Lib.hid (bthen hb hb9)
      have hlx : ((r.2.length : Int) == (xs.length : Int)) = true := by rw [HL9.out]; simp
      clear hb9 HC9 hb
      go_wp2
      go_ret
      exact ⟨rfl, HB9.out⟩

set_option maxRecDepth 100000 in
theorem fnBitsIf_lifted (os : Os) (started : os.Started) (H : Type) (enc : TypeId × Value → H) :
    ReturnsInHanded {} Tryd.checked os 4 .any (fun w args => (Rows.fnBitsIfSpec.pre enc Tryd.prog Tryd.f4 [] false w args ∧ laidMetH Tryd.prog laid2 w) ∧ sizedMet enc Tryd.prog Tryd.f4 (OpenSpec.ofChange Rows.fnBitsIfSpec) false w args)
      (Rows.fnBitsIfSpec.post enc Tryd.prog Tryd.f4 false true false false) := by
  refine returnsInHanded_of_change_and (C := Tryd.checked) (X := fun w _ => laidMetH Tryd.prog laid2 w) (fun _ _ _ hh h => h.of_heap hh) dr_own started (by kernel_rfl) Tryd.func4
    (ChangeSpec.witness_shaped (enc := enc) (C := Tryd.checked) (os := os) (X := fun w _ => laidMetH Tryd.prog laid2 w) false (World.doorLaid Tryd.prog 400 os) #[.slice none 0 0, .slice none 0 0] 16 rfl (World.shaped_of_RefB (by kernel_rfl) (by kernel_rfl)) (by kernel_rfl) (by kernel_rfl) (by kernel_rfl) (door_met os _)) ?_
  intro W base args ds gs before hval0 hW _ _ hL _
  have hval : ∀ (j : Nat) t v, Tryd.f4.params[j]? = some t → args[j]? = some v → Value.okWide Tryd.prog W .any base t v := hval0
  have hW' := hW
  obtain ⟨p, q, hA0, hV0, rfl, hfz, hnd⟩ := hW
  have hV : DataW.TrodVars enc Tryd.prog W (fun _ => true) ["loop.example/seedlip/impl.errBits", "loop.example/seedlip/impl.errRoom"] gs q := hV0
  obtain ⟨a0, a1, hglb, hv0, hv1⟩ := glb_of_laid hL
  have hA : DataW.TrodAll enc Tryd.prog W 0 (fun _ => true) true Tryd.f4.params.toList args.toList ds p := hA0
  rw [Tryd.params4] at hA hval
  obtain ⟨v0, vs0, d0, ds0, p0, q0, hargs, rfl, rfl, h0, r0⟩ := trodAll_cons hA
  obtain ⟨v1, vs1, d1, ds1, p1, q1, rfl, rfl, rfl, h1, r1⟩ := trodAll_cons r0
  obtain ⟨rfl, rfl, rfl⟩ := trodAll_nil r1
  obtain rfl : args = #[v0, v1] := by cases args; simp_all
  obtain ⟨rfl, rfl⟩ := hV.unique (vars_read enc hv0 hv1 trivial trivial _)
  have k0 := h0
  have lt0 : ∀ x ∈ p0, x.block < W.heap.size := by obtain ⟨m, hm⟩ := k0; exact DataW.trod_lt m _ _ _ hm
  have k1 := h1
  have lt1 : ∀ x ∈ p1, x.block < W.heap.size := by obtain ⟨m, hm⟩ := k1; exact DataW.trod_lt m _ _ _ hm
  obtain ⟨A0, c0, x0, rfl, hc0, ok0, rd0⟩ := open_arg Tryd.underlying39 opens_bytes (hval 0 39 v0 rfl rfl) h0
  obtain ⟨A1, c1, x1, rfl, hc1, ok1, rd1⟩ := open_arg Tryd.underlying39 opens_bytes (hval 1 39 v1 rfl rfl) h1
  clear hA0 hval0 hV0
  refine (fnBitsIf_walk W a0 a1 hglb hc0 ok0 rd0 hc1 ok1 rd1).mono fun e W' ⟨he, bel⟩ => ?_
  subst he
  exact ⟨_, rfl, _, _, _, [], _, [.cell 0 0, .cell 1 0], hW', trodAll_mk1 (shut_bool Tryd.underlying4 _), (trodAll_cons_mk (Below.trod (by kernel_rfl) (by kernel_rfl) (of_decide_eq_true (by kernel_rfl)) k0 bel lt0) (trodAll_cons_mk (Below.trod (by kernel_rfl) (by kernel_rfl) (of_decide_eq_true (by kernel_rfl)) k1 bel lt1) trodAll_mk0)), vars_read enc (var_below dr_g0 hv0 bel) (var_below dr_g1 hv1 bel) trivial trivial _, bel.frame _, fun h => by cases h⟩

/-- The given row. -/
theorem fnBitsIf_row : Rows.FnBitsIfSaid :=
  OpenClaim.holds_of_wide 4 Tryd.f4 rfl rfl rfl rfl rfl rfl rfl ⟨rfl, rfl, rfl, rfl, rfl⟩ rfl rfl rfl rfl rfl (by kernel_rfl) Tryd.func4 (by kernel_rfl)
    (of_decide_eq_true (by kernel_rfl)) (by unfold Func.isWrapper; first | (rw [if_pos (by decide +kernel)]; kernel_rfl) | (rw [if_neg (by decide +kernel)]; exact ⟨rfl, rfl⟩))
    (fun os started H enc _ => fnBitsIf_lifted os started H enc)
/-- The given statement: the row, what it lists tied to the program's text. -/
theorem fnBitsIf_holds : Rows.FnBitsIfCardSaid :=
  Claim7.holds_tied_plain_at .later [] [.sentinel, .sentinel] true Rows.fnBitsIfCard.stood.harness Rows.fnBitsIfCard.stood.looks
    fnBitsIf_row (fun _ h => by cases h) (by kernel_rfl) (fun _ h => by cases h) fnBitsIf_row_tie rfl ⟨rfl, rfl⟩ (by kernel_rfl) rfl
    (fun f fn hf hfn => by
      obtain rfl : f = 4 := Option.some.inj ((show Tryd.prog.funcNamed "loop.example/seedlip/laws.FnBitsIf" = some 4 by kernel_rfl).symm.trans hf) |>.symm
      obtain rfl : fn = Tryd.f4 := (Option.some.inj (Tryd.func4.symm.trans hfn)).symm
      exact ⟨by kernel_rfl, fun j t ht => by
        rw [Tryd.params4] at ht
        have hm : t ∈ [39, 39] := by simpa using Array.mem_of_getElem? ht
        have hall : ([39, 39].all fun u => !Tryd.prog.wantsStandIn u) = true := by kernel_rfl
        exact (show Tryd.prog.wantsStandIn t = false by simpa using List.all_eq_true.1 hall t hm)⟩)
    (by kernel_rfl)
#print axioms fnBitsIf_holds
end Go.Proofs.YtcdlfnhjpjpbjaaDoor
