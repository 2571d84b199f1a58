/- The law's own word on a gate. -/
import Derived.Test.YtcdlfnhjpjpbjaaNetV
import Derived.Test.YtcdlfnhjpjpbjaaDrI
namespace Go.Proofs.Ytcdlfnhjpjpbjaa
open Go Go.RowKit

set_option maxRecDepth 100000 in
set_option maxHeartbeats 2000000 in
theorem wpGate_any (n x : N) (A B : Option Addr) (c d : Nat) (a b m : Int) (xor : Bool) (k : Int) (w : World) (h : Lay.gate.Rd w A n.gs) (hn : n.gs.length ≤ 1048576) (hi : okInts n) (h' : Lay.gate.Rd w B x.gs) (hn' : x.gs.length ≤ 1048576) (hi' : okInts x)
    (ha : okInt a) (hb : okInt b) (hm : okInt m) (k0 : 0 ≤ k) (k1 : k ≤ 9223372036854775807) (n0 : 0 ≤ n.ins) (n1 : n.ins ≤ 8) (hlaw : ∀ ins : List Bool, (ins.length : Int) = n.ins → gateLaw n x a b m xor ins = true ∧ 1 ≤ (netVals n ins).length ∧ (netVals x ins).length ≤ 1048576) :
    Calls Try.prog 12 #[.agg #[.int .i64 n.ins, .slice A n.gs.length c], .agg #[.int .i64 x.ins, .slice B x.gs.length d], .int .i64 a, .int .i64 b, .int .i64 m, .bool xor, .int .i64 k] w fun e w' => e = .returned (.bool true) ∧ Below w.heap.size w w' := by
  obtain ⟨hw, hB0, hB1, hWS⟩ := two_boxes w (.cells #[.int .i64 n.ins, .slice A n.gs.length c] 25) (.cells #[.int .i64 x.ins, .slice B x.gs.length d] 25)
  have HB0 := Lib.hid hB0
  have HB1 := Lib.hid hB1
  have HW := Lib.hid hw
  have HWS := Lib.hid hWS
  have HLAW := Lib.hid hlaw
  unfold okInt at ha hb hm
  obtain ⟨M, hM⟩ := Int.eq_ofNat_of_zero_le n0
  have HM := Lib.hid hM
  have hM8 : M ≤ 8 := by omega
  clear hB0 hB1 hw hWS hlaw hM
  go_enter Try.func12, Try.ntmps12
  go_wp2
  generalize (w.alloc (.cells #[.int .i64 n.ins, .slice A n.gs.length c] 25)).alloc (.cells #[.int .i64 x.ins, .slice B x.gs.length d] 25) = W at *
  have hal : Below W.heap.size W (W.alloc (.cells #[] 4)) := (Below.refl _ _).alloc (Nat.le_refl _) _
  have hol : OwnB (W.alloc (.cells #[] 4)) W.heap.size (.slice (some ⟨w.heap.size + 1 + 1, 0, none⟩) ([] : List Bool).length 0) [] := by
    rw [← HWS.out]; exact own_lit0 rfl
  have hs0 := HWS.out
  clear HWS
  go_loopw [15, 16, 6] (fun s i kk wr => ∃ (j : Nat) (q : Int) (bs : List Bool) (A8 : Option Addr) (c8 : Nat), j ≤ M ∧ i = .int .i64 j ∧ kk = .int .i64 q ∧ 0 ≤ q ∧ q ≤ 9223372036854775807 ∧ s = .slice A8 bs.length c8 ∧ bs.length = j ∧ OwnB wr W.heap.size (.slice A8 bs.length c8) bs ∧ Below W.heap.size W wr) (fun _ i _ _ => M - (intOf i).toNat)
  case atStart => exact ⟨0, k, [], _, _, Nat.zero_le _, rfl, rfl, k0, k1, rfl, rfl, hol, hal⟩
  case round =>
    obtain ⟨j, q, bs, A8, c8, hj, rfl, rfl, q0, q1, rfl, hbl, hown, hbr⟩ := hrel
    have HBL := Lib.hid hbl
    have HI := Lib.hid HM.out
    have HBOX := Lib.hid ((hbr.block _ (lt_of_block HB0.out)).trans HB0.out)
    have v0 : wr.cell? ⟨w.heap.size, 0, none⟩ = some (.int .i64 n.ins) := (cell_of_block HBOX.out 0).1
    by_cases hlt : j < M
    · have hlt1 : (j : Int) < n.ins := by have := HM.out; omega
      obtain ⟨ps, hps⟩ : ∃ ps, ps = bs ++ [(q % 2 == 1)] := ⟨_, rfl⟩
      have HPS := Lib.hid hps
      have HPL := Lib.hid (show ps.length = bs.length + 1 by rw [hps]; simp)
      have hsz := hbr.size
      have hbsz : bs.length ≤ 100 := by omega
      clear hps hbl
      go_wp2_with (at_builtin; refine wpList_append_bool (ys := ps) (by rfl) (.tmp 28) (.tmp 32) (by rfl) (by rfl) (by rfl) hown (by omega) hsz HPS.out ?_; intro A9 c9 w9 hown9 hb9)
      have hbq := hbr.trans hb9
      go_roundw
      case rel => exact ⟨j + 1, q / 2, ps, A9, c9, by omega, by go_num, rfl, by omega, by omega, rfl, by rw [HPL.out, HBL.out], hown9, hbq⟩
      case measure => simp [intOf]; omega
    · have hje : j = M := by omega
      subst hje
      have hlt1 : ¬ (bs.length : Int) < n.ins := by have := HM.out; omega
      have hlt2 : ¬ (j : Int) < n.ins := by have := HM.out; omega
      obtain ⟨hgl, hvl, hxl⟩ := HLAW.out bs (by rw [HM.out, hbl])
      have hbw := bthen HW.out hbr
      have hg0 := h.up hbw
      have hg1 := h'.up hbw
      have HC0 := Lib.hid (netVals_any n bs A A8 c c8 wr hg0 hn hi hown.rd (by omega))
      have v1 : wr.cell? ⟨w.heap.size, 1, none⟩ = some (.slice A n.gs.length c) := (cell_of_block HBOX.out 1).1
      have HX := Lib.hid ((hbr.block _ (lt_of_block HB1.out)).trans HB1.out)
      have hrd := hown.rd
      have hbsz : bs.length ≤ 100 := by omega
      have HGL := Lib.hid hgl
      clear hown hbl hg0 hgl
      go_wp2_with fail
      refine HC0.out.mono ?_
      generalize hv9 : netVals n bs = vs at *
      have HV9 := Lib.hid hv9
      clear hv9 HC0 v0 v1
      rintro e w3 ⟨A3, c3, rfl, hc3, hrd3, hb3⟩
      have HX := Lib.hid ((hb3.block _ (lt_of_block HX.out)).trans HX.out)
      have u0 : w3.cell? ⟨w.heap.size + 1, 0, none⟩ = some (.int .i64 x.ins) := (cell_of_block HX.out 0).1
      have u1 : w3.cell? ⟨w.heap.size + 1, 1, none⟩ = some (.slice B x.gs.length d) := (cell_of_block HX.out 1).1
      have HC1 := Lib.hid (netVals_any x bs B A8 d c8 w3 (hg1.up hb3) hn' hi' (hrd.up hb3) (by omega))
      have hbw := bthen hbw hb3
      clear hb3 hg1 hrd hbr
      go_wp2_with fail
      refine HC1.out.mono ?_
      generalize hv8 : netVals x bs = xs at *
      have HV8 := Lib.hid hv8
      clear hv8 HC1 u0 u1 HX
      rintro e w4 ⟨A4, c4, rfl, hc4, hrd4, hb4⟩
      have hrd3 := hrd3.up hb4
      have hbw := bthen hbw hb4
      clear hb4
      obtain ⟨g1, g2, g3⟩ : vs.length ≤ xs.length ∧ vs = xs.take vs.length ∧ netLit xs m = (!xor && netLit xs a && netLit xs b || xor && (netLit xs a != netLit xs b)) := by
        have := HGL.out
        unfold gateLaw at this
        rw [HV9.out, HV8.out] at this
        simp only [Bool.and_eq_true, decide_eq_true_eq, beq_iff_eq] at this
        exact this
      have hrd5 : Lay.bool.Rd w4 A4 vs := by rw [g2]; exact hrd4.take _
      have hg1b : decide (xs.length < vs.length) = false := by simp; omega
      have hvc : (vs.length : Int) ≤ c4 := by omega
      have G3 := Lib.hid g3
      clear g2 g3
      obtain ⟨ad4, hA4⟩ : ∃ ad4, A4 = some ad4 := by
        obtain ⟨ad4, e4, _⟩ := hrd4 (by omega)
        exact ⟨ad4, e4⟩
      subst hA4
      have HCW := Lib.hid (wpBools_any A3 (some ad4) c3 c4 vs vs _ _ w4 hrd3 hrd5 (by omega) (by omega))
      have hvs0 : (0 : Int) ≤ vs.length := by omega
      have hxsz : xs.length ≤ 1048576 := hxl
      go_wp2_with fail
      refine HCW.out.mono ?_
      rintro e w5 ⟨rfl, n5, rfl⟩
      simp only [decide_true]
      have hbw := hbw.trans ((below_drewN (Below.refl w4.heap.size w4) n5).mono hbw.size)
      have hrd6 : Lay.bool.Rd (w4.drewN n5) (some ad4) xs := hrd4.drewN n5
      clear HCW
      obtain ⟨pv, hp⟩ : ∃ pv, netLit xs a = pv := ⟨_, rfl⟩
      obtain ⟨qv, hq⟩ : ∃ qv, netLit xs b = qv := ⟨_, rfl⟩
      obtain ⟨mv, hmv⟩ : ∃ mv, netLit xs m = mv := ⟨_, rfl⟩
      have HG3 := G3.out
      rw [hp, hq, hmv] at HG3
      have G3 := Lib.hid HG3
      have HCA := Lib.hid (fun Y (h9 : Lay.bool.Sl Y (fun b => b < w4.heap.size) (some ad4) xs) => by have := implNetLit_any (some ad4) c4 xs a _ Y h9 (by omega) (by omega) (by omega); rw [hp] at this; exact this)
      have HCB := Lib.hid (fun Y (h9 : Lay.bool.Sl Y (fun b => b < w4.heap.size) (some ad4) xs) => by have := implNetLit_any (some ad4) c4 xs b _ Y h9 (by omega) (by omega) (by omega); rw [hq] at this; exact this)
      have HCM := Lib.hid (fun Y (h9 : Lay.bool.Sl Y (fun b => b < w4.heap.size) (some ad4) xs) => by have := implNetLit_any (some ad4) c4 xs m _ Y h9 (by omega) (by omega) (by omega); rw [hmv] at this; exact this)
      clear HG3 hp hq hmv
      go_wp2_with fail
      refine (HCA.out _ hrd6).mono ?_
      rintro e w6 ⟨rfl, rfl⟩
      go_wp2_with fail
      refine (HCB.out _ hrd6).mono ?_
      rintro e w6 ⟨rfl, rfl⟩
      go_wp2_with fail
      refine (HCM.out _ hrd6).mono ?_
      rintro e w6 ⟨rfl, rfl⟩
      cases xor <;> cases pv <;> cases qv
      all_goals
        go_wp2
        go_ret
        exact ⟨ret_bool (by have := G3.out; rw [this]; rfl), hbw⟩
end Go.Proofs.Ytcdlfnhjpjpbjaa
