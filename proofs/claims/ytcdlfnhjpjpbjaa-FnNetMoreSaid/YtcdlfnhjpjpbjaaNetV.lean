/- The program's values of nets. -/
import Derived.Test.YtcdlfnhjpjpbjaaNetW
namespace Go.Proofs.Ytcdlfnhjpjpbjaa
open Go Go.RowKit

theorem own_lit1 (W : World) (b : Bool) : OwnB (W.alloc (.cells #[.bool b] 4)) W.heap.size (.slice (some ⟨W.heap.size, 0, none⟩) 1 1) [b] := World.ownsRow_lit W #[.bool b] 1 (Nat.le_refl _) (by unfold maxLen; omega) (by simp)
def RetVs (vs : List Bool) (w : World) (e : Ending) (w' : World) : Prop := ∃ A c, e = .returned (.slice A vs.length c) ∧ vs.length ≤ c ∧ Lay.bool.Rd w' A vs ∧ Below w.heap.size w w'
theorem netVals_no {n : N} {ins : List Bool} (h : netOk n = false ∨ (ins.length : Int) ≠ n.ins) : netVals n ins = [] := by
  unfold netVals
  rw [if_neg]
  simp only [Bool.and_eq_true, decide_eq_true_eq, not_and]
  intro h1 h2
  rcases h with h | h
  · rw [h] at h1; cases h1
  · exact h h2
theorem netVals_yes {n : N} {ins : List Bool} (h : netOk n = true) (h2 : (ins.length : Int) = n.ins) : netVals n ins = runG n.gs (true :: ins) := by
  unfold netVals
  rw [if_pos]
  rw [h, decide_eq_true h2]; rfl
set_option maxRecDepth 100000 in
set_option maxHeartbeats 2000000 in
theorem netVals_any (n : N) (ins : List Bool) (A B : Option Addr) (c d : Nat) (w : World) (h : Lay.gate.Rd w A n.gs) (hn : n.gs.length ≤ 1048576) (hi : okInts n) (h' : Lay.bool.Rd w B ins) (hn' : ins.length ≤ 1048576) :
    Calls Try.prog 21 #[.agg #[.int .i64 n.ins, .slice A n.gs.length c], .slice B ins.length d] w (RetVs (netVals n ins) w) := by
  have hw : Below w.heap.size w (w.alloc (.cells #[.int .i64 n.ins, .slice A n.gs.length c] 25)) := (Below.refl _ _).alloc (Nat.le_refl _) _
  have HC := Lib.hid (netOk_any n A c _ (h.up hw) hn hi)
  have HB := Lib.hid (show (w.alloc (.cells #[.int .i64 n.ins, .slice A n.gs.length c] 25)).heap[w.heap.size]? = some (.cells #[.int .i64 n.ins, .slice A n.gs.length c] 25 (0, 0)) from heap_alloc_new _ _)
  have HW := Lib.hid hw
  clear hw
  cases hok : netOk n
  · have HN := Lib.hid (netVals_no (ins := ins) (.inl hok))
    go_enter Try.func21, Try.ntmps21
    go_wp2_with fail
    refine HC.out.mono ?_
    rw [hok]
    rintro e w1 ⟨rfl, hb⟩
    go_wp2
    go_ret
    rw [HN.out]
    exact ⟨none, 0, rfl, Nat.le_refl _, .nil _ _ _ _, bthen HW.out hb⟩
  by_cases hl : (ins.length : Int) = n.ins
  rotate_left
  · have HN := Lib.hid (netVals_no (n := n) (ins := ins) (.inr hl))
    have hlb : ((ins.length : Int) != n.ins) = true := by simpa using hl
    go_enter Try.func21, Try.ntmps21
    go_wp2_with fail
    refine HC.out.mono ?_
    rw [hok]
    rintro e w1 ⟨rfl, hb⟩
    have v0 : w1.cell? ⟨w.heap.size, 0, none⟩ = some (.int .i64 n.ins) := (hb.cell (lt_of_block HB.out)).trans (cell_of_block HB.out 0).1
    go_wp2
    go_ret
    rw [HN.out]
    exact ⟨none, 0, rfl, Nat.le_refl _, .nil _ _ _ _, bthen HW.out hb⟩
  have HN := Lib.hid (netVals_yes hok hl)
  have hlb : ((ins.length : Int) != n.ins) = false := by simpa using hl
  have hA2 := sl_noneB h'
  obtain ⟨i0, hi0, hz0, hz1, hz2⟩ := info_parts bool_info
  clear hl
  go_enter Try.func21, Try.ntmps21
  go_wp2_with fail
  refine HC.out.mono ?_
  rw [hok]
  rintro e w1 ⟨rfl, hb⟩
  clear hok HC
  have HB1 := Lib.hid ((hb.block _ (lt_of_block HB.out)).trans HB.out)
  have hbw := bthen HW.out hb
  have hg1 := h.up hbw
  have hal : Below w1.heap.size w1 (w1.alloc (.cells #[.bool true] 4)) := (Below.refl _ _).alloc (Nat.le_refl _) _
  have hsrc := src_bools ((h'.up hbw).up hal)
  have hol := own_lit1 w1 true
  have v0 : w1.cell? ⟨w.heap.size, 0, none⟩ = some (.int .i64 n.ins) := (cell_of_block HB1.out 0).1
  have v1 : (w1.alloc (.cells #[.bool true] 4)).cell? ⟨w.heap.size, 1, none⟩ = some (.slice A n.gs.length c) := (hal.cell (lt_of_block HB1.out)).trans (cell_of_block HB1.out 1).1
  have HAL := Lib.hid hal
  clear hb h h' HB HW hal
  go_wp2_with (at_builtin; refine wpList_append_src _ (by rfl) (.tmp 20) (.tmp 21) _ (by rfl) w1.heap.size 4 i0 _ 1 1 Try.underlying40 hi0 hz0 hz1 hz2 (by rfl) (by omega) (.slice (some ⟨w1.heap.size, 0, none⟩) 1 1) 1 [.bool true] (by rfl) hol B ins.length d (ins.map Value.bool) (by rfl) hsrc (bools_one _) (1 + ins.length) (by omega) (by unfold maxLen; omega) (by omega) (by simp) hA2 ?_; intro A1 c1 w2 hown2 hb2 _; have v2 : w2.cell? ⟨w.heap.size, 1, none⟩ = some (.slice A n.gs.length c) := (hb2.cell (lt_of_block HB1.out)).trans v1; clear v1)
  have hb12 : Below w1.heap.size w1 w2 := HAL.out.trans hb2
  have hown : OwnB w2 w1.heap.size (.slice A1 (true :: ins).length c1) (true :: ins) := by
    unfold OwnB
    have hll : (true :: ins).length = 1 + ins.length := by simp; omega
    rw [hll]
    simpa using hown2
  have hll : 1 + ins.length = (true :: ins).length := by simp; omega
  rw [hll]
  obtain ⟨vs, hvs⟩ : ∃ vs, vs = true :: ins := ⟨_, rfl⟩
  rw [← hvs] at hown ⊢
  have HVS := Lib.hid hvs
  have hvl : vs.length ≤ 1048577 := by rw [hvs]; simp; omega
  have hw1 : w1.heap.size ≤ w2.heap.size := hb12.size
  clear hown2 hb2 hsrc hol v0 v2 HAL hA2 hi0 hz0 hz1 hz2 hlb HB1 hll hvs
  go_loopw [5, 26] (fun s i wr => ∃ (k : Nat) (us : List Bool) (A8 : Option Addr) (c8 : Nat), k ≤ n.gs.length ∧ i = .int .i64 k ∧ s = .slice A8 us.length c8 ∧ Hid (us = runG (n.gs.take k) vs) ∧ us.length = vs.length + k ∧ OwnB wr w1.heap.size (.slice A8 us.length c8) us ∧ Below w1.heap.size w1 wr) (fun _ i _ => n.gs.length - (intOf i).toNat)
  case atStart => exact ⟨0, vs, A1, c1, Nat.zero_le _, rfl, rfl, Lib.hid rfl, rfl, hown, hb12⟩
  case round =>
    obtain ⟨k, us, A8, c8, hk, rfl, rfl, HU, hul, hown, hbr⟩ := hrel
    by_cases hlt : k < n.gs.length
    · have hk1 : (k : Int) < n.gs.length := by omega
      have hk0 : (0 : Int) ≤ k := by omega
      obtain ⟨ad, rfl, hf, j1, j2, j3⟩ := (hg1.up hbr).at_gate hlt
      have hgi := hi n.gs[k] (List.getElem_mem hlt)
      have HST : Hid (runG (n.gs.take (k + 1)) vs = us ++ [gateV us n.gs[k]]) := Lib.hid (by rw [List.take_succ_eq_append_getElem hlt, runG_app, ← HU.out]; rfl)
      generalize n.gs[k] = g at *
      obtain ⟨gx, ga, gb⟩ := g
      obtain ⟨⟨ga0, ga1⟩, gb0, gb1⟩ := hgi
      dsimp only at ga0 ga1 gb0 gb1 j1 j2 j3
      have hal : Below wr.heap.size wr (wr.alloc (.cells #[.bool gx, .int .i64 ga, .int .i64 gb] 58)) := (Below.refl _ _).alloc (Nat.le_refl _) _
      have hbr2 := bthen hbr hal
      have hown2 := hown.up hal
      have hrd := hown2.rd
      have hsz : w1.heap.size ≤ (wr.alloc (.cells #[.bool gx, .int .i64 ga, .int .i64 gb] 58)).heap.size := by have := hbr2.size; omega
      have y0 : (wr.alloc (.cells #[.bool gx, .int .i64 ga, .int .i64 gb] 58)).cell? ⟨wr.heap.size, 0, none⟩ = some (.bool gx) := by simp [go_sem]
      have y1 : (wr.alloc (.cells #[.bool gx, .int .i64 ga, .int .i64 gb] 58)).cell? ⟨wr.heap.size, 1, none⟩ = some (.int .i64 ga) := by simp [go_sem]
      have y2 : (wr.alloc (.cells #[.bool gx, .int .i64 ga, .int .i64 gb] 58)).cell? ⟨wr.heap.size, 2, none⟩ = some (.int .i64 gb) := by simp [go_sem]
      have HUL := Lib.hid hul
      have husz : us.length ≤ 2100000 := by omega
      clear hal hown hbr hf hul
      go_wp2_with fail
      generalize wr.alloc (.cells #[.bool gx, .int .i64 ga, .int .i64 gb] 58) = W at *
      clear j1 j2 j3
      have hou : OwnB W w1.heap.size (.slice A8 us.length c8) us := hown2
      obtain ⟨ps, hps⟩ : ∃ ps, ps = us ++ [gateV us ⟨gx, ga, gb⟩] := ⟨_, rfl⟩
      have HPS := Lib.hid hps
      have HPL := Lib.hid (show ps.length = us.length + 1 by rw [hps]; simp)
      clear hps hown2
      obtain ⟨pv, hp⟩ : ∃ pv, netLit us ga = pv := ⟨_, rfl⟩
      obtain ⟨qv, hq⟩ : ∃ qv, netLit us gb = qv := ⟨_, rfl⟩
      have HP := Lib.hid hp
      have HQ := Lib.hid hq
      have HCA := Lib.hid (fun (Y : World) (h9 : Lay.bool.Sl Y (fun b => b < W.heap.size) A8 us) => by have := implNetLit_any A8 c8 us ga _ Y h9 (by omega) (by omega) (by omega); rw [hp] at this; exact this)
      have HCB := Lib.hid (fun (Y : World) (h9 : Lay.bool.Sl Y (fun b => b < W.heap.size) A8 us) => by have := implNetLit_any A8 c8 us gb _ Y h9 (by omega) (by omega) (by omega); rw [hq] at this; exact this)
      clear hp hq
      cases gx <;> cases pv <;> cases qv
      all_goals
        go_quiet ((go_at_call 35; first | (with_reducible exact quiet_left (HCA.out _ (hrd.drewN _))) | (with_reducible exact quiet_left (HCB.out _ (hrd.drewN _)))))
        have y0q : (W.drewN nq).cell? ⟨wr.heap.size, 0, none⟩ = _ := y0
        have howq : OwnB (W.drewN nq) w1.heap.size (.slice A8 us.length c8) us := hou
        have hszq : w1.heap.size ≤ (W.drewN nq).heap.size := hsz
        have hbq : Below w1.heap.size w1 (W.drewN nq) := below_drewN hbr2 nq
        clear y0 y1 y2 hou hsz hbr2 hrd
        generalize W.drewN nq = X at *
        go_wp2_with (at_builtin; first | (refine wpList_append_bool (ys := ps) (by rfl) (.tmp 40) (.tmp 44) (by rfl) (by rfl) (by rfl) howq (by omega) hszq (by rw [HPS.out]; unfold gateV; simp [HP.out, HQ.out]) ?_; intro A9 c9 w9 hown9 hb9) | (refine wpList_append_bool (ys := ps) (by rfl) (.tmp 46) (.tmp 51) (by rfl) (by rfl) (by rfl) howq (by omega) hszq (by rw [HPS.out]; unfold gateV; simp [HP.out, HQ.out]) ?_; intro A9 c9 w9 hown9 hb9))
        have hb9 : Below w1.heap.size w1 w9 := hbq.trans hb9
        clear y0q
        go_roundw
        case rel => exact ⟨k + 1, ps, A9, c9, by omega, by go_num, rfl, Lib.hid (by rw [HST.out, HPS.out]), by rw [HPL.out, HUL.out]; omega, hown9, hb9⟩
        case measure => simp [intOf]; omega
    · have hke : k = n.gs.length := by omega
      subst hke
      have hcap := hown.cap.2
      go_wp2
      go_ret
      rw [show netVals n ins = us by rw [HN.out, HU.out, List.take_length, HVS.out]]
      exact ⟨A8, c8, rfl, hcap, hown.rd, bthen hbw hbr⟩
end Go.Proofs.Ytcdlfnhjpjpbjaa
