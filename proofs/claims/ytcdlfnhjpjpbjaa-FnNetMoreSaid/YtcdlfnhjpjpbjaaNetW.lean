/- The program's comparison and values of nets; the laws' own words on them. -/
import Derived.Test.YtcdlfnhjpjpbjaaBools
import Derived.Test.YtcdlfnhjpjpbjaaNetP2
import Derived.Test.YtcdlfnhjpjpbjaaNetI4
namespace Go.Proofs.Ytcdlfnhjpjpbjaa
open Go Go.RowKit

set_option maxHeartbeats 400000 in
theorem wpBools_any (A B : Option Addr) (c d : Nat) (xs ys : List Bool) (F G : Nat → Prop) (w : World) (h : Lay.bool.Sl w F A xs) (h' : Lay.bool.Sl w G B ys) (hn : xs.length ≤ 1048576) (hn' : ys.length ≤ 1048576) :
    Calls Try.prog 34 #[.slice A xs.length c, .slice B ys.length d] w fun e w' => e = .returned (.bool (decide (xs = ys))) ∧ ∃ n, w' = w.drewN n := by
  by_cases hl : xs.length = ys.length
  · have hne : (((xs.length : Int) != (ys.length : Int))) = false := by simp [hl]
    have HL := Lib.hid hl
    clear hl
    go_enter Try.func34, Try.ntmps34
    go_wp2
    clear hne
    go_loopw [5] (fun i wr => ∃ k m : Nat, k ≤ xs.length ∧ i = .int .i64 k ∧ wr = w.drewN m ∧ xs.take k = ys.take k) (fun i _ => xs.length - (intOf i).toNat)
    case atStart => exact ⟨0, 0, Nat.zero_le _, rfl, rfl, rfl⟩
    case round =>
      obtain ⟨k, m, hk, rfl, rfl, ht⟩ := hrel
      have HT := Lib.hid ht
      clear ht
      by_cases hlt : k < xs.length
      · have hlt' : k < ys.length := by have := HL.out; omega
        obtain ⟨ad, rfl, hf, hc⟩ := h.at_bool hlt
        obtain ⟨ad', rfl, hf', hc'⟩ := h'.at_bool hlt'
        have hk0 : (0 : Int) ≤ k := by omega
        have hk1 : (k : Int) < xs.length := by omega
        have hk2 : (k : Int) < ys.length := by omega
        clear h h' hf hf'
        by_cases hxy : xs[k] = ys[k]
        · have hb : (!(xs[k] == ys[k])) = false := by simp [hxy]
          have HX := Lib.hid hxy
          clear hxy
          go_wp2
          go_quiet (fail)
          go_wp2
          go_roundw
          case rel => exact ⟨k + 1, _, by omega, by go_num, rfl, take_eq_step hlt hlt' HT.out HX.out⟩
          case measure => simp [intOf]; omega
        · have hb : (!(xs[k] == ys[k])) = true := by simp [hxy]
          go_wp2
          go_quiet (fail)
          go_wp2
          go_ret
          exact ⟨ret_bool (by simp; rintro rfl; exact hxy rfl), m + nq, by rw [World.drewN_drewN]⟩
      · have : k = xs.length := by omega
        subst this
        go_wp2
        go_ret
        exact ⟨ret_bool (by have := HL.out; have := HT.out; simp [eq_of_take HL.out HT.out]), _, rfl⟩
  · have hne : (((xs.length : Int) != (ys.length : Int))) = true := by simp; omega
    go_enter Try.func34, Try.ntmps34
    go_wp2
    go_ret
    exact ⟨ret_bool (by simp; rintro rfl; exact hl rfl), 0, rfl⟩

theorem neqG (w : World) (g h : G) : (binOp .neq 58 (.agg #[.bool g.x, .int .i64 g.a, .int .i64 g.b]) (.agg #[.bool h.x, .int .i64 h.a, .int .i64 h.b])).run Try.prog w = .ok (.bool (!decide (g = h))) w := by
  have hh : Try.prog.stoodInHeld 58 = false := by kernel_rfl
  rw [decide_G]
  simp [go_sem, hh]
  (repeat' split) <;> simp_all
set_option maxHeartbeats 1000000 in
theorem equalG_any (A B : Option Addr) (c d : Nat) (xs ys : List G) (w : World) (h : Lay.gate.Rd w A xs) (h' : Lay.gate.Rd w B ys) (hn : xs.length ≤ 1048576) (hn' : ys.length ≤ 1048576) :
    Calls Try.prog 32 #[.slice A xs.length c, .slice B ys.length d] w fun e w' => e = .returned (.bool (decide (xs = ys))) ∧ Below w.heap.size w w' := by
  by_cases hl : xs.length = ys.length
  · have hne : (((xs.length : Int) != (ys.length : Int))) = false := by simp [hl]
    have HL := Lib.hid hl
    clear hl
    go_enter Try.func32, Try.ntmps32
    go_wp2
    clear hne
    go_loopw [13] (fun i wr => ∃ k m : Nat, k ≤ xs.length ∧ i = .int .i64 k ∧ wr = w.drewN m ∧ xs.take k = ys.take k) (fun i _ => xs.length - (intOf i).toNat)
    case atStart => exact ⟨0, 0, Nat.zero_le _, rfl, rfl, rfl⟩
    case round =>
      obtain ⟨k, m, hk, rfl, rfl, ht⟩ := hrel
      have HT := Lib.hid ht
      clear ht
      by_cases hlt : k < xs.length
      · have hlt' : k < ys.length := by have := HL.out; omega
        obtain ⟨ad, rfl, hf, j1, j2, j3⟩ := h.at_gate hlt
        obtain ⟨ad', rfl, hf', l1, l2, l3⟩ := h'.at_gate hlt'
        have hk0 : (0 : Int) ≤ k := by omega
        have hk1 : (k : Int) < xs.length := by omega
        have hk2 : (k : Int) < ys.length := by omega
        clear h h' hf hf'
        by_cases hxy : xs[k] = ys[k]
        · have he : ∀ W' : World, (binOp .neq 58 (.agg #[.bool xs[k].x, .int .i64 xs[k].a, .int .i64 xs[k].b]) (.agg #[.bool ys[k].x, .int .i64 ys[k].a, .int .i64 ys[k].b])).run Try.prog W' = .ok (.bool false) W' := fun W' => by rw [neqG W' xs[k] ys[k], decide_eq_true hxy]; rfl
          have HS := Lib.hid (take_eq_step hlt hlt' HT.out hxy)
          clear hxy
          generalize xs[k] = gx at *
          generalize ys[k] = gy at *
          go_wp2
          go_quiet (fail)
          clear he
          go_wp2
          go_roundw
          case rel => exact ⟨k + 1, _, by omega, by go_num, rfl, HS.out⟩
          case measure => simp [intOf]; omega
        · have he : ∀ W' : World, (binOp .neq 58 (.agg #[.bool xs[k].x, .int .i64 xs[k].a, .int .i64 xs[k].b]) (.agg #[.bool ys[k].x, .int .i64 ys[k].a, .int .i64 ys[k].b])).run Try.prog W' = .ok (.bool true) W' := fun W' => by rw [neqG W' xs[k] ys[k], decide_eq_false hxy]; rfl
          have HXY := Lib.hid (fun e : xs = ys => hxy (by simp [e]))
          clear hxy
          generalize xs[k] = gx at *
          generalize ys[k] = gy at *
          go_wp2
          go_quiet (fail)
          clear he
          go_wp2
          go_ret
          exact ⟨ret_bool (decide_eq_false HXY.out).symm, by rw [World.drewN_drewN]; exact below_drewN (Below.refl _ _) _⟩
      · have : k = xs.length := by omega
        subst this
        go_wp2
        go_ret
        exact ⟨ret_bool (by have := HL.out; have := HT.out; simp [eq_of_take HL.out HT.out]), below_drewN (Below.refl _ _) _⟩
  · have hne : (((xs.length : Int) != (ys.length : Int))) = true := by simp; omega
    go_enter Try.func32, Try.ntmps32
    go_wp2
    go_ret
    exact ⟨ret_bool (by simp; rintro rfl; exact hl rfl), Below.refl _ _⟩

theorem decide_N (m n : N) : decide (m = n) = (m.ins == n.ins && decide (m.gs = n.gs)) := by
  cases m; cases n; rw [Bool.eq_iff_iff]; simp
set_option maxHeartbeats 1000000 in
theorem netSame_any (m n : N) (A B : Option Addr) (c d : Nat) (w : World) (h : Lay.gate.Rd w A m.gs) (h' : Lay.gate.Rd w B n.gs) (hn : m.gs.length ≤ 1048576) (hn' : n.gs.length ≤ 1048576) :
    Calls Try.prog 10 #[.agg #[.int .i64 m.ins, .slice A m.gs.length c], .agg #[.int .i64 n.ins, .slice B n.gs.length d]] w fun e w' => e = .returned (.bool (decide (m = n))) ∧ Below w.heap.size w w' := by
  have hw : Below w.heap.size w ((w.alloc (.cells #[.int .i64 m.ins, .slice A m.gs.length c] 25)).alloc (.cells #[.int .i64 n.ins, .slice B n.gs.length d] 25)) := ((Below.refl _ _).alloc (Nat.le_refl _) _).alloc (by simp) _
  have HC := Lib.hid (equalG_any A B c d m.gs n.gs _ (h.up hw) (h'.up hw) hn hn')
  have HW := Lib.hid hw
  have HD := Lib.hid (decide_N m n)
  clear hw
  by_cases hi : m.ins = n.ins
  · have hib : (m.ins == n.ins) = true := by simpa using hi
    have HI := Lib.hid hib
    clear hi
    go_enter Try.func10, Try.ntmps10
    go_wp2_with fail
    refine HC.out.mono ?_
    rintro e w1 ⟨rfl, hb⟩
    clear hib
    go_wp2
    go_ret
    exact ⟨ret_bool (by rw [HD.out, HI.out]; rfl), bthen HW.out hb⟩
  · have hib : (m.ins == n.ins) = false := by simpa using hi
    have HI := Lib.hid hib
    clear hi
    go_enter Try.func10, Try.ntmps10
    go_wp2
    go_ret
    exact ⟨ret_bool (by rw [HD.out, HI.out]; rfl), HW.out⟩
set_option maxHeartbeats 1000000 in
theorem netOk_any (n : N) (A : Option Addr) (c : Nat) (w : World) (h : Lay.gate.Rd w A n.gs) (hn : n.gs.length ≤ 1048576) (hi : okInts n) :
    Calls Try.prog 11 #[.agg #[.int .i64 n.ins, .slice A n.gs.length c]] w fun e w' => e = .returned (.bool (netOk n)) ∧ Below w.heap.size w w' := by
  have hw : Below w.heap.size w (w.alloc (.cells #[.int .i64 n.ins, .slice A n.gs.length c] 25)) := (Below.refl _ _).alloc (Nat.le_refl _) _
  have hA : A = none → n.gs.length = 0 := fun e => by
    rcases Nat.eq_zero_or_pos n.gs.length with h0 | h0
    · exact h0
    · obtain ⟨ad, e', _⟩ := h h0; rw [e] at e'; cases e'
  have HC := Lib.hid (readNet_any A c n _ (h.up hw) hn hA hi)
  have HW := Lib.hid hw
  clear hw hA
  go_enter Try.func11, Try.ntmps11
  go_wp2_with fail
  refine HC.out.mono ?_
  rintro e w1 ⟨hb, hres⟩
  rcases hres with ⟨hok, r, rfl, _⟩ | ⟨hok, rfl⟩
  · have HK := Lib.hid hok
    clear hok
    go_wp2
    go_ret
    exact ⟨ret_bool HK.out.symm, bthen HW.out hb⟩
  · have HK := Lib.hid hok
    clear hok
    go_wp2
    go_ret
    exact ⟨ret_bool HK.out.symm, bthen HW.out hb⟩
end Go.Proofs.Ytcdlfnhjpjpbjaa
