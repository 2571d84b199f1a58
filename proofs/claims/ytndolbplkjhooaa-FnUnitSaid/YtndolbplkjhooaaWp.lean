/- The laws' own comparison of integer rows. -/
import Derived.Test.YtndolbplkjhooaaInts1
import Derived.Test.YtndolbplkjhooaaCnf5
namespace Go.Proofs.Ytndolbplkjhooaa
open Go Go.RowKit

set_option maxHeartbeats 400000 in
theorem wpInts_any (A B : Option Addr) (c d : Nat) (xs ys : List Int) (F G : Nat → Prop) (w : World) (h : Lay.int.Sl w F A xs) (h' : Lay.int.Sl w G B ys) (hn : xs.length ≤ 1048576) (hn' : ys.length ≤ 1048576) :
    Calls Try.prog 19 #[.slice A xs.length c, .slice B ys.length d] w fun e w' => e = .returned (.bool (decide (xs = ys))) ∧ ∃ n, w' = w.drewN n := by
  by_cases hl : xs.length = ys.length
  · have hne : (((xs.length : Int) != (ys.length : Int))) = false := by simp [hl]
    have HL := Lib.hid hl
    clear hl
    go_enter Try.func19, Try.ntmps19
    go_wp2
    clear hne
    go_loopw [5] (fun i wr => ∃ k m : Nat, k ≤ xs.length ∧ i = .int .i64 k ∧ wr = w.drewN m ∧ xs.take k = ys.take k) (fun i _ => xs.length - (intOf i).toNat)
    case atStart => exact ⟨0, 0, Nat.zero_le _, rfl, rfl, rfl⟩
    case round =>
      obtain ⟨k, m, hk, rfl, rfl, ht⟩ := hrel
      have HT := Lib.hid ht
      clear ht
      by_cases hlt : k < xs.length
      · have hlt' : k < ys.length := by have := HL.out; omega
        obtain ⟨ad, rfl, hf, hc⟩ := h.at_int hlt
        obtain ⟨ad', rfl, hf', hc'⟩ := h'.at_int hlt'
        have hk0 : (0 : Int) ≤ k := by omega
        have hk1 : (k : Int) < xs.length := by omega
        have hk2 : (k : Int) < ys.length := by omega
        clear h h' hf hf'
        by_cases hxy : xs[k] = ys[k]
        · have hb : (xs[k] != ys[k]) = false := by simp [hxy]
          have HX := Lib.hid hxy
          clear hxy
          go_wp2
          go_quiet (fail)
          go_wp2
          go_roundw
          case rel => exact ⟨k + 1, _, by omega, by go_num, rfl, take_eq_step hlt hlt' HT.out HX.out⟩
          case measure => simp [intOf]; omega
        · have hb : (xs[k] != ys[k]) = true := by simp [hxy]
          go_wp2
          go_quiet (fail)
          go_wp2
          go_ret
          exact ⟨ret_bool (by simp; rintro rfl; exact hxy rfl), m + nq, by rw [World.drewN_drewN]⟩
      · have : k = xs.length := by omega
        subst this
        go_wp2
        go_ret
        exact ⟨ret_bool (by have := HL.out; have := HT.out; simp [eq_of_take HL.out HT.out]), _, rfl⟩
  · have hne : (((xs.length : Int) != (ys.length : Int))) = true := by simp; omega
    go_enter Try.func19, Try.ntmps19
    go_wp2
    go_ret
    exact ⟨ret_bool (by simp; rintro rfl; exact hl rfl), 0, rfl⟩

theorem wpInts_u (xs ys : List Int) (A B : Option Addr) (c d : Nat) (w : World) (h : Lay.int.Rd w A xs) (h' : Lay.int.Rd w B ys) (hs : xs.length ≤ 1048576) (hs' : ys.length ≤ 1048576) :
    Calls Try.prog 19 #[.slice A xs.length c, .slice B ys.length d] w (RetB w (decide (xs = ys))) :=
  (wpInts_any A B c d xs ys _ _ w h h' hs hs').mono fun _ _ ⟨h, m, hm⟩ => ⟨h, by rw [hm]; exact below_drewN (Below.refl _ _) m⟩
end Go.Proofs.Ytndolbplkjhooaa
