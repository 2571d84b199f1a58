/- Contracts of NetLit and BitsVal, the program's and the reference's. -/
import Derived.Test.YtcdlfnhjpjpbjaaRdr
namespace Go.Proofs.Ytcdlfnhjpjpbjaa
open Go Go.RowKit

def sigOf (s m : Int) : Bool := decide (s ≠ 0 ∧ -m ≤ s ∧ s ≤ m)
def netLit (vals : List Bool) (m : Int) : Bool := sigOf m vals.length && (vals.getD (m.natAbs - 1) false == decide (0 < m))

theorem of_any (s m : Int) (w : World) (h0 : -9223372036854775808 ≤ s) (h1 : s ≤ 9223372036854775807) (m0 : 0 ≤ m) (m1 : m ≤ 9223372036854775807) :
    Calls Try.prog 60 #[.int .i64 s, .int .i64 m] w fun e w' => e = .returned (.bool (sigOf s m)) ∧ w = w' := by
  by_cases hs : s = 0
  · subst hs
    go_enter Try.func60, Try.ntmps60
    go_wp2
    go_ret
    exact ⟨by simp [sigOf], rfl⟩
  · by_cases ha : -m ≤ s
    · go_enter Try.func60, Try.ntmps60
      go_wp2
      go_ret
      exact ⟨ret_bool (by simp [sigOf, hs, ha]), rfl⟩
    · go_enter Try.func60, Try.ntmps60
      go_wp2
      go_ret
      exact ⟨ret_bool (by simp [sigOf, hs]; omega), rfl⟩

theorem node_any (n : Int) (w : World) (h0 : -9223372036854775808 < n) (h1 : n ≤ 9223372036854775807) :
    Calls Try.prog 62 #[.int .i64 n] w fun e w' => e = .returned (.int .i64 n.natAbs) ∧ w = w' := by
  by_cases h : n < 0
  all_goals
    go_enter Try.func62, Try.ntmps62
    go_wp2
    go_ret
    exact ⟨ret_int (by omega), rfl⟩

theorem netLit_yes {vals : List Bool} {m : Int} (h : sigOf m vals.length = true) (hk : m.natAbs - 1 < vals.length) : netLit vals m = (vals[m.natAbs - 1] == decide (0 < m)) := by
  simp [netLit, h, List.getD_eq_getElem?_getD, List.getElem?_eq_getElem hk]

theorem implNetLit_any (A : Option Addr) (c : Nat) (vals : List Bool) (m : Int) (F : Nat → Prop) (w : World) (h : Lay.bool.Sl w F A vals) (hn : vals.length ≤ 9223372036854775807)
    (h0 : -9223372036854775808 ≤ m) (h1 : m ≤ 9223372036854775807) :
    Calls Try.prog 35 #[.slice A vals.length c, .int .i64 m] w fun e w' => e = .returned (.bool (netLit vals m)) ∧ w = w' := by
  by_cases hs : sigOf m vals.length = true
  · have hs' : m ≠ 0 ∧ -(vals.length : Int) ≤ m ∧ m ≤ vals.length := by simpa [sigOf] using hs
    have hk : m.natAbs - 1 < vals.length := by omega
    obtain ⟨ad, rfl, hf, hc⟩ := h.at_bool hk
    have hN := Lib.hid (netLit_yes hs hk)
    have hb0 : (0 : Int) ≤ (m.natAbs : Int) - 1 := by omega
    have hb1 : (m.natAbs : Int) - 1 < vals.length := by omega
    have he : ((m.natAbs : Int) - 1).toNat = m.natAbs - 1 := by omega
    have hm : 0 ≤ (m.natAbs : Int) := by omega
    go_enter Try.func35, Try.ntmps35
    go_wp2_with (first | (go_at_call 60; refine (of_any _ _ _ h0 h1 (by omega) (by omega)).mono ?_; rintro e w' ⟨rfl, rfl⟩) | (go_at_call 62; refine (node_any _ _ (by omega) h1).mono ?_; rintro e w' ⟨rfl, rfl⟩))
    go_ret
    exact ⟨ret_bool (by rw [hN.out]), rfl⟩
  · have hN : netLit vals m = false := by simp [netLit, hs]
    have hN := Lib.hid hN
    have hs : sigOf m vals.length = false := by simpa using hs
    go_enter Try.func35, Try.ntmps35
    go_wp2_with (first | (go_at_call 60; refine (of_any _ _ _ h0 h1 (by omega) (by omega)).mono ?_; rintro e w' ⟨rfl, rfl⟩))
    go_ret
    exact ⟨ret_bool (by rw [hN.out]), rfl⟩

theorem netLit_pos {vals : List Bool} {m : Int} (hp : 0 < m) (hk : m.toNat - 1 < vals.length) : netLit vals m = vals[m.toNat - 1] := by
  have e : m.natAbs - 1 = m.toNat - 1 := by omega
  have hs : sigOf m vals.length = true := by simp [sigOf]; omega
  simp [netLit, hs, List.getD_eq_getElem?_getD, e, List.getElem?_eq_getElem hk, hp]
theorem netLit_neg {vals : List Bool} {m : Int} (hp : m < 0) (hk : (-m).toNat - 1 < vals.length) : netLit vals m = !vals[(-m).toNat - 1] := by
  have e : m.natAbs - 1 = (-m).toNat - 1 := by omega
  have hs : sigOf m vals.length = true := by simp [sigOf]; omega
  have hp' : ¬ 0 < m := by omega
  simp [netLit, hs, List.getD_eq_getElem?_getD, e, List.getElem?_eq_getElem hk, hp']
theorem netLit_not {vals : List Bool} {m : Int} (h : ¬ (m ≠ 0 ∧ -(vals.length : Int) ≤ m ∧ m ≤ vals.length)) : netLit vals m = false := by
  have hs : sigOf m vals.length = false := by simp only [sigOf, decide_eq_false_iff_not]; exact h
  simp [netLit, hs]

def bitsOf (f : Int → Bool) : List Int → Int
  | [] => 0
  | m :: ms => (if f m then 1 else 0) + 2 * bitsOf f ms
def bitsVal (vals : List Bool) (a : List Int) : Int := if 4 < a.length then 0 else bitsOf (netLit vals) a
theorem bitsOf_lt (f : Int → Bool) (a : List Int) : 0 ≤ bitsOf f a ∧ bitsOf f a < 2 ^ a.length := by
  induction a with
  | nil => simp [bitsOf]
  | cons m ms ih =>
    have e : (2 : Int) ^ (m :: ms).length = 2 * 2 ^ ms.length := by rw [List.length_cons, Int.pow_succ, Int.mul_comm]
    rw [e]
    unfold bitsOf
    split <;> omega
theorem bitsOf_snoc (f : Int → Bool) (a : List Int) (m : Int) : bitsOf f (a ++ [m]) = bitsOf f a + if f m then 2 ^ a.length else 0 := by
  induction a with
  | nil => simp [bitsOf]
  | cons x xs ih =>
    have e : (2 : Int) ^ (x :: xs).length = 2 * 2 ^ xs.length := by rw [List.length_cons, Int.pow_succ, Int.mul_comm]
    rw [List.cons_append, e]
    unfold bitsOf
    rw [ih]
    split <;> split <;> omega
theorem i64_or_nat (a b : Nat) (ha : a < 9223372036854775808) (hb : b < 9223372036854775808) : bits .or .i64 (a : Int) (b : Int) = ((a ||| b : Nat) : Int) := by
  have hx : a ||| b < 2 ^ 63 := Nat.or_lt_two_pow (by omega) (by omega)
  show IntKind.i64.wrap ((BitVec.ofInt 64 (a : Int) ||| BitVec.ofInt 64 (b : Int)).toNat : Int) = _
  rw [BitVec.toNat_or, ofInt_i64 a ha, ofInt_i64 b hb, IntKind.wrap_i64]
  omega
theorem bitsOf_or (f : Int → Bool) (a : List Int) (hl : a.length ≤ 4) : bits .or .i64 (bitsOf f a) (2 ^ a.length) = bitsOf f a + 2 ^ a.length := by
  obtain ⟨h0, h1⟩ := bitsOf_lt f a
  generalize bitsOf f a = n at *
  obtain ⟨k, rfl⟩ := Int.eq_ofNat_of_zero_le h0
  generalize a.length = l at *
  have h1' : k < 2 ^ l := by exact_mod_cast h1
  have hl' : 2 ^ l ≤ 2 ^ 4 := Nat.pow_le_pow_right (by omega) hl
  have e : ((2 : Int) ^ l) = ((2 ^ l : Nat) : Int) := by simp
  rw [e, i64_or_nat _ _ (by omega) (by omega), Nat.or_comm]
  have := Nat.two_pow_add_eq_or_of_lt h1' 1
  rw [Nat.mul_one] at this
  rw [← this]; omega

theorem wrap_two (k : Nat) (h : k ≤ 4) : wrap64 ((2 : Int) ^ k) = 2 ^ k := by
  have : k = 0 ∨ k = 1 ∨ k = 2 ∨ k = 3 ∨ k = 4 := by omega
  rcases this with rfl | rfl | rfl | rfl | rfl <;> simp [wrap64]
theorem take_snoc {α : Type} (a : List α) (k : Nat) (h : k < a.length) : a.take (k + 1) = a.take k ++ [a[k]] := List.take_succ_eq_append_getElem h

theorem bitsOf_drop (f : Int → Bool) (a : List Int) (k : Nat) (h : k < a.length) : bitsOf f (a.drop k) = 2 * bitsOf f (a.drop (k + 1)) + if f a[k] then 1 else 0 := by
  rw [List.drop_eq_getElem_cons h]
  show (if f a[k] = true then (1 : Int) else 0) + 2 * bitsOf f (a.drop (k + 1)) = _
  omega

theorem bitsOf_small (f : Int → Bool) (a : List Int) (h : a.length ≤ 4) : 0 ≤ bitsOf f a ∧ bitsOf f a < 16 := by
  obtain ⟨h0, h1⟩ := bitsOf_lt f a
  have h2 : 2 ^ a.length ≤ 2 ^ 4 := Nat.pow_le_pow_right (by omega) h
  have e : ((2 : Int) ^ a.length) = ((2 ^ a.length : Nat) : Int) := by simp
  omega

end Go.Proofs.Ytcdlfnhjpjpbjaa
