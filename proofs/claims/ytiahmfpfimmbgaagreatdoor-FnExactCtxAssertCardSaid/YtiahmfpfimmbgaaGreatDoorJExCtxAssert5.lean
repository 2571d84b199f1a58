/- The kinds' methods: kids, sort. The program's terms: count, TermMany, plain. The program's terms: TermMany, plain. Clauses, what is put, unit propagation: the plain law. No program is named here. A drawn region whose operations but the last ones are quiet in every later world, and whose last ones come in one forced order. No program is named here. Contracts of the laws' sizes, copies and comparisons of clauses; the reference's CnfOk. The call's own rows of integers. append of one integer onto a row of the call's own, and where the row lies then. -/
import Derived.StillTail
import Derived.Test.YtiahmfpfimmbgaaGreatDoorChecked
import Derived.Test.YtiahmfpfimmbgaaGreatDoorJExCtxAssert0
import Derived.Test.YtiahmfpfimmbgaaGreatDoorJExCtxAssert1
import Derived.Test.YtiahmfpfimmbgaaGreatDoorJExCtxAssert3
import Derived.Test.YtiahmfpfimmbgaaGreatDoorJExCtxAssert4
/-! The kinds' methods: kids, sort. -/
namespace Go.Proofs.YtiahmfpfimmbgaaGreatDoor
open Go Go.RowKit

def sortedV (b : Bool) (n : Int) : Int := if b = true then n else -1
set_option maxHeartbeats 1000000 in
theorem sorted_any (b : Bool) (n : Int) (w : World) : Calls Tryz.prog 167 #[.bool b, .int .i64 n] w fun e w' => e = .returned (.int .i64 (sortedV b n)) ∧ w = w' := by
  cases b <;>
  · go_enter Tryz.func167, Tryz.ntmps167
    go_wp2
    go_ret
    exact ⟨rfl, rfl⟩
set_option maxHeartbeats 1000000 in
theorem kids_any (s : ByteArray) (n : Int) (w : World) : Calls Tryz.prog 163 #[.agg #[.string s, .int .i64 n]] w fun e w' => e = .returned (.int .i64 n) ∧ Below w.heap.size w w' := by
  have HAL := Lib.hid ((Below.refl w.heap.size w).alloc (Nat.le_refl _) (.cells #[.string s, .int .i64 n] 154))
  go_enter Tryz.func163, Tryz.ntmps163
  go_wp2
  go_ret
  exact ⟨rfl, HAL.out⟩

def unK (s : Int) : Int := if 0 < s then s else -1
def binK (s r : Int) : Int := if 0 < s then (if s = r then s else -1) else -1
def catK (s r : Int) : Int := if 0 < s then (if 0 < r then (if s + r ≤ 4 then s + r else -1) else -1) else -1
def cmpK (s r : Int) : Int := if 0 < s then (if s = r then 0 else -1) else -1
def cutK (a b s : Int) : Int := if 0 ≤ b then (if b ≤ a then (if a < s then a - b + 1 else -1) else -1) else -1
set_option maxRecDepth 100000 in
set_option maxHeartbeats 4000000 in
theorem unSort_any (u : ByteArray) (m : Int) (V : Value) (op a b : Int) (nm : ByteArray) (A : Option Addr) (n c : Nat) (s : Int) (ad : Addr) (c9 : Nat) (w : World) (hs : 0 ≤ s ∧ s ≤ 4) (hlt : ad.block < w.heap.size) (k0 : w.cell? ad = some (.int .i64 s)) :
    Calls Tryz.prog 165 #[.agg #[.string u, .int .i64 m], V, .agg #[.int .i64 op, .int .i64 a, .int .i64 b, .string nm, .slice A n c], .slice (some ad) 1 c9] w fun e w' => e = .returned (.int .i64 (unK s)) ∧ Below w.heap.size w w' := by
  have HAL := Lib.hid (((Below.refl w.heap.size w).alloc (Nat.le_refl _) (.cells #[.string u, .int .i64 m] 156)).alloc (by simp) (.cells #[.int .i64 op, .int .i64 a, .int .i64 b, .string nm, .slice A n c] 48))
  have k0 := (HAL.out.cell (p := ad) hlt).trans k0
  obtain ⟨z, hz⟩ : ∃ z, z = unK s := ⟨_, rfl⟩
  rw [← hz]
  have HZ := Lib.hid hz
  clear hz
  by_cases h1 : 0 < s
  · have g1 : decide (0 < s) = true := decide_eq_true h1
    have HX : Hid (z = s) := Lib.hid (by rw [HZ.out]; unfold unK; rw [if_pos h1])
    go_enter Tryz.func165, Tryz.ntmps165
    go_wp2
    go_quiet ((go_at_call 167; exact quiet_left (sorted_any _ _ _)))
    go_wp2
    go_ret
    exact ⟨ret_int (by rw [HX.out]; first | rfl | (simp [sortedV]; done) | (simp [sortedV]; omega)), below_drewN HAL.out _⟩
  · have g1 : decide (0 < s) = false := decide_eq_false h1
    have HX : Hid (z = -1) := Lib.hid (by rw [HZ.out]; unfold unK; rw [if_neg h1])
    go_enter Tryz.func165, Tryz.ntmps165
    go_wp2
    go_quiet ((go_at_call 167; exact quiet_left (sorted_any _ _ _)))
    go_wp2
    go_ret
    exact ⟨ret_int (by rw [HX.out]; first | rfl | (simp [sortedV]; done) | (simp [sortedV]; omega)), below_drewN HAL.out _⟩
set_option maxRecDepth 100000 in
set_option maxHeartbeats 4000000 in
theorem binSort_any (u : ByteArray) (m : Int) (V : Value) (op a b : Int) (nm : ByteArray) (A : Option Addr) (n c : Nat) (s r : Int) (ad : Addr) (c9 : Nat) (w : World) (hs : 0 ≤ s ∧ s ≤ 4) (hr : 0 ≤ r ∧ r ≤ 4) (hlt : ad.block < w.heap.size) (k0 : w.cell? ad = some (.int .i64 s)) (k1 : w.cell? ⟨ad.block, ad.off + 1, none⟩ = some (.int .i64 r)) :
    Calls Tryz.prog 187 #[.agg #[.string u, .int .i64 m], V, .agg #[.int .i64 op, .int .i64 a, .int .i64 b, .string nm, .slice A n c], .slice (some ad) 2 c9] w fun e w' => e = .returned (.int .i64 (binK s r)) ∧ Below w.heap.size w w' := by
  have HAL := Lib.hid (((Below.refl w.heap.size w).alloc (Nat.le_refl _) (.cells #[.string u, .int .i64 m] 167)).alloc (by simp) (.cells #[.int .i64 op, .int .i64 a, .int .i64 b, .string nm, .slice A n c] 48))
  have k0 := (HAL.out.cell (p := ad) hlt).trans k0
  have k1 := (HAL.out.cell (p := ⟨ad.block, ad.off + 1, none⟩) hlt).trans k1
  obtain ⟨z, hz⟩ : ∃ z, z = binK s r := ⟨_, rfl⟩
  rw [← hz]
  have HZ := Lib.hid hz
  clear hz
  by_cases h1 : 0 < s
  · have g1 : decide (0 < s) = true := decide_eq_true h1
    by_cases h2 : s = r
    · subst h2
      have HX : Hid (z = s) := Lib.hid (by rw [HZ.out]; unfold binK; rw [if_pos h1, if_pos rfl])
      go_enter Tryz.func187, Tryz.ntmps187
      go_wp2
      go_quiet ((go_at_call 167; exact quiet_left (sorted_any _ _ _)))
      go_wp2
      go_ret
      exact ⟨ret_int (by rw [HX.out]; first | rfl | (simp [sortedV]; done) | (simp [sortedV]; omega)), below_drewN HAL.out _⟩
    · have g2 : (s == r) = false := by simpa using h2
      have HX : Hid (z = -1) := Lib.hid (by rw [HZ.out]; unfold binK; rw [if_pos h1, if_neg h2])
      go_enter Tryz.func187, Tryz.ntmps187
      go_wp2
      go_quiet ((go_at_call 167; exact quiet_left (sorted_any _ _ _)))
      go_wp2
      go_ret
      exact ⟨ret_int (by rw [HX.out]; first | rfl | (simp [sortedV]; done) | (simp [sortedV]; omega)), below_drewN HAL.out _⟩
  · have g1 : decide (0 < s) = false := decide_eq_false h1
    have HX : Hid (z = -1) := Lib.hid (by rw [HZ.out]; unfold binK; rw [if_neg h1])
    go_enter Tryz.func187, Tryz.ntmps187
    go_wp2
    go_quiet ((go_at_call 167; exact quiet_left (sorted_any _ _ _)))
    go_wp2
    go_ret
    exact ⟨ret_int (by rw [HX.out]; first | rfl | (simp [sortedV]; done) | (simp [sortedV]; omega)), below_drewN HAL.out _⟩
set_option maxRecDepth 100000 in
set_option maxHeartbeats 4000000 in
theorem cmpSort_any (u : ByteArray) (m : Int) (V : Value) (op a b : Int) (nm : ByteArray) (A : Option Addr) (n c : Nat) (s r : Int) (ad : Addr) (c9 : Nat) (w : World) (hs : 0 ≤ s ∧ s ≤ 4) (hr : 0 ≤ r ∧ r ≤ 4) (hlt : ad.block < w.heap.size) (k0 : w.cell? ad = some (.int .i64 s)) (k1 : w.cell? ⟨ad.block, ad.off + 1, none⟩ = some (.int .i64 r)) :
    Calls Tryz.prog 170 #[.agg #[.string u, .int .i64 m], V, .agg #[.int .i64 op, .int .i64 a, .int .i64 b, .string nm, .slice A n c], .slice (some ad) 2 c9] w fun e w' => e = .returned (.int .i64 (cmpK s r)) ∧ Below w.heap.size w w' := by
  have HAL := Lib.hid (((Below.refl w.heap.size w).alloc (Nat.le_refl _) (.cells #[.string u, .int .i64 m] 158)).alloc (by simp) (.cells #[.int .i64 op, .int .i64 a, .int .i64 b, .string nm, .slice A n c] 48))
  have k0 := (HAL.out.cell (p := ad) hlt).trans k0
  have k1 := (HAL.out.cell (p := ⟨ad.block, ad.off + 1, none⟩) hlt).trans k1
  obtain ⟨z, hz⟩ : ∃ z, z = cmpK s r := ⟨_, rfl⟩
  rw [← hz]
  have HZ := Lib.hid hz
  clear hz
  by_cases h1 : 0 < s
  · have g1 : decide (0 < s) = true := decide_eq_true h1
    by_cases h2 : s = r
    · subst h2
      have HX : Hid (z = 0) := Lib.hid (by rw [HZ.out]; unfold cmpK; rw [if_pos h1, if_pos rfl])
      go_enter Tryz.func170, Tryz.ntmps170
      go_wp2
      go_quiet ((go_at_call 167; exact quiet_left (sorted_any _ _ _)))
      go_wp2
      go_ret
      exact ⟨ret_int (by rw [HX.out]; first | rfl | (simp [sortedV]; done) | (simp [sortedV]; omega)), below_drewN HAL.out _⟩
    · have g2 : (s == r) = false := by simpa using h2
      have HX : Hid (z = -1) := Lib.hid (by rw [HZ.out]; unfold cmpK; rw [if_pos h1, if_neg h2])
      go_enter Tryz.func170, Tryz.ntmps170
      go_wp2
      go_quiet ((go_at_call 167; exact quiet_left (sorted_any _ _ _)))
      go_wp2
      go_ret
      exact ⟨ret_int (by rw [HX.out]; first | rfl | (simp [sortedV]; done) | (simp [sortedV]; omega)), below_drewN HAL.out _⟩
  · have g1 : decide (0 < s) = false := decide_eq_false h1
    have HX : Hid (z = -1) := Lib.hid (by rw [HZ.out]; unfold cmpK; rw [if_neg h1])
    go_enter Tryz.func170, Tryz.ntmps170
    go_wp2
    go_quiet ((go_at_call 167; exact quiet_left (sorted_any _ _ _)))
    go_wp2
    go_ret
    exact ⟨ret_int (by rw [HX.out]; first | rfl | (simp [sortedV]; done) | (simp [sortedV]; omega)), below_drewN HAL.out _⟩
set_option maxRecDepth 100000 in
set_option maxHeartbeats 4000000 in
theorem catSort_any (u : ByteArray) (m : Int) (V : Value) (op a b : Int) (nm : ByteArray) (A : Option Addr) (n c : Nat) (s r : Int) (ad : Addr) (c9 : Nat) (w : World) (hs : 0 ≤ s ∧ s ≤ 4) (hr : 0 ≤ r ∧ r ≤ 4) (hlt : ad.block < w.heap.size) (k0 : w.cell? ad = some (.int .i64 s)) (k1 : w.cell? ⟨ad.block, ad.off + 1, none⟩ = some (.int .i64 r)) :
    Calls Tryz.prog 168 #[.agg #[.string u, .int .i64 m], V, .agg #[.int .i64 op, .int .i64 a, .int .i64 b, .string nm, .slice A n c], .slice (some ad) 2 c9] w fun e w' => e = .returned (.int .i64 (catK s r)) ∧ Below w.heap.size w w' := by
  have HAL := Lib.hid (((Below.refl w.heap.size w).alloc (Nat.le_refl _) (.cells #[.string u, .int .i64 m] 157)).alloc (by simp) (.cells #[.int .i64 op, .int .i64 a, .int .i64 b, .string nm, .slice A n c] 48))
  have k0 := (HAL.out.cell (p := ad) hlt).trans k0
  have k1 := (HAL.out.cell (p := ⟨ad.block, ad.off + 1, none⟩) hlt).trans k1
  obtain ⟨z, hz⟩ : ∃ z, z = catK s r := ⟨_, rfl⟩
  rw [← hz]
  have HZ := Lib.hid hz
  clear hz
  by_cases h1 : 0 < s
  · have g1 : decide (0 < s) = true := decide_eq_true h1
    by_cases h2 : 0 < r
    · have g2 : decide (0 < r) = true := decide_eq_true h2
      by_cases h3 : s + r ≤ 4
      · have g3 : decide (s + r ≤ 4) = true := decide_eq_true h3
        have HX : Hid (z = s + r) := Lib.hid (by rw [HZ.out]; unfold catK; rw [if_pos h1, if_pos h2, if_pos h3])
        go_enter Tryz.func168, Tryz.ntmps168
        go_wp2
        go_quiet ((go_at_call 167; exact quiet_left (sorted_any _ _ _)))
        go_wp2
        go_ret
        exact ⟨ret_int (by rw [HX.out]; first | rfl | (simp [sortedV]; done) | (simp [sortedV]; omega)), below_drewN HAL.out _⟩
      · have g3 : decide (s + r ≤ 4) = false := decide_eq_false h3
        have HX : Hid (z = -1) := Lib.hid (by rw [HZ.out]; unfold catK; rw [if_pos h1, if_pos h2, if_neg h3])
        go_enter Tryz.func168, Tryz.ntmps168
        go_wp2
        go_quiet ((go_at_call 167; exact quiet_left (sorted_any _ _ _)))
        go_wp2
        go_ret
        exact ⟨ret_int (by rw [HX.out]; first | rfl | (simp [sortedV]; done) | (simp [sortedV]; omega)), below_drewN HAL.out _⟩
    · have g2 : decide (0 < r) = false := decide_eq_false h2
      have HX : Hid (z = -1) := Lib.hid (by rw [HZ.out]; unfold catK; rw [if_pos h1, if_neg h2])
      go_enter Tryz.func168, Tryz.ntmps168
      go_wp2
      go_quiet ((go_at_call 167; exact quiet_left (sorted_any _ _ _)))
      go_wp2
      go_ret
      exact ⟨ret_int (by rw [HX.out]; first | rfl | (simp [sortedV]; done) | (simp [sortedV]; omega)), below_drewN HAL.out _⟩
  · have g1 : decide (0 < s) = false := decide_eq_false h1
    have HX : Hid (z = -1) := Lib.hid (by rw [HZ.out]; unfold catK; rw [if_neg h1])
    go_enter Tryz.func168, Tryz.ntmps168
    go_wp2
    go_quiet ((go_at_call 167; exact quiet_left (sorted_any _ _ _)))
    go_wp2
    go_ret
    exact ⟨ret_int (by rw [HX.out]; first | rfl | (simp [sortedV]; done) | (simp [sortedV]; omega)), below_drewN HAL.out _⟩
set_option maxRecDepth 100000 in
set_option maxHeartbeats 4000000 in
theorem ifSort_any (u : ByteArray) (m : Int) (V : Value) (op a b : Int) (nm : ByteArray) (A : Option Addr) (n c : Nat) (s r q : Int) (ad : Addr) (c9 : Nat) (w : World) (hs : 0 ≤ s ∧ s ≤ 4) (hr : 0 ≤ r ∧ r ≤ 4) (hq : 0 ≤ q ∧ q ≤ 4) (hlt : ad.block < w.heap.size) (k0 : w.cell? ad = some (.int .i64 s)) (k1 : w.cell? ⟨ad.block, ad.off + 1, none⟩ = some (.int .i64 r)) (k2 : w.cell? ⟨ad.block, ad.off + 2, none⟩ = some (.int .i64 q)) :
    Calls Tryz.prog 180 #[.agg #[.string u, .int .i64 m], V, .agg #[.int .i64 op, .int .i64 a, .int .i64 b, .string nm, .slice A n c], .slice (some ad) 3 c9] w fun e w' => e = .returned (.int .i64 (threeK s r q)) ∧ Below w.heap.size w w' := by
  have HAL := Lib.hid (((Below.refl w.heap.size w).alloc (Nat.le_refl _) (.cells #[.string u, .int .i64 m] 162)).alloc (by simp) (.cells #[.int .i64 op, .int .i64 a, .int .i64 b, .string nm, .slice A n c] 48))
  have k0 := (HAL.out.cell (p := ad) hlt).trans k0
  have k1 := (HAL.out.cell (p := ⟨ad.block, ad.off + 1, none⟩) hlt).trans k1
  have k2 := (HAL.out.cell (p := ⟨ad.block, ad.off + 2, none⟩) hlt).trans k2
  obtain ⟨z, hz⟩ : ∃ z, z = threeK s r q := ⟨_, rfl⟩
  rw [← hz]
  have HZ := Lib.hid hz
  clear hz
  by_cases h1 : s = 0
  · subst h1
    by_cases h2 : r = q
    · subst h2
      have HX : Hid (z = r) := Lib.hid (by rw [HZ.out]; unfold threeK; rw [if_pos rfl, if_pos rfl])
      go_enter Tryz.func180, Tryz.ntmps180
      go_wp2
      go_quiet ((go_at_call 167; exact quiet_left (sorted_any _ _ _)))
      go_wp2
      go_ret
      exact ⟨ret_int (by rw [HX.out]; first | rfl | (simp [sortedV]; done) | (simp [sortedV]; omega)), below_drewN HAL.out _⟩
    · have g2 : (r == q) = false := by simpa using h2
      have HX : Hid (z = -1) := Lib.hid (by rw [HZ.out]; unfold threeK; rw [if_pos rfl, if_neg h2])
      go_enter Tryz.func180, Tryz.ntmps180
      go_wp2
      go_quiet ((go_at_call 167; exact quiet_left (sorted_any _ _ _)))
      go_wp2
      go_ret
      exact ⟨ret_int (by rw [HX.out]; first | rfl | (simp [sortedV]; done) | (simp [sortedV]; omega)), below_drewN HAL.out _⟩
  · have g1 : (s == 0) = false := by simpa using h1
    have HX : Hid (z = -1) := Lib.hid (by rw [HZ.out]; unfold threeK; rw [if_neg h1])
    go_enter Tryz.func180, Tryz.ntmps180
    go_wp2
    go_quiet ((go_at_call 167; exact quiet_left (sorted_any _ _ _)))
    go_wp2
    go_ret
    exact ⟨ret_int (by rw [HX.out]; first | rfl | (simp [sortedV]; done) | (simp [sortedV]; omega)), below_drewN HAL.out _⟩
set_option maxRecDepth 100000 in
set_option maxHeartbeats 4000000 in
theorem cutSort_any (u : ByteArray) (m : Int) (V : Value) (op a b : Int) (nm : ByteArray) (A : Option Addr) (n c : Nat) (s : Int) (ad : Addr) (c9 : Nat) (w : World) (hs : 0 ≤ s ∧ s ≤ 4) (hlt : ad.block < w.heap.size) (k0 : w.cell? ad = some (.int .i64 s)) :
    Calls Tryz.prog 178 #[.agg #[.string u, .int .i64 m], V, .agg #[.int .i64 op, .int .i64 a, .int .i64 b, .string nm, .slice A n c], .slice (some ad) 1 c9] w fun e w' => e = .returned (.int .i64 (cutK a b s)) ∧ Below w.heap.size w w' := by
  have HAL := Lib.hid (((Below.refl w.heap.size w).alloc (Nat.le_refl _) (.cells #[.string u, .int .i64 m] 161)).alloc (by simp) (.cells #[.int .i64 op, .int .i64 a, .int .i64 b, .string nm, .slice A n c] 48))
  have k0 := (HAL.out.cell (p := ad) hlt).trans k0
  obtain ⟨z, hz⟩ : ∃ z, z = cutK a b s := ⟨_, rfl⟩
  rw [← hz]
  have HZ := Lib.hid hz
  clear hz
  by_cases h1 : 0 ≤ b
  · have g1 : decide (0 ≤ b) = true := decide_eq_true h1
    by_cases h2 : b ≤ a
    · have g2 : decide (b ≤ a) = true := decide_eq_true h2
      by_cases h3 : a < s
      · have g3 : decide (a < s) = true := decide_eq_true h3
        have HX : Hid (z = a - b + 1) := Lib.hid (by rw [HZ.out]; unfold cutK; rw [if_pos h1, if_pos h2, if_pos h3])
        go_enter Tryz.func178, Tryz.ntmps178
        go_wp2
        go_quiet ((go_at_call 167; exact quiet_left (sorted_any _ _ _)))
        go_wp2
        go_ret
        exact ⟨ret_int (by rw [HX.out]; first | rfl | (simp [sortedV]; done) | (simp [sortedV]; omega)), below_drewN HAL.out _⟩
      · have g3 : decide (a < s) = false := decide_eq_false h3
        have HX : Hid (z = -1) := Lib.hid (by rw [HZ.out]; unfold cutK; rw [if_pos h1, if_pos h2, if_neg h3])
        go_enter Tryz.func178, Tryz.ntmps178
        go_wp2
        go_quiet ((go_at_call 167; exact quiet_left (sorted_any _ _ _)))
        go_wp2
        go_ret
        exact ⟨ret_int (by rw [HX.out]; first | rfl | (simp [sortedV]; done) | (simp [sortedV]; omega)), below_drewN HAL.out _⟩
    · have g2 : decide (b ≤ a) = false := decide_eq_false h2
      have HX : Hid (z = -1) := Lib.hid (by rw [HZ.out]; unfold cutK; rw [if_pos h1, if_neg h2])
      go_enter Tryz.func178, Tryz.ntmps178
      go_wp2
      go_quiet ((go_at_call 167; exact quiet_left (sorted_any _ _ _)))
      go_wp2
      go_ret
      exact ⟨ret_int (by rw [HX.out]; first | rfl | (simp [sortedV]; done) | (simp [sortedV]; omega)), below_drewN HAL.out _⟩
  · have g1 : decide (0 ≤ b) = false := decide_eq_false h1
    have HX : Hid (z = -1) := Lib.hid (by rw [HZ.out]; unfold cutK; rw [if_neg h1])
    go_enter Tryz.func178, Tryz.ntmps178
    go_wp2
    go_quiet ((go_at_call 167; exact quiet_left (sorted_any _ _ _)))
    go_wp2
    go_ret
    exact ⟨ret_int (by rw [HX.out]; first | rfl | (simp [sortedV]; done) | (simp [sortedV]; omega)), below_drewN HAL.out _⟩
def vecK (a b : Int) : Int := if vecB a b = true then a else -1
theorem sorted_b (b : Bool) (n : Int) (w : World) : Calls Tryz.prog 167 #[.bool b, .int .i64 n] w fun e w' => e = .returned (.int .i64 (sortedV b n)) ∧ Below w.heap.size w w' :=
  (sorted_any b n w).mono fun _ _ ⟨h1, h2⟩ => ⟨h1, h2 ▸ Below.refl _ _⟩
set_option maxRecDepth 100000 in
set_option maxHeartbeats 4000000 in
theorem vecSort_any (u : ByteArray) (m : Int) (V K : Value) (op a b : Int) (nm : ByteArray) (A : Option Addr) (n c : Nat) (w : World) :
    Calls Tryz.prog 172 #[.agg #[.string u, .int .i64 m], V, .agg #[.int .i64 op, .int .i64 a, .int .i64 b, .string nm, .slice A n c], K] w fun e w' => e = .returned (.int .i64 (vecK a b)) ∧ Below w.heap.size w w' := by
  have HAL := Lib.hid (((Below.refl w.heap.size w).alloc (Nat.le_refl _) (.cells #[.string u, .int .i64 m] 159)).alloc (by simp) (.cells #[.int .i64 op, .int .i64 a, .int .i64 b, .string nm, .slice A n c] 48))
  have v1 : ((w.alloc (.cells #[.string u, .int .i64 m] 159)).alloc (.cells #[.int .i64 op, .int .i64 a, .int .i64 b, .string nm, .slice A n c] 48)).cell? ⟨w.heap.size + 1, 1, none⟩ = some (.int .i64 a) := by simp [go_sem]
  have v2 : ((w.alloc (.cells #[.string u, .int .i64 m] 159)).alloc (.cells #[.int .i64 op, .int .i64 a, .int .i64 b, .string nm, .slice A n c] 48)).cell? ⟨w.heap.size + 1, 2, none⟩ = some (.int .i64 b) := by simp [go_sem]
  obtain ⟨z, hz⟩ : ∃ z, z = vecK a b := ⟨_, rfl⟩
  have HZ := Lib.hid hz
  rw [← hz]
  clear hz
  obtain ⟨q, hq⟩ : ∃ q, q = vecB a b := ⟨_, rfl⟩
  have HV := Lib.hid (fun z => implVecOk_any a b z)
  rw [← hq] at HV
  have HX : Hid (z = sortedV q a) := Lib.hid (by rw [HZ.out, hq]; rfl)
  clear hq HZ
  go_enter Tryz.func172, Tryz.ntmps172
  go_wp2
  generalize (w.alloc (.cells #[.string u, .int .i64 m] 159)).alloc (.cells #[.int .i64 op, .int .i64 a, .int .i64 b, .string nm, .slice A n c] 48) = W at *
  have d1 := Later.cell v1
  have d2 := Later.cell v2
  refine wp_region_later (by kernel_rfl) (by kernel_rfl) ?_
  repeat (go_big_quiet_step ((first | (go_at_call 174; exact later_of_below (HV.out _)) | (go_at_call 167; exact later_of_below (sorted_b _ _ _)))))
  refine wpQuiet_nil ?_
  rintro _ ⟨x, rfl⟩
  go_wp2
  go_ret
  exact ⟨ret_int (by rw [HX.out]), bthen HAL.out x.le⟩
set_option maxHeartbeats 1000000 in
/-- The closure: whether a declaration has the name of the term in block b. -/
theorem nameSort1_any (y : D) (op a b : Int) (nm : ByteArray) (A : Option Addr) (n c : Nat) (B : Nat) (w : World) (hb : w.heap[B]? = some (.cells #[.int .i64 op, .int .i64 a, .int .i64 b, .string nm, .slice A n c] 48 (0, 0))) :
    Calls Tryz.prog 177 #[.agg #[.string y.name, .int .i64 y.wide], .pointer (some ⟨B, 0, none⟩)] w (RetB w (y.name.toList == nm.toList)) := by
  have hal : Below w.heap.size w (w.alloc (.cells #[.string y.name, .int .i64 y.wide] 39)) := (Below.refl _ _).alloc (Nat.le_refl _) _
  have c0 : w.cell? ⟨B, 3, none⟩ = some (.string nm) := (cell_of_block hb 3).1
  have hlt := lt_of_block hb
  have HAL := Lib.hid hal
  obtain ⟨q, hq⟩ : ∃ q, q = (y.name.toList == nm.toList) := ⟨_, rfl⟩
  rw [← hq]
  have g9 := hq.symm
  clear hal hb hq
  go_enter Tryz.func177, Tryz.ntmps177
  go_wp2
  go_ret
  exact ⟨rfl, HAL.out⟩
set_option maxHeartbeats 2000000 in
theorem indexNm_any (C : Option Addr) (d : Nat) (xs : List D) (op a b : Int) (nm : ByteArray) (A : Option Addr) (n c : Nat) (B : Nat) (F : Nat → Prop) (w : World) (h : Lay.decl.Sl w F C xs) (hF : ∀ b, F b → b < w.heap.size) (hb : w.heap[B]? = some (.cells #[.int .i64 op, .int .i64 a, .int .i64 b, .string nm, .slice A n c] 48 (0, 0))) (hn : xs.length ≤ 9223372036854775807) :
    Calls Tryz.prog 109 #[.slice C xs.length d, .func (.func 177) #[] #[.pointer (some ⟨B, 0, none⟩)]] w fun e w' => e = .returned (.int .i64 (fN 0 xs nm)) ∧ Below w.heap.size w w' := by
  have HB := Lib.hid hb
  clear hb
  go_enter Tryz.func109, Tryz.ntmps109
  go_wp2
  go_loopw [8] (fun i wr => ∃ k : Nat, k ≤ xs.length ∧ i = .int .i64 k ∧ Below w.heap.size w wr ∧ Hid (fN 0 xs nm = fN k (xs.drop k) nm)) (fun i _ => xs.length - (intOf i).toNat)
  case atStart => exact ⟨0, Nat.zero_le _, rfl, Below.refl _ _, Lib.hid rfl⟩
  case round =>
    obtain ⟨k, hk, rfl, hbr, HT⟩ := hrel
    by_cases hlt : k < xs.length
    · obtain ⟨ad, rfl, hf, c1, c2⟩ := (h.below hbr hF).at_decl hlt
      have hk1 : (k : Int) < xs.length := by omega
      have HS := Lib.hid (fN_step xs k nm hlt)
      have HC := Lib.hid (nameSort1_any xs[k] op a b nm A n c B wr ((hbr.block _ (lt_of_block HB.out)).trans HB.out))
      obtain ⟨q, hq⟩ : ∃ q, q = (xs[k].name.toList == nm.toList) := ⟨_, rfl⟩
      have HQ := Lib.hid hq
      rw [← hq] at HC
      clear hq
      go_wp2_with fail
      refine HC.out.mono ?_
      rintro e w2 ⟨rfl, hb2⟩
      have hbq := bthen hbr hb2
      cases q
      · have HE : Hid (fN 0 xs nm = fN (k + 1) (xs.drop (k + 1)) nm) := Lib.hid (by rw [HT.out, HS.out, ← HQ.out]; rfl)
        go_wp2
        go_roundw
        case rel => exact ⟨k + 1, by omega, by go_num, hbq, HE⟩
        case measure => simp [intOf]; omega
      · have HE : Hid (fN 0 xs nm = (k : Int)) := Lib.hid (by rw [HT.out, HS.out, ← HQ.out]; rfl)
        go_wp2
        go_ret
        exact ⟨ret_int (by rw [HE.out]), hbq⟩
    · have HE : Hid (fN 0 xs nm = -1) := Lib.hid (by rw [HT.out, List.drop_of_length_le (by omega)]; rfl)
      have hke : k = xs.length := by omega
      subst hke
      go_wp2
      go_ret
      exact ⟨ret_int (by rw [HE.out]), hbr⟩
set_option maxRecDepth 100000 in
set_option maxHeartbeats 4000000 in
theorem nameSort_any (u : ByteArray) (m : Int) (K : Value) (C : Option Addr) (d : Nat) (ds : List D) (op a b : Int) (nm : ByteArray) (A : Option Addr) (n c : Nat) (F : Nat → Prop) (w : World) (h : Lay.decl.Sl w F C ds) (hF : ∀ b, F b → b < w.heap.size) (hn : ds.length ≤ 9223372036854775807) :
    Calls Tryz.prog 175 #[.agg #[.string u, .int .i64 m], .slice C ds.length d, .agg #[.int .i64 op, .int .i64 a, .int .i64 b, .string nm, .slice A n c], K] w fun e w' => e = .returned (.int .i64 (nameK ds nm)) ∧ Below w.heap.size w w' := by
  have hal : Below w.heap.size w ((w.alloc (.cells #[.string u, .int .i64 m] 160)).alloc (.cells #[.int .i64 op, .int .i64 a, .int .i64 b, .string nm, .slice A n c] 48)) := ((Below.refl w.heap.size w).alloc (Nat.le_refl _) (.cells #[.string u, .int .i64 m] 160)).alloc (by simp) (.cells #[.int .i64 op, .int .i64 a, .int .i64 b, .string nm, .slice A n c] 48)
  have hBX := heap_alloc_new (w.alloc (.cells #[.string u, .int .i64 m] 160)) (.cells #[.int .i64 op, .int .i64 a, .int .i64 b, .string nm, .slice A n c] 48)
  have hF' : ∀ g, F g → g < ((w.alloc (.cells #[.string u, .int .i64 m] 160)).alloc (.cells #[.int .i64 op, .int .i64 a, .int .i64 b, .string nm, .slice A n c] 48)).heap.size := fun g hb => Nat.lt_of_lt_of_le (hF g hb) hal.size
  have HI := Lib.hid (indexNm_any C d ds op a b nm A n c (w.alloc (.cells #[.string u, .int .i64 m] 160)).heap.size F _ (h.below hal hF) hF' hBX hn)
  have hsz : (w.alloc (.cells #[.string u, .int .i64 m] 160)).heap.size = w.heap.size + 1 := by simp
  rw [hsz] at HI
  have H := Lib.hid (h.below hal hF)
  have HN := Lib.hid (nameK_fN ds nm 0)
  have HAL := Lib.hid hal
  obtain ⟨z, hz⟩ : ∃ z, z = nameK ds nm := ⟨_, rfl⟩
  rw [← hz] at HN ⊢
  obtain ⟨q, hq⟩ : ∃ q, q = fN 0 ds nm := ⟨_, rfl⟩
  rw [← hq] at HI HN
  clear hal hBX hsz hz hq h
  go_enter Tryz.func175, Tryz.ntmps175
  go_wp2_with fail
  generalize (w.alloc (.cells #[.string u, .int .i64 m] 160)).alloc (.cells #[.int .i64 op, .int .i64 a, .int .i64 b, .string nm, .slice A n c] 48) = W at *
  refine HI.out.mono ?_
  rintro e w2 ⟨rfl, hb2⟩
  have HAL := Lib.hid (bthen HAL.out hb2)
  have H := H.out.below hb2 hF'
  clear hF' hb2
  by_cases hq : q < 0
  · have HX : Hid (z = -1) := Lib.hid (HN.out.1 hq)
    go_wp2
    go_ret
    exact ⟨ret_int (by rw [HX.out]), HAL.out⟩
  · obtain ⟨j, hj, e9, e2⟩ := HN.out.2 (by omega)
    have HX : Hid (z = ds[j].wide) := Lib.hid e2
    have e1 : q = (j : Int) := by omega
    clear e9
    subst e1
    obtain ⟨ad, rfl, hf, c1, c2⟩ := H.at_decl hj
    have hj1 : (j : Int) < ds.length := by omega
    clear e2 hq
    go_wp2
    go_ret
    exact ⟨ret_int (by rw [HX.out]), HAL.out⟩
def nzI (k : Nat) : List Int → Int
  | [] => -1
  | x :: xs => if (x != 0) = true then (k : Int) else nzI (k + 1) xs
theorem nzI_all : ∀ (k : Nat) (xs : List Int), 0 ≤ nzI k xs ↔ xs.all (fun x => x == 0) = false
  | k, [] => by simp [nzI]
  | k, x :: xs => by
    have ih := nzI_all (k + 1) xs
    by_cases h : x = 0
    · have e2 : nzI k (x :: xs) = nzI (k + 1) xs := if_neg (by simp [h])
      rw [e2, ih]; simp [h]
    · have e2 : nzI k (x :: xs) = (k : Int) := if_pos (by simpa using h)
      rw [e2]; simp [h]
theorem nzI_step (xs : List Int) (k : Nat) (h : k < xs.length) : nzI k (xs.drop k) = if (xs[k] != 0) = true then (k : Int) else nzI (k + 1) (xs.drop (k + 1)) := by
  rw [List.drop_eq_getElem_cons h]; rfl
set_option maxHeartbeats 1000000 in
theorem boolSort1_any (x : Int) (w : World) : Calls Tryz.prog 185 #[.int .i64 x] w fun e w' => e = .returned (.bool (x != 0)) ∧ w = w' := by
  go_enter Tryz.func185, Tryz.ntmps185
  go_wp2
  go_ret
  exact ⟨rfl, rfl⟩
set_option maxHeartbeats 2000000 in
theorem indexNz_any (C : Option Addr) (d : Nat) (xs : List Int) (F : Nat → Prop) (w : World) (h : Lay.int.Sl w F C xs) (hn : xs.length ≤ 9223372036854775807) :
    Calls Tryz.prog 186 #[.slice C xs.length d, .func (.func 185) #[] #[]] w fun e w' => e = .returned (.int .i64 (nzI 0 xs)) ∧ w = w' := by
  go_enter Tryz.func186, Tryz.ntmps186
  go_wp2
  go_loop [8] (fun i => ∃ k : Nat, k ≤ xs.length ∧ i = .int .i64 k ∧ Hid (nzI 0 xs = nzI k (xs.drop k))) (fun i => xs.length - (intOf i).toNat)
  case atStart => exact ⟨0, Nat.zero_le _, rfl, Lib.hid rfl⟩
  case round =>
    obtain ⟨k, hk, rfl, HT⟩ := hrel
    by_cases hlt : k < xs.length
    · obtain ⟨ad, rfl, hf, c1⟩ := h.at_int hlt
      have hk1 : (k : Int) < xs.length := by omega
      have HS := Lib.hid (nzI_step xs k hlt)
      have HC := Lib.hid (boolSort1_any xs[k] w)
      obtain ⟨q, hq⟩ : ∃ q, q = (xs[k] != 0) := ⟨_, rfl⟩
      have HQ := Lib.hid hq
      rw [← hq] at HC
      clear hq
      go_wp2_with fail
      refine HC.out.mono ?_
      rintro e w2 ⟨rfl, rfl⟩
      cases q
      · have HE : Hid (nzI 0 xs = nzI (k + 1) (xs.drop (k + 1))) := Lib.hid (by rw [HT.out, HS.out, ← HQ.out]; rfl)
        go_wp2
        go_round
        case rel => exact ⟨k + 1, by omega, by go_num, HE⟩
        case measure => simp [intOf]; omega
      · have HE : Hid (nzI 0 xs = (k : Int)) := Lib.hid (by rw [HT.out, HS.out, ← HQ.out]; rfl)
        go_wp2
        go_ret
        exact ⟨ret_int (by rw [HE.out]), rfl⟩
    · have HE : Hid (nzI 0 xs = -1) := Lib.hid (by rw [HT.out, List.drop_of_length_le (by omega)]; rfl)
      have hke : k = xs.length := by omega
      subst hke
      go_wp2
      go_ret
      exact ⟨ret_int (by rw [HE.out]), rfl⟩
def boolK (ss : List Int) : Int := if ss.all (fun x => x == 0) = true then 0 else -1
set_option maxHeartbeats 2000000 in
theorem hasNz_any (C : Option Addr) (d : Nat) (xs : List Int) (F : Nat → Prop) (w : World) (h : Lay.int.Sl w F C xs) (hn : xs.length ≤ 9223372036854775807) :
    Calls Tryz.prog 184 #[.slice C xs.length d, .func (.func 185) #[] #[]] w fun e w' => e = .returned (.bool (!xs.all (fun x => x == 0))) ∧ w = w' := by
  have HC := Lib.hid (indexNz_any C d xs F w h hn)
  have HH := Lib.hid (nzI_all 0 xs)
  obtain ⟨q, hq⟩ : ∃ q, q = nzI 0 xs := ⟨_, rfl⟩
  rw [← hq] at HC HH
  clear hq h
  by_cases hq0 : 0 ≤ q
  · have HE : Hid (xs.all (fun x => x == 0) = false) := Lib.hid (HH.out.1 hq0)
    have g0 : decide (0 ≤ q) = true := decide_eq_true hq0
    go_enter Tryz.func184, Tryz.ntmps184
    go_wp2_with fail
    refine HC.out.mono ?_
    rintro e w2 ⟨rfl, rfl⟩
    go_wp2
    go_ret
    exact ⟨ret_bool (by rw [HE.out]; rfl), rfl⟩
  · have HE : Hid (xs.all (fun x => x == 0) = true) := Lib.hid (by
      cases h9 : xs.all (fun x => x == 0)
      · exact absurd (HH.out.2 h9) hq0
      · rfl)
    have g0 : decide (0 ≤ q) = false := decide_eq_false hq0
    go_enter Tryz.func184, Tryz.ntmps184
    go_wp2_with fail
    refine HC.out.mono ?_
    rintro e w2 ⟨rfl, rfl⟩
    go_wp2
    go_ret
    exact ⟨ret_bool (by rw [HE.out]; rfl), rfl⟩
set_option maxRecDepth 100000 in
set_option maxHeartbeats 4000000 in
theorem boolSort_any (u : ByteArray) (m : Int) (fn V : Value) (op a b : Int) (nm : ByteArray) (A : Option Addr) (n c : Nat) (C : Option Addr) (d : Nat) (ss : List Int) (F : Nat → Prop) (w : World) (h : Lay.int.Sl w F C ss) (hF : ∀ b, F b → b < w.heap.size) (hn : ss.length ≤ 9223372036854775807) :
    Calls Tryz.prog 182 #[.agg #[.string u, .int .i64 m, fn], V, .agg #[.int .i64 op, .int .i64 a, .int .i64 b, .string nm, .slice A n c], .slice C ss.length d] w fun e w' => e = .returned (.int .i64 (boolK ss)) ∧ Below w.heap.size w w' := by
  have hal : Below w.heap.size w ((w.alloc (.cells #[.string u, .int .i64 m, fn] 166)).alloc (.cells #[.int .i64 op, .int .i64 a, .int .i64 b, .string nm, .slice A n c] 48)) := ((Below.refl w.heap.size w).alloc (Nat.le_refl _) (.cells #[.string u, .int .i64 m, fn] 166)).alloc (by simp) (.cells #[.int .i64 op, .int .i64 a, .int .i64 b, .string nm, .slice A n c] 48)
  have HC := Lib.hid (hasNz_any C d ss F _ (h.below hal hF) hn)
  have HAL := Lib.hid hal
  obtain ⟨z, hz⟩ : ∃ z, z = boolK ss := ⟨_, rfl⟩
  rw [← hz]
  unfold boolK at hz
  obtain ⟨q, hq⟩ : ∃ q, q = ss.all (fun x => x == 0) := ⟨_, rfl⟩
  rw [← hq] at hz HC
  have HZ := Lib.hid hz
  clear hz hq hal h
  go_enter Tryz.func182, Tryz.ntmps182
  go_wp2_with fail
  generalize (w.alloc (.cells #[.string u, .int .i64 m, fn] 166)).alloc (.cells #[.int .i64 op, .int .i64 a, .int .i64 b, .string nm, .slice A n c] 48) = W at *
  refine HC.out.mono ?_
  rintro e w2 ⟨rfl, rfl⟩
  cases q
  · go_wp2_with fail
    refine (sorted_any _ _ _).mono ?_
    rintro e w3 ⟨rfl, rfl⟩
    go_wp2
    go_ret
    exact ⟨ret_int (by rw [HZ.out]; rfl), HAL.out⟩
  · go_wp2_with fail
    refine (sorted_any _ _ _).mono ?_
    rintro e w3 ⟨rfl, rfl⟩
    go_wp2
    go_ret
    exact ⟨ret_int (by rw [HZ.out]; rfl), HAL.out⟩
end Go.Proofs.YtiahmfpfimmbgaaGreatDoor

/-! The program's terms: count, TermMany, plain. -/
namespace Go.Proofs.YtiahmfpfimmbgaaGreatDoor
open Go Go.RowKit

theorem Lay.Sl.gr_far {α : Type} {L : Lay α} {w w' : World} {S F : Nat → Prop} {A : Option Addr} {xs : List α} (h : L.Sl w F A xs) (hg : Gr S w w') (hF : ∀ b, F b → b < w.heap.size ∧ ¬ S b) : L.Sl w' F A xs :=
  h.keep fun b hb => hg.block b (hF b hb).1 (hF b hb).2
/-- What the program's count is asked. -/
def CntT (t : T) : Prop := ∀ (deep m : Int) (A : Option Addr) (c : Nat) (F : Nat → Prop) (w : World) (b : Nat), 1 ≤ deep → deep ≤ 8 → 0 ≤ m → m ≤ 20 → Lay.term.Sl w F A t.kids → (∀ x, F x → x < w.heap.size ∧ ¬ x = b) → w.heap[b]? = some (.cells #[.int .i64 m] 3 (0, 0)) →
  Calls Tryz.prog 130 #[.agg #[.int .i64 t.op, .int .i64 t.a, .int .i64 t.b, .string t.name, .slice A t.kids.length c], .int .i64 deep, .pointer (some ⟨b, 0, none⟩)] w
    fun e w' => e = .returned (.int .i64 (t.cnt deep m).1) ∧ w'.heap[b]? = some (.cells #[.int .i64 (t.cnt deep m).2] 3 (0, 0)) ∧ Gr (fun x => x = b) w w'
set_option maxRecDepth 100000 in
set_option maxHeartbeats 4000000 in
theorem count_any (t : T) (ho : T.All okT2 t) : CntT t := by
  revert ho
  refine T.ind (p := fun x => T.All okT2 x → CntT x) (fun x ih ho => ?_) t
  obtain ⟨hkl, _⟩ := ho.here
  have ihk : ∀ k ∈ x.kids, CntT k := fun k hk => ih k hk (ho.kid k hk)
  clear ih ho
  intro deep m A c F w b d1 d8 m0 m20 h hF hB
  have hlt := lt_of_block hB
  have hst : Gr (fun x => x = b) w (w.setCell ⟨b, 0, none⟩ (.int .i64 (m + 1))) := (Gr.refl _ w).set b 0 (.int .i64 (m + 1)) (.inl rfl)
  have hW : Gr (fun x => x = b) w ((w.setCell ⟨b, 0, none⟩ (.int .i64 (m + 1))).alloc (.cells #[.int .i64 x.op, .int .i64 x.a, .int .i64 x.b, .string x.name, .slice A x.kids.length c] 48)) := hst.up ((Below.refl _ _).alloc (Nat.le_refl _) _)
  have hB1 : ((w.setCell ⟨b, 0, none⟩ (.int .i64 (m + 1))).alloc (.cells #[.int .i64 x.op, .int .i64 x.a, .int .i64 x.b, .string x.name, .slice A x.kids.length c] 48)).heap[b]? = some (.cells #[.int .i64 (m + 1)] 3 (0, 0)) :=
    (((Below.refl (w.setCell ⟨b, 0, none⟩ (.int .i64 (m + 1))).heap.size (w.setCell ⟨b, 0, none⟩ (.int .i64 (m + 1)))).alloc (Nat.le_refl _) (.cells #[.int .i64 x.op, .int .i64 x.a, .int .i64 x.b, .string x.name, .slice A x.kids.length c] 48)).block b (by rw [size_setCell]; exact hlt)).trans (heap_set_same w b 0 (.int .i64 (m + 1)) #[.int .i64 m] 3 hB)
  have v0 : w.cell? ⟨b, 0, none⟩ = some (.int .i64 m) := (cell_of_block hB 0).1
  have f0 : w.frozen? ⟨b, 0, none⟩ = false := (cell_of_block hB 0).2
  have hbn : ¬ w.heap.size = b := by omega
  have hv1 : ((w.setCell ⟨b, 0, none⟩ (.int .i64 (m + 1))).alloc (.cells #[.int .i64 x.op, .int .i64 x.a, .int .i64 x.b, .string x.name, .slice A x.kids.length c] 48)).heap[w.heap.size]? = some (.cells #[.int .i64 x.op, .int .i64 x.a, .int .i64 x.b, .string x.name, .slice A x.kids.length c] 48 (0, 0)) := by
    have h9 := heap_alloc_new (w.setCell ⟨b, 0, none⟩ (.int .i64 (m + 1))) (.cells #[.int .i64 x.op, .int .i64 x.a, .int .i64 x.b, .string x.name, .slice A x.kids.length c] 48)
    rw [size_setCell] at h9
    exact h9
  obtain ⟨r, hr⟩ : ∃ r, r = x.cnt deep m := ⟨_, rfl⟩
  rw [← hr]
  have HR := Lib.hid (hr.trans (T.cnt_def x deep m))
  have H := Lib.hid h
  have HW := Lib.hid hW
  have HB1 := Lib.hid hB1
  clear hr hst h
  by_cases h7 : 7 < deep
  · have HX : Hid (r = (deep, m + 1)) := Lib.hid (by rw [HR.out]; exact if_pos h7)
    go_enter Tryz.func130, Tryz.ntmps130
    go_wp2
    go_ret
    exact ⟨ret_int (by rw [HX.out]), by rw [HX.out]; exact HB1.out, HW.out⟩
  have HX : Hid (r = T.cntL x.kids deep deep (m + 1)) := Lib.hid (by rw [HR.out]; exact if_neg h7)
  clear HR
  have H := Lib.hid (H.out.gr_far hW hF)
  have hFW : ∀ y, F y → y < ((w.setCell ⟨b, 0, none⟩ (.int .i64 (m + 1))).alloc (.cells #[.int .i64 x.op, .int .i64 x.a, .int .i64 x.b, .string x.name, .slice A x.kids.length c] 48)).heap.size ∧ ¬ y = b := fun y hy => ⟨Nat.lt_of_lt_of_le (hF y hy).1 hW.size, (hF y hy).2⟩
  go_enter Tryz.func130, Tryz.ntmps130
  go_wp2
  have v4 := (cell_of_block hv1 4).1
  generalize (w.setCell ⟨b, 0, none⟩ (.int .i64 (m + 1))).alloc (.cells #[.int .i64 x.op, .int .i64 x.a, .int .i64 x.b, .string x.name, .slice A x.kids.length c] 48) = W at *
  clear v0 f0 hW hv1
  go_loopw [7, 22] (fun a i wr => ∃ (k : Nat) (most q : Int), k ≤ x.kids.length ∧ a = .int .i64 most ∧ i = .int .i64 k ∧ deep ≤ most ∧ most ≤ 8 ∧ 0 ≤ q ∧ q ≤ 21 ∧ wr.heap[b]? = some (.cells #[.int .i64 q] 3 (0, 0)) ∧ Gr (fun x => x = b) W wr ∧ Hid (T.cntL x.kids deep deep (m + 1) = T.cntL (x.kids.drop k) deep most q)) (fun _ i _ => x.kids.length - (intOf i).toNat)
  case atStart => exact ⟨0, deep, m + 1, Nat.zero_le _, rfl, rfl, Int.le_refl _, d8, by omega, by omega, hB1, Gr.refl _ _, Lib.hid (by simp)⟩
  case round =>
    obtain ⟨k, most, q, hk, rfl, rfl, e1, e2, q1, q2, hBr, hgr, HT⟩ := hrel
    have HGR := Lib.hid (HW.out.trans hgr)
    have HBR := Lib.hid hBr
    have a0 : wr.cell? ⟨b, 0, none⟩ = some (.int .i64 q) := (cell_of_block hBr 0).1
    have hbr := lt_of_block hBr
    by_cases hlt9 : k < x.kids.length
    · have hk1 : (k : Int) < x.kids.length := by omega
      have hFr : ∀ y, F y → y < wr.heap.size ∧ ¬ y = b := fun y hy => ⟨Nat.lt_of_lt_of_le (hFW y hy).1 hgr.size, (hFW y hy).2⟩
      obtain ⟨ad, A1, c9, rfl, hf, c1, c2, c3, c4, c5, hcc, hkk⟩ := (H.out.gr_far hgr hFW).at_term hlt9
      have hal : Gr (fun x => x = b) wr (wr.alloc (.cells #[.int .i64 x.kids[k].op, .int .i64 x.kids[k].a, .int .i64 x.kids[k].b, .string x.kids[k].name, .slice A1 x.kids[k].kids.length c9] 48)) := Gr.below ((Below.refl _ _).alloc (Nat.le_refl _) _)
      have HAL := Lib.hid (HGR.out.trans hal)
      have HAL2 := Lib.hid (hgr.trans hal)
      have HB2 := Lib.hid ((((Below.refl wr.heap.size wr).alloc (Nat.le_refl _) (.cells #[.int .i64 x.kids[k].op, .int .i64 x.kids[k].a, .int .i64 x.kids[k].b, .string x.kids[k].name, .slice A1 x.kids[k].kids.length c9] 48)).block b hbr).trans hBr)
      by_cases hq : 20 < q
      · have HX2 : Hid (r = (most, q)) := Lib.hid (by rw [HX.out, HT.out]; exact T.cntL_stop _ _ _ _ hq)
        clear hBr hgr hkk ihk
        go_wp2
        go_ret
        exact ⟨ret_int (by rw [HX2.out]), by rw [HX2.out]; exact HB2.out, HAL.out⟩
      · have HI := Lib.hid (ihk _ (List.getElem_mem hlt9) (deep + 1) q A1 c9 F _ b (by omega) (by omega) q1 (by omega) (hkk.gr_far hal hFr) (fun y hy => ⟨Nat.lt_of_lt_of_le (hFr y hy).1 hal.size, (hFr y hy).2⟩) HB2.out)
        have HS := Lib.hid (HT.out.trans (T.cntL_step x.kids k deep most q hlt9 hq))
        obtain ⟨_, _, r3, r4, r5, r6⟩ := T.cnt_eq x.kids[k] (deep + 1) q (by omega) (by omega) q1 (by omega)
        generalize x.kids[k].cnt (deep + 1) q = z at *
        clear hBr hgr hkk ihk hal hB1
        go_wp2_with fail
        refine HI.out.mono ?_
        rintro e w2 ⟨rfl, hb2, hg2⟩
        have HG2 := Lib.hid (HAL2.out.trans hg2)
        have HB3 := Lib.hid hb2
        clear hb2 hg2
        by_cases hz : most < z.1
        · have HS : Hid (T.cntL x.kids deep deep (m + 1) = T.cntL (x.kids.drop (k + 1)) deep z.1 z.2) := Lib.hid (by rw [HS.out, if_pos hz])
          go_wp2
          go_roundw
          case rel => exact ⟨k + 1, z.1, z.2, by omega, by first | rfl | go_num, by go_num, by omega, by omega, by omega, by omega, HB3.out, HG2.out, HS⟩
          case measure => simp [intOf]; omega
        · have HS : Hid (T.cntL x.kids deep deep (m + 1) = T.cntL (x.kids.drop (k + 1)) deep most z.2) := Lib.hid (by rw [HS.out, if_neg hz])
          go_wp2
          go_roundw
          case rel => exact ⟨k + 1, most, z.2, by omega, by first | rfl | go_num, by go_num, by omega, by omega, by omega, by omega, HB3.out, HG2.out, HS⟩
          case measure => simp [intOf]; omega
    · have hke : k = x.kids.length := by omega
      subst hke
      have HX2 : Hid (r = (most, q)) := Lib.hid (by rw [HX.out, HT.out]; exact T.cntL_full _ _ _ _)
      clear hBr hgr
      go_wp2
      go_ret
      exact ⟨ret_int (by rw [HX2.out]), by rw [HX2.out]; exact HBR.out, HGR.out⟩
end Go.Proofs.YtiahmfpfimmbgaaGreatDoor

/-! The program's terms: TermMany, plain. -/
namespace Go.Proofs.YtiahmfpfimmbgaaGreatDoor
open Go Go.RowKit

set_option maxRecDepth 100000 in
set_option maxHeartbeats 4000000 in
theorem implMany_any (x : T) (ho : T.All okT2 x) (A : Option Addr) (c : Nat) (F : Nat → Prop) (w : World) (h : Lay.term.Sl w F A x.kids) (hF : ∀ b, F b → b < w.heap.size) :
    Calls Tryz.prog 114 #[.agg #[.int .i64 x.op, .int .i64 x.a, .int .i64 x.b, .string x.name, .slice A x.kids.length c]] w fun e w' => e = .returned (.tuple #[.int .i64 x.many.1, .int .i64 x.many.2]) ∧ Below w.heap.size w w' := by
  have hal : Below w.heap.size w ((w.alloc (.cells #[.int .i64 x.op, .int .i64 x.a, .int .i64 x.b, .string x.name, .slice A x.kids.length c] 48)).alloc (.cells #[.int .i64 0] 3)) := ((Below.refl w.heap.size w).alloc (Nat.le_refl _) (.cells #[.int .i64 x.op, .int .i64 x.a, .int .i64 x.b, .string x.name, .slice A x.kids.length c] 48)).alloc (by simp) _
  have hsz : (w.alloc (.cells #[.int .i64 x.op, .int .i64 x.a, .int .i64 x.b, .string x.name, .slice A x.kids.length c] 48)).heap.size = w.heap.size + 1 := by simp
  have hB := heap_alloc_new (w.alloc (.cells #[.int .i64 x.op, .int .i64 x.a, .int .i64 x.b, .string x.name, .slice A x.kids.length c] 48)) (.cells #[.int .i64 0] 3)
  rw [hsz] at hB
  have hT : ((w.alloc (.cells #[.int .i64 x.op, .int .i64 x.a, .int .i64 x.b, .string x.name, .slice A x.kids.length c] 48)).alloc (.cells #[.int .i64 0] 3)).heap[w.heap.size]? = some (.cells #[.int .i64 x.op, .int .i64 x.a, .int .i64 x.b, .string x.name, .slice A x.kids.length c] 48 (0, 0)) := (((Below.refl (w.alloc (.cells #[.int .i64 x.op, .int .i64 x.a, .int .i64 x.b, .string x.name, .slice A x.kids.length c] 48)).heap.size (w.alloc (.cells #[.int .i64 x.op, .int .i64 x.a, .int .i64 x.b, .string x.name, .slice A x.kids.length c] 48))).alloc (Nat.le_refl _) (.cells #[.int .i64 0] 3)).block _ (by rw [hsz]; omega)).trans (heap_alloc_new w (.cells #[.int .i64 x.op, .int .i64 x.a, .int .i64 x.b, .string x.name, .slice A x.kids.length c] 48))
  have HC := Lib.hid (count_any x ho 1 0 A c F _ (w.heap.size + 1) (by omega) (by omega) (by omega) (by omega) (h.below hal hF) (fun y hy => ⟨Nat.lt_of_lt_of_le (hF y hy) hal.size, by have := hF y hy; omega⟩) hB)
  obtain ⟨r, hr⟩ : ∃ r, r = x.many := ⟨_, rfl⟩
  rw [← hr]
  have hr := hr.trans (T.cnt_many x)
  obtain ⟨_, _, r3, r4, r5, r6⟩ := T.cnt_eq x 1 0 (by omega) (by omega) (by omega) (by omega)
  generalize x.cnt 1 0 = z at *
  have HR := Lib.hid hr
  have HAL := Lib.hid hal
  clear hr hB hsz h
  go_enter Tryz.func114, Tryz.ntmps114
  go_wp2_with fail
  generalize (w.alloc (.cells #[.int .i64 x.op, .int .i64 x.a, .int .i64 x.b, .string x.name, .slice A x.kids.length c] 48)).alloc (.cells #[.int .i64 0] 3) = W at *
  refine HC.out.mono ?_
  rintro e w2 ⟨rfl, hb2, hg2⟩
  have HB := Lib.hid (HAL.out.trans (hg2.to_below' hal.size (fun y hy => by omega)))
  have v0 := (cell_of_block hb2 0).1
  clear hb2 hg2 hal hT
  by_cases h1 : 20 < z.2
  · have HX : Hid (r = (21, 8)) := Lib.hid (by rw [HR.out]; exact if_pos (.inl h1))
    go_wp2
    go_ret2
    exact ⟨by rw [HX.out]; rfl, HB.out⟩
  · by_cases h2 : 7 < z.1
    · have HX : Hid (r = (21, 8)) := Lib.hid (by rw [HR.out]; exact if_pos (.inr h2))
      go_wp2
      go_ret2
      exact ⟨by rw [HX.out]; rfl, HB.out⟩
    · have HX : Hid (r = (z.2, z.1)) := Lib.hid (by rw [HR.out]; exact if_neg (fun h => h.elim h1 h2))
      go_wp2
      go_ret2
      exact ⟨by rw [HX.out]; rfl, HB.out⟩
set_option maxRecDepth 100000 in
set_option maxHeartbeats 4000000 in
theorem plain_any (op a b : Int) (nm : ByteArray) (A : Option Addr) (n c : Nat) (w : World) :
    Calls Tryz.prog 131 #[.agg #[.int .i64 op, .int .i64 a, .int .i64 b, .string nm, .slice A n c]] w (RetB w (plainN op nm && plainV op a b)) := by
  have HAL := Lib.hid ((Below.refl w.heap.size w).alloc (Nat.le_refl _) (.cells #[.int .i64 op, .int .i64 a, .int .i64 b, .string nm, .slice A n c] 48))
  obtain ⟨q, hq⟩ : ∃ q, q = (nm.toList == []) := ⟨_, rfl⟩
  have HPN : Hid (plainN op nm = (op == 21 || q)) := Lib.hid (by rw [hq]; rfl)
  have HPV : Hid (plainV op a b = (op == 20 || op == 22 || (a == 0 && b == 0))) := Lib.hid rfl
  rw [HPN.out, HPV.out]
  have gq := hq.symm
  clear hq HPN HPV
  by_cases q20 : op = 20
  · subst q20
    cases q
    · skip
      go_enter Tryz.func131, Tryz.ntmps131
      go_wp2
      all_goals
        go_ret
        exact ⟨ret_bool (by simp [*]), HAL.out⟩
    · skip
      go_enter Tryz.func131, Tryz.ntmps131
      go_wp2
      all_goals
        go_ret
        exact ⟨ret_bool (by simp [*]), HAL.out⟩
  have g20 : (op == 20) = false := by simpa using q20
  by_cases q22 : op = 22
  · subst q22
    cases q
    · skip
      go_enter Tryz.func131, Tryz.ntmps131
      go_wp2
      all_goals
        go_ret
        exact ⟨ret_bool (by simp [*]), HAL.out⟩
    · skip
      go_enter Tryz.func131, Tryz.ntmps131
      go_wp2
      all_goals
        go_ret
        exact ⟨ret_bool (by simp [*]), HAL.out⟩
  have g22 : (op == 22) = false := by simpa using q22
  by_cases qa : a = 0
  · subst qa
    by_cases qb : b = 0
    · subst qb
      by_cases q21 : op = 21
      · subst q21
        go_enter Tryz.func131, Tryz.ntmps131
        go_wp2
        all_goals
          go_ret
          exact ⟨ret_bool (by simp [*]), HAL.out⟩
      · have g21 : (op == 21) = false := by simpa using q21
        cases q
        · skip
          go_enter Tryz.func131, Tryz.ntmps131
          go_wp2
          all_goals
            go_ret
            exact ⟨ret_bool (by simp [*]), HAL.out⟩
        · skip
          go_enter Tryz.func131, Tryz.ntmps131
          go_wp2
          all_goals
            go_ret
            exact ⟨ret_bool (by simp [*]), HAL.out⟩
    · have gb : (b == 0) = false := by simpa using qb
      go_enter Tryz.func131, Tryz.ntmps131
      go_wp2
      all_goals
        go_ret
        exact ⟨ret_bool (by simp [*]), HAL.out⟩
  · have ga : (a == 0) = false := by simpa using qa
    go_enter Tryz.func131, Tryz.ntmps131
    go_wp2
    all_goals
      go_ret
      exact ⟨ret_bool (by simp [*]), HAL.out⟩
end Go.Proofs.YtiahmfpfimmbgaaGreatDoor

/-! Clauses, what is put, unit propagation: the plain law. No program is named here. -/
namespace Go.Proofs.YtiahmfpfimmbgaaGreatDoor
open Go Go.RowKit

structure C where
  many : Int
  list : List (List Int)
/-- What is put: marks that are there, each at most once. -/
structure Good (many : Int) (put : List Int) : Prop where
  rng : ∀ l ∈ put, l ≠ 0 ∧ -many ≤ l ∧ l ≤ many
  nodup : (put.map Int.natAbs).Nodup
theorem Good.nil (many : Int) : Good many [] := ⟨by simp, by simp⟩
theorem mem_natAbs {put : List Int} {l : Int} : l.natAbs ∈ put.map Int.natAbs ↔ l ∈ put ∨ -l ∈ put := by
  rw [List.mem_map]
  constructor
  · rintro ⟨x, hx, he⟩
    have : x = l ∨ x = -l := by omega
    rcases this with rfl | rfl
    · exact .inl hx
    · exact .inr hx
  · rintro (h | h)
    · exact ⟨l, h, rfl⟩
    · exact ⟨-l, h, by omega⟩
theorem Good.snoc {many : Int} {put : List Int} {l : Int} (h : Good many put) (h0 : l ≠ 0) (h1 : -many ≤ l) (h2 : l ≤ many) (h3 : l ∉ put) (h4 : -l ∉ put) : Good many (put ++ [l]) := by
  refine ⟨fun x hx => ?_, ?_⟩
  · rcases List.mem_append.1 hx with hx | hx
    · exact h.rng x hx
    · rw [List.mem_singleton.1 hx]; exact ⟨h0, h1, h2⟩
  · rw [List.map_append]
    refine List.nodup_append.2 ⟨h.nodup, by simp, fun a ha b hb => ?_⟩
    simp only [List.map_cons, List.map_nil, List.mem_singleton] at hb
    rintro rfl
    rw [hb] at ha
    rcases mem_natAbs.1 ha with h' | h'
    · exact h3 h'
    · exact h4 h'
theorem nodup_bound : ∀ (m : Nat) (l : List Nat), l.Nodup → (∀ x ∈ l, 1 ≤ x ∧ x ≤ m) → l.length ≤ m
  | 0, l, _, h => by
    cases l with
    | nil => simp
    | cons x xs => have := h x (by simp); omega
  | m + 1, l, hn, h => by
    have h1 : (l.filter (fun x => x != m + 1)).length ≤ m := nodup_bound m _ (hn.filter _) (fun x hx => by
      have hx' := List.mem_filter.1 hx
      have := h x hx'.1
      have hne : x ≠ m + 1 := by simpa using hx'.2
      omega)
    have h2 : (l.filter (fun x => x == m + 1)).length ≤ 1 := by
      have : ∀ (l : List Nat), l.Nodup → (l.filter (fun x => x == m + 1)).length ≤ 1 := by
        intro l hn
        induction l with
        | nil => simp
        | cons x xs ih =>
          have hx := List.nodup_cons.1 hn
          by_cases e : x = m + 1
          · subst e
            have : xs.filter (fun x => x == m + 1) = [] := List.filter_eq_nil_iff.2 (fun y hy => by
              simp only [beq_iff_eq]; rintro rfl; exact hx.1 hy)
            simp [this]
          · have hf : (x == m + 1) = false := by simp [e]
            rw [List.filter_cons, hf]
            exact ih hx.2
      exact this l hn
    have h3 : l.length = (l.filter (fun x => x == m + 1)).length + (l.filter (fun x => x != m + 1)).length := by
      clear h hn h1 h2
      induction l with
      | nil => rfl
      | cons x xs ih =>
        by_cases e : x = m + 1
        · have h1 : (x == m + 1) = true := by simp [e]
          have h2 : (x != m + 1) = false := by simp [e]
          simp only [List.filter_cons, h1, h2, List.length_cons, if_true]
          simp only [Bool.false_eq_true, if_false]
          omega
        · have h1 : (x == m + 1) = false := by simp [e]
          have h2 : (x != m + 1) = true := by simp [e]
          simp only [List.filter_cons, h1, h2, List.length_cons, if_true]
          simp only [Bool.false_eq_true, if_false]
          omega
    omega
theorem Good.length {many : Int} {put : List Int} (h : Good many put) : put.length ≤ many.toNat := by
  have := nodup_bound many.toNat (put.map Int.natAbs) h.nodup (fun x hx => by
    obtain ⟨l, hl, rfl⟩ := List.mem_map.1 hx
    have := h.rng l hl
    omega)
  simpa using this
theorem Good.apart {many : Int} {put : List Int} (h : Good many put) {l : Int} (h1 : l ∈ put) (h2 : -l ∈ put) : False := by
  have h0 := (h.rng l h1).1
  have := h.nodup
  obtain ⟨i, hi, ei⟩ := List.getElem_of_mem h1
  obtain ⟨j, hj, ej⟩ := List.getElem_of_mem h2
  have hp := List.pairwise_iff_getElem.1 this
  have hne : i ≠ j := by
    rintro rfl
    rw [ei] at ej; omega
  rcases Nat.lt_or_ge i j with hlt | hge
  · exact hp i j (by simpa using hi) (by simpa using hj) hlt (by simp only [List.getElem_map, ei, ej]; omega)
  · exact hp j i (by simpa using hj) (by simpa using hi) (by omega) (by simp only [List.getElem_map, ei, ej]; omega)
/-- The look at a clause: nothing if one is put; else how many are free, and the last one of these. -/
def lk (put : List Int) : List Int → Int → Int → Option (Int × Int)
  | [], n, f => some (n, f)
  | l :: ls, n, f => if l ∈ put then none else if -l ∈ put then lk put ls n f else lk put ls (n + 1) l
/-- The first false clause, and the first one with a single free mark, and that one. -/
def fd (put : List Int) : List (List Int) → Int → Int → Int → Int × Int × Int
  | [], _, u, f => (-1, u, f)
  | cl :: cls, k, u, f => match lk put cl 0 0 with
    | none => fd put cls (k + 1) u f
    | some (n, m) => if n = 0 then (k, u, f) else if n = 1 ∧ u < 0 then fd put cls (k + 1) k m else fd put cls (k + 1) u f
/-- Unit propagation, with fuel. -/
def un (cs : List (List Int)) : Nat → List Int → List Int × Bool
  | 0, put => (put, false)
  | n + 1, put => if 0 ≤ (fd put cs 0 (-1) 0).1 then (put, true) else if (fd put cs 0 (-1) 0).2.1 < 0 then (put, false) else un cs n (put ++ [(fd put cs 0 (-1) 0).2.2])
theorem lk_free {many : Int} {put : List Int} : ∀ {cl : List Int} {n f n' f' : Int}, (∀ l ∈ cl, l ≠ 0 ∧ -many ≤ l ∧ l ≤ many) → (0 < n → f ≠ 0 ∧ -many ≤ f ∧ f ≤ many ∧ f ∉ put ∧ -f ∉ put) → 0 ≤ n → lk put cl n f = some (n', f') → 0 < n' → f' ≠ 0 ∧ -many ≤ f' ∧ f' ≤ many ∧ f' ∉ put ∧ -f' ∉ put
  | [], n, f, n', f', _, hf, _, h, hp => by
    simp only [lk, Option.some.injEq, Prod.mk.injEq] at h
    obtain ⟨rfl, rfl⟩ := h
    exact hf hp
  | l :: ls, n, f, n', f', hc, hf, h0, h, hp => by
    have hl := hc l (by simp)
    have hls : ∀ l ∈ ls, l ≠ 0 ∧ -many ≤ l ∧ l ≤ many := fun x hx => hc x (by simp [hx])
    simp only [lk] at h
    split at h
    · cases h
    · rename_i h1
      split at h
      · exact lk_free hls hf h0 h hp
      · rename_i h2
        exact lk_free hls (fun _ => ⟨hl.1, hl.2.1, hl.2.2, h1, h2⟩) (by omega) h hp
theorem fd_free {many : Int} {put : List Int} : ∀ {cs : List (List Int)} {k u f : Int}, (∀ cl ∈ cs, ∀ l ∈ cl, l ≠ 0 ∧ -many ≤ l ∧ l ≤ many) → (0 ≤ u → f ≠ 0 ∧ -many ≤ f ∧ f ≤ many ∧ f ∉ put ∧ -f ∉ put) → 0 ≤ k →
    0 ≤ (fd put cs k u f).2.1 → (fd put cs k u f).2.2 ≠ 0 ∧ -many ≤ (fd put cs k u f).2.2 ∧ (fd put cs k u f).2.2 ≤ many ∧ (fd put cs k u f).2.2 ∉ put ∧ -(fd put cs k u f).2.2 ∉ put
  | [], k, u, f, _, hf, _, h => hf h
  | cl :: cls, k, u, f, hc, hf, hk, h => by
    have hcl := hc cl (by simp)
    have hcls : ∀ cl ∈ cls, ∀ l ∈ cl, l ≠ 0 ∧ -many ≤ l ∧ l ≤ many := fun x hx => hc x (by simp [hx])
    simp only [fd] at h ⊢
    cases hlk : lk put cl 0 0 with
    | none =>
      rw [hlk] at h
      exact fd_free hcls hf (by omega) h
    | some p =>
      obtain ⟨n, m⟩ := p
      rw [hlk] at h
      dsimp only at h ⊢
      split at h
      · rename_i hn
        rw [if_pos hn]; exact hf h
      · rename_i hn
        rw [if_neg hn]
        split at h
        · rename_i h1
          rw [if_pos h1]
          exact fd_free hcls (fun _ => lk_free hcl (fun h => absurd h (by omega)) (by omega) hlk (by omega)) (by omega) h
        · rename_i h1
          rw [if_neg h1]
          exact fd_free hcls hf (by omega) h
/-- The next unit may be put. -/
theorem Good.next {many : Int} {put : List Int} {cs : List (List Int)} (h : Good many put) (hc : ∀ cl ∈ cs, ∀ l ∈ cl, l ≠ 0 ∧ -many ≤ l ∧ l ≤ many) (hu : 0 ≤ (fd put cs 0 (-1) 0).2.1) : Good many (put ++ [(fd put cs 0 (-1) 0).2.2]) := by
  have := fd_free hc (fun h => absurd h (by omega)) (Int.le_refl 0) hu
  exact h.snoc this.1 this.2.1 this.2.2.1 this.2.2.2.1 this.2.2.2.2
end Go.Proofs.YtiahmfpfimmbgaaGreatDoor

/-! A drawn region whose operations but the last ones are quiet in every later world, and whose last ones come in one forced order. No program is named here. -/
namespace Go.Proofs.YtiahmfpfimmbgaaGreatDoor
open Go Go.RowKit

section
variable {P : Program} {ops : Array Oper} {md : Region.Mode} {C : World → Prop}

end

end Go.Proofs.YtiahmfpfimmbgaaGreatDoor

/-! Contracts of the laws' sizes, copies and comparisons of clauses; the reference's CnfOk. -/
namespace Go.Proofs.YtiahmfpfimmbgaaGreatDoor
open Go Go.RowKit

theorem ne_len {n m : Nat} (h : n = m) : ((n : Int) != (m : Int)) = false := by simp [h]
theorem allSame_yes {α : Type} {f : α → α → Bool} {xs ys : List α} {k : Nat} {b : Bool} (h : allSame f xs ys = allSame f (xs.drop k) (ys.drop k)) (hx : k < xs.length) (hy : k < ys.length) (he : f xs[k] ys[k] = b) :
    allSame f xs ys = (b && allSame f (xs.drop (k + 1)) (ys.drop (k + 1))) := by rw [h, allSame_drop hx hy, he]
theorem allSame_end {α : Type} {f : α → α → Bool} {xs ys : List α} (h : allSame f xs ys = allSame f (xs.drop xs.length) (ys.drop xs.length)) (hl : xs.length = ys.length) : allSame f xs ys = true := by
  rw [h, List.drop_length, hl, List.drop_length]; rfl

end Go.Proofs.YtiahmfpfimmbgaaGreatDoor

/-! The call's own rows of integers. -/
namespace Go.Proofs.YtiahmfpfimmbgaaGreatDoor
open Go Go.RowKit

/-- The call's own row of integers. -/
def OwnI (w : World) (base : Nat) (v : Value) (xs : List Int) : Prop := w.ownsRow base 3 1 v xs.length (xs.map (Value.int .i64))
theorem OwnI.up {w w' : World} {base : Nat} {v : Value} {xs : List Int} (h : OwnI w base v xs) (hb : Below w.heap.size w w') : OwnI w' base v xs := own_below h hb (Nat.le_refl _)
theorem OwnI.form {w : World} {base : Nat} {v : Value} {xs : List Int} (h : OwnI w base v xs) : ∃ A c, v = .slice A xs.length c ∧ xs.length ≤ c ∧ Lay.int.Sl w (fun b => base ≤ b ∧ b < w.heap.size) A xs := by
  have hh := h
  unfold OwnI at h
  rcases h.2 with ⟨h1, h2⟩ | ⟨g, cap, cur, h1, _, _, h3, _⟩
  · subst h1
    have : xs = [] := List.eq_nil_of_length_eq_zero h2
    subst this
    exact ⟨none, 0, rfl, by simp, .nil _ _ _ _⟩
  · subst h1
    exact ⟨_, cap, rfl, h3, (sl_ints_of_own hh (fun g h1 h2 => ⟨h1, h2⟩)).1⟩
theorem OwnI.rd {w : World} {base c : Nat} {A : Option Addr} {xs : List Int} (h : OwnI w base (.slice A xs.length c) xs) : Lay.int.Rd w A xs := by
  obtain ⟨A', c', e, h1, h2⟩ := h.form
  injection e with e1 e2 e3
  subst e1
  exact h2.rd
end Go.Proofs.YtiahmfpfimmbgaaGreatDoor

/-! append of one integer onto a row of the call's own, and where the row lies then. -/
namespace Go.Proofs.YtiahmfpfimmbgaaGreatDoor
open Go Go.RowKit

theorem wpList_append_int8 {Q : Exit → Act → World → Prop} {ops : Array Oper} {rest : List Oper} {o : Oper} {a : Act} {W : World} {lo : Nat} {A : Option Addr} {c : Nat} {xs ys : List Int} {x : Int} {e' : TypeId} (hgd : o.guard = none) (s y : Operand)
    (ho : o.op = .call { callee := .builtin .append, args := #[s, y], argTypes := #[110, 110] }) (hs : a.eval s = .slice A xs.length c) (hy : a.eval y = .slice (some ⟨W.heap.size, 0, none⟩) 1 1)
    (hown : OwnI W lo (.slice A xs.length c) xs) (hn : xs.length ≤ 2000000) (hlo : lo ≤ W.heap.size) (hys : ys = xs ++ [x])
    (h : ∀ A' c' w', OwnI w' lo (.slice A' ys.length c') ys → W.grownBy w' (Value.slice A xs.length c).ownBlock →
      ((Value.slice A' ys.length c').ownBlock = (Value.slice A xs.length c).ownBlock ∨ ∃ g, (Value.slice A' ys.length c').ownBlock = some g ∧ W.heap.size ≤ g) → wpList Tryz.prog ops Q rest (a.put o.dst (.slice A' ys.length c')) w') :
    wpList Tryz.prog ops Q (o :: rest) a (W.alloc (.cells #[.int .i64 x] e')) := by
  obtain ⟨i0, hi0, hz0, hz1, hz2⟩ := info_parts int_info
  have hal : Below W.heap.size W (W.alloc (.cells #[.int .i64 x] e')) := (Below.refl _ _).alloc (Nat.le_refl _) _
  have hl : ys.length = xs.length + 1 := by rw [hys]; simp
  have hm : ys.map (Value.int .i64) = xs.map (Value.int .i64) ++ [.int .i64 x] := by rw [hys]; simp
  refine wpList_plain hgd fun _ hK => ?_
  obtain ⟨v', w', hrun, ho', hg', _, hbk⟩ := run_append_own_at (P := Tryz.prog) (W.alloc (.cells #[.int .i64 x] e')) lo 110 o.type 3 i0 _ 1 8 Tryz.underlying110 hi0 hz0 hz1 hz2 (by rfl) (by omega)
    (.slice A xs.length c) xs.length (xs.map (Value.int .i64)) (hown.up hal) ⟨W.heap.size, 0, none⟩ 1 1 [.int .i64 x] (by rfl) (fun j u hu => by
      have := World.news_of_block (heap_alloc_new W (.cells #[.int .i64 x] e')) j u hu
      exact this) (by simp; rfl) (by unfold maxLen; omega) (by omega) (Nat.le_trans hlo hal.size)
  rw [← hl, ← hm] at ho'
  obtain ⟨A', c', rfl, _, _⟩ := OwnI.form (xs := ys) ho'
  unfold Oper.wp execOp
  simp only [ho, resolve, invoke, builtin, Sem.run_bind, Sem.run_pure, Result.andThen_ok, List.map_toArray, List.map_cons, List.map_nil, hs, hy, hrun]
  refine hK _ _ (h A' c' w' ho' (grown_then hal hg') ?_)
  rcases hbk with e | e
  · exact .inl e
  · exact .inr ⟨_, e, hal.size⟩
end Go.Proofs.YtiahmfpfimmbgaaGreatDoor
