/- The program's circuits: has, and, xor, readNet, joined, NetAnd, NetXor. -/
import Derived.Test.YtcdlfnhjpjpbjaaNetI
namespace Go.Proofs.Ytcdlfnhjpjpbjaa
open Go Go.RowKit Go.Maps

theorem has_any (lo r : Nat) (n : N) (ks : List G) (s : Int) (w : World) (h : Circ lo w r n ks) (hn : n.gs.length ≤ 600) (h0 : 0 ≤ n.ins) (h1 : n.ins ≤ 8) (s0 : -9223372036854775808 ≤ s) (s1 : s ≤ 9223372036854775807) :
    Calls Try.prog 54 #[.pointer (some ⟨r, 0, none⟩), .int .i64 s] w fun e w' => e = .returned (.bool (netMark n s)) ∧ Below w.heap.size w w' := by
  obtain ⟨A, c, b, hr, _, _, _, _⟩ := h
  have z0 : w.cell? ⟨r, 0, none⟩ = some (.int .i64 n.ins) := (cell_of_block hr 0).1
  have z1 : w.cell? ⟨r, 1, none⟩ = some (.slice A n.gs.length c) := (cell_of_block hr 1).1
  have z0 := Later.cell z0
  have z1 := Later.cell z1
  clear hr
  have hk1 : (n.gs.length : Int) ≤ 1048576 := by omega
  have hk0 : (0 : Int) ≤ n.gs.length := by omega
  unfold netMark
  go_enter Try.func54, Try.ntmps54
  go_wp2
  refine wp_region_later (by kernel_rfl) (by kernel_rfl) ?_
  repeat (go_big_quiet_step ((first | (go_at_call 61; with_reducible exact later_of_below (nodes_any A c n.gs.length n.ins n.gs.length _ (by omega) (by omega) hk0 hk1)) | (go_at_call 60; with_reducible exact later_of_same (of_any s _ _ s0 s1 (by omega) (by omega))))))
  refine wpQuiet_nil ?_
  rintro _ ⟨x, rfl⟩
  go_wp2
  go_ret
  exact ⟨rfl, x.le⟩

/-- What an operation on signals leaves. -/
def RetSig (lo : Nat) (w : World) (r : Nat) (m : N × Int) (e : Ending) (w' : World) : Prop :=
  e = .returned (.int .i64 m.2) ∧ BelK lo w w' ∧ (m.2 ≠ 0 → Circ lo w' r m.1 m.1.gs)

theorem and1_1 {n : N} {a b : Int} (h : a = -1 ∨ b = -1) : and1 n a b = (n, -1) := by unfold and1; rw [if_pos (by omega)]
theorem and1_2 {n : N} {a b : Int} (h : ¬ (a = -1 ∨ b = -1)) (h2 : a = 1) : and1 n a b = (n, b) := by unfold and1; rw [if_neg (by omega), if_pos (by omega)]
theorem and1_3 {n : N} {a b : Int} (h : ¬ (a = -1 ∨ b = -1)) (h2 : a ≠ 1) (h3 : b = 1) : and1 n a b = (n, a) := by unfold and1; rw [if_neg (by omega), if_neg (by omega), if_pos (by omega)]
theorem and1_4 {n : N} {a b : Int} (h : ¬ (a = -1 ∨ b = -1)) (h0 : a ≠ 0) (h2 : a = b) : and1 n a b = (n, a) := by unfold and1; rw [if_neg (by omega), if_pos (by omega), h2]
theorem and1_5 {n : N} {a b : Int} (h2 : a = -b) : and1 n a b = (n, -1) := by unfold and1; rw [if_pos (by omega)]
theorem and1_6 {n : N} {a b : Int} (h1 : ¬ (a = -1 ∨ b = -1)) (h2 : a ≠ 1) (h3 : b ≠ 1) (h4 : a ≠ b) (h5 : a ≠ -b) : and1 n a b = put n (sortG ⟨false, a, b⟩) := by
  unfold and1 sortG; rw [if_neg (by omega), if_neg (by omega), if_neg (by omega)]; split <;> rfl
theorem implAnd_any (lo r : Nat) (n : N) (a b : Int) (w : World) (h : Circ lo w r n n.gs) (hn : n.gs.length ≤ 600) (h0 : 0 ≤ n.ins) (h1 : n.ins ≤ 8) (ha : -2000000000 ≤ a ∧ a ≤ 2000000000) (hb : -2000000000 ≤ b ∧ b ≤ 2000000000) (hz : a ≠ 0) :
    Calls Try.prog 28 #[.pointer (some ⟨r, 0, none⟩), .int .i64 a, .int .i64 b] w (RetSig lo w r (and1 n a b)) := by
  have eb : IntKind.i64.wrap (-b) = -b := IntWalk.i64_in _ (by omega)

  by_cases c1 : a = -1 ∨ b = -1
  · rw [and1_1 c1]
    have t : (a == -1 || b == -1) = true := by simp; omega
    by_cases c0 : a = -1
    · have t0 : (a == -1) = true := by simp [c0]
      clear c1 t
      have C0 := Lib.hid c0
      clear c0
      go_enter Try.func28, Try.ntmps28
      go_wp2
      go_ret
      exact ⟨rfl, BelK.refl _ _, fun _ => h⟩
    · have t0 : (a == -1) = false := by simp [c0]
      have t1 : (b == -1) = true := by simp; omega
      clear c1 t
      go_enter Try.func28, Try.ntmps28
      go_wp2
      go_ret
      exact ⟨rfl, BelK.refl _ _, fun _ => h⟩
  have t0 : (a == -1) = false := by simp; omega
  have t1 : (b == -1) = false := by simp; omega
  by_cases c2 : a = 1
  · rw [and1_2 c1 c2]
    have t2 : (a == 1) = true := by simp [c2]
    have C2 := Lib.hid c2
    clear c1 c2
    go_enter Try.func28, Try.ntmps28
    go_wp2
    go_ret
    exact ⟨rfl, BelK.refl _ _, fun _ => h⟩
  have t2 : (a == 1) = false := by simp [c2]
  by_cases c3 : b = 1
  · rw [and1_3 c1 c2 c3]
    have t3 : (b == 1) = true := by simp [c3]
    clear c1 c3 eb
    go_enter Try.func28, Try.ntmps28
    go_wp2
    go_ret
    exact ⟨rfl, BelK.refl _ _, fun _ => h⟩
  have t3 : (b == 1) = false := by simp [c3]
  by_cases c4 : a = b
  · rw [and1_4 c1 hz c4]
    have t4 : (a == b) = true := by simp [c4]
    clear c1 c4
    go_enter Try.func28, Try.ntmps28
    go_wp2
    go_ret
    exact ⟨rfl, BelK.refl _ _, fun _ => h⟩
  have t4 : (a == b) = false := by simp [c4]
  by_cases c5 : a = -b
  · rw [and1_5 c5]
    have t5 : (a == -b) = true := by simp [c5]
    clear c1 c5
    go_enter Try.func28, Try.ntmps28
    go_wp2
    go_ret
    exact ⟨rfl, BelK.refl _ _, fun _ => h⟩
  have t5 : (a == -b) = false := by simp [c5]
  rw [and1_6 c1 c2 c3 c4 c5]
  clear c1 c2 c3 c4 c5
  go_enter Try.func28, Try.ntmps28
  go_wp2_with fail
  refine (gate_any lo r n ⟨false, a, b⟩ w h hn h0 h1 ha hb).mono ?_
  rintro e w' ⟨rfl, hb2, hc2⟩
  go_wp2
  go_ret
  exact ⟨rfl, hb2, hc2⟩

theorem xor1_1 {n : N} {a b : Int} (h : a = 1 ∨ a = -1) : xor1 n a b = (n, if (a == 1) = true then -b else b) := by
  unfold xor1; rw [if_pos h]
  rcases h with rfl | rfl
  · simp
  · simp
theorem xor1_2 {n : N} {a b : Int} (h1 : ¬ (a = 1 ∨ a = -1)) (h : b = 1 ∨ b = -1) : xor1 n a b = (n, if (b == 1) = true then -a else a) := by
  unfold xor1; rw [if_neg h1, if_pos h]
  rcases h with rfl | rfl
  · simp
  · simp
theorem xor1_3 {n : N} {a b : Int} (h1 : ¬ (a = 1 ∨ a = -1)) (h2 : ¬ (b = 1 ∨ b = -1)) (h : a = b) : xor1 n a b = (n, -1) := by unfold xor1; rw [if_neg h1, if_neg h2, if_pos h]
theorem xor1_4 {n : N} {a b : Int} (h1 : ¬ (a = 1 ∨ a = -1)) (h2 : ¬ (b = 1 ∨ b = -1)) (h3 : a ≠ b) (h : a = -b) : xor1 n a b = (n, 1) := by unfold xor1; rw [if_neg h1, if_neg h2, if_neg h3, if_pos h]
theorem sgn_mul (a b k : Int) : sgn a * sgn b * k = if (decide (a < 0) != decide (b < 0)) = true then -k else k := by
  unfold sgn
  by_cases ha : a < 0 <;> by_cases hb : b < 0 <;> simp [ha, hb]
theorem xor1_5 {n : N} {a b : Int} (h1 : ¬ (a = 1 ∨ a = -1)) (h2 : ¬ (b = 1 ∨ b = -1)) (h3 : a ≠ b) (h4 : a ≠ -b) :
    xor1 n a b = ((put n (sortG ⟨true, a.natAbs, b.natAbs⟩)).1, if (decide (a < 0) != decide (b < 0)) = true then -(put n (sortG ⟨true, a.natAbs, b.natAbs⟩)).2 else (put n (sortG ⟨true, a.natAbs, b.natAbs⟩)).2) := by
  unfold xor1; rw [if_neg h1, if_neg h2, if_neg h3, if_neg h4]
  have hs : (if b.natAbs < a.natAbs then (⟨true, (b.natAbs : Int), (a.natAbs : Int)⟩ : G) else ⟨true, (a.natAbs : Int), (b.natAbs : Int)⟩) = sortG ⟨true, a.natAbs, b.natAbs⟩ := by
    unfold sortG; simp only [Int.natAbs_natCast]
  simp only [hs, sgn_mul]
set_option maxRecDepth 100000 in
set_option maxHeartbeats 1000000 in
theorem implXor_any (lo r : Nat) (n : N) (a b : Int) (w : World) (h : Circ lo w r n n.gs) (hn : n.gs.length ≤ 600) (h0 : 0 ≤ n.ins) (h1 : n.ins ≤ 8) (ha : -2000000000 ≤ a ∧ a ≤ 2000000000) (hb : -2000000000 ≤ b ∧ b ≤ 2000000000) :
    Calls Try.prog 36 #[.pointer (some ⟨r, 0, none⟩), .int .i64 a, .int .i64 b] w (RetSig lo w r (xor1 n a b)) := by
  have eb : IntKind.i64.wrap (-b) = -b := IntWalk.i64_in _ (by omega)
  obtain ⟨na, hna⟩ : ∃ na : Int, na = a.natAbs := ⟨_, rfl⟩
  obtain ⟨nb, hnb⟩ : ∃ nb : Int, nb = b.natAbs := ⟨_, rfl⟩
  have qa : ∀ W : World, Calls Try.prog 62 #[.int .i64 a] W fun e w' => e = .returned (.int .i64 na) ∧ W = w' := fun W => by rw [hna]; exact node_any a W (by omega) (by omega)
  have qb : ∀ W : World, Calls Try.prog 62 #[.int .i64 b] W fun e w' => e = .returned (.int .i64 nb) ∧ W = w' := fun W => by rw [hnb]; exact node_any b W (by omega) (by omega)
  have Qa := Lib.hid qa
  have Qb := Lib.hid qb
  have NA := Lib.hid hna
  have NB := Lib.hid hnb
  clear qa qb
  by_cases c1 : a = 1 ∨ a = -1
  · have t1 : (na == 1) = true := by simp; omega
    clear hna hnb eb
    rcases c1 with rfl | rfl
    · rw [show xor1 n 1 b = (n, -b) from by rw [xor1_1 (.inl rfl)]; rfl]
      go_enter Try.func36, Try.ntmps36
      go_wp2_with fail
      refine (Qa.out _).mono ?_
      rintro e w' ⟨rfl, rfl⟩
      go_wp2_with fail
      refine (turned_any b true _ (by omega) (by omega)).mono ?_
      rintro e w' ⟨rfl, rfl⟩
      go_wp2
      go_ret
      exact ⟨rfl, BelK.refl _ _, fun _ => h⟩
    · rw [show xor1 n (-1) b = (n, b) from by rw [xor1_1 (.inr rfl)]; rfl]
      go_enter Try.func36, Try.ntmps36
      go_wp2_with fail
      refine (Qa.out _).mono ?_
      rintro e w' ⟨rfl, rfl⟩
      go_wp2_with fail
      refine (turned_any b false _ (by omega) (by omega)).mono ?_
      rintro e w' ⟨rfl, rfl⟩
      go_wp2
      go_ret
      exact ⟨rfl, BelK.refl _ _, fun _ => h⟩
  have t1 : (na == 1) = false := by simp; omega
  by_cases c2 : b = 1 ∨ b = -1
  · have t2 : (nb == 1) = true := by simp; omega
    clear hna hnb eb
    rcases c2 with rfl | rfl
    · rw [show xor1 n a 1 = (n, -a) from by rw [xor1_2 c1 (.inl rfl)]; rfl]
      clear c1
      go_enter Try.func36, Try.ntmps36
      go_wp2_with fail
      refine (Qa.out _).mono ?_
      rintro e w' ⟨rfl, rfl⟩
      go_wp2_with fail
      refine (Qb.out _).mono ?_
      rintro e w' ⟨rfl, rfl⟩
      go_wp2_with fail
      refine (turned_any a true _ (by omega) (by omega)).mono ?_
      rintro e w' ⟨rfl, rfl⟩
      go_wp2
      go_ret
      exact ⟨rfl, BelK.refl _ _, fun _ => h⟩
    · rw [show xor1 n a (-1) = (n, a) from by rw [xor1_2 c1 (.inr rfl)]; rfl]
      clear c1
      go_enter Try.func36, Try.ntmps36
      go_wp2_with fail
      refine (Qa.out _).mono ?_
      rintro e w' ⟨rfl, rfl⟩
      go_wp2_with fail
      refine (Qb.out _).mono ?_
      rintro e w' ⟨rfl, rfl⟩
      go_wp2_with fail
      refine (turned_any a false _ (by omega) (by omega)).mono ?_
      rintro e w' ⟨rfl, rfl⟩
      go_wp2
      go_ret
      exact ⟨rfl, BelK.refl _ _, fun _ => h⟩
  have t2 : (nb == 1) = false := by simp; omega
  by_cases c3 : a = b
  · rw [xor1_3 c1 c2 c3]
    have t3 : (a == b) = true := by simp [c3]
    clear c1 c2 c3 hna hnb
    go_enter Try.func36, Try.ntmps36
    go_wp2_with fail
    refine (Qa.out _).mono ?_
    rintro e w' ⟨rfl, rfl⟩
    go_wp2_with fail
    refine (Qb.out _).mono ?_
    rintro e w' ⟨rfl, rfl⟩
    go_wp2
    go_ret
    exact ⟨rfl, BelK.refl _ _, fun _ => h⟩
  have t3 : (a == b) = false := by simp [c3]
  by_cases c4 : a = -b
  · rw [xor1_4 c1 c2 c3 c4]
    have t4 : (a == -b) = true := by simp [c4]
    clear c1 c2 c3 c4 hna hnb
    go_enter Try.func36, Try.ntmps36
    go_wp2_with fail
    refine (Qa.out _).mono ?_
    rintro e w' ⟨rfl, rfl⟩
    go_wp2_with fail
    refine (Qb.out _).mono ?_
    rintro e w' ⟨rfl, rfl⟩
    go_wp2
    go_ret
    exact ⟨rfl, BelK.refl _ _, fun _ => h⟩
  have t4 : (a == -b) = false := by simp [c4]
  have hpr := put_range n (sortG ⟨true, a.natAbs, b.natAbs⟩) (by omega) h0 (by omega)
  have hga := gate_any lo r n ⟨true, na, nb⟩ w h hn h0 h1 (by rw [hna]; dsimp only; omega) (by rw [hnb]; dsimp only; omega)
  rw [xor1_5 c1 c2 c3 c4]
  rw [← hna, ← hnb] at hpr ⊢
  have HGA := Lib.hid hga
  clear c1 c2 c3 c4 hna hnb hga
  generalize hP : put n (sortG ⟨true, na, nb⟩) = pp at *
  have HPP := Lib.hid hP
  clear hP
  obtain ⟨hp0, hp1⟩ := hpr
  by_cases sa : a < 0 <;> by_cases sb : b < 0
  all_goals
    simp only [sa, sb, decide_true, decide_false, bne_self_eq_false, Bool.false_eq_true, if_false, if_true, show (true != false) = true from rfl, show (false != true) = true from rfl]
    go_enter Try.func36, Try.ntmps36
    go_wp2_with fail
    refine (Qa.out _).mono ?_
    rintro e w' ⟨rfl, rfl⟩
    go_wp2_with fail
    refine (Qb.out _).mono ?_
    rintro e w' ⟨rfl, rfl⟩
    go_wp2_with fail
    refine (Qa.out _).mono ?_
    rintro e w' ⟨rfl, rfl⟩
    go_wp2_with fail
    refine (Qb.out _).mono ?_
    rintro e w' ⟨rfl, rfl⟩
    go_wp2_with fail
    refine HGA.out.mono ?_
    unfold RetGate
    rw [HPP.out]
    rintro e w' ⟨rfl, hb2, hc2⟩
    go_wp2_with fail
    refine (turned_any pp.2 _ _ (by omega) (by omega)).mono ?_
    rintro e w' ⟨rfl, rfl⟩
    go_wp2
    go_ret
    exact ⟨rfl, hb2, fun h9 => hc2 (by first | exact h9 | (intro e; exact h9 (by show -pp.2 = 0; omega)))⟩

set_option maxRecDepth 100000 in
theorem clone_any (A : Option Addr) (c : Nat) (xs : List G) (w : World) (h : Lay.gate.Rd w A xs) (hn : xs.length ≤ 1048576) (hA : A = none → xs.length = 0) :
    Calls Try.prog 59 #[.slice A xs.length c] w (RetGs w xs) := by
  obtain ⟨i0, hi0, hz0, hz1, hz2⟩ := info_parts gate_info
  cases A with
  | none =>
    have h0 : xs = [] := List.eq_nil_of_length_eq_zero (hA rfl)
    subst h0
    have he : ∀ w : World, (binOp .eql 23 (.slice none 0 c) (.slice none 0 0)).run Try.prog w = .ok (.bool true) w := fun _ => rfl
    go_enter Try.func59, Try.ntmps59
    go_wp2
    go_ret
    exact ⟨none, 0, rfl, World.ownsRow_nil _ _ _ _, Below.refl _ _⟩
  | some ad =>
    clear hA
    have he : ∀ w : World, (binOp .eql 23 (.slice (some ad) xs.length c) (.slice none 0 0)).run Try.prog w = .ok (.bool false) w := fun _ => rfl
    go_enter Try.func59, Try.ntmps59
    go_wp2_with (at_builtin; refine wpList_append_src _ (by rfl) (.tmp 5) (.tmp 6) _ (by rfl) w.heap.size 58 i0 _ 3 24 Try.underlying23 hi0 hz0 hz1 hz2 (by rfl) (by omega) (.slice (some ⟨w.heap.size, 0, none⟩) 0 0) 0 [] (by rfl) (own_lit0 rfl) (some ad) xs.length c (xs.flatMap gcells) (by rfl) (src_gates (Lay.Sl.up h ((Below.refl _ _).alloc (Nat.le_refl _) _))) (gcells_one _) xs.length (by omega) (by unfold maxLen; omega) (by omega) (by simp) (by simp) ?_; intro A1 c1 w1 hown1 hb1 _)
    have hbw : Below w.heap.size w w1 := ((Below.refl _ _).alloc (Nat.le_refl _) _).trans hb1
    go_ret
    exact ⟨A1, c1, rfl, by unfold OwnGs; simpa using hown1, hbw⟩

end Go.Proofs.Ytcdlfnhjpjpbjaa
