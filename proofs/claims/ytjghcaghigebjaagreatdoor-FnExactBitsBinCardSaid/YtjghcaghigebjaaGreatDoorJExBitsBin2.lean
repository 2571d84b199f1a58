/- The program's circuits: has, and, xor, readNet, joined, NetAnd, NetXor. The program's reader of nets. The reference's NetAnd and NetXor. The reference's NetXor. The program's NetAnd and NetXor. What the laws on nets share: what came in, and what stays over a mark. Nets as arguments and answers: sizes, copies, comparisons, marks; in the laws' one form. What nets say: the plain law of and, of xor and of values. What nets say, asked twice, turned round, one behind the other. Programs that make gates: written once, run on the program's state and on the reference's. errors.Is over sentinels. The program's builder: its memory, what stays over its calls, its rows of signals. The program's builder: fail, made, and, or, mux. A drawn region whose operations write old memory: each operation once, in whatever world its turn comes; a relation that all keep, and an invariant. No program is named here. A drawn region, each operation once, what memory does told of each. No program is named here. A drawn region, each operation once: what is so all along may look at which operations have been done. No program is named here. The program's builder: bit by bit. Rows of the call's own whose elements may lead on to other blocks; append of one element. No program is named here. -/
import Derived.Test.YtjghcaghigebjaaGreatDoorChecked
import Derived.LaidEql
import Derived.Stop.Asserts
import Derived.RowKitTokens
import Derived.Test.YtjghcaghigebjaaGreatDoorJExBitsBin0
import Derived.Test.YtjghcaghigebjaaGreatDoorJExBitsBin1
/-! The program's circuits: has, and, xor, readNet, joined, NetAnd, NetXor. -/
namespace Go.Proofs.YtjghcaghigebjaaGreatDoor
open Go Go.RowKit Go.Maps

theorem has_any (lo r : Nat) (n : N) (ks : List G) (s : Int) (w : World) (h : Circ lo w r n ks) (hn : n.gs.length ≤ 600) (h0 : 0 ≤ n.ins) (h1 : n.ins ≤ 8) (s0 : -9223372036854775808 ≤ s) (s1 : s ≤ 9223372036854775807) :
    Calls Tryz.prog 90 #[.pointer (some ⟨r, 0, none⟩), .int .i64 s] w fun e w' => e = .returned (.bool (netMark n s)) ∧ Below w.heap.size w w' := by
  obtain ⟨A, c, b, hr, _, _, _, _⟩ := h
  have z0 : w.cell? ⟨r, 0, none⟩ = some (.int .i64 n.ins) := (cell_of_block hr 0).1
  have z1 : w.cell? ⟨r, 1, none⟩ = some (.slice A n.gs.length c) := (cell_of_block hr 1).1
  have z0 := Later.cell z0
  have z1 := Later.cell z1
  clear hr
  have hk1 : (n.gs.length : Int) ≤ 1048576 := by omega
  have hk0 : (0 : Int) ≤ n.gs.length := by omega
  unfold netMark
  go_enter Tryz.func90, Tryz.ntmps90
  go_wp2
  refine wp_region_later (by kernel_rfl) (by kernel_rfl) ?_
  repeat (go_big_quiet_step ((first | (go_at_call 119; with_reducible exact later_of_below (nodes_any A c n.gs.length n.ins n.gs.length _ (by omega) (by omega) hk0 hk1)) | (go_at_call 112; with_reducible exact later_of_same (of_any s _ _ s0 s1 (by omega) (by omega))))))
  refine wpQuiet_nil ?_
  rintro _ ⟨x, rfl⟩
  go_wp2
  go_ret
  exact ⟨rfl, x.le⟩

/-- What an operation on signals leaves. -/
def RetSig (lo : Nat) (w : World) (r : Nat) (m : N × Int) (e : Ending) (w' : World) : Prop :=
  e = .returned (.int .i64 m.2) ∧ BelK lo w w' ∧ (m.2 ≠ 0 → Circ lo w' r m.1 m.1.gs)

theorem and1_1 {n : N} {a b : Int} (h : a = -1 ∨ b = -1) : and1 n a b = (n, -1) := by unfold and1; rw [if_pos (by omega)]
theorem and1_2 {n : N} {a b : Int} (h : ¬ (a = -1 ∨ b = -1)) (h2 : a = 1) : and1 n a b = (n, b) := by unfold and1; rw [if_neg (by omega), if_pos (by omega)]
theorem and1_3 {n : N} {a b : Int} (h : ¬ (a = -1 ∨ b = -1)) (h2 : a ≠ 1) (h3 : b = 1) : and1 n a b = (n, a) := by unfold and1; rw [if_neg (by omega), if_neg (by omega), if_pos (by omega)]
theorem and1_4 {n : N} {a b : Int} (h : ¬ (a = -1 ∨ b = -1)) (h0 : a ≠ 0) (h2 : a = b) : and1 n a b = (n, a) := by unfold and1; rw [if_neg (by omega), if_pos (by omega), h2]
theorem and1_5 {n : N} {a b : Int} (h2 : a = -b) : and1 n a b = (n, -1) := by unfold and1; rw [if_pos (by omega)]
theorem and1_6 {n : N} {a b : Int} (h1 : ¬ (a = -1 ∨ b = -1)) (h2 : a ≠ 1) (h3 : b ≠ 1) (h4 : a ≠ b) (h5 : a ≠ -b) : and1 n a b = put n (sortG ⟨false, a, b⟩) := by
  unfold and1 sortG; rw [if_neg (by omega), if_neg (by omega), if_neg (by omega)]; split <;> rfl
theorem implAnd_any (lo r : Nat) (n : N) (a b : Int) (w : World) (h : Circ lo w r n n.gs) (hn : n.gs.length ≤ 600) (h0 : 0 ≤ n.ins) (h1 : n.ins ≤ 8) (ha : -2000000000 ≤ a ∧ a ≤ 2000000000) (hb : -2000000000 ≤ b ∧ b ≤ 2000000000) (hz : a ≠ 0) :
    Calls Tryz.prog 124 #[.pointer (some ⟨r, 0, none⟩), .int .i64 a, .int .i64 b] w (RetSig lo w r (and1 n a b)) := by
  have eb : IntKind.i64.wrap (-b) = -b := IntWalk.i64_in _ (by omega)

  by_cases c1 : a = -1 ∨ b = -1
  · rw [and1_1 c1]
    have t : (a == -1 || b == -1) = true := by simp; omega
    by_cases c0 : a = -1
    · have t0 : (a == -1) = true := by simp [c0]
      clear c1 t
      have C0 := Lib.hid c0
      clear c0
      go_enter Tryz.func124, Tryz.ntmps124
      go_wp2
      go_ret
      exact ⟨rfl, BelK.refl _ _, fun _ => h⟩
    · have t0 : (a == -1) = false := by simp [c0]
      have t1 : (b == -1) = true := by simp; omega
      clear c1 t
      go_enter Tryz.func124, Tryz.ntmps124
      go_wp2
      go_ret
      exact ⟨rfl, BelK.refl _ _, fun _ => h⟩
  have t0 : (a == -1) = false := by simp; omega
  have t1 : (b == -1) = false := by simp; omega
  by_cases c2 : a = 1
  · rw [and1_2 c1 c2]
    have t2 : (a == 1) = true := by simp [c2]
    have C2 := Lib.hid c2
    clear c1 c2
    go_enter Tryz.func124, Tryz.ntmps124
    go_wp2
    go_ret
    exact ⟨rfl, BelK.refl _ _, fun _ => h⟩
  have t2 : (a == 1) = false := by simp [c2]
  by_cases c3 : b = 1
  · rw [and1_3 c1 c2 c3]
    have t3 : (b == 1) = true := by simp [c3]
    clear c1 c3 eb
    go_enter Tryz.func124, Tryz.ntmps124
    go_wp2
    go_ret
    exact ⟨rfl, BelK.refl _ _, fun _ => h⟩
  have t3 : (b == 1) = false := by simp [c3]
  by_cases c4 : a = b
  · rw [and1_4 c1 hz c4]
    have t4 : (a == b) = true := by simp [c4]
    clear c1 c4
    go_enter Tryz.func124, Tryz.ntmps124
    go_wp2
    go_ret
    exact ⟨rfl, BelK.refl _ _, fun _ => h⟩
  have t4 : (a == b) = false := by simp [c4]
  by_cases c5 : a = -b
  · rw [and1_5 c5]
    have t5 : (a == -b) = true := by simp [c5]
    clear c1 c5
    go_enter Tryz.func124, Tryz.ntmps124
    go_wp2
    go_ret
    exact ⟨rfl, BelK.refl _ _, fun _ => h⟩
  have t5 : (a == -b) = false := by simp [c5]
  rw [and1_6 c1 c2 c3 c4 c5]
  clear c1 c2 c3 c4 c5
  go_enter Tryz.func124, Tryz.ntmps124
  go_wp2_with fail
  refine (gate_any lo r n ⟨false, a, b⟩ w h hn h0 h1 ha hb).mono ?_
  rintro e w' ⟨rfl, hb2, hc2⟩
  go_wp2
  go_ret
  exact ⟨rfl, hb2, hc2⟩

theorem xor1_1 {n : N} {a b : Int} (h : a = 1 ∨ a = -1) : xor1 n a b = (n, if (a == 1) = true then -b else b) := by
  unfold xor1; rw [if_pos h]
  rcases h with rfl | rfl
  · simp
  · simp
theorem xor1_2 {n : N} {a b : Int} (h1 : ¬ (a = 1 ∨ a = -1)) (h : b = 1 ∨ b = -1) : xor1 n a b = (n, if (b == 1) = true then -a else a) := by
  unfold xor1; rw [if_neg h1, if_pos h]
  rcases h with rfl | rfl
  · simp
  · simp
theorem xor1_3 {n : N} {a b : Int} (h1 : ¬ (a = 1 ∨ a = -1)) (h2 : ¬ (b = 1 ∨ b = -1)) (h : a = b) : xor1 n a b = (n, -1) := by unfold xor1; rw [if_neg h1, if_neg h2, if_pos h]
theorem xor1_4 {n : N} {a b : Int} (h1 : ¬ (a = 1 ∨ a = -1)) (h2 : ¬ (b = 1 ∨ b = -1)) (h3 : a ≠ b) (h : a = -b) : xor1 n a b = (n, 1) := by unfold xor1; rw [if_neg h1, if_neg h2, if_neg h3, if_pos h]
theorem sgn_mul (a b k : Int) : sgn a * sgn b * k = if (decide (a < 0) != decide (b < 0)) = true then -k else k := by
  unfold sgn
  by_cases ha : a < 0 <;> by_cases hb : b < 0 <;> simp [ha, hb]
theorem xor1_5 {n : N} {a b : Int} (h1 : ¬ (a = 1 ∨ a = -1)) (h2 : ¬ (b = 1 ∨ b = -1)) (h3 : a ≠ b) (h4 : a ≠ -b) :
    xor1 n a b = ((put n (sortG ⟨true, a.natAbs, b.natAbs⟩)).1, if (decide (a < 0) != decide (b < 0)) = true then -(put n (sortG ⟨true, a.natAbs, b.natAbs⟩)).2 else (put n (sortG ⟨true, a.natAbs, b.natAbs⟩)).2) := by
  unfold xor1; rw [if_neg h1, if_neg h2, if_neg h3, if_neg h4]
  have hs : (if b.natAbs < a.natAbs then (⟨true, (b.natAbs : Int), (a.natAbs : Int)⟩ : G) else ⟨true, (a.natAbs : Int), (b.natAbs : Int)⟩) = sortG ⟨true, a.natAbs, b.natAbs⟩ := by
    unfold sortG; simp only [Int.natAbs_natCast]
  simp only [hs, sgn_mul]
set_option maxRecDepth 100000 in
set_option maxHeartbeats 1000000 in
theorem implXor_any (lo r : Nat) (n : N) (a b : Int) (w : World) (h : Circ lo w r n n.gs) (hn : n.gs.length ≤ 600) (h0 : 0 ≤ n.ins) (h1 : n.ins ≤ 8) (ha : -2000000000 ≤ a ∧ a ≤ 2000000000) (hb : -2000000000 ≤ b ∧ b ≤ 2000000000) :
    Calls Tryz.prog 125 #[.pointer (some ⟨r, 0, none⟩), .int .i64 a, .int .i64 b] w (RetSig lo w r (xor1 n a b)) := by
  have eb : IntKind.i64.wrap (-b) = -b := IntWalk.i64_in _ (by omega)
  obtain ⟨na, hna⟩ : ∃ na : Int, na = a.natAbs := ⟨_, rfl⟩
  obtain ⟨nb, hnb⟩ : ∃ nb : Int, nb = b.natAbs := ⟨_, rfl⟩
  have qa : ∀ W : World, Calls Tryz.prog 113 #[.int .i64 a] W fun e w' => e = .returned (.int .i64 na) ∧ W = w' := fun W => by rw [hna]; exact node_any a W (by omega) (by omega)
  have qb : ∀ W : World, Calls Tryz.prog 113 #[.int .i64 b] W fun e w' => e = .returned (.int .i64 nb) ∧ W = w' := fun W => by rw [hnb]; exact node_any b W (by omega) (by omega)
  have Qa := Lib.hid qa
  have Qb := Lib.hid qb
  have NA := Lib.hid hna
  have NB := Lib.hid hnb
  clear qa qb
  by_cases c1 : a = 1 ∨ a = -1
  · have t1 : (na == 1) = true := by simp; omega
    clear hna hnb eb
    rcases c1 with rfl | rfl
    · rw [show xor1 n 1 b = (n, -b) from by rw [xor1_1 (.inl rfl)]; rfl]
      go_enter Tryz.func125, Tryz.ntmps125
      go_wp2_with fail
      refine (Qa.out _).mono ?_
      rintro e w' ⟨rfl, rfl⟩
      go_wp2_with fail
      refine (turned_any b true _ (by omega) (by omega)).mono ?_
      rintro e w' ⟨rfl, rfl⟩
      go_wp2
      go_ret
      exact ⟨rfl, BelK.refl _ _, fun _ => h⟩
    · rw [show xor1 n (-1) b = (n, b) from by rw [xor1_1 (.inr rfl)]; rfl]
      go_enter Tryz.func125, Tryz.ntmps125
      go_wp2_with fail
      refine (Qa.out _).mono ?_
      rintro e w' ⟨rfl, rfl⟩
      go_wp2_with fail
      refine (turned_any b false _ (by omega) (by omega)).mono ?_
      rintro e w' ⟨rfl, rfl⟩
      go_wp2
      go_ret
      exact ⟨rfl, BelK.refl _ _, fun _ => h⟩
  have t1 : (na == 1) = false := by simp; omega
  by_cases c2 : b = 1 ∨ b = -1
  · have t2 : (nb == 1) = true := by simp; omega
    clear hna hnb eb
    rcases c2 with rfl | rfl
    · rw [show xor1 n a 1 = (n, -a) from by rw [xor1_2 c1 (.inl rfl)]; rfl]
      clear c1
      go_enter Tryz.func125, Tryz.ntmps125
      go_wp2_with fail
      refine (Qa.out _).mono ?_
      rintro e w' ⟨rfl, rfl⟩
      go_wp2_with fail
      refine (Qb.out _).mono ?_
      rintro e w' ⟨rfl, rfl⟩
      go_wp2_with fail
      refine (turned_any a true _ (by omega) (by omega)).mono ?_
      rintro e w' ⟨rfl, rfl⟩
      go_wp2
      go_ret
      exact ⟨rfl, BelK.refl _ _, fun _ => h⟩
    · rw [show xor1 n a (-1) = (n, a) from by rw [xor1_2 c1 (.inr rfl)]; rfl]
      clear c1
      go_enter Tryz.func125, Tryz.ntmps125
      go_wp2_with fail
      refine (Qa.out _).mono ?_
      rintro e w' ⟨rfl, rfl⟩
      go_wp2_with fail
      refine (Qb.out _).mono ?_
      rintro e w' ⟨rfl, rfl⟩
      go_wp2_with fail
      refine (turned_any a false _ (by omega) (by omega)).mono ?_
      rintro e w' ⟨rfl, rfl⟩
      go_wp2
      go_ret
      exact ⟨rfl, BelK.refl _ _, fun _ => h⟩
  have t2 : (nb == 1) = false := by simp; omega
  by_cases c3 : a = b
  · rw [xor1_3 c1 c2 c3]
    have t3 : (a == b) = true := by simp [c3]
    clear c1 c2 c3 hna hnb
    go_enter Tryz.func125, Tryz.ntmps125
    go_wp2_with fail
    refine (Qa.out _).mono ?_
    rintro e w' ⟨rfl, rfl⟩
    go_wp2_with fail
    refine (Qb.out _).mono ?_
    rintro e w' ⟨rfl, rfl⟩
    go_wp2
    go_ret
    exact ⟨rfl, BelK.refl _ _, fun _ => h⟩
  have t3 : (a == b) = false := by simp [c3]
  by_cases c4 : a = -b
  · rw [xor1_4 c1 c2 c3 c4]
    have t4 : (a == -b) = true := by simp [c4]
    clear c1 c2 c3 c4 hna hnb
    go_enter Tryz.func125, Tryz.ntmps125
    go_wp2_with fail
    refine (Qa.out _).mono ?_
    rintro e w' ⟨rfl, rfl⟩
    go_wp2_with fail
    refine (Qb.out _).mono ?_
    rintro e w' ⟨rfl, rfl⟩
    go_wp2
    go_ret
    exact ⟨rfl, BelK.refl _ _, fun _ => h⟩
  have t4 : (a == -b) = false := by simp [c4]
  have hpr := put_range n (sortG ⟨true, a.natAbs, b.natAbs⟩) (by omega) h0 (by omega)
  have hga := gate_any lo r n ⟨true, na, nb⟩ w h hn h0 h1 (by rw [hna]; dsimp only; omega) (by rw [hnb]; dsimp only; omega)
  rw [xor1_5 c1 c2 c3 c4]
  rw [← hna, ← hnb] at hpr ⊢
  have HGA := Lib.hid hga
  clear c1 c2 c3 c4 hna hnb hga
  generalize hP : put n (sortG ⟨true, na, nb⟩) = pp at *
  have HPP := Lib.hid hP
  clear hP
  obtain ⟨hp0, hp1⟩ := hpr
  by_cases sa : a < 0 <;> by_cases sb : b < 0
  all_goals
    simp only [sa, sb, decide_true, decide_false, bne_self_eq_false, Bool.false_eq_true, if_false, if_true, show (true != false) = true from rfl, show (false != true) = true from rfl]
    go_enter Tryz.func125, Tryz.ntmps125
    go_wp2_with fail
    refine (Qa.out _).mono ?_
    rintro e w' ⟨rfl, rfl⟩
    go_wp2_with fail
    refine (Qb.out _).mono ?_
    rintro e w' ⟨rfl, rfl⟩
    go_wp2_with fail
    refine (Qa.out _).mono ?_
    rintro e w' ⟨rfl, rfl⟩
    go_wp2_with fail
    refine (Qb.out _).mono ?_
    rintro e w' ⟨rfl, rfl⟩
    go_wp2_with fail
    refine HGA.out.mono ?_
    unfold RetGate
    rw [HPP.out]
    rintro e w' ⟨rfl, hb2, hc2⟩
    go_wp2_with fail
    refine (turned_any pp.2 _ _ (by omega) (by omega)).mono ?_
    rintro e w' ⟨rfl, rfl⟩
    go_wp2
    go_ret
    exact ⟨rfl, hb2, fun h9 => hc2 (by first | exact h9 | (intro e; exact h9 (by show -pp.2 = 0; omega)))⟩

set_option maxRecDepth 100000 in
theorem clone_any (A : Option Addr) (c : Nat) (xs : List G) (w : World) (h : Lay.gate.Rd w A xs) (hn : xs.length ≤ 1048576) (hA : A = none → xs.length = 0) :
    Calls Tryz.prog 118 #[.slice A xs.length c] w (RetGs w xs) := by
  obtain ⟨i0, hi0, hz0, hz1, hz2⟩ := info_parts gate_info
  cases A with
  | none =>
    have h0 : xs = [] := List.eq_nil_of_length_eq_zero (hA rfl)
    subst h0
    have he : ∀ w : World, (binOp .eql 27 (.slice none 0 c) (.slice none 0 0)).run Tryz.prog w = .ok (.bool true) w := fun _ => rfl
    go_enter Tryz.func118, Tryz.ntmps118
    go_wp2
    go_ret
    exact ⟨none, 0, rfl, World.ownsRow_nil _ _ _ _, Below.refl _ _⟩
  | some ad =>
    clear hA
    have he : ∀ w : World, (binOp .eql 27 (.slice (some ad) xs.length c) (.slice none 0 0)).run Tryz.prog w = .ok (.bool false) w := fun _ => rfl
    go_enter Tryz.func118, Tryz.ntmps118
    go_wp2_with (at_builtin; refine wpList_append_src _ (by rfl) (.tmp 5) (.tmp 6) _ (by rfl) w.heap.size 88 i0 _ 3 24 Tryz.underlying27 hi0 hz0 hz1 hz2 (by rfl) (by omega) (.slice (some ⟨w.heap.size, 0, none⟩) 0 0) 0 [] (by rfl) (own_lit0 rfl) (some ad) xs.length c (xs.flatMap gcells) (by rfl) (src_gates (Lay.Sl.up h ((Below.refl _ _).alloc (Nat.le_refl _) _))) (gcells_one _) xs.length (by omega) (by unfold maxLen; omega) (by omega) (by simp) (by simp) ?_; intro A1 c1 w1 hown1 hb1 _)
    have hbw : Below w.heap.size w w1 := ((Below.refl _ _).alloc (Nat.le_refl _) _).trans hb1
    go_ret
    exact ⟨A1, c1, rfl, by unfold OwnGs; simpa using hown1, hbw⟩

end Go.Proofs.YtjghcaghigebjaaGreatDoor

/-! The program's reader of nets. -/
namespace Go.Proofs.YtjghcaghigebjaaGreatDoor
open Go Go.RowKit Go.Maps

/-- What the reader of a net leaves. -/
def RetReadN (w : World) (n : N) (e : Ending) (w' : World) : Prop :=
  Below w.heap.size w w' ∧ ((netOk n = true ∧ ∃ r, e = .returned (.tuple #[.pointer (some ⟨r, 0, none⟩), .bool true]) ∧ Circ w.heap.size w' r n n.gs) ∨ (netOk n = false ∧ e = .returned (.tuple #[.pointer none, .bool false])))
theorem read_no {w w' : World} {n : N} (h : netOk n = false) (hb : Below w.heap.size w w') : RetReadN w n (.returned (.tuple #[.pointer none, .bool false])) w' := ⟨hb, .inr ⟨h, rfl⟩⟩

def Fact.rowG (lo : Nat) (xs : List G) : Fact :=
  .of (fun v x => ∃ A c, v = .slice A xs.length c ∧ OwnGs x lo (.slice A xs.length c) xs) fun _ _ _ ⟨A, c, h1, h2⟩ hb => ⟨A, c, h1, h2.up hb⟩
def Fact.netG (lo : Nat) (n : N) : Fact :=
  .of (fun v x => ∃ A c, v = .agg #[.int .i64 n.ins, .slice A n.gs.length c] ∧ OwnGs x lo (.slice A n.gs.length c) n.gs) fun _ _ _ ⟨A, c, h1, h2⟩ hb => ⟨A, c, h1, h2.up hb⟩
def Fact.mapG (lo : Nat) (ins : Int) : Fact :=
  .of (fun v x => ∃ b, v = .map (some b) ∧ lo ≤ b ∧ KnownAt x b ins []) fun _ _ _ ⟨b, h1, h2, h3⟩ hb => ⟨b, h1, h2, h3.keep (hb.block b h3.lt)⟩
def Fact.circG (lo : Nat) (n : N) : Fact :=
  .of (fun v x => ∃ A c b, v = .agg #[.int .i64 n.ins, .slice A n.gs.length c, .map (some b)] ∧ OwnGs x lo (.slice A n.gs.length c) n.gs ∧ lo ≤ b ∧ KnownAt x b n.ins []) fun _ _ _ ⟨A, c, b, h1, h2, h3, h4⟩ hb => ⟨A, c, b, h1, h2.up hb, h3, h4.keep (hb.block b h4.lt)⟩
def Fact.ptrG (W : World) (n : N) : Fact :=
  .of (fun v x => ∃ r, v = .pointer (some ⟨r, 0, none⟩) ∧ Circ W.heap.size x r n [] ∧ Below W.heap.size W x) fun _ _ _ ⟨r, h1, h2, h3⟩ hb => ⟨r, h1, h2.up hb, bthen h3 hb⟩

theorem good_no_ok {n : N} {k : Nat} {g : G} (hg : n.gs[k]? = some g) (hk : k < n.gs.length) (h : g.a < -(1 + n.ins + k) ∨ 1 + n.ins + k < g.a ∨ g.b < -(1 + n.ins + k) ∨ 1 + n.ins + k < g.b ∨ (g.a.natAbs : Int) < 2 ∨ (g.b.natAbs : Int) ≤ g.a.natAbs) : netOk n = false := by
  refine netOk_no (.inr (.inr (.inr ⟨k, hk, ?_⟩)))
  unfold goodAt goodG okG
  rw [hg]
  simp only [okG_no h, Bool.false_and]
theorem good_no_x {n : N} {k : Nat} {g : G} (hg : n.gs[k]? = some g) (hk : k < n.gs.length) (h : g.x = true ∧ (g.a < 0 ∨ g.b < 0)) : netOk n = false := by
  refine netOk_no (.inr (.inr (.inr ⟨k, hk, ?_⟩)))
  unfold goodAt goodG okG
  rw [hg, Bool.eq_false_iff]
  intro e
  simp only [Bool.and_eq_true, Bool.not_eq_true', Bool.and_eq_false_iff, Bool.or_eq_false_iff, decide_eq_false_iff_not] at e
  obtain ⟨⟨_, e⟩, _⟩ := e
  rcases e with e | ⟨e1, e2⟩
  · rw [h.1] at e; cases e
  · omega
theorem good_no_mem {n : N} {k : Nat} {g : G} (hg : n.gs[k]? = some g) (hk : k < n.gs.length) (h : g ∈ n.gs.take k) : netOk n = false := by
  refine netOk_no (.inr (.inr (.inr ⟨k, hk, ?_⟩)))
  unfold goodAt goodG
  rw [hg]
  have : (n.gs.take k).contains g = true := List.contains_iff_mem.2 h
  simp only [this, Bool.not_true, Bool.and_false]
theorem good_yes {n : N} {k : Nat} {g : G} (hg : n.gs[k]? = some g) (h1 : -(1 + n.ins + k) ≤ g.a) (h2 : g.a ≤ 1 + n.ins + k) (h3 : -(1 + n.ins + k) ≤ g.b) (h4 : g.b ≤ 1 + n.ins + k) (h5 : 2 ≤ (g.a.natAbs : Int)) (h6 : (g.a.natAbs : Int) < g.b.natAbs)
    (hx : ¬ (g.x = true ∧ (g.a < 0 ∨ g.b < 0))) (hm : g ∉ n.gs.take k) : goodAt n k = true := by
  unfold goodAt goodG okG
  rw [hg]
  simp only [okG_yes h1 h2 h3 h4 h5 h6]
  have hc : (n.gs.take k).contains g = false := by
    cases h : (n.gs.take k).contains g with
    | false => rfl
    | true => exact absurd (List.contains_iff_mem.1 h) hm
  rw [hc]
  cases hgx : g.x with
  | false => rfl
  | true =>
    have : ¬ (g.a < 0 ∨ g.b < 0) := fun h => hx ⟨hgx, h⟩
    have h7 : decide (g.a < 0) = false := by simp; omega
    have h8 : decide (g.b < 0) = false := by simp; omega
    rw [h7, h8]; rfl

set_option maxRecDepth 100000 in
set_option maxHeartbeats 8000000 in
theorem readNet_any (A : Option Addr) (c : Nat) (n : N) (w : World) (h : Lay.gate.Rd w A n.gs) (hn : n.gs.length ≤ 1048576) (hA : A = none → n.gs.length = 0) (hi : okInts n) :
    Calls Tryz.prog 86 #[.agg #[.int .i64 n.ins, .slice A n.gs.length c]] w (RetReadN w n) := by
  have hw : Below w.heap.size w (w.alloc (.cells #[.int .i64 n.ins, .slice A n.gs.length c] 29)) := (Below.refl _ _).alloc (Nat.le_refl _) _
  by_cases h0 : n.ins < 0
  · have HN := Lib.hid (netOk_no (.inl h0))
    go_enter Tryz.func86, Tryz.ntmps86
    go_wp2
    go_ret2
    exact read_no HN.out hw
  by_cases h1 : 8 < n.ins
  · have HN := Lib.hid (netOk_no (.inr (.inl h1)))
    go_enter Tryz.func86, Tryz.ntmps86
    go_wp2
    go_ret2
    exact read_no HN.out hw
  by_cases h2 : 600 < n.gs.length
  · have HN := Lib.hid (netOk_no (.inr (.inr (.inl h2))))
    go_enter Tryz.func86, Tryz.ntmps86
    go_wp2
    go_ret2
    exact read_no HN.out hw
  have v0 : (w.alloc (.cells #[.int .i64 n.ins, .slice A n.gs.length c] 29)).cell? ⟨w.heap.size, 0, none⟩ = some (.int .i64 n.ins) := by simp [go_sem]
  have v1 : (w.alloc (.cells #[.int .i64 n.ins, .slice A n.gs.length c] 29)).cell? ⟨w.heap.size, 1, none⟩ = some (.slice A n.gs.length c) := by simp [go_sem]
  have hlo1 : w.heap.size ≤ (w.alloc (.cells #[.int .i64 n.ins, .slice A n.gs.length c] 29)).heap.size := by simp
  have H := h.up hw
  go_enter Tryz.func86, Tryz.ntmps86
  go_wp2
  generalize w.alloc (.cells #[.int .i64 n.ins, .slice A n.gs.length c] 29) = W1 at *
  have d0 := Later.cell v0
  have d1 := Later.cell v1

  refine wp_region_shares [[], [(0, 25)], [], [(2, 27)], [(3, 28)], [(1, 26), (4, 29)], [], [(5, 30), (6, 31)], [(7, 32)], [(8, 33)]]
    [.eq (.pointer (some ⟨w.heap.size, 0, none⟩)), .eq (.int .i64 n.ins), .eq (.pointer (some ⟨w.heap.size, 1, none⟩)), .eq (.slice A n.gs.length c), Fact.rowG W1.heap.size n.gs, Fact.netG W1.heap.size n, Fact.mapG W1.heap.size n.ins, Fact.circG W1.heap.size n, Fact.ptrG W1 n, Fact.ptrG W1 n]
    [] [] [] [9] [(0, 25), (1, 26), (2, 27), (3, 28), (4, 29), (5, 30), (6, 31), (7, 32), (8, 33), (9, 4)] (by kernel_rfl) (by kernel_rfl) (by kernel_rfl) (by kernel_rfl)
    ⟨?_, ?_, ?_, ?_, ?_, ?_, ?_, ?_, ?_, ?_, trivial⟩ ?_
  · intro vals x hC hF
    simp only [putsD, Act.put, List.setIfInBounds_toArray, List.set_cons_zero, List.set_cons_succ]
    go_wp2
    exact ⟨rfl, rfl, .inr (Below.refl _ _), .inr (.inl (by simp))⟩
  · intro vals x hC hF
    have hC := hC.resolve_left (by simp)
    have hsz := hC.size
    have e1 : x.cell? _ = _ := d0 ⟨x, hC⟩
    simp only [factsD, List.getD_cons_zero, List.getD_cons_succ, Fact.eq, Fact.row, Fact.lit, Fact.lit0, Fact.of, and_true, Fact.rowG, Fact.netG, Fact.mapG, Fact.circG, Fact.ptrG] at hF
    simp only [putsD, Act.put, List.setIfInBounds_toArray, List.set_cons_zero, List.set_cons_succ]
    simp only [hF]
    go_wp2
    exact ⟨rfl, rfl, .inr (Below.refl _ _), .inr (.inl (by simp))⟩
  · intro vals x hC hF
    simp only [putsD, Act.put, List.setIfInBounds_toArray, List.set_cons_zero, List.set_cons_succ]
    go_wp2
    exact ⟨rfl, rfl, .inr (Below.refl _ _), .inr (.inl (by simp))⟩
  · intro vals x hC hF
    have hC := hC.resolve_left (by simp)
    have hsz := hC.size
    have e1 : x.cell? _ = _ := d1 ⟨x, hC⟩
    simp only [factsD, List.getD_cons_zero, List.getD_cons_succ, Fact.eq, Fact.row, Fact.lit, Fact.lit0, Fact.of, and_true, Fact.rowG, Fact.netG, Fact.mapG, Fact.circG, Fact.ptrG] at hF
    simp only [putsD, Act.put, List.setIfInBounds_toArray, List.set_cons_zero, List.set_cons_succ]
    simp only [hF]
    go_wp2
    exact ⟨rfl, rfl, .inr (Below.refl _ _), .inr (.inl (by simp))⟩
  · intro vals x hC hF
    have hC := hC.resolve_left (by simp)
    have hsz := hC.size
    simp only [factsD, List.getD_cons_zero, List.getD_cons_succ, Fact.eq, Fact.row, Fact.lit, Fact.lit0, Fact.of, and_true, Fact.rowG, Fact.netG, Fact.mapG, Fact.circG, Fact.ptrG] at hF
    simp only [putsD, Act.put, List.setIfInBounds_toArray, List.set_cons_zero, List.set_cons_succ]
    simp only [hF]
    go_wp2_with fail
    refine (clone_any A c n.gs x (H.up hC) hn hA).mono ?_
    rintro e w9 ⟨A9, c9, rfl, ho9, hb9⟩
    go_wp2
    exact ⟨rfl, ⟨A9, c9, rfl, own_mono ho9 hsz⟩, .inr hb9, .inr (.inl (by simp))⟩
  · intro vals x hC hF
    have hC := hC.resolve_left (by simp)
    have hsz := hC.size
    simp only [factsD, List.getD_cons_zero, List.getD_cons_succ, Fact.eq, Fact.row, Fact.lit, Fact.lit0, Fact.of, and_true, Fact.rowG, Fact.netG, Fact.mapG, Fact.circG, Fact.ptrG] at hF
    obtain ⟨e26, A9, c9, e29, ho9⟩ := hF
    simp only [putsD, Act.put, List.setIfInBounds_toArray, List.set_cons_zero, List.set_cons_succ]
    simp only [e26, e29]
    go_wp2
    exact ⟨rfl, ⟨A9, c9, rfl, ho9⟩, .inr (Below.refl _ _), .inr (.inl (by simp))⟩
  · intro vals x hC hF
    have hC := hC.resolve_left (by simp)
    have hsz := hC.size
    simp only [putsD, Act.put, List.setIfInBounds_toArray, List.set_cons_zero, List.set_cons_succ]
    have hmm := @run_makeMap Tryz.prog
    go_wp2
    exact ⟨rfl, ⟨_, rfl, hsz, _, World.ownsMap_made x _ _ _, Known.nil _⟩, .inr ((Below.refl _ _).alloc (Nat.le_refl _) _), .inr (.inl (by simp))⟩
  · intro vals x hC hF
    have hC := hC.resolve_left (by simp)
    have hsz := hC.size
    simp only [factsD, List.getD_cons_zero, List.getD_cons_succ, Fact.eq, Fact.row, Fact.lit, Fact.lit0, Fact.of, and_true, Fact.rowG, Fact.netG, Fact.mapG, Fact.circG, Fact.ptrG] at hF
    obtain ⟨⟨A9, c9, e30, ho9⟩, b9, e31, hb9, hk9⟩ := hF
    simp only [putsD, Act.put, List.setIfInBounds_toArray, List.set_cons_zero, List.set_cons_succ]
    simp only [e30, e31]
    go_wp2
    exact ⟨rfl, ⟨A9, c9, b9, rfl, ho9, hb9, hk9⟩, .inr (Below.refl _ _), .inr (.inl (by simp))⟩
  · intro vals x hC hF
    have hC := hC.resolve_left (by simp)
    have hsz := hC.size
    simp only [factsD, List.getD_cons_zero, List.getD_cons_succ, Fact.eq, Fact.row, Fact.lit, Fact.lit0, Fact.of, and_true, Fact.rowG, Fact.netG, Fact.mapG, Fact.circG, Fact.ptrG] at hF
    obtain ⟨A9, c9, b9, e32, ho9, hb9, hk9⟩ := hF
    simp only [putsD, Act.put, List.setIfInBounds_toArray, List.set_cons_zero, List.set_cons_succ]
    simp only [e32]
    go_wp2
    have hal : Below x.heap.size x (x.alloc (.cells #[.int .i64 n.ins, .slice A9 n.gs.length c9, .map (some b9)] 119)) := (Below.refl _ _).alloc (Nat.le_refl _) _
    exact ⟨rfl, ⟨_, rfl, ⟨A9, c9, b9, heap_alloc_new _ _, hsz, hb9, ho9.up hal, hk9.keep (hal.block b9 hk9.lt)⟩, bthen hC hal⟩, .inr hal, .inr (.inl (by simp))⟩
  · intro vals x hC hF
    have hC := hC.resolve_left (by simp)
    have hsz := hC.size
    simp only [factsD, List.getD_cons_zero, List.getD_cons_succ, Fact.eq, Fact.row, Fact.lit, Fact.lit0, Fact.of, and_true, Fact.rowG, Fact.netG, Fact.mapG, Fact.circG, Fact.ptrG] at hF
    obtain ⟨r9, e33, hc9, hb9⟩ := hF
    simp only [putsD, Act.put, List.setIfInBounds_toArray, List.set_cons_zero, List.set_cons_succ]
    simp only [e33]
    go_wp2
    exact ⟨rfl, ⟨r9, rfl, hc9, hb9⟩, .inr (Below.refl _ _), .inr (.inl (by simp))⟩
  · intro vals x hF
    simp only [facts, List.getD_cons_zero, List.getD_cons_succ, Fact.eq, Fact.row, Fact.lit, Fact.lit0, Fact.of, and_true, Fact.rowG, Fact.netG, Fact.mapG, Fact.circG, Fact.ptrG] at hF
    obtain ⟨r, e9, hC, hB⟩ := hF
    simp only [putsD, Act.put, List.setIfInBounds_toArray, List.set_cons_zero, List.set_cons_succ]
    simp only [e9]
    clear e9
    have z1 := (hB.cell (World.block_lt_of_cell? W1 _ v1)).trans v1
    go_wp2
    clear z1
    go_loopw [37] (fun i wr => ∃ k : Nat, k ≤ n.gs.length ∧ i = .int .i64 k ∧ Below W1.heap.size W1 wr ∧ Circ W1.heap.size wr r n (n.gs.take k) ∧ ∀ i', i' < k → goodAt n i' = true) (fun i _ => n.gs.length - (intOf i).toNat)
    case atStart => exact ⟨0, Nat.zero_le _, rfl, hB, hC, fun i' h => absurd h (by omega)⟩
    case round =>
      obtain ⟨k, hk, rfl, hb, hCk, hg⟩ := hrel
      have HG := Lib.hid hg
      clear hg hB hC d0 d1
      by_cases hlt : k < n.gs.length
      · obtain ⟨ad, rfl, hf, g1, g2, g3⟩ := (H.up hb).at_gate hlt
        have hgk : n.gs[k]? = some n.gs[k] := List.getElem?_eq_getElem hlt
        obtain ⟨⟨a0, a1⟩, b0, b1⟩ := hi n.gs[k] (List.getElem_mem _)
        generalize n.gs[k] = g at *
        obtain ⟨gx, ga, gb⟩ := g
        dsimp only at g1 g2 g3 a0 a1 b0 b1
        have HGK := Lib.hid hgk
        obtain ⟨na, hna⟩ : ∃ na : Int, na = ga.natAbs := ⟨_, rfl⟩
        obtain ⟨nb, hnb⟩ : ∃ nb : Int, nb = gb.natAbs := ⟨_, rfl⟩
        have qa : ∀ W : World, -9223372036854775808 < ga → Calls Tryz.prog 113 #[.int .i64 ga] W fun e w' => e = .returned (.int .i64 na) ∧ W = w' := fun W h9 => by rw [hna]; exact node_any ga W h9 a1
        have qb : ∀ W : World, -9223372036854775808 < gb → Calls Tryz.prog 113 #[.int .i64 gb] W fun e w' => e = .returned (.int .i64 nb) ∧ W = w' := fun W h9 => by rw [hnb]; exact node_any gb W h9 b1
        have Qa := Lib.hid qa
        have Qb := Lib.hid qb
        have NA := Lib.hid hna
        have NB := Lib.hid hnb
        clear qa qb hgk hna hnb
        have hk1 : (k : Int) < n.gs.length := by omega
        have y0 := (hb.cell (World.block_lt_of_cell? W1 _ v0)).trans v0
        have y1 := (hb.cell (World.block_lt_of_cell? W1 _ v1)).trans v1
        have hS1 : w.heap.size < W1.heap.size := World.block_lt_of_cell? W1 _ v0
        have hS2 : W1.heap.size ≤ wr.heap.size := hb.size
        have hS3 : w.heap.size < wr.heap.size := Nat.lt_of_lt_of_le hS1 hS2
        have hal : Below wr.heap.size wr (wr.alloc (.cells #[.bool gx, .int .i64 ga, .int .i64 gb] 88)) := (Below.refl _ _).alloc (Nat.le_refl _) _
        have hSg : (wr.alloc (.cells #[.bool gx, .int .i64 ga, .int .i64 gb] 88)).heap[wr.heap.size]? = some (.cells #[.bool gx, .int .i64 ga, .int .i64 gb] 88 (0, 0)) := heap_alloc_new _ _
        have hCal := hCk.up hal
        have t0 : (wr.alloc (.cells #[.bool gx, .int .i64 ga, .int .i64 gb] 88)).cell? ⟨w.heap.size, 0, none⟩ = some (.int .i64 n.ins) := ((bcell hal).1 _ _ hS3).trans y0
        have t1 : (wr.alloc (.cells #[.bool gx, .int .i64 ga, .int .i64 gb] 88)).cell? ⟨w.heap.size, 1, none⟩ = some (.slice (some ad) n.gs.length c) := ((bcell hal).1 _ _ hS3).trans y1
        go_wp2
        go_quiet (fail)
        go_wp2_with fail
        have u0 : ((wr.alloc (.cells #[.bool gx, .int .i64 ga, .int .i64 gb] 88)).drewN nq).cell? ⟨w.heap.size, 0, none⟩ = some (.int .i64 n.ins) := t0
        have u1 : ((wr.alloc (.cells #[.bool gx, .int .i64 ga, .int .i64 gb] 88)).drewN nq).cell? ⟨w.heap.size, 1, none⟩ = some (.slice (some ad) n.gs.length c) := t1
        have u2 : ((wr.alloc (.cells #[.bool gx, .int .i64 ga, .int .i64 gb] 88)).drewN nq).heap[wr.heap.size]? = some (.cells #[.bool gx, .int .i64 ga, .int .i64 gb] 88 (0, 0)) := hSg
        have hC0 : Circ W1.heap.size ((wr.alloc (.cells #[.bool gx, .int .i64 ga, .int .i64 gb] 88)).drewN nq) r n (n.gs.take k) := hCal.up (below_drewN (Below.refl _ _) nq)
        have hB0 : Below W1.heap.size W1 ((wr.alloc (.cells #[.bool gx, .int .i64 ga, .int .i64 gb] 88)).drewN nq) := below_drewN (bthen hb hal) nq
        have hlow0 : W1.heap.size ≤ ((wr.alloc (.cells #[.bool gx, .int .i64 ga, .int .i64 gb] 88)).drewN nq).heap.size := hB0.size
        generalize (wr.alloc (.cells #[.bool gx, .int .i64 ga, .int .i64 gb] 88)).drewN nq = W0 at *
        clear t0 t1 hSg hCal hal y0 y1 g1 g2 g3 hCk v0 v1 hS2
        have d0 := Later.cell u0
        have d1 := Later.cell u1
        have d2 := Later.cell (show W0.cell? ⟨wr.heap.size, 0, none⟩ = some (.bool gx) from (cell_of_block u2 0).1)
        have d3 := Later.cell (show W0.cell? ⟨wr.heap.size, 1, none⟩ = some (.int .i64 ga) from (cell_of_block u2 1).1)
        have d4 := Later.cell (show W0.cell? ⟨wr.heap.size, 2, none⟩ = some (.int .i64 gb) from (cell_of_block u2 2).1)
        have U2 := Lib.hid u2
        clear u0 u1 u2
        refine (nodes_any (some ad) c n.gs.length n.ins k W0 (by omega) (by omega) (by omega) (by omega)).mono ?_
        rintro e w2 ⟨rfl, hb2⟩
        obtain ⟨x1, rfl⟩ : ∃ x : Later W0, w2 = x.W := ⟨⟨w2, hb2⟩, rfl⟩
        clear hb2
        go_wp2_with fail
        refine (of_any ga _ _ a0 a1 (by omega) (by omega)).mono ?_
        rintro e w2 ⟨rfl, rfl⟩
        cases sa : sigOf ga (1 + n.ins + k)
        · have SA : Hid (netOk n = false) := Lib.hid (good_no_ok HGK.out hlt (by simp [sigOf] at sa; have := NA.out; dsimp only; omega))
          go_wp2
          go_ret2
          exact read_no SA.out (bthen hw ((hB0.trans (x1.le.mono hlow0))))
        have hsa : ga ≠ 0 ∧ -(1 + n.ins + k) ≤ ga ∧ ga ≤ 1 + n.ins + k := by simpa [sigOf] using sa
        obtain ⟨sa0, sa1, sa2⟩ := hsa
        clear sa
        go_wp2_with fail
        refine (nodes_any (some ad) c n.gs.length n.ins k x1.W (by omega) (by omega) (by omega) (by omega)).mono ?_
        rintro e w2 ⟨rfl, hb2⟩
        obtain ⟨x2, rfl⟩ : ∃ x : Later W0, w2 = x.W := ⟨⟨w2, bthen x1.le hb2⟩, rfl⟩
        clear hb2
        go_wp2_with fail
        refine (of_any gb _ _ b0 b1 (by omega) (by omega)).mono ?_
        rintro e w2 ⟨rfl, rfl⟩
        have hB2 := hB0.trans (x2.le.mono hlow0)
        cases sb : sigOf gb (1 + n.ins + k)
        · have SA : Hid (netOk n = false) := Lib.hid (good_no_ok HGK.out hlt (by simp [sigOf] at sb; have := NA.out; have := NB.out; dsimp only; omega))
          go_wp2
          go_ret2
          exact read_no SA.out (bthen hw hB2)
        have hsb : gb ≠ 0 ∧ -(1 + n.ins + k) ≤ gb ∧ gb ≤ 1 + n.ins + k := by simpa [sigOf] using sb
        obtain ⟨sb0, sb1, sb2⟩ := hsb
        clear sb
        go_wp2_with fail
        refine (Qa.out _ (by omega)).mono ?_
        rintro e w2 ⟨rfl, rfl⟩
        by_cases p1 : na = 1
        · have hp1 : (na == 1) = true := by simp [p1]
          have SA : Hid (netOk n = false) := Lib.hid (good_no_ok HGK.out hlt (by have := NA.out; dsimp only; omega))
          clear p1
          go_wp2
          go_ret2
          exact read_no SA.out (bthen hw hB2)
        have hp1 : (na == 1) = false := by simp [p1]
        have hp2 : 2 ≤ na := by have := NA.out; omega
        clear p1
        go_wp2_with fail
        refine (Qb.out _ (by omega)).mono ?_
        rintro e w2 ⟨rfl, rfl⟩
        by_cases p3 : nb = 1
        · have hp3 : (nb == 1) = true := by simp [p3]
          have SA : Hid (netOk n = false) := Lib.hid (good_no_ok HGK.out hlt (by have := NA.out; have := NB.out; dsimp only; omega))
          clear p3
          go_wp2
          go_ret2
          exact read_no SA.out (bthen hw hB2)
        have hp3 : (nb == 1) = false := by simp [p3]
        clear p3
        go_wp2_with fail
        refine (Qa.out _ (by omega)).mono ?_
        rintro e w2 ⟨rfl, rfl⟩
        go_wp2_with fail
        refine (Qb.out _ (by omega)).mono ?_
        rintro e w2 ⟨rfl, rfl⟩
        by_cases p5 : nb ≤ na
        · have SA : Hid (netOk n = false) := Lib.hid (good_no_ok HGK.out hlt (by have := NA.out; have := NB.out; dsimp only; omega))
          go_wp2
          go_ret2
          exact read_no SA.out (bthen hw hB2)
        clear hp1 hp3
        have hC2 := hC0.up x2.le
        obtain ⟨A2, c2, b2, hr2, hrlo, hblo, hown2, hkn2⟩ := hC2
        have z2 : x2.W.cell? ⟨r, 2, none⟩ = some (.map (some b2)) := (cell_of_block hr2 2).1
        have hokg : okGi (⟨gx, ga, gb⟩ : G) := ⟨⟨a0, a1⟩, b0, b1⟩
        obtain ⟨cc, _, hlook⟩ := hkn2.look (⟨gx, ga, gb⟩ : G) hokg true
        have hl : ∀ m, (Instr.lookup 117 (.map (some b2)) (.agg #[.bool gx, .int .i64 ga, .int .i64 gb]) true).run Tryz.prog (x2.W.drewN m) = .ok (.tuple #[.int .i64 cc, .bool (decide ((⟨gx, ga, gb⟩ : G) ∈ n.gs.take k))]) (x2.W.drewN m) := fun m => hlook (x2.W.drewN m) rfl
        have HR2 := Lib.hid hr2
        clear hlook hr2
        have hlow2 : W1.heap.size ≤ x2.W.heap.size := hB2.size
        by_cases hm : (⟨gx, ga, gb⟩ : G) ∈ n.gs.take k
        · have SA : Hid (netOk n = false) := Lib.hid (good_no_mem HGK.out hlt hm)
          rw [decide_eq_true hm] at hl
          clear hm
          go_wp2
          go_quiet (fail)
          clear hl
          go_wp2
          go_ret2
          exact read_no SA.out (below_drewN (bthen hw hB2) _)
        rw [decide_eq_false hm] at hl
        have HM := Lib.hid hm
        clear hm
        by_cases hx : gx = true ∧ (ga < 0 ∨ gb < 0)
        · have SA : Hid (netOk n = false) := Lib.hid (good_no_x HGK.out hlt hx)
          obtain ⟨hx1, hx2⟩ := hx
          subst hx1
          by_cases hx3 : ga < 0
          all_goals
            go_wp2
            go_quiet (fail)
            clear hl
            go_wp2
            go_ret2
            exact read_no SA.out (below_drewN (bthen hw hB2) _)
        have hgood := good_yes HGK.out sa1 sa2 sb1 sb2 (by have := NA.out; dsimp only; omega) (by have := NA.out; have := NB.out; dsimp only; omega) hx HM.out
        have HGD := Lib.hid hgood
        have hxx : gx = false ∨ (gx = true ∧ 0 ≤ ga ∧ 0 ≤ gb) := by
          cases gx
          · exact .inl rfl
          · have hx' : ¬ (ga < 0 ∨ gb < 0) := fun h9 => hx ⟨rfl, h9⟩
            exact .inr ⟨rfl, by omega, by omega⟩
        clear hx hgood
        have e1 : IntKind.i64.wrap (1 + n.ins + (k : Int) + 1) = 1 + n.ins + (k : Int) + 1 := IntWalk.i64_in _ (by omega)
        have E1 := Lib.hid e1
        clear e1
        rcases hxx with rfl | ⟨rfl, hx1, hx2⟩
        · go_wp2
          go_quiet (fail)
          clear hl
          go_wp2
          clear p5
          have q0 : (x2.W.drewN nq).cell? ⟨w.heap.size, 0, none⟩ = some (.int .i64 n.ins) := d0 x2
          have q1 : (x2.W.drewN nq).cell? ⟨w.heap.size, 1, none⟩ = some (.slice (some ad) n.gs.length c) := d1 x2
          have q2 := d2 x2
          change (x2.W.drewN nq).cell? _ = _ at q2
          have q3 : (x2.W.drewN nq).cell? ⟨wr.heap.size, 1, none⟩ = some (.int .i64 ga) := d3 x2
          have q4 : (x2.W.drewN nq).cell? ⟨wr.heap.size, 2, none⟩ = some (.int .i64 gb) := d4 x2
          have q5 : (x2.W.drewN nq).cell? ⟨r, 2, none⟩ = some (.map (some b2)) := z2
          have hC3 : Circ W1.heap.size (x2.W.drewN nq) r n (n.gs.take k) := Circ.up ⟨A2, c2, b2, HR2.out, hrlo, hblo, hown2, hkn2⟩ (below_drewN (Below.refl _ _) nq)
          have hB3 : Below W1.heap.size W1 (x2.W.drewN nq) := below_drewN hB2 nq
          have hr3 : (x2.W.drewN nq).heap[r]? = some (.cells #[.int .i64 n.ins, .slice A2 n.gs.length c2, .map (some b2)] 119 (0, 0)) := HR2.out
          have hown3 : OwnGs (x2.W.drewN nq) W1.heap.size (.slice A2 n.gs.length c2) n.gs := hown2
          have hkn3 : KnownAt (x2.W.drewN nq) b2 n.ins (n.gs.take k) := hkn2
          have hlow3 : W1.heap.size ≤ (x2.W.drewN nq).heap.size := hlow2
          clear d0 d1 d2 d3 d4 z2 hown2 hkn2 hlow2 hB2 hB0 hC0 hlow0
          generalize x2.W.drewN nq = W6 at *
          have q0 := Later.cell q0
          have q1 := Later.cell q1
          have q2 := Later.cell q2
          have q3 := Later.cell q3
          have q4 := Later.cell q4
          have q5 := Later.cell q5
          have HR3 := Lib.hid hr3
          have e1 := E1.out
          clear hr3
          refine wp_region_later_tail 9 (by kernel_rfl) (by kernel_rfl) ?_
          simp only [List.take_succ_cons, List.take_zero, List.drop_succ_cons, List.drop_zero]
          repeat (go_big_quiet_step ((go_at_call 119; with_reducible exact later_of_below (nodes_any (some ad) c n.gs.length n.ins k _ (by omega) (by omega) (by omega) (by omega)))))
          refine wpQuiet_nil ?_
          rintro _ ⟨x9, rfl⟩
          clear e1
          have hB9 := hB3.trans (x9.le.mono hlow3)
          have hr9 := (x9.le.block r (lt_of_block HR3.out)).trans HR3.out
          have hown9 : OwnGs x9.W W1.heap.size (.slice A2 n.gs.length c2) n.gs := own_below hown3 x9.le (Nat.le_refl _)
          obtain ⟨D, hmap9, hD⟩ := hkn3.keep (x9.le.block b2 hkn3.lt)
          have hlen : (n.gs.take k).length = k := by simp; omega
          rw [hlen] at hmap9
          have hkm : k < maxLen := by unfold maxLen; omega
          go_wp2_with (at_mapUpdate; refine wpList_mapUpdate_own _ rfl _ _ _ 117 rfl 88 3 gate_keyed Tryz.underlying117 _ b2 k D rfl hmap9 hkm _ _ (keyG ⟨false, ga, gb⟩) rfl rfl (keyG_ok ⟨false, ga, gb⟩ hokg) (.lit (.int .i64 (1 + n.ins + k + 1))) [] (plainElem_int Tryz.underlying3 (WalkArith.wf_i64 (by omega))) ?_; intro w5 hown5 hgrow5)
          have hD5 := hD.put ⟨false, ga, gb⟩ hokg HM.out (1 + n.ins + k + 1) (by rw [hlen]; omega)
          have htk : n.gs.take k ++ [⟨false, ga, gb⟩] = n.gs.take (k + 1) := by rw [List.take_add_one, HGK.out]; rfl
          rw [htk] at hD5
          have hneb9 : some r ≠ some b2 := by
            intro e; injection e with e; subst e
            obtain ⟨es, clock, hbb, _⟩ := hmap9; rw [hr9] at hbb; cases hbb
          have hr5 := (hgrow5.block r (lt_of_block hr9) hneb9).trans hr9
          have hownm : OwnGs w5 W1.heap.size (.slice A2 n.gs.length c2) n.gs := hown9.kept hgrow5 (by
            obtain ⟨es, clock, hbb, _⟩ := hmap9
            exact .inr (fun e => row_ne hown9 b2 _ hbb (fun cs fr e => by cases e) e.symm))
          have hB5 := hB9.grown hgrow5 (Nat.le_trans hlow3 x9.le.size) (fun k' hk' => by injection hk' with hk'; rw [← hk']; exact hblo)
          have hC5 : Circ W1.heap.size w5 r n (n.gs.take (k + 1)) := ⟨A2, c2, b2, hr5, hrlo, hblo, hownm, _, hown5.mono (by simp; omega), hD5⟩
          clear hr5 hr9 hmap9 hown5 hownm htk hneb9 hlen hgrow5
          go_wp2
          go_roundw
          case rel => exact ⟨k + 1, by omega, by go_num, hB5, hC5, fun i' hi' => by
            rcases Nat.lt_or_ge i' k with h' | h'
            · exact HG.out i' h'
            · have : i' = k := by omega
              subst this; exact HGD.out⟩
          case measure => simp [intOf]; omega
        · go_wp2
          go_quiet (fail)
          clear hl
          go_wp2
          clear p5
          have q0 : (x2.W.drewN nq).cell? ⟨w.heap.size, 0, none⟩ = some (.int .i64 n.ins) := d0 x2
          have q1 : (x2.W.drewN nq).cell? ⟨w.heap.size, 1, none⟩ = some (.slice (some ad) n.gs.length c) := d1 x2
          have q2 := d2 x2
          change (x2.W.drewN nq).cell? _ = _ at q2
          have q3 : (x2.W.drewN nq).cell? ⟨wr.heap.size, 1, none⟩ = some (.int .i64 ga) := d3 x2
          have q4 : (x2.W.drewN nq).cell? ⟨wr.heap.size, 2, none⟩ = some (.int .i64 gb) := d4 x2
          have q5 : (x2.W.drewN nq).cell? ⟨r, 2, none⟩ = some (.map (some b2)) := z2
          have hC3 : Circ W1.heap.size (x2.W.drewN nq) r n (n.gs.take k) := Circ.up ⟨A2, c2, b2, HR2.out, hrlo, hblo, hown2, hkn2⟩ (below_drewN (Below.refl _ _) nq)
          have hB3 : Below W1.heap.size W1 (x2.W.drewN nq) := below_drewN hB2 nq
          have hr3 : (x2.W.drewN nq).heap[r]? = some (.cells #[.int .i64 n.ins, .slice A2 n.gs.length c2, .map (some b2)] 119 (0, 0)) := HR2.out
          have hown3 : OwnGs (x2.W.drewN nq) W1.heap.size (.slice A2 n.gs.length c2) n.gs := hown2
          have hkn3 : KnownAt (x2.W.drewN nq) b2 n.ins (n.gs.take k) := hkn2
          have hlow3 : W1.heap.size ≤ (x2.W.drewN nq).heap.size := hlow2
          clear d0 d1 d2 d3 d4 z2 hown2 hkn2 hlow2 hB2 hB0 hC0 hlow0
          generalize x2.W.drewN nq = W6 at *
          have q0 := Later.cell q0
          have q1 := Later.cell q1
          have q2 := Later.cell q2
          have q3 := Later.cell q3
          have q4 := Later.cell q4
          have q5 := Later.cell q5
          have HR3 := Lib.hid hr3
          have e1 := E1.out
          clear hr3
          refine wp_region_later_tail 9 (by kernel_rfl) (by kernel_rfl) ?_
          simp only [List.take_succ_cons, List.take_zero, List.drop_succ_cons, List.drop_zero]
          repeat (go_big_quiet_step ((go_at_call 119; with_reducible exact later_of_below (nodes_any (some ad) c n.gs.length n.ins k _ (by omega) (by omega) (by omega) (by omega)))))
          refine wpQuiet_nil ?_
          rintro _ ⟨x9, rfl⟩
          clear e1
          have hB9 := hB3.trans (x9.le.mono hlow3)
          have hr9 := (x9.le.block r (lt_of_block HR3.out)).trans HR3.out
          have hown9 : OwnGs x9.W W1.heap.size (.slice A2 n.gs.length c2) n.gs := own_below hown3 x9.le (Nat.le_refl _)
          obtain ⟨D, hmap9, hD⟩ := hkn3.keep (x9.le.block b2 hkn3.lt)
          have hlen : (n.gs.take k).length = k := by simp; omega
          rw [hlen] at hmap9
          have hkm : k < maxLen := by unfold maxLen; omega
          go_wp2_with (at_mapUpdate; refine wpList_mapUpdate_own _ rfl _ _ _ 117 rfl 88 3 gate_keyed Tryz.underlying117 _ b2 k D rfl hmap9 hkm _ _ (keyG ⟨true, ga, gb⟩) rfl rfl (keyG_ok ⟨true, ga, gb⟩ hokg) (.lit (.int .i64 (1 + n.ins + k + 1))) [] (plainElem_int Tryz.underlying3 (WalkArith.wf_i64 (by omega))) ?_; intro w5 hown5 hgrow5)
          have hD5 := hD.put ⟨true, ga, gb⟩ hokg HM.out (1 + n.ins + k + 1) (by rw [hlen]; omega)
          have htk : n.gs.take k ++ [⟨true, ga, gb⟩] = n.gs.take (k + 1) := by rw [List.take_add_one, HGK.out]; rfl
          rw [htk] at hD5
          have hneb9 : some r ≠ some b2 := by
            intro e; injection e with e; subst e
            obtain ⟨es, clock, hbb, _⟩ := hmap9; rw [hr9] at hbb; cases hbb
          have hr5 := (hgrow5.block r (lt_of_block hr9) hneb9).trans hr9
          have hownm : OwnGs w5 W1.heap.size (.slice A2 n.gs.length c2) n.gs := hown9.kept hgrow5 (by
            obtain ⟨es, clock, hbb, _⟩ := hmap9
            exact .inr (fun e => row_ne hown9 b2 _ hbb (fun cs fr e => by cases e) e.symm))
          have hB5 := hB9.grown hgrow5 (Nat.le_trans hlow3 x9.le.size) (fun k' hk' => by injection hk' with hk'; rw [← hk']; exact hblo)
          have hC5 : Circ W1.heap.size w5 r n (n.gs.take (k + 1)) := ⟨A2, c2, b2, hr5, hrlo, hblo, hownm, _, hown5.mono (by simp; omega), hD5⟩
          clear hr5 hr9 hmap9 hown5 hownm htk hneb9 hlen hgrow5
          go_wp2
          go_roundw
          case rel => exact ⟨k + 1, by omega, by go_num, hB5, hC5, fun i' hi' => by
            rcases Nat.lt_or_ge i' k with h' | h'
            · exact HG.out i' h'
            · have : i' = k := by omega
              subst this; exact HGD.out⟩
          case measure => simp [intOf]; omega
      · have hke : k = n.gs.length := by omega
        subst hke
        have HN := Lib.hid ((netOk_iff n).2 ⟨by omega, by omega, by omega, HG.out⟩)
        rw [List.take_length] at hCk
        go_wp2
        go_ret2
        exact ⟨bthen hw hb, .inl ⟨HN.out, r, rfl, by obtain ⟨A2, c2, b2, k1, k2, k3, k4, k5⟩ := hCk; exact ⟨A2, c2, b2, k1, by omega, by omega, own_mono k4 hlo1, k5⟩⟩⟩
end Go.Proofs.YtjghcaghigebjaaGreatDoor

/-! The reference's NetAnd and NetXor. -/
namespace Go.Proofs.YtjghcaghigebjaaGreatDoor
open Go Go.RowKit

end Go.Proofs.YtjghcaghigebjaaGreatDoor

/-! The reference's NetXor. -/
namespace Go.Proofs.YtjghcaghigebjaaGreatDoor
open Go Go.RowKit
end Go.Proofs.YtjghcaghigebjaaGreatDoor

/-! The program's NetAnd and NetXor. -/
namespace Go.Proofs.YtjghcaghigebjaaGreatDoor
open Go Go.RowKit Go.Maps

theorem circ_cells {lo : Nat} {w : World} {r : Nat} {n : N} {ks : List G} (h : Circ lo w r n ks) : ∃ A c, w.cell? ⟨r, 0, none⟩ = some (.int .i64 n.ins) ∧ w.cell? ⟨r, 1, none⟩ = some (.slice A n.gs.length c) ∧ OwnGs w lo (.slice A n.gs.length c) n.gs := by
  obtain ⟨A, c, b, hr, _, _, ho, _⟩ := h
  exact ⟨A, c, (cell_of_block hr 0).1, (cell_of_block hr 1).1, ho⟩

end Go.Proofs.YtjghcaghigebjaaGreatDoor

/-! What the laws on nets share: what came in, and what stays over a mark. -/
namespace Go.Proofs.YtjghcaghigebjaaGreatDoor
open Go Go.RowKit Go.ChangeShapes Go.WideShapes Go.Deep

theorem Opens.gate {P : Program} {t ti tb : TypeId} {fs : Array Field} (ht : P.underlying t = some (.struct fs)) (hc : P.cellsOf t = 3) (hti : P.underlying ti = some (.int .i64)) (htic : P.cellsOf ti = 1) (htb : P.underlying tb = some .bool) (htbc : P.cellsOf tb = 1)
    (hf : fs.toList.map (fun f : Field => (f.type, f.offset)) = [(tb, 0), (ti, 1), (ti, 2)]) : Opens P t Lay.gate okGi := by
  have hfi : ∀ i, (fs[i]?).map (fun f : Field => (f.type, f.offset)) = [(tb, 0), (ti, 1), (ti, 2)][i]? := fun i => by
    rw [← hf, List.getElem?_map, Array.getElem?_toList]
  intro H enc w base spare held fuel cs x h
  obtain ⟨b, okb, rb⟩ := OpensF.field ht h (Nat.le_succ _) 0 tb 0 1 (hfi 0) htbc ((Opens.bool htb).at _)
  obtain ⟨a, oka, ra⟩ := OpensF.field ht h (Nat.le_succ _) 1 ti 1 1 (hfi 1) htic ((Opens.int hti).at _)
  obtain ⟨a2, oka2, ra2⟩ := OpensF.field ht h (Nat.le_succ _) 2 ti 2 1 (hfi 2) htic ((Opens.int hti).at _)
  have hlen := trod_cells ht h
  rw [hc] at hlen
  match cs, hlen with
  | [x0, x1, x2], _ =>
    simp [Lay.int, Lay.bool, Lay.flat] at rb ra ra2
    subst rb ra ra2
    exact ⟨⟨b, a, a2⟩, ⟨oka, oka2⟩, rfl⟩
/-- A net as a value: two cells. -/
def Lay.net : Lay N where
  size := 2
  R w F x vs := ∃ A c, vs = [.int .i64 x.ins, .slice A x.gs.length c] ∧ x.gs.length ≤ c ∧ Lay.gate.Sl w F A x.gs ∧ (A = none → x.gs.length = 0)
  len := by rintro w F x vs ⟨A, c, rfl, _⟩; rfl
  keep := by rintro w w' F x vs hk ⟨A, c, rfl, h1, h2, h3⟩; exact ⟨A, c, rfl, h1, h2.keep hk, h3⟩
  mono := by rintro w F G x vs hk ⟨A, c, rfl, h1, h2, h3⟩; exact ⟨A, c, rfl, h1, h2.mono hk, h3⟩
def okNetIn (n : N) : Prop := okInt n.ins ∧ n.gs.length ≤ maxLen ∧ ∀ g ∈ n.gs, okGi g
theorem sl_nonnil {α : Type} {L : Lay α} {w : World} {F : Nat → Prop} {A : Option Addr} {xs : List α} (h : L.Sl w F A xs) : A = none → xs.length = 0 := fun e => by
  rcases Nat.eq_zero_or_pos xs.length with h0 | h0
  · exact h0
  · obtain ⟨ad, e', _⟩ := h h0
    rw [e] at e'; cases e'
theorem Opens.net {P : Program} {t ti sg : TypeId} {fs : Array Field} (ht : P.underlying t = some (.struct fs)) (hc : P.cellsOf t = 2) (hti : P.underlying ti = some (.int .i64)) (htic : P.cellsOf ti = 1) (hsg : P.cellsOf sg = 1)
    (hf : fs.toList.map (fun f : Field => (f.type, f.offset)) = [(ti, 0), (sg, 1)]) (hg : Opens P sg Lay.gate.slice (fun xs => xs.length ≤ maxLen ∧ ∀ x ∈ xs, okGi x)) : Opens P t Lay.net okNetIn := by
  have hfi : ∀ i, (fs[i]?).map (fun f : Field => (f.type, f.offset)) = [(ti, 0), (sg, 1)][i]? := fun i => by
    rw [← hf, List.getElem?_map, Array.getElem?_toList]
  intro H enc w base spare held fuel cs x h
  obtain ⟨a, oka, ra⟩ := OpensF.field ht h (Nat.le_succ _) 0 ti 0 1 (hfi 0) htic ((Opens.int hti).at _)
  obtain ⟨gs, okg, A, c, r1, l1, s1⟩ := OpensF.field ht h (Nat.le_succ _) 1 sg 1 1 (hfi 1) hsg (hg.at _)
  have hlen := trod_cells ht h
  rw [hc] at hlen
  match cs, hlen with
  | [x0, x1], _ =>
    simp [Lay.int, Lay.flat] at ra r1
    subst ra r1
    exact ⟨⟨a, gs⟩, ⟨oka, okg⟩, A, c, rfl, l1, s1, sl_nonnil s1⟩
theorem opens_net : Opens Tryz.prog 46 Lay.net okNetIn :=
  Opens.net Tryz.underlying46 (by kernel_rfl) Tryz.underlying3 (by kernel_rfl) (by kernel_rfl) rfl
    (Opens.slice Tryz.underlying44 (by kernel_rfl) (by decide) (Opens.gate Tryz.underlying140 (by kernel_rfl) Tryz.underlying3 (by kernel_rfl) Tryz.underlying4 (by kernel_rfl) rfl))

set_option maxRecDepth 100000 in
theorem open_net {H : Type} {enc : TypeId × Value → H} {r : Reach} {b0 : Nat} {w : World} {base : Nat} {spare : Nat → Bool} {held : Bool} {v : Value} {d : DataW H} {p : List MemPlace}
    (hv : Value.okWide Tryz.prog w r b0 46 v) (h : DataW.Trod enc Tryz.prog w base spare held 46 v d p) :
    ∃ A c n, v = .agg #[.int .i64 n.ins, .slice A n.gs.length c] ∧ n.gs.length ≤ c ∧ okNetIn n ∧ Lay.gate.Rd w A n.gs := by
  have hh := open_struct (L := Lay.net) (ok := okNetIn) Tryz.underlying46 opens_net hv h
  obtain ⟨cs, n, hv', hok, hR⟩ := hh
  obtain ⟨A, c, hcs, hl, hs, _⟩ := hR
  have hc : cs = #[.int .i64 n.ins, .slice A n.gs.length c] := Array.toList_inj.1 (hcs.trans rfl)
  exact ⟨A, c, n, by rw [hv', hc], hl, hok, hs⟩
theorem own_rd {w : World} {lo : Nat} {A : Option Addr} {c : Nat} {xs : List G} (h : OwnGs w lo (.slice A xs.length c) xs) : Lay.gate.Rd w A xs := h.sl.2.rd
end Go.Proofs.YtjghcaghigebjaaGreatDoor

/-! Nets as arguments and answers: sizes, copies, comparisons, marks; in the laws' one form. -/
namespace Go.Proofs.YtjghcaghigebjaaGreatDoor
open Go Go.RowKit Go.ChangeShapes Go.WideShapes Go.ChangeAt Go.Deep

def wtN (n : N) : Nat := n.gs.length
def smNet (n : N) : Prop := n.gs.length ≤ 1048576 ∧ okInts n ∧ okInt n.ins
theorem smNet_of {n : N} (h : okNetIn n) (hw : wtN n ≤ 1048576) : smNet n := ⟨hw, fun g hg => h.2.2 g hg, h.1⟩
theorem szNet_u (x : N) (A : Option Addr) (c : Nat) (left : Int) (w : World) (_ : Lay.gate.Rd w A x.gs) (ok : okNetIn x) (h0 : 0 ≤ left) (h1 : left ≤ 1048576) :
    Calls Tryz.prog 18 #[.agg #[.int .i64 x.ins, .slice A x.gs.length c], .int .i64 left] w (RetZ (szRes left (wtN x)) w) := by
  refine (szNet_any A c x.gs.length x.ins left w (by have := ok.2.1; unfold maxLen at this; omega) h0 h1).mono ?_
  rintro e w' ⟨rfl, hb⟩
  exact ⟨rfl, hb⟩
/-- A copy of a net, in memory of its own that may be written. -/
def CopyN (x : N) (w : World) (e : Ending) (w' : World) : Prop := ∃ A c, e = .returned (.agg #[.int .i64 x.ins, .slice A x.gs.length c]) ∧ x.gs.length ≤ c ∧ Lay.gate.Sl w' (Own w.heap.size w') A x.gs ∧ Below w.heap.size w w'
theorem OwnGs.own {w : World} {base c : Nat} {A : Option Addr} {xs : List G} (h : OwnGs w base (.slice A xs.length c) xs) : Lay.gate.Sl w (Own base w) A xs := fun hn => by
  obtain ⟨A', c', e, _, hs⟩ := h.form
  injection e with e1 e2 e3
  subst e1
  obtain ⟨ad, e, hf, hc⟩ := hs hn
  refine ⟨ad, e, ⟨hf.1, hf.2, fun o => ?_⟩, hc⟩
  subst e
  rcases h.2 with ⟨e, _⟩ | ⟨g, cap, cur, e, _, hg, _⟩
  · cases e
  · injection e with e1 e2 e3
    injection e1 with e1
    subst e1
    unfold World.frozen?
    rw [hg]
    simp
theorem toNet_u (x : N) (A : Option Addr) (c : Nat) (w : World) (h : Lay.gate.Rd w A x.gs) (hs : smNet x) :
    Calls Tryz.prog 19 #[.agg #[.int .i64 x.ins, .slice A x.gs.length c]] w (CopyN x w) := by
  refine (toNet_any A c x _ w h (fun _ h => h) hs.1).mono ?_
  rintro e w' ⟨A', c', rfl, ho, hb⟩
  exact ⟨A', c', rfl, ho.sl.1, ho.own, hb⟩
theorem eqNet_u (x : N) (A B : Option Addr) (c d : Nat) (w : World) (h : Lay.gate.Rd w A x.gs) (h' : Lay.gate.Rd w B x.gs) (hs : x.gs.length ≤ 1048576) :
    Calls Tryz.prog 21 #[.agg #[.int .i64 x.ins, .slice A x.gs.length c], .agg #[.int .i64 x.ins, .slice B x.gs.length d]] w (RetB w true) := by
  refine (eqNet_any A B c d x x _ _ w h h' (fun _ h => h) (fun _ h => h) hs hs).mono ?_
  rintro e w' ⟨rfl, hb⟩
  exact ⟨by simp, hb⟩

/-- n gates lie there, and may be written. -/
def GatesAt (w : World) (F : Nat → Prop) (A : Option Addr) (n : Nat) : Prop :=
  0 < n → ∃ ad, A = some ad ∧ F ad.block ∧ (∀ k, k < n → (∃ z, w.cell? (ad.add (k * 3)) = some (.bool z)) ∧ (∃ z, w.cell? ⟨(ad.add (k * 3)).block, (ad.add (k * 3)).off + 1, none⟩ = some (.int .i64 z)) ∧ ∃ z, w.cell? ⟨(ad.add (k * 3)).block, (ad.add (k * 3)).off + 2, none⟩ = some (.int .i64 z)) ∧
    ∀ o, w.frozen? ⟨ad.block, o, none⟩ = false
theorem GatesAt.dab {w w' : World} {F G : Nat → Prop} {A : Option Addr} {n : Nat} (h : GatesAt w F A n) (hd : Dab G w w') : GatesAt w' F A n := fun hn => by
  obtain ⟨ad, e, hf, hc, hz⟩ := h hn
  refine ⟨ad, e, hf, fun k hk => ?_, fun o => ?_⟩
  · obtain ⟨⟨z0, h0⟩, ⟨z1, h1⟩, ⟨z2, h2⟩⟩ := hc k hk
    obtain ⟨v0, g0, k0⟩ := hd.kin _ _ h0
    obtain ⟨v1, g1, k1⟩ := hd.kin _ _ h1
    obtain ⟨v2, g2, k2⟩ := hd.kin _ _ h2
    obtain ⟨b0, rfl⟩ := k0.ofBool
    obtain ⟨b1, rfl⟩ := k1.ofInt
    obtain ⟨b2, rfl⟩ := k2.ofInt
    exact ⟨⟨b0, g0⟩, ⟨b1, g1⟩, ⟨b2, g2⟩⟩
  · obtain ⟨⟨z0, h0⟩, _⟩ := hc 0 hn
    have := World.block_lt_of_cell? w _ h0
    rw [block_of_add] at this
    exact (hd.frz ⟨ad.block, o, none⟩ this).trans (hz o)
theorem gatesAt_of {w : World} {F H : Nat → Prop} {A : Option Addr} {xs : List G} (h : Lay.gate.Sl w F A xs) (hF : ∀ b, F b → H b ∧ ∀ o, w.frozen? ⟨b, o, none⟩ = false) : GatesAt w H A xs.length := fun hn => by
  obtain ⟨ad, e, hf, _⟩ := h hn
  refine ⟨ad, e, (hF _ hf).1, fun k hk => ?_, (hF _ hf).2⟩
  obtain ⟨ad', e', _, c1, c2, c3⟩ := h.at_gate hk
  rw [e] at e'
  injection e' with e'
  subst e'
  exact ⟨⟨_, c1⟩, ⟨_, c2⟩, ⟨_, c3⟩⟩
def RetMkN (F : Nat → Prop) (A : Option Addr) (n : Nat) (k0 : Int) (w : World) (e : Ending) (w' : World) : Prop := e = .returned (.int .i64 (k0 + 3 * n)) ∧ Dab F w w' ∧ Lay.gate.Sl w' F A (marked n k0)
theorem set3 {w : World} {a b c : Addr} {u v x u' v' x' : Value} (h0 : w.cell? a = some u) (h1 : w.cell? b = some v) (h2 : w.cell? c = some x) (ab : a ≠ b) (ac : a ≠ c) (bc : b ≠ c) :
    (((w.setCell a u').setCell b v').setCell c x').cell? a = some u' ∧ (((w.setCell a u').setCell b v').setCell c x').cell? b = some v' ∧ (((w.setCell a u').setCell b v').setCell c x').cell? c = some x' ∧
      ∀ p, p ≠ a → p ≠ b → p ≠ c → (((w.setCell a u').setCell b v').setCell c x').cell? p = w.cell? p := by
  refine ⟨?_, ?_, ?_, fun p pa pb pc => ?_⟩
  · rw [World.cell?_setCell_other _ _ _ _ (Ne.symm ac), World.cell?_setCell_other _ _ _ _ (Ne.symm ab)]; exact World.cell?_setCell_same _ _ _ h0
  · rw [World.cell?_setCell_other _ _ _ _ (Ne.symm bc)]
    exact World.cell?_setCell_same _ _ _ ((World.cell?_setCell_other _ _ _ _ ab).trans h1)
  · exact World.cell?_setCell_same _ _ _ ((World.cell?_setCell_other _ _ _ _ bc).trans ((World.cell?_setCell_other _ _ _ _ ac).trans h2))
  · rw [World.cell?_setCell_other _ _ _ _ (Ne.symm pc), World.cell?_setCell_other _ _ _ _ (Ne.symm pb), World.cell?_setCell_other _ _ _ _ (Ne.symm pa)]
theorem dab3 {F : Nat → Prop} {w : World} {a b c : Addr} {z0 u0 : Bool} {z1 z2 u1 u2 : Int} (ha : F a.block) (hb : F b.block) (hc : F c.block) (h0 : w.cell? a = some (.bool z0)) (h1 : w.cell? b = some (.int .i64 z1)) (h2 : w.cell? c = some (.int .i64 z2)) (ab : a ≠ b) (ac : a ≠ c) (bc : b ≠ c) :
    Dab F w (((w.setCell a (.bool u0)).setCell b (.int .i64 u1)).setCell c (.int .i64 u2)) :=
  ((Dab.set ha h0 (.bool _ _)).trans (Dab.set hb ((World.cell?_setCell_other _ _ _ _ ab).trans h1) (.int _ _))).trans (Dab.set hc ((World.cell?_setCell_other _ _ _ _ bc).trans ((World.cell?_setCell_other _ _ _ _ ac).trans h2)) (.int _ _))
theorem addr_ne {a b : Addr} (h : a.off ≠ b.off) : a ≠ b := fun e => h (by rw [e])
set_option maxHeartbeats 1000000 in
theorem markGateS_sl (A : Option Addr) (c : Nat) (xs : List G) (k0 : Int) (F : Nat → Prop) (w : World) (h : Lay.gate.Sl w F A xs) (hfz : ∀ b, F b → ∀ o, w.frozen? ⟨b, o, none⟩ = false) (hn : xs.length ≤ 1048576) (h0 : 0 ≤ k0) (h1 : k0 ≤ 1000000000) :
    Calls Tryz.prog 57 #[.slice A xs.length c, .int .i64 k0] w (RetMkN F A xs.length k0 w) := by
  have H := Lib.hid (gatesAt_of (H := F) h fun b hb => ⟨hb, hfz b hb⟩)
  clear h hfz
  generalize xs.length = n at *
  go_enter Tryz.func57, Tryz.ntmps57
  go_wp2
  go_loopw [1, 5] (fun kk i wr => ∃ j : Nat, j ≤ n ∧ i = .int .i64 j ∧ kk = .int .i64 (k0 + 3 * j) ∧ Dab F w wr ∧ ∀ ad, A = some ad → ∀ i, i < j → wr.cell? (ad.add (i * 3)) = some (.bool ((k0 + 3 * (i : Int)) % 3 == 0)) ∧
      wr.cell? ⟨(ad.add (i * 3)).block, (ad.add (i * 3)).off + 1, none⟩ = some (.int .i64 (k0 + 3 * (i : Int) + 1)) ∧ wr.cell? ⟨(ad.add (i * 3)).block, (ad.add (i * 3)).off + 2, none⟩ = some (.int .i64 (k0 + 3 * (i : Int) + 1 + 1))) (fun _ i _ => n - (intOf i).toNat)
  case atStart => exact ⟨0, Nat.zero_le _, rfl, by simp, Dab.refl _ _, fun _ _ i hi => absurd hi (by omega)⟩
  case round =>
    obtain ⟨j, hj, rfl, rfl, hd, hs⟩ := hrel
    have HD := Lib.hid hd
    have HS := Lib.hid hs
    clear hd hs
    by_cases hlt : j < n
    · obtain ⟨ad, hA, hf, hc, hfz⟩ := H.out.dab HD.out (by omega)
      have HSA := Lib.hid (HS.out ad hA)
      subst hA
      obtain ⟨⟨z0, e0⟩, ⟨z1, e1⟩, ⟨z2, e2⟩⟩ := hc j hlt
      have hj2 : (j : Int) < n := by omega
      have hblk : (ad.add (j * 3)).block = ad.block := block_of_add _ _
      have f0 : wr.frozen? (ad.add (j * 3)) = false := by rw [← hfz (ad.add (j * 3)).off]; unfold World.frozen?; rw [hblk]
      have f1 : wr.frozen? ⟨(ad.add (j * 3)).block, (ad.add (j * 3)).off + 1, none⟩ = false := by rw [hblk]; exact hfz _
      have f2 : wr.frozen? ⟨(ad.add (j * 3)).block, (ad.add (j * 3)).off + 2, none⟩ = false := by rw [hblk]; exact hfz _
      have n01 : ad.add (j * 3) ≠ ⟨(ad.add (j * 3)).block, (ad.add (j * 3)).off + 1, none⟩ := addr_ne (by show (ad.add (j * 3)).off ≠ (ad.add (j * 3)).off + 1; omega)
      have n02 : ad.add (j * 3) ≠ ⟨(ad.add (j * 3)).block, (ad.add (j * 3)).off + 2, none⟩ := addr_ne (by show (ad.add (j * 3)).off ≠ (ad.add (j * 3)).off + 2; omega)
      have n12 : (⟨(ad.add (j * 3)).block, (ad.add (j * 3)).off + 1, none⟩ : Addr) ≠ ⟨(ad.add (j * 3)).block, (ad.add (j * 3)).off + 2, none⟩ := addr_ne (by show (ad.add (j * 3)).off + 1 ≠ (ad.add (j * 3)).off + 2; omega)
      have HST : Hid (∀ u, u = k0 + 3 * (j : Int) → ∀ i, i < j + 1 →
          (((wr.setCell (ad.add (j * 3)) (.bool (u % 3 == 0))).setCell ⟨(ad.add (j * 3)).block, (ad.add (j * 3)).off + 1, none⟩ (.int .i64 (u + 1))).setCell ⟨(ad.add (j * 3)).block, (ad.add (j * 3)).off + 2, none⟩ (.int .i64 (u + 1 + 1))).cell? (ad.add (i * 3)) = some (.bool ((k0 + 3 * (i : Int)) % 3 == 0)) ∧
          (((wr.setCell (ad.add (j * 3)) (.bool (u % 3 == 0))).setCell ⟨(ad.add (j * 3)).block, (ad.add (j * 3)).off + 1, none⟩ (.int .i64 (u + 1))).setCell ⟨(ad.add (j * 3)).block, (ad.add (j * 3)).off + 2, none⟩ (.int .i64 (u + 1 + 1))).cell? ⟨(ad.add (i * 3)).block, (ad.add (i * 3)).off + 1, none⟩ = some (.int .i64 (k0 + 3 * (i : Int) + 1)) ∧
          (((wr.setCell (ad.add (j * 3)) (.bool (u % 3 == 0))).setCell ⟨(ad.add (j * 3)).block, (ad.add (j * 3)).off + 1, none⟩ (.int .i64 (u + 1))).setCell ⟨(ad.add (j * 3)).block, (ad.add (j * 3)).off + 2, none⟩ (.int .i64 (u + 1 + 1))).cell? ⟨(ad.add (i * 3)).block, (ad.add (i * 3)).off + 2, none⟩ = some (.int .i64 (k0 + 3 * (i : Int) + 1 + 1))) := Lib.hid fun u hu i hi => by
        obtain ⟨s0, s1, s2, s3⟩ := set3 (u' := .bool (u % 3 == 0)) (v' := .int .i64 (u + 1)) (x' := .int .i64 (u + 1 + 1)) e0 e1 e2 n01 n02 n12
        by_cases e : i = j
        · subst e; subst hu; exact ⟨s0, s1, s2⟩
        · obtain ⟨t0, t1, t2⟩ := HSA.out i (by omega)
          have oi : (ad.add (i * 3)).off = ad.off + i * 3 := off_of_add _ _
          have oj : (ad.add (j * 3)).off = ad.off + j * 3 := off_of_add _ _
          refine ⟨(s3 _ (addr_ne ?_) (addr_ne ?_) (addr_ne ?_)).trans t0, (s3 _ (addr_ne ?_) (addr_ne ?_) (addr_ne ?_)).trans t1, (s3 _ (addr_ne ?_) (addr_ne ?_) (addr_ne ?_)).trans t2⟩ <;> (try dsimp only) <;> omega
      have HDB : Hid (∀ (b : Bool) (u v : Int), Dab F wr (((wr.setCell (ad.add (j * 3)) (.bool b)).setCell ⟨(ad.add (j * 3)).block, (ad.add (j * 3)).off + 1, none⟩ (.int .i64 u)).setCell ⟨(ad.add (j * 3)).block, (ad.add (j * 3)).off + 2, none⟩ (.int .i64 v))) :=
        Lib.hid fun b u v => dab3 (by rw [hblk]; exact hf) (by show F (ad.add (j * 3)).block; rw [hblk]; exact hf) (by show F (ad.add (j * 3)).block; rw [hblk]; exact hf) e0 e1 e2 n01 n02 n12
      generalize hT : k0 + 3 * (j : Int) = T at *
      have HT := Lib.hid hT
      have hT0 : 0 ≤ T := by omega
      have hT1 : T ≤ 2000000000 := by omega
      have HST := Lib.hid (HST.out T rfl)
      have m01 := n01.symm
      have m02 := n02.symm
      have m12 := n12.symm
      have e1s : ∀ b, (wr.setCell (ad.add (j * 3)) (.bool b)).cell? ⟨(ad.add (j * 3)).block, (ad.add (j * 3)).off + 1, none⟩ = some (.int .i64 z1) := fun b => (World.cell?_setCell_other _ _ _ _ n01).trans e1
      have e2s : ∀ b u, ((wr.setCell (ad.add (j * 3)) (.bool b)).setCell ⟨(ad.add (j * 3)).block, (ad.add (j * 3)).off + 1, none⟩ (.int .i64 u)).cell? ⟨(ad.add (j * 3)).block, (ad.add (j * 3)).off + 2, none⟩ = some (.int .i64 z2) := fun b u => (World.cell?_setCell_other _ _ _ _ n12).trans ((World.cell?_setCell_other _ _ _ _ n02).trans e2)
      clear hT hc hf hblk hfz n01 n02 n12 m01 m02 m12
      go_wp2
      go_roundw
      case rel => exact ⟨j + 1, by omega, by go_num, ret_num (by have := HT.out; omega), HD.out.trans (HDB.out _ _ _), fun ad' e i hi => by injection e with e; subst e; exact HST.out i hi⟩
      case measure => simp [intOf]; omega
    · have : j = n := by omega
      subst this
      go_wp2
      go_ret
      refine ⟨rfl, HD.out, fun hpos => ?_⟩
      rw [marked_len] at hpos
      obtain ⟨ad, hA, hf, _, _⟩ := H.out.dab HD.out hpos
      refine ⟨ad, hA, hf, fun k x hx => ?_⟩
      have hk : k < (marked j k0).length := (List.getElem?_eq_some_iff.1 hx).1
      rw [List.getElem?_eq_getElem hk, marked_get] at hx
      injection hx with hx
      subst hx
      obtain ⟨t0, t1, t2⟩ := HS.out ad hA k (by rw [marked_len] at hk; exact hk)
      refine ⟨_, rfl, fun i u hu => ?_⟩
      show (wr.cell? (ad.add (k * 3 + i))) = some u
      rcases i with _ | _ | _ | i
      · injection hu with hu; subst hu; exact t0
      · injection hu with hu; subst hu; rw [← add_of_add]; exact t1
      · injection hu with hu; subst hu; rw [← add_of_add]; exact t2
      · simp at hu
/-- The marks: the next one, what turned, what the row reads as. -/
def MkN (A : Option Addr) (n lo hi : Nat) (k0 : Int) (w : World) (e : Ending) (w' : World) : Prop := e = .returned (.int .i64 (k0 + (3 * n : Nat))) ∧ Dab (Rng lo hi) w w' ∧ Lay.gate.Sl w' (Cp lo hi w') A (marked n k0)
theorem markNet_u (x : N) (A : Option Addr) (c lo hi : Nat) (k0 : Int) (w : World) (h : Lay.gate.Sl w (Cp lo hi w) A x.gs) (hs : x.gs.length ≤ 1048576) (h0 : 0 ≤ k0) (h1 : k0 ≤ 500000000) :
    Calls Tryz.prog 23 #[.agg #[.int .i64 x.ins, .slice A x.gs.length c], .int .i64 k0] w (MkN A x.gs.length lo hi k0 w) := by
  have hw : Below w.heap.size w (w.alloc (.cells #[.int .i64 x.ins, .slice A x.gs.length c] 29)) := (Below.refl _ _).alloc (Nat.le_refl _) _
  have H := Lib.hid (h.cp_up hw)
  have HW := Lib.hid hw
  have HS := Lib.hid hs
  clear h hs hw
  go_enter Tryz.func23, Tryz.ntmps23
  go_wp2_with fail
  refine (markGateS_sl A c x.gs k0 _ _ H.out (fun _ h => h.2.2.2) HS.out h0 (by omega)).mono ?_
  rintro e w' ⟨rfl, hd, hs⟩
  go_wp2
  go_ret
  refine ⟨?_, Dab.then HW.out hd.rng, hs.cp_mk hd⟩
  show Ending.returned (.int .i64 (k0 + 3 * (x.gs.length : Int))) = _
  exact ret_int (by omega)
theorem heldNet_u (n : Nat) (A : Option Addr) (c : Nat) (ins k0 : Int) (w : World) (h : Lay.gate.Rd w A (marked n k0)) (hs : n ≤ 1048576) (h0 : 0 ≤ k0) (h1 : k0 ≤ 500000000) :
    Calls Tryz.prog 25 #[.agg #[.int .i64 ins, .slice A n c], .int .i64 k0] w (RetZ (k0 + (3 * n : Nat)) w) :=
  (heldNet_any A c n ins k0 w h hs h0 (by omega)).mono fun _ _ ⟨h, hb⟩ => ⟨by rw [h]; exact ret_int (by omega), hb⟩
def Fact.copyNt (x : N) : Fact := .of (fun v xw => ∃ A c, v = .agg #[.int .i64 x.ins, .slice A x.gs.length c] ∧ x.gs.length ≤ c ∧ Lay.gate.Rd xw A x.gs) fun _ _ _ ⟨A, c, h1, h2, h3⟩ hb => ⟨A, c, h1, h2, h3.up hb⟩
end Go.Proofs.YtjghcaghigebjaaGreatDoor

/-! What nets say: the plain law of and, of xor and of values. -/
namespace Go.Proofs.YtjghcaghigebjaaGreatDoor
open Go Go.RowKit

def gateV (w : List Bool) (g : G) : Bool := if g.x then (netLit w g.a != netLit w g.b) else (netLit w g.a && netLit w g.b)
theorem sigOf_iff {s m : Int} : sigOf s m = true ↔ s ≠ 0 ∧ -m ≤ s ∧ s ≤ m := by simp [sigOf]
/-- The truth values w are right for the net: the first is so, and each gate's is what it is of. -/
structure Obeys (n : N) (w : List Bool) : Prop where
  len : 1 + n.ins + n.gs.length ≤ w.length
  one : w[0]? = some true
  gate : ∀ (k : Nat) (g : G), n.gs[k]? = some g → ∀ j : Nat, (j : Int) = 1 + n.ins + k → w[j]? = some (gateV w g)
theorem Obeys.pre {n x : N} {w t : List G} {v : List Bool} (h : Obeys x v) (hi : x.ins = n.ins) (hg : x.gs = n.gs ++ t) : Obeys n v := by
  refine ⟨?_, h.one, fun k g hk j hj => h.gate k g ?_ j (by rw [hi]; exact hj)⟩
  · have := h.len; rw [hi, hg] at this; simp at this; omega
  · rw [hg]; exact (List.getElem?_append_left (List.getElem?_eq_some_iff.1 hk).1).trans hk
/-- A gate's mark says what the gate is. -/
theorem Obeys.mark {n : N} {w : List Bool} (h : Obeys n w) (h0 : 0 ≤ n.ins) {k : Nat} {g : G} (hg : n.gs[k]? = some g) : netLit w (2 + n.ins + k) = gateV w g := by
  have hk := (List.getElem?_eq_some_iff.1 hg).1
  have hl := h.len
  obtain ⟨j, hj⟩ := Int.eq_ofNat_of_zero_le (show 0 ≤ 1 + n.ins + k by omega)
  have := h.gate k g hg j hj.symm
  obtain ⟨h1, h2⟩ := List.getElem?_eq_some_iff.1 this
  have hn : (2 + n.ins + (k : Int)).toNat - 1 = j := by omega
  rw [netLit_pos (by omega) (by omega), ← h2]
  congr 1

theorem netMark_iff {n : N} {m : Int} : netMark n m = true ↔ m ≠ 0 ∧ -(1 + n.ins + n.gs.length) ≤ m ∧ m ≤ 1 + n.ins + n.gs.length := sigOf_iff
/-- A net with at most one gate more, and a mark. -/
structure Grows (n : N) (r : N × Int) : Prop where
  ok : netOk r.1 = true
  ins : r.1.ins = n.ins
  ext : ∃ t, r.1.gs = n.gs ++ t ∧ t.length ≤ 1
  mark : netMark r.1 r.2 = true
theorem xor1_gate {n : N} {a b : Int} (c1 : ¬ (a = 1 ∨ a = -1)) (c2 : ¬ (b = 1 ∨ b = -1)) (c3 : a ≠ b) (c4 : a ≠ -b) :
    ∃ g : G, (g = ⟨true, a.natAbs, b.natAbs⟩ ∧ a.natAbs < b.natAbs ∨ g = ⟨true, b.natAbs, a.natAbs⟩ ∧ b.natAbs < a.natAbs) ∧ xor1 n a b = ((put n g).1, sgn a * sgn b * (put n g).2) := by
  unfold xor1
  rw [if_neg c1, if_neg c2, if_neg c3, if_neg c4]
  by_cases hs : b.natAbs < a.natAbs
  · rw [if_pos hs]; exact ⟨_, .inr ⟨rfl, hs⟩, rfl⟩
  · rw [if_neg hs]; exact ⟨_, .inl ⟨rfl, by omega⟩, rfl⟩
theorem sgn_two (a : Int) : sgn a = 1 ∧ 0 ≤ a ∨ sgn a = -1 ∧ a < 0 := by
  unfold sgn; by_cases h : a < 0
  · rw [if_pos h]; exact .inr ⟨rfl, h⟩
  · rw [if_neg h]; exact .inl ⟨rfl, by omega⟩
end Go.Proofs.YtjghcaghigebjaaGreatDoor

/-! What nets say, asked twice, turned round, one behind the other. -/
namespace Go.Proofs.YtjghcaghigebjaaGreatDoor
open Go Go.RowKit

theorem Grows.has {n : N} {r : N × Int} (h : Grows n r) {m : Int} (hm : netMark n m = true) : netMark r.1 m = true := by
  have := netMark_iff.1 hm
  obtain ⟨t, ht, _⟩ := h.ext
  have hl : r.1.gs.length = n.gs.length + t.length := by rw [ht]; simp
  exact netMark_iff.2 (by rw [h.ins]; omega)

end Go.Proofs.YtjghcaghigebjaaGreatDoor

/-! Programs that make gates: written once, run on the program's state and on the reference's. -/
namespace Go.Proofs.YtjghcaghigebjaaGreatDoor
open Go Go.RowKit

inductive PG (α : Type) where
  | ret (a : α) : PG α
  | and (x y : Int) (k : Int → PG α) : PG α
  | xor (x y : Int) (k : Int → PG α) : PG α
def PG.bind {α β : Type} : PG α → (α → PG β) → PG β
  | .ret a, f => f a
  | .and x y k, f => .and x y fun m => (k m).bind f
  | .xor x y k, f => .xor x y fun m => (k m).bind f
structure Ops (σ : Type) where
  and : σ → Int → Int → σ × Int
  xor : σ → Int → Int → σ × Int
def run {σ α : Type} (o : Ops σ) : PG α → σ → σ × α
  | .ret a, s => (s, a)
  | .and x y k, s => run o (k (o.and s x y).2) (o.and s x y).1
  | .xor x y k, s => run o (k (o.xor s x y).2) (o.xor s x y).1
theorem run_bind {σ α β : Type} (o : Ops σ) : ∀ (p : PG α) (f : α → PG β) (s : σ), run o (p.bind f) s = run o (f (run o p s).2) (run o p s).1
  | .ret _, _, _ => rfl
  | .and x y k, f, s => run_bind o (k _) f _
  | .xor x y k, f, s => run_bind o (k _) f _

/-- The program's builder: a net, and its first failure. -/
structure BS where
  n : N
  e : Option Nat
def stepP (s : BS) (r : N × Int) : BS × Int := if s.e ≠ none then (s, -1) else if r.2 = 0 then (⟨s.n, some 1⟩, -1) else (⟨r.1, none⟩, r.2)
def opsP : Ops BS := ⟨fun s x y => stepP s (and1 s.n x y), fun s x y => stepP s (xor1 s.n x y)⟩
/-- The reference's: a net, and whether there was room. -/
def stepR (k : N × Bool) (r : N × Int) : (N × Bool) × Int := if k.2 = false then (k, 1) else ((r.1, decide (r.2 ≠ 0)), r.2)
def opsR : Ops (N × Bool) := ⟨fun k x y => stepR k (and1 k.1 x y), fun k x y => stepR k (xor1 k.1 x y)⟩

theorem step_sim {s : BS} {k : N × Bool} (r : N → N × Int) (h : s.e = none ∧ k = (s.n, true) ∨ s.e ≠ none ∧ k.2 = false) :
    ((stepP s (r s.n)).1.e = none ∧ (stepR k (r k.1)).1 = ((stepP s (r s.n)).1.n, true) ∧ (stepP s (r s.n)).2 = (stepR k (r k.1)).2 ∧ s.e = none) ∨ ((stepP s (r s.n)).1.e ≠ none ∧ (stepR k (r k.1)).1.2 = false) := by
  rcases h with ⟨h1, rfl⟩ | ⟨h1, h2⟩
  · by_cases h0 : (r s.n).2 = 0
    · refine .inr ?_
      unfold stepP stepR
      rw [if_neg (by simp [h1]), if_pos h0, if_neg (by simp)]
      simp [h0]
    · refine .inl ?_
      unfold stepP stepR
      rw [if_neg (by simp [h1]), if_neg h0, if_neg (by simp)]
      simp [h0, h1]
  · refine .inr ?_
    unfold stepP stepR
    rw [if_pos h1, if_pos h2]
    exact ⟨h1, h2⟩
theorem run_failP {α : Type} : ∀ (p : PG α) (s : BS), s.e ≠ none → (run opsP p s).1.e ≠ none
  | .ret _, _, h => h
  | .and x y f, s, h => run_failP (f _) _ (by show (stepP s _).1.e ≠ none; unfold stepP; rw [if_pos h]; exact h)
  | .xor x y f, s, h => run_failP (f _) _ (by show (stepP s _).1.e ≠ none; unfold stepP; rw [if_pos h]; exact h)
theorem run_failR {α : Type} : ∀ (p : PG α) (k : N × Bool), k.2 = false → (run opsR p k).1.2 = false
  | .ret _, _, h => h
  | .and x y f, k, h => run_failR (f _) _ (by show (stepR k _).1.2 = false; unfold stepR; rw [if_pos h]; exact h)
  | .xor x y f, k, h => run_failR (f _) _ (by show (stepR k _).1.2 = false; unfold stepR; rw [if_pos h]; exact h)
/-- Both run alike: the same net and the same answer, or both have failed. -/
theorem run_sim {α : Type} : ∀ (p : PG α) (s : BS) (k : N × Bool), (s.e = none ∧ k = (s.n, true) ∨ s.e ≠ none ∧ k.2 = false) →
    ((run opsP p s).1.e = none ∧ (run opsR p k).1 = ((run opsP p s).1.n, true) ∧ (run opsP p s).2 = (run opsR p k).2 ∧ s.e = none) ∨ ((run opsP p s).1.e ≠ none ∧ (run opsR p k).1.2 = false)
  | .ret a, s, k, h => by
    rcases h with ⟨h1, h2⟩ | h
    · exact .inl ⟨h1, h2, rfl, h1⟩
    · exact .inr h
  | .and x y f, s, k, h => by
    rcases step_sim (fun n => and1 n x y) h with ⟨h1, h2, h3, h4⟩ | h1
    · have := run_sim (f (opsP.and s x y).2) _ (opsR.and k x y).1 (.inl ⟨h1, h2⟩)
      rcases this with ⟨g1, g2, g3, _⟩ | g
      · left; refine ⟨g1, ?_, ?_, h4⟩
        · show (run opsR (f (opsR.and k x y).2) _).1 = _
          rw [show (opsR.and k x y).2 = (opsP.and s x y).2 from h3.symm]; exact g2
        · show _ = (run opsR (f (opsR.and k x y).2) _).2
          rw [show (opsR.and k x y).2 = (opsP.and s x y).2 from h3.symm]; exact g3
      · right
        refine ⟨g.1, ?_⟩
        show (run opsR (f (opsR.and k x y).2) _).1.2 = _
        rw [show (opsR.and k x y).2 = (opsP.and s x y).2 from h3.symm]; exact g.2
    · right
      have a1 := run_failP (f (opsP.and s x y).2) _ h1.1
      have a2 := run_failR (f (opsR.and k x y).2) _ h1.2
      exact ⟨a1, a2⟩
  | .xor x y f, s, k, h => by
    rcases step_sim (fun n => xor1 n x y) h with ⟨h1, h2, h3, h4⟩ | h1
    · have := run_sim (f (opsP.xor s x y).2) _ (opsR.xor k x y).1 (.inl ⟨h1, h2⟩)
      rcases this with ⟨g1, g2, g3, _⟩ | g
      · left; refine ⟨g1, ?_, ?_, h4⟩
        · show (run opsR (f (opsR.xor k x y).2) _).1 = _
          rw [show (opsR.xor k x y).2 = (opsP.xor s x y).2 from h3.symm]; exact g2
        · show _ = (run opsR (f (opsR.xor k x y).2) _).2
          rw [show (opsR.xor k x y).2 = (opsP.xor s x y).2 from h3.symm]; exact g3
      · right
        refine ⟨g.1, ?_⟩
        show (run opsR (f (opsR.xor k x y).2) _).1.2 = _
        rw [show (opsR.xor k x y).2 = (opsP.xor s x y).2 from h3.symm]; exact g.2
    · right
      have a1 := run_failP (f (opsP.xor s x y).2) _ h1.1
      have a2 := run_failR (f (opsR.xor k x y).2) _ h1.2
      exact ⟨a1, a2⟩
/-- Nets with room to reckon, marks to reckon with. -/
def NB (n : N) : Prop := 0 ≤ n.ins ∧ n.ins ≤ 8 ∧ n.gs.length ≤ 600
def MB (m : Int) : Prop := m ≠ 0 ∧ -1000000 ≤ m ∧ m ≤ 1000000
theorem put_nb {n : N} {g : G} (h : NB n) : NB (put n g).1 ∧ 0 ≤ (put n g).2 ∧ (put n g).2 ≤ 1000000 := by
  obtain ⟨h0, h1, h2⟩ := h
  by_cases hm : g ∈ n.gs
  · rw [put_mem hm]
    have := List.idxOf_lt_length_of_mem hm
    exact ⟨⟨h0, h1, h2⟩, by dsimp only; omega, by dsimp only; omega⟩
  · by_cases h6 : 600 ≤ n.gs.length
    · rw [put_full hm h6]; exact ⟨⟨by simp, by simp, by simp⟩, by simp, by simp⟩
    · rw [put_new hm h6]; exact ⟨⟨h0, h1, by simp; omega⟩, by dsimp only; omega, by dsimp only; omega⟩
def RB (m : Int) : Prop := -1000000 ≤ m ∧ m ≤ 1000000
theorem and1_nb {n : N} {a b : Int} (h : NB n) (ha : RB a) (hb : RB b) : NB (and1 n a b).1 ∧ RB (and1 n a b).2 := by
  unfold and1 RB at *
  repeat' split
  all_goals first
    | exact ⟨h, by dsimp only; omega, by dsimp only; omega⟩
    | (have := put_nb (g := ⟨false, b, a⟩) h; exact ⟨this.1, by omega, by omega⟩)
    | (have := put_nb (g := ⟨false, a, b⟩) h; exact ⟨this.1, by omega, by omega⟩)
theorem sgn_mul_rb {a b k : Int} (h0 : 0 ≤ k) (h1 : k ≤ 1000000) : RB (sgn a * sgn b * k) := by
  unfold RB
  rcases sgn_two a with ⟨h, _⟩ | ⟨h, _⟩ <;> rcases sgn_two b with ⟨h', _⟩ | ⟨h', _⟩ <;> rw [h, h'] <;> omega
theorem xor1_nb {n : N} {a b : Int} (h : NB n) (ha : RB a) (hb : RB b) : NB (xor1 n a b).1 ∧ RB (xor1 n a b).2 := by
  by_cases c1 : a = 1 ∨ a = -1
  · unfold xor1; rw [if_pos c1]; unfold RB at *; rcases c1 with rfl | rfl <;> exact ⟨h, by dsimp only; omega, by dsimp only; omega⟩
  by_cases c2 : b = 1 ∨ b = -1
  · unfold xor1; rw [if_neg c1, if_pos c2]; unfold RB at *; rcases c2 with rfl | rfl <;> exact ⟨h, by dsimp only; omega, by dsimp only; omega⟩
  by_cases c3 : a = b
  · unfold xor1; rw [if_neg c1, if_neg c2, if_pos c3]; exact ⟨h, by unfold RB; dsimp only; omega⟩
  by_cases c4 : a = -b
  · unfold xor1; rw [if_neg c1, if_neg c2, if_neg c3, if_pos c4]; exact ⟨h, by unfold RB; dsimp only; omega⟩
  obtain ⟨g, hg, e⟩ := xor1_gate (n := n) c1 c2 c3 c4
  rw [e]
  have := put_nb (g := g) h
  exact ⟨this.1, sgn_mul_rb this.2.1 this.2.2⟩
theorem stepP_nb {s : BS} {r : N × Int} (h : NB s.n) (hr : NB r.1 ∧ RB r.2) : NB (stepP s r).1.n ∧ MB (stepP s r).2 := by
  unfold stepP
  split
  · exact ⟨h, by unfold MB; dsimp only; omega⟩
  · split
    · exact ⟨h, by unfold MB; dsimp only; omega⟩
    · exact ⟨hr.1, by assumption, hr.2⟩
theorem stepR_nb {k : N × Bool} {r : N × Int} (h : NB k.1) (hr : NB r.1 ∧ RB r.2) : NB (stepR k r).1.1 ∧ RB (stepR k r).2 := by
  unfold stepR
  split
  · exact ⟨h, by unfold RB; dsimp only; omega⟩
  · exact hr
theorem MB.rb {m : Int} (h : MB m) : RB m := h.2
theorem MB.neg {m : Int} (h : MB m) : MB (-m) := by unfold MB at *; omega
theorem RB.neg {m : Int} (h : RB m) : RB (-m) := by unfold RB at *; omega

/-! The lists' programs. -/
def orP (x y : Int) : PG Int := .and (-x) (-y) fun m => .ret (-m)
def muxP (c x y : Int) : PG Int := .and c x fun p => .and (-c) y fun q => orP p q
def eachP (f : Int → Int → PG Int) : List Int → List Int → PG (List Int)
  | x :: xs, y :: ys => (f x y).bind fun m => (eachP f xs ys).bind fun l => .ret (m :: l)
  | _, _ => .ret []
def sumP : List Int → List Int → Int → PG (List Int)
  | x :: xs, y :: ys, c => .xor x y fun h => .xor h c fun s => .and x y fun p => .and h c fun q => (orP p q).bind fun c' => (sumP xs ys c').bind fun l => .ret (s :: l)
  | _, _, _ => .ret []
def lessP : List Int → List Int → Int → PG Int
  | x :: xs, y :: ys, r => .xor x y fun d => (muxP d y r).bind fun r' => lessP xs ys r'
  | _, _, r => .ret r
theorem run_each {σ : Type} {o : Ops σ} {f : Int → Int → PG Int} (xs ys : List Int) (k : Nat) (x y : Int) (hx : xs[k]? = some x) (hy : ys[k]? = some y) (s : σ) (l : List Int) :
    (let r := run o (eachP f (xs.drop k) (ys.drop k)) s; (r.1, l ++ r.2)) = let m := run o (f x y) s; let r := run o (eachP f (xs.drop (k + 1)) (ys.drop (k + 1))) m.1; (r.1, (l ++ [m.2]) ++ r.2) := by
  obtain ⟨hk, rfl⟩ := List.getElem?_eq_some_iff.1 hx
  obtain ⟨hk', rfl⟩ := List.getElem?_eq_some_iff.1 hy
  rw [List.drop_eq_getElem_cons hk, List.drop_eq_getElem_cons hk']
  show (let r := run o ((f _ _).bind _) s; (r.1, l ++ r.2)) = _
  simp only [run_bind, run, List.append_assoc, List.singleton_append]
end Go.Proofs.YtjghcaghigebjaaGreatDoor

/-! errors.Is over sentinels. -/
namespace Go.Proofs.YtjghcaghigebjaaGreatDoor
open Go Go.RowKit Go.Extern.Stop Go.Stop Go.Extern

/-- A sentinel: a pointer to an errors.errorString. -/
abbrev sentV (a : Addr) : Value := .iface 189 (.pointer (some a))
theorem is_typeOf (v : Value) (w : World) : (Extern.ReflectliteType.typeOf #[.iface 189 v]).run Tryz.prog w = .ok (.iface 168 (.agg #[.pointer (some ⟨Tryz.prog.globals.size, 189, none⟩)])) w := by kernel_rfl
theorem is_comparable (w : World) : ((Extern.ReflectliteType.method fun t => do Go.Extern.Rtype.noPackHeld "Comparable" t; (fun a => Value.bool a.comparable) <$> typeInfo t) #[.agg #[.pointer (some ⟨Tryz.prog.globals.size, 189, none⟩)]]).run Tryz.prog w = .ok (.bool true) w := by kernel_rfl
theorem is_methodComparable (v : Value) (w : World) : (Go.method (Tryz.prog.types.size + Made.depth) 168 v "Comparable").run Tryz.prog w = .ok (168, v) w := by kernel_rfl
theorem is_comp : (Tryz.prog.info? 189).map (·.comparable) = some true := by kernel_rfl
theorem is_size : (Tryz.prog.info? 216).map (·.size) = some 1 := by kernel_rfl
theorem is_noIs (v : Value) (xT : TypeId) (w : World) : (Instr.typeAssert (.iface 189 v) xT 170 true).run Tryz.prog w = .ok (.tuple #[.nilIface, .bool false]) w := run_typeAssert_lacksB Tryz.underlying170 (by kernel_rfl) (by kernel_rfl) v xT w
theorem is_noUnwrap (v : Value) (xT : TypeId) (w : World) : (Instr.typeAssert (.iface 189 v) xT 173 true).run Tryz.prog w = .ok (.tuple #[.nilIface, .bool false]) w := run_typeAssert_lacksB Tryz.underlying173 (by kernel_rfl) (by kernel_rfl) v xT w
theorem is_noUnwraps (v : Value) (xT : TypeId) (w : World) : (Instr.typeAssert (.iface 189 v) xT 175 true).run Tryz.prog w = .ok (.tuple #[.nilIface, .bool false]) w := run_typeAssert_lacksB Tryz.underlying175 (by kernel_rfl) (by kernel_rfl) v xT w
theorem glob_size : Tryz.prog.globals.size = 2 := by kernel_rfl
theorem meth_fuel : Tryz.prog.types.size + Made.depth = 331 := by kernel_rfl

set_option maxRecDepth 100000 in
theorem is_same (a : Addr) (w : World) :
    Calls Tryz.prog 87 #[sentV a, sentV a] w fun e w' => e = .returned (.bool true) ∧ w = w' := by
  obtain ⟨i, hi, hcmp⟩ := Option.map_eq_some_iff.1 is_comp
  obtain ⟨j, hj, hjs⟩ := Option.map_eq_some_iff.1 is_size
  have h8 := @run_callFunc_extern Tryz.prog 120 _ Extern.ReflectliteType.typeOf Tryz.func120 (by kernel_rfl) (by kernel_rfl) (by kernel_rfl) (by kernel_rfl)
  have h32 := @run_callFunc_extern Tryz.prog 168 _ (Extern.ReflectliteType.method fun t => do Go.Extern.Rtype.noPackHeld "Comparable" t; pure (.bool (← typeInfo t).comparable)) Tryz.func168 (by kernel_rfl) (by kernel_rfl) (by kernel_rfl) (by kernel_rfl)
  have tT := is_typeOf
  have cT := is_comparable
  have mR := is_methodComparable
  rw [glob_size] at tT cT
  rw [meth_fuel] at mR
  have heq := run_eql_iface_ptr_same (P := Tryz.prog) w a Tryz.underlying81 Tryz.underlying189 hi hcmp hj
  go_enter Tryz.func87, Tryz.ntmps87
  go_wp2
  refine wp_loop_rounds 1 ?_
  rw [rounds_succ]
  go_wp2
  go_ret
  exact ⟨rfl, rfl⟩
theorem is_nil (b : Addr) (w : World) :
    Calls Tryz.prog 87 #[.nilIface, sentV b] w fun e w' => e = .returned (.bool false) ∧ w = w' := by
  have hn := run_eql_iface_nil_left (P := Tryz.prog) w 189 (.pointer (some b)) Tryz.underlying81
  go_enter Tryz.func87, Tryz.ntmps87
  go_wp2
  go_ret
  exact ⟨rfl, rfl⟩
set_option maxRecDepth 100000 in
theorem is_other (a b : Addr) (ca cb : Array Value) (ta tb : TypeId) (w : World) (hne : a ≠ b) (ha : w.heap[a.block]? = some (.cells ca ta (0, 0))) (hb : w.heap[b.block]? = some (.cells cb tb (0, 0))) :
    Calls Tryz.prog 87 #[sentV a, sentV b] w fun e w' => e = .returned (.bool false) ∧ w = w' := by
  obtain ⟨i, hi, hcmp⟩ := Option.map_eq_some_iff.1 is_comp
  obtain ⟨j, hj, hjs⟩ := Option.map_eq_some_iff.1 is_size
  have h8 := @run_callFunc_extern Tryz.prog 120 _ Extern.ReflectliteType.typeOf Tryz.func120 (by kernel_rfl) (by kernel_rfl) (by kernel_rfl) (by kernel_rfl)
  have h32 := @run_callFunc_extern Tryz.prog 168 _ (Extern.ReflectliteType.method fun t => do Go.Extern.Rtype.noPackHeld "Comparable" t; pure (.bool (← typeInfo t).comparable)) Tryz.func168 (by kernel_rfl) (by kernel_rfl) (by kernel_rfl) (by kernel_rfl)
  have tT := is_typeOf
  have cT := is_comparable
  have mR := is_methodComparable
  rw [glob_size] at tT cT
  rw [meth_fuel] at mR
  have nE := is_noIs
  have uE := is_noUnwrap
  have vE := is_noUnwraps
  have heq := run_eql_iface_ptr_other (P := Tryz.prog) w Tryz.underlying81 Tryz.underlying189 hi hcmp hj (by rw [hjs]; decide) hne ha hb
  go_enter Tryz.func87, Tryz.ntmps87
  go_wp2
  refine wp_loop_rounds 1 ?_
  rw [rounds_succ]
  go_wp2
  go_ret
  exact ⟨rfl, rfl⟩
end Go.Proofs.YtjghcaghigebjaaGreatDoor

/-! The program's builder: its memory, what stays over its calls, its rows of signals. -/
namespace Go.Proofs.YtjghcaghigebjaaGreatDoor
open Go Go.RowKit

theorem own_heap {w w' : World} {base : Nat} {e : TypeId} {size n : Nat} {v : Value} {xs : List Value} (h : w.ownsRow base e size v n xs) (hk : ∀ g, v.ownBlock = some g → w'.heap[g]? = w.heap[g]?) : w'.ownsRow base e size v n xs := by
  refine ⟨h.1, ?_⟩
  rcases h.2 with hn | ⟨g, cap, cur, rfl, hb, hgg, rest⟩
  · exact .inl hn
  · exact .inr ⟨g, cap, cur, rfl, hb, (hk g rfl).trans hgg, rest⟩
/-- A builder's object. -/
def BK (o : Obj) : Prop := ∃ cs fr, o = .cells cs 83 fr
/-- What was there below lo stays, and so does what is neither of a circuit nor a builder. -/
structure BelB (lo : Nat) (w w' : World) : Prop where
  bel : Below lo w w'
  kd : ∀ (i : Nat) (o : Obj), w.heap[i]? = some o → ¬ CK o → ¬ BK o → w'.heap[i]? = some o
theorem BelB.refl (lo : Nat) (w : World) : BelB lo w w := ⟨Below.refl _ _, fun _ _ h _ _ => h⟩
theorem BelB.of {lo : Nat} {w w' : World} (h : Below w.heap.size w w') (hl : lo ≤ w.heap.size) : BelB lo w w' := ⟨h.mono hl, fun i _ hi _ _ => (h.block i (Array.getElem?_eq_some_iff.1 hi).1).trans hi⟩
theorem BelB.trans {lo : Nat} {a b c : World} (h : BelB lo a b) (k : BelB lo b c) : BelB lo a c := ⟨h.bel.trans k.bel, fun i o hi hc hb => k.kd i o (h.kd i o hi hc hb) hc hb⟩
theorem BelK.toB {lo : Nat} {w w' : World} (h : BelK lo w w') : BelB lo w w' := ⟨h.bel, fun i o hi hc _ => h.kd i o hi hc⟩
theorem bk_nck {cs : Array Value} {fr : Nat × Nat} : ¬ CK (.cells cs 83 fr) := by
  rintro (⟨_, _, h⟩ | ⟨_, _, h⟩ | h)
  · injection h with _ h; exact absurd h (by decide)
  · injection h with _ h; exact absurd h (by decide)
  · obtain ⟨_, _, h⟩ := h; cases h
/-- A write into a builder. -/
theorem BelB.set {lo q k : Nat} {w : World} {cs : Array Value} {fr : Nat × Nat} (hq : w.heap[q]? = some (.cells cs 83 fr)) (hlo : lo ≤ q) (v : Value) : BelB lo w (w.setCell ⟨q, k, none⟩ v) :=
  ⟨below_set (Below.refl _ _) hlo v, fun i o hi _ hb => by
    by_cases e : i = q
    · subst e; rw [hq] at hi; injection hi with hi; exact absurd ⟨cs, fr, hi.symm⟩ hb
    · exact (heap_setCell_other _ _ _ _ e).trans hi⟩
theorem nck_of {cs : Array Value} {t : TypeId} {fr : Nat × Nat} (h1 : t ≠ 119) (h2 : t ≠ 88) (h3 : t ≠ 83) : ¬ CK (.cells cs t fr) ∧ ¬ BK (.cells cs t fr) := by
  refine ⟨?_, ?_⟩
  · rintro (⟨_, _, e⟩ | ⟨_, _, e⟩ | e)
    · injection e with _ e; exact h1 e
    · injection e with _ e; exact h2 e
    · obtain ⟨_, _, e⟩ := e; cases e
  · rintro ⟨_, _, e⟩; injection e with _ e; exact h3 e
/-- Blocks of signals: the builder's calls leave them as they are. -/
def PL (w : World) (b : Nat) : Prop := ∃ cs fr, w.heap[b]? = some (.cells cs 123 fr)
theorem sig_nck {cs : Array Value} {fr : Nat × Nat} : ¬ CK (.cells cs 123 fr) ∧ ¬ BK (.cells cs 123 fr) := nck_of (by decide) (by decide) (by decide)
theorem BelB.blk {lo : Nat} {w w' : World} (h : BelB lo w w') {b : Nat} (hb : PL w b) : w'.heap[b]? = w.heap[b]? := by
  obtain ⟨cs, fr, h1⟩ := hb
  rw [h1]; exact h.kd b _ h1 sig_nck.1 sig_nck.2
theorem BelB.pl {lo : Nat} {w w' : World} (h : BelB lo w w') {b : Nat} (hb : PL w b) : PL w' b := by
  obtain ⟨cs, fr, h1⟩ := hb
  exact ⟨cs, fr, h.kd b _ h1 sig_nck.1 sig_nck.2⟩
theorem PL.lt {w : World} {b : Nat} (h : PL w b) : b < w.heap.size := by obtain ⟨_, _, h1⟩ := h; exact lt_of_block h1
theorem pl_of {w : World} {b : Nat} {cs : Array Value} {fr : Nat × Nat} (h : w.heap[b]? = some (.cells cs 123 fr)) : PL w b := ⟨_, _, h⟩
abbrev Lay.Pl {α : Type} (L : Lay α) (w : World) (A : Option Addr) (xs : List α) : Prop := L.Sl w (PL w) A xs
theorem Lay.Sl.upB {α : Type} {L : Lay α} {lo : Nat} {w w' : World} {A : Option Addr} {xs : List α} (h : L.Pl w A xs) (hb : BelB lo w w') : L.Pl w' A xs := (h.keep fun _ hp => hb.blk hp).mono fun _ hp => hb.pl hp
theorem Lay.Sl.plrd {α : Type} {L : Lay α} {w : World} {A : Option Addr} {xs : List α} (h : L.Pl w A xs) : L.Rd w A xs := h.mono fun _ hp => hp.lt
/-- The call's own row of signals. -/
def OwnSg (w : World) (base : Nat) (v : Value) (xs : List Int) : Prop := w.ownsRow base 123 1 v xs.length (xs.map (Value.int .i64))
theorem signal_info : (Tryz.prog.info? 123).map (fun i => (i.zero, i.size, i.bytes)) = some (some (.int .i64 0), 1, 8) := by kernel_rfl
theorem OwnSg.blk {w w' : World} {base : Nat} {v : Value} {xs : List Int} (h : OwnSg w base v xs) (hk : ∀ b, PL w b → w'.heap[b]? = w.heap[b]?) : OwnSg w' base v xs :=
  own_heap h fun g hg => by
    rcases h.2 with ⟨e, _⟩ | ⟨g', cap, cur, e, _, hgg, _⟩
    · rw [e] at hg; cases hg
    · rw [e] at hg
      injection hg with hg
      subst hg
      exact hk _ (pl_of hgg)
theorem OwnSg.upB {lo : Nat} {w w' : World} {base : Nat} {v : Value} {xs : List Int} (h : OwnSg w base v xs) (hb : BelB lo w w') : OwnSg w' base v xs := h.blk fun _ hp => hb.blk hp
theorem OwnSg.form {w : World} {base : Nat} {v : Value} {xs : List Int} (h : OwnSg w base v xs) : ∃ A c, v = .slice A xs.length c ∧ xs.length ≤ c ∧ Lay.int.Pl w A xs := by
  have hh := h
  unfold OwnSg at h
  rcases h.2 with ⟨h1, h2⟩ | ⟨g, cap, cur, h1, h0, hgg, h3, _⟩
  · subst h1
    have : xs = [] := List.eq_nil_of_length_eq_zero h2
    subst this
    exact ⟨none, 0, rfl, by simp, .nil _ _ _ _⟩
  · subst h1
    refine ⟨_, cap, rfl, h3, fun hn => ⟨_, rfl, pl_of hgg, fun k x hx => ⟨_, rfl, fun j u hu => ?_⟩⟩⟩
    rcases j with _ | j
    · injection hu with hu
      subst hu
      have := hh.cells (g := g) rfl k (.int .i64 x) (by rw [List.getElem?_map, hx]; rfl)
      simpa [Lay.int, Lay.flat] using this
    · simp at hu
theorem OwnSg.pl {w : World} {base c : Nat} {A : Option Addr} {xs : List Int} (h : OwnSg w base (.slice A xs.length c) xs) : xs.length ≤ c ∧ Lay.int.Pl w A xs := by
  obtain ⟨A', c', e, h1, h2⟩ := h.form
  injection e with e1 e2 e3
  subst e1 e3
  exact ⟨h1, h2⟩
theorem OwnSg.nil (w : World) (base : Nat) : OwnSg w base (.slice none 0 0) [] := World.ownsRow_nil _ _ _ _
/-! The sentinels, the builder. -/
/-- The two package variables, and what they point to. -/
structure Glb (a0 a1 : Addr) (lo : Nat) (w : World) : Prop where
  c0 : w.cell? ⟨1, 0, none⟩ = some (sentV a0)
  c1 : w.cell? ⟨0, 0, none⟩ = some (sentV a1)
  b0 : ∃ cs t, w.heap[a0.block]? = some (.cells cs t (0, 0))
  b1 : ∃ cs t, w.heap[a1.block]? = some (.cells cs t (0, 0))
  ne : a0 ≠ a1
  lo2 : 2 ≤ lo
  lo0 : a0.block < lo
  lo1 : a1.block < lo
theorem Glb.below {a0 a1 : Addr} {lo : Nat} {w w' : World} (h : Glb a0 a1 lo w) (hb : Below lo w w') : Glb a0 a1 lo w' :=
  ⟨(hb.cell (p := ⟨1, 0, none⟩) (by have := h.lo2; show 1 < lo; omega)).trans h.c0, (hb.cell (p := ⟨0, 0, none⟩) (by have := h.lo2; show 0 < lo; omega)).trans h.c1,
    by obtain ⟨cs, t, e⟩ := h.b0; exact ⟨cs, t, (hb.block _ h.lo0).trans e⟩, by obtain ⟨cs, t, e⟩ := h.b1; exact ⟨cs, t, (hb.block _ h.lo1).trans e⟩, h.ne, h.lo2, h.lo0, h.lo1⟩
theorem Glb.mono {a0 a1 : Addr} {lo lo' : Nat} {w : World} (h : Glb a0 a1 lo w) (hl : lo ≤ lo') : Glb a0 a1 lo' w := ⟨h.c0, h.c1, h.b0, h.b1, h.ne, Nat.le_trans h.lo2 hl, Nat.lt_of_lt_of_le h.lo0 hl, Nat.lt_of_lt_of_le h.lo1 hl⟩
def errV (a0 a1 : Addr) : Option Nat → Value
  | none => .nilIface
  | some 0 => sentV a0
  | some _ => sentV a1
/-- Block q is a builder over the circuit in block r, with the failure e. -/
structure Bx (a0 a1 : Addr) (lo : Nat) (w : World) (q r : Nat) (e : Option Nat) : Prop where
  g : Glb a0 a1 lo w
  box : w.heap[q]? = some (.cells #[.pointer (some ⟨r, 0, none⟩), errV a0 a1 e] 83 (0, 0))
  low : lo ≤ q
/-- Block q is a builder over the circuit in block r, in the state s. -/
structure Bd (a0 a1 : Addr) (lo : Nat) (w : World) (q r : Nat) (s : BS) : Prop extends Bx a0 a1 lo w q r s.e where
  nb : NB s.n
  circ : s.e = none → Circ lo w r s.n s.n.gs
theorem Bd.up {a0 a1 : Addr} {lo : Nat} {w w' : World} {q r : Nat} {s : BS} (h : Bd a0 a1 lo w q r s) (hb : Below w.heap.size w w') : Bd a0 a1 lo w' q r s :=
  ⟨⟨h.g.below (hb.mono (Nat.le_trans h.low (Nat.le_of_lt (lt_of_block h.box)))), (hb.block q (lt_of_block h.box)).trans h.box, h.low⟩, h.nb, fun he => (h.circ he).up hb⟩
/-- A circuit is as it was if its objects are. -/
def CKs (w w' : World) : Prop := ∀ (i : Nat) (o : Obj), w.heap[i]? = some o → CK o → w'.heap[i]? = some o
theorem CKs.below {w w' : World} (h : Below w.heap.size w w') : CKs w w' := fun i _ hi _ => (h.block i (Array.getElem?_eq_some_iff.1 hi).1).trans hi
theorem Circ.keep {lo : Nat} {w w' : World} {r : Nat} {n : N} {ks : List G} (h : Circ lo w r n ks) (hk : CKs w w') : Circ lo w' r n ks := by
  obtain ⟨A, c, b, h1, h2, h3, h4, h5⟩ := h
  refine ⟨A, c, b, hk r _ h1 (.inl ⟨_, _, rfl⟩), h2, h3, own_heap h4 fun g hg => ?_, h5.keep ?_⟩
  · obtain ⟨o, ho, hc⟩ := own_ck h4 hg
    rw [ho]; exact hk g o ho hc
  · obtain ⟨D, ⟨es, clock, hb, _⟩, _⟩ := h5
    rw [hb]; exact hk b _ hb (.inr (.inr ⟨_, _, rfl⟩))
theorem CKs.set {q k : Nat} {w : World} {cs : Array Value} {fr : Nat × Nat} (hq : w.heap[q]? = some (.cells cs 83 fr)) (v : Value) : CKs w (w.setCell ⟨q, k, none⟩ v) := fun i o hi hc => by
  by_cases e : i = q
  · subst e; rw [hq] at hi; injection hi with hi; subst hi; exact absurd hc bk_nck
  · exact (heap_setCell_other _ _ _ _ e).trans hi
/-- The builder's and the circuits' objects are as they were. -/
structure BelS (lo : Nat) (w w' : World) : Prop where
  bel : Below lo w w'
  ck : CKs w w'
  bk : ∀ (i : Nat) (o : Obj), w.heap[i]? = some o → BK o → w'.heap[i]? = some o
theorem BelS.of {lo : Nat} {w w' : World} (h : Below w.heap.size w w') (hl : lo ≤ w.heap.size) : BelS lo w w' := ⟨h.mono hl, CKs.below h, fun i _ hi _ => (h.block i (Array.getElem?_eq_some_iff.1 hi).1).trans hi⟩
theorem Bd.upS {a0 a1 : Addr} {lo : Nat} {w w' : World} {q r : Nat} {s : BS} (h : Bd a0 a1 lo w q r s) (hb : BelS lo w w') : Bd a0 a1 lo w' q r s :=
  ⟨⟨h.g.below hb.bel, hb.bk q _ h.box ⟨_, _, rfl⟩, h.low⟩, h.nb, fun he => (h.circ he).keep hb.ck⟩
theorem Bd.size {a0 a1 : Addr} {lo : Nat} {w : World} {q r : Nat} {s : BS} (h : Bd a0 a1 lo w q r s) : lo ≤ w.heap.size := Nat.le_trans h.low (Nat.le_of_lt (lt_of_block h.box))
/-- The builder's failure behind 'fail'. -/
def failE (e : Option Nat) (b : Bool) (k : Nat) : Option Nat := if b = true ∧ e = none then some k else e
def RetX (a0 a1 : Addr) (lo : Nat) (w : World) (q r : Nat) (e' : Option Nat) (v : Value) (e : Ending) (w' : World) : Prop := e = .returned v ∧ BelB lo w w' ∧ Bx a0 a1 lo w' q r e' ∧ CKs w w'
/-- What the builder's calls answer: a mark, and the state behind it. -/
def RetM (a0 a1 : Addr) (lo : Nat) (w : World) (q r : Nat) (res : BS × Int) (e : Ending) (w' : World) : Prop := e = .returned (.int .i64 res.2) ∧ BelB lo w w' ∧ Bd a0 a1 lo w' q r res.1
end Go.Proofs.YtjghcaghigebjaaGreatDoor

/-! The program's builder: fail, made, and, or, mux. -/
namespace Go.Proofs.YtjghcaghigebjaaGreatDoor
open Go Go.RowKit

set_option maxHeartbeats 1000000 in
theorem fail_any (a0 a1 : Addr) (lo q r : Nat) (e0 : Option Nat) (b : Bool) (k : Nat) (w : World) (h : Bx a0 a1 lo w q r e0) :
    Calls Tryz.prog 89 #[.pointer (some ⟨q, 0, none⟩), .bool b, errV a0 a1 (some k)] w (RetX a0 a1 lo w q r (failE e0 b k) (.tuple #[])) := by
  have z1 : w.cell? ⟨q, 1, none⟩ = some (errV a0 a1 e0) := (cell_of_block h.box 1).1
  have zf : w.frozen? ⟨q, 1, none⟩ = false := (cell_of_block h.box 1).2
  have H := Lib.hid h
  clear h
  obtain ⟨a2, hv⟩ : ∃ a2, errV a0 a1 (some k) = sentV a2 := by rcases k with _ | k <;> exact ⟨_, rfl⟩
  have HV := Lib.hid hv
  rw [hv]
  clear hv
  rcases e0 with _ | e0
  · simp only [errV] at z1
    cases b
    · go_enter Tryz.func89, Tryz.ntmps89
      go_wp2
      refine bodyPost_end (results_none rfl _ _ _) rfl ?_
      exact ⟨rfl, .refl _ _, by rw [show failE none false k = none from if_neg (by simp)]; exact H.out, fun _ _ h _ => h⟩
    · go_enter Tryz.func89, Tryz.ntmps89
      go_wp2
      refine bodyPost_end (results_none rfl _ _ _) rfl ?_
      rw [show failE none true k = some k from if_pos ⟨rfl, rfl⟩]
      have hb := heap_set_same w q 1 (sentV a2) _ _ H.out.box
      have hB := BelB.set (k := 1) H.out.box H.out.low (sentV a2)
      refine ⟨rfl, hB, ⟨H.out.g.below hB.bel, ?_, H.out.low⟩, CKs.set H.out.box (sentV a2)⟩
      rw [hb, HV.out]; rfl
  · rw [show failE (some e0) b k = some e0 from if_neg (by simp)]
    obtain ⟨a, ha⟩ : ∃ a, errV a0 a1 (some e0) = sentV a := by rcases e0 with _ | e0 <;> exact ⟨_, rfl⟩
    simp only [ha] at z1
    clear ha
    cases b
    all_goals
      go_enter Tryz.func89, Tryz.ntmps89
      go_wp2
      refine bodyPost_end (results_none rfl _ _ _) rfl ?_
      exact ⟨rfl, .refl _ _, H.out, fun _ _ h _ => h⟩
def madeV (e : Option Nat) (m : Int) : Int := if e = none then m else -1
set_option maxHeartbeats 1000000 in
theorem made_any (a0 a1 : Addr) (lo q r : Nat) (e0 : Option Nat) (m : Int) (w : World) (h : Bx a0 a1 lo w q r e0) (h0 : -9223372036854775808 ≤ m) (h1 : m ≤ 9223372036854775807) :
    Calls Tryz.prog 123 #[.pointer (some ⟨q, 0, none⟩), .int .i64 m] w (RetX a0 a1 lo w q r (failE e0 (m == 0) 1) (.int .i64 (madeV (failE e0 (m == 0) 1) m))) := by
  have g1 : w.cell? ⟨0, 0, none⟩ = some (errV a0 a1 (some 1)) := h.g.c1
  have HF := Lib.hid (fail_any a0 a1 lo q r e0 (m == 0) 1 w h)
  clear h
  generalize hv : errV a0 a1 (some 1) = v at *
  generalize hz : (m == 0) = z at *
  go_enter Tryz.func123, Tryz.ntmps123
  go_wp2_with fail
  refine HF.out.mono ?_
  rintro e w1 ⟨rfl, hb, hd, hk⟩
  generalize failE e0 z 1 = e1 at *
  have z1 : w1.cell? ⟨q, 1, none⟩ = some (errV a0 a1 e1) := (cell_of_block hd.box 1).1
  have HB := Lib.hid hb
  have HD := Lib.hid hd
  have HK := Lib.hid hk
  clear hb hd HF hz hv g1 hk
  rcases e1 with _ | e1
  · simp only [errV] at z1
    go_wp2
    go_ret
    exact ⟨rfl, HB.out, HD.out, HK.out⟩
  · obtain ⟨a, ha⟩ : ∃ a, errV a0 a1 (some e1) = sentV a := by rcases e1 with _ | e1 <;> exact ⟨_, rfl⟩
    simp only [ha] at z1
    clear ha
    go_wp2
    go_ret
    exact ⟨rfl, HB.out, HD.out, HK.out⟩
set_option maxHeartbeats 1000000 in
theorem bAnd_any (a0 a1 : Addr) (lo q r : Nat) (s : BS) (x y : Int) (w : World) (h : Bd a0 a1 lo w q r s) (hx : MB x) (hy : MB y) :
    Calls Tryz.prog 93 #[.pointer (some ⟨q, 0, none⟩), .int .i64 x, .int .i64 y] w (RetM a0 a1 lo w q r (opsP.and s x y)) := by
  have z0 : w.cell? ⟨q, 0, none⟩ = some (.pointer (some ⟨r, 0, none⟩)) := (cell_of_block h.box 0).1
  have z1 : w.cell? ⟨q, 1, none⟩ = some (errV a0 a1 s.e) := (cell_of_block h.box 1).1
  have H := Lib.hid h
  obtain ⟨hx0, hx1, hx2⟩ := hx
  obtain ⟨hy0, hy1, hy2⟩ := hy
  show Calls _ _ _ _ (RetM a0 a1 lo w q r (stepP s (and1 s.n x y)))
  obtain ⟨n, e⟩ := s
  obtain ⟨hn0, hn1, hn2⟩ := h.nb
  dsimp only at hn0 hn1 hn2
  rcases e with _ | e
  · have hc : Circ lo w r n n.gs := h.circ rfl
    have HR := Lib.hid (and1_nb (a := x) (b := y) h.nb ⟨hx1, hx2⟩ ⟨hy1, hy2⟩)
    clear h
    simp only [errV] at z1
    have HC := Lib.hid (implAnd_any lo r n x y w hc hn2 hn0 hn1 (by omega) (by omega) hx0)
    clear hc
    go_enter Tryz.func93, Tryz.ntmps93
    go_wp2_with fail
    refine HC.out.mono ?_
    rintro e w1 ⟨rfl, hb, hc1⟩
    have HX : Hid (Bx a0 a1 lo w1 q r none) := Lib.hid ⟨H.out.g.below hb.bel, hb.kd q _ H.out.box bk_nck, H.out.low⟩
    have HB := Lib.hid hb.toB
    have HC1 := Lib.hid hc1
    have HST : Hid (stepP ⟨n, none⟩ (and1 n x y) = if (and1 n x y).2 = 0 then (⟨n, some 1⟩, -1) else (⟨(and1 n x y).1, none⟩, (and1 n x y).2)) := Lib.hid (by unfold stepP; rw [if_neg (by simp)])
    clear hb hc1 HC
    generalize and1 n x y = m at *
    obtain ⟨m0, m1⟩ := HR.out.2
    go_wp2_with fail
    refine (made_any a0 a1 lo q r none m.2 w1 HX.out (by omega) (by omega)).mono ?_
    rintro e w2 ⟨rfl, hb2, hx2', hk2⟩
    have HB2 := Lib.hid (HB.out.trans hb2)
    have HX2 := Lib.hid hx2'
    have HK2 := Lib.hid hk2
    clear hb2 hx2' hk2
    go_wp2
    go_ret
    show RetM a0 a1 lo w q r (stepP ⟨n, none⟩ m) _ _
    rw [HST.out]
    by_cases hz : m.2 = 0
    · have he : failE none (m.2 == 0) 1 = some 1 := by rw [hz]; rfl
      rw [if_pos hz]
      have hx3 := HX2.out
      rw [he] at hx3 ⊢
      exact ⟨rfl, HB2.out, ⟨hx3, H.out.nb, fun h => by cases h⟩⟩
    · have he : failE none (m.2 == 0) 1 = none := if_neg (by simp [hz])
      rw [if_neg hz]
      have hx3 := HX2.out
      rw [he] at hx3 ⊢
      exact ⟨rfl, HB2.out, ⟨hx3, HR.out.1, fun _ => (HC1.out hz).keep HK2.out⟩⟩
  · obtain ⟨a, ha⟩ : ∃ a, errV a0 a1 (some e) = sentV a := by rcases e with _ | e <;> exact ⟨_, rfl⟩
    simp only [ha] at z1
    clear ha h
    go_enter Tryz.func93, Tryz.ntmps93
    go_wp2
    go_ret
    rw [show stepP ⟨n, some e⟩ (and1 n x y) = (⟨n, some e⟩, -1) from if_pos (by simp)]
    exact ⟨rfl, .refl _ _, H.out⟩
set_option maxHeartbeats 1000000 in
theorem bXor_any (a0 a1 : Addr) (lo q r : Nat) (s : BS) (x y : Int) (w : World) (h : Bd a0 a1 lo w q r s) (hx : MB x) (hy : MB y) :
    Calls Tryz.prog 95 #[.pointer (some ⟨q, 0, none⟩), .int .i64 x, .int .i64 y] w (RetM a0 a1 lo w q r (opsP.xor s x y)) := by
  have z0 : w.cell? ⟨q, 0, none⟩ = some (.pointer (some ⟨r, 0, none⟩)) := (cell_of_block h.box 0).1
  have z1 : w.cell? ⟨q, 1, none⟩ = some (errV a0 a1 s.e) := (cell_of_block h.box 1).1
  have H := Lib.hid h
  obtain ⟨hx0, hx1, hx2⟩ := hx
  obtain ⟨hy0, hy1, hy2⟩ := hy
  show Calls _ _ _ _ (RetM a0 a1 lo w q r (stepP s (xor1 s.n x y)))
  obtain ⟨n, e⟩ := s
  obtain ⟨hn0, hn1, hn2⟩ := h.nb
  dsimp only at hn0 hn1 hn2
  rcases e with _ | e
  · have hc : Circ lo w r n n.gs := h.circ rfl
    have HR := Lib.hid (xor1_nb (a := x) (b := y) h.nb ⟨hx1, hx2⟩ ⟨hy1, hy2⟩)
    clear h
    simp only [errV] at z1
    have HC := Lib.hid (implXor_any lo r n x y w hc hn2 hn0 hn1 (by omega) (by omega))
    clear hc
    go_enter Tryz.func95, Tryz.ntmps95
    go_wp2_with fail
    refine HC.out.mono ?_
    rintro e w1 ⟨rfl, hb, hc1⟩
    have HX : Hid (Bx a0 a1 lo w1 q r none) := Lib.hid ⟨H.out.g.below hb.bel, hb.kd q _ H.out.box bk_nck, H.out.low⟩
    have HB := Lib.hid hb.toB
    have HC1 := Lib.hid hc1
    have HST : Hid (stepP ⟨n, none⟩ (xor1 n x y) = if (xor1 n x y).2 = 0 then (⟨n, some 1⟩, -1) else (⟨(xor1 n x y).1, none⟩, (xor1 n x y).2)) := Lib.hid (by unfold stepP; rw [if_neg (by simp)])
    clear hb hc1 HC
    generalize xor1 n x y = m at *
    obtain ⟨m0, m1⟩ := HR.out.2
    go_wp2_with fail
    refine (made_any a0 a1 lo q r none m.2 w1 HX.out (by omega) (by omega)).mono ?_
    rintro e w2 ⟨rfl, hb2, hx2', hk2⟩
    have HB2 := Lib.hid (HB.out.trans hb2)
    have HX2 := Lib.hid hx2'
    have HK2 := Lib.hid hk2
    clear hb2 hx2' hk2
    go_wp2
    go_ret
    show RetM a0 a1 lo w q r (stepP ⟨n, none⟩ m) _ _
    rw [HST.out]
    by_cases hz : m.2 = 0
    · have he : failE none (m.2 == 0) 1 = some 1 := by rw [hz]; rfl
      rw [if_pos hz]
      have hx3 := HX2.out
      rw [he] at hx3 ⊢
      exact ⟨rfl, HB2.out, ⟨hx3, H.out.nb, fun h => by cases h⟩⟩
    · have he : failE none (m.2 == 0) 1 = none := if_neg (by simp [hz])
      rw [if_neg hz]
      have hx3 := HX2.out
      rw [he] at hx3 ⊢
      exact ⟨rfl, HB2.out, ⟨hx3, HR.out.1, fun _ => (HC1.out hz).keep HK2.out⟩⟩
  · obtain ⟨a, ha⟩ : ∃ a, errV a0 a1 (some e) = sentV a := by rcases e with _ | e <;> exact ⟨_, rfl⟩
    simp only [ha] at z1
    clear ha h
    go_enter Tryz.func95, Tryz.ntmps95
    go_wp2
    go_ret
    rw [show stepP ⟨n, some e⟩ (xor1 n x y) = (⟨n, some e⟩, -1) from if_pos (by simp)]
    exact ⟨rfl, .refl _ _, H.out⟩
/-- Marks that the operations answer. -/
theorem opsP_and_mb {s : BS} {x y : Int} (h : NB s.n) (hx : RB x) (hy : RB y) : NB (opsP.and s x y).1.n ∧ MB (opsP.and s x y).2 := stepP_nb h (and1_nb h hx hy)
theorem opsP_xor_mb {s : BS} {x y : Int} (h : NB s.n) (hx : RB x) (hy : RB y) : NB (opsP.xor s x y).1.n ∧ MB (opsP.xor s x y).2 := stepP_nb h (xor1_nb h hx hy)
theorem bOr_any (a0 a1 : Addr) (lo q r : Nat) (s : BS) (x y : Int) (w : World) (h : Bd a0 a1 lo w q r s) (hx : MB x) (hy : MB y) :
    Calls Tryz.prog 94 #[.pointer (some ⟨q, 0, none⟩), .int .i64 x, .int .i64 y] w (RetM a0 a1 lo w q r (run opsP (orP x y) s)) := by
  have HC := Lib.hid (bAnd_any a0 a1 lo q r s (-x) (-y) w h hx.neg hy.neg)
  have HM := Lib.hid (opsP_and_mb (x := -x) (y := -y) h.nb hx.rb.neg hy.rb.neg).2
  show Calls _ _ _ _ (RetM a0 a1 lo w q r ((opsP.and s (-x) (-y)).1, -(opsP.and s (-x) (-y)).2))
  obtain ⟨hx0, hx1, hx2⟩ := hx
  obtain ⟨hy0, hy1, hy2⟩ := hy
  clear h
  generalize opsP.and s (-x) (-y) = m at *
  obtain ⟨hm0, hm1, hm2⟩ := HM.out
  go_enter Tryz.func94, Tryz.ntmps94
  go_wp2_with fail
  refine HC.out.mono ?_
  rintro e w1 ⟨rfl, hb, hd⟩
  have HB := Lib.hid hb
  have HD := Lib.hid hd
  clear hb hd HC
  go_wp2
  go_ret
  exact ⟨rfl, HB.out, HD.out⟩
set_option maxHeartbeats 1000000 in
theorem bMux_any (a0 a1 : Addr) (lo q r : Nat) (s : BS) (c x y : Int) (w : World) (h : Bd a0 a1 lo w q r s) (hc : MB c) (hx : MB x) (hy : MB y) :
    Calls Tryz.prog 131 #[.pointer (some ⟨q, 0, none⟩), .int .i64 c, .int .i64 x, .int .i64 y] w (RetM a0 a1 lo w q r (run opsP (muxP c x y) s)) := by
  have HC := Lib.hid (bAnd_any a0 a1 lo q r s c x w h hc hx)
  have HM := Lib.hid (opsP_and_mb (x := c) (y := x) h.nb hc.rb hx.rb)
  show Calls _ _ _ _ (RetM a0 a1 lo w q r (run opsP (orP (opsP.and s c x).2 (opsP.and (opsP.and s c x).1 (-c) y).2) (opsP.and (opsP.and s c x).1 (-c) y).1))
  have HX := Lib.hid hc.neg
  have HY := Lib.hid hy
  obtain ⟨hc0, hc1, hc2⟩ := hc
  clear h
  generalize opsP.and s c x = m at *
  go_enter Tryz.func131, Tryz.ntmps131
  go_wp2_with fail
  refine HC.out.mono ?_
  rintro e w1 ⟨rfl, hb, hd⟩
  have HB := Lib.hid hb
  have HC := Lib.hid (bAnd_any a0 a1 lo q r m.1 (-c) y w1 hd HX.out HY.out)
  have HM2 := Lib.hid (opsP_and_mb (x := -c) (y := y) hd.nb HX.out.rb HY.out.rb)
  clear hb hd
  generalize opsP.and m.1 (-c) y = p at *
  go_wp2_with fail
  refine HC.out.mono ?_
  rintro e w2 ⟨rfl, hb, hd⟩
  have HB := Lib.hid (HB.out.trans hb)
  have HC := Lib.hid (bOr_any a0 a1 lo q r p.1 m.2 p.2 w2 hd HM.out.2 HM2.out.2)
  clear hb hd
  generalize run opsP (orP m.2 p.2) p.1 = z at *
  go_wp2_with fail
  refine HC.out.mono ?_
  rintro e w3 ⟨rfl, hb, hd⟩
  have HB := Lib.hid (HB.out.trans hb)
  have HD := Lib.hid hd
  clear hb hd HC
  go_wp2
  go_ret
  exact ⟨rfl, HB.out, HD.out⟩
end Go.Proofs.YtjghcaghigebjaaGreatDoor

/-! A drawn region whose operations write old memory: each operation once, in whatever world its turn comes; a relation that all keep, and an invariant. No program is named here. -/
namespace Go.Proofs.YtjghcaghigebjaaGreatDoor
open Go Go.RowKit

/-- The operation without its guard. -/
def bare (o : Oper) : Oper := { o with guard := none }
abbrev Say := (Nat → Value) → World → Prop
def says (L : List Say) (vals : Nat → Value) (x : World) : List Nat → Prop
  | [] => True
  | i :: l => L.getD i (fun _ _ => True) vals x ∧ says L vals x l
/-- It waits for all others. -/
def isLast (ops : List Oper) (k : Nat) : Bool := (List.range ops.length).all fun r => r == k || reach ops ops.length k r
/-- Each stays over the relation, or is the last. -/
def Stabs (ops : List Oper) (R : World → World → Prop) : Nat → List Say → Prop
  | _, [] => True
  | k, V :: l => (isLast ops k = true ∨ ∀ vs x x', V vs x → R x x' → V vs x') ∧ Stabs ops R (k + 1) l
theorem Stabs.get {ops : List Oper} {R : World → World → Prop} : ∀ {L : List Say} {k : Nat}, Stabs ops R k L → ∀ i vs x x', isLast ops (k + i) = false → L.getD i (fun _ _ => True) vs x → R x x' → L.getD i (fun _ _ => True) vs x'
  | [], _, _, i, vs, x, x', _, _, _ => by simp
  | V :: l, k, h, 0, vs, x, x', hl, hv, hr => by
    rcases h.1 with h1 | h1
    · rw [Nat.add_zero] at hl; rw [hl] at h1; cases h1
    · simpa using h1 vs x x' (by simpa using hv) hr
  | V :: l, k, h, i + 1, vs, x, x', hl, hv, hr => by simpa using Stabs.get h.2 i vs x x' (by rw [← hl]; congr 1; omega) (by simpa using hv) hr
/-- Each looks at its own value and those of the ones that it looks at. -/
def Locals (D : List (List Nat)) : Nat → List Say → Prop
  | _, [] => True
  | k, V :: l => (∀ vs vs' x, vs k = vs' k → (∀ i ∈ D.getD k [], vs i = vs' i) → V vs x → V vs' x) ∧ Locals D (k + 1) l
theorem Locals.get {D : List (List Nat)} : ∀ {L : List Say} {k : Nat}, Locals D k L → ∀ i vs vs' x, vs (k + i) = vs' (k + i) → (∀ m ∈ D.getD (k + i) [], vs m = vs' m) → L.getD i (fun _ _ => True) vs x → L.getD i (fun _ _ => True) vs' x
  | [], _, _, i, vs, vs', x, _, _, _ => by simp
  | V :: l, k, h, 0, vs, vs', x, h1, h2, hv => by simpa using h.1 vs vs' x (by simpa using h1) (by simpa using h2) (by simpa using hv)
  | V :: l, k, h, i + 1, vs, vs', x, h1, h2, hv => by
    have e : k + (i + 1) = k + 1 + i := by omega
    rw [e] at h1 h2
    simpa using Locals.get h.2 i vs vs' x h1 h2 (by simpa using hv)
def upd (vs : Nat → Value) (k : Nat) (v : Value) : Nat → Value := fun j => if j = k then v else vs j
variable {P : Program} {Q : Exit → Act → World → Prop}
theorem says_iff {L : List Say} {vals : Nat → Value} {x : World} : ∀ {l : List Nat}, says L vals x l ↔ ∀ i ∈ l, L.getD i (fun _ _ => True) vals x
  | [] => by simp [says]
  | i :: l => by simp [says, says_iff (l := l)]
def idxs (D : List (List (Nat × Tmp))) : List (List Nat) := D.map fun l => l.map fun p => p.1
def saysD (L : List Say) (vals : Nat → Value) (x : World) : List (Nat × Tmp) → Prop
  | [] => True
  | (i, _) :: l => L.getD i (fun _ _ => True) vals x ∧ saysD L vals x l
theorem says_saysD {L : List Say} {vals : Nat → Value} {x : World} : ∀ {l : List (Nat × Tmp)}, says L vals x (l.map (·.1)) = saysD L vals x l
  | [] => rfl
  | (i, t) :: l => by simp only [List.map_cons, says, saysD, says_saysD (l := l)]
theorem bare_wp (o : Oper) (a : Act) (w : World) (K : Act → World → Prop) : Oper.wp P (bare o) a w K Q = Oper.wp P o a w K Q := by cases o; rfl
theorem wpList_bare {o : Oper} {a : Act} {w : World} (h : wpList P #[] Q [bare o] a w) : Oper.wp P o a w (Q .normal) Q ∨ LetsOut Q := by
  have hg : (bare o).guard = none := rfl
  unfold wpList at h
  rw [if_pos (by unfold Region.wanted; rw [hg])] at h
  rcases h with h | ⟨_, h⟩
  · rw [← bare_wp]; exact .inl h
  · exact .inr h
end Go.Proofs.YtjghcaghigebjaaGreatDoor

/-! A drawn region, each operation once, what memory does told of each. No program is named here. -/
namespace Go.Proofs.YtjghcaghigebjaaGreatDoor
open Go Go.RowKit
variable {P : Program} {Q : Exit → Act → World → Prop}

/-- What the operation does to memory: R0, or what is told of it. -/
def relOf (R0 : World → World → Prop) : List (Nat × (World → World → Prop)) → Nat → World → World → Prop
  | [], _ => R0
  | p :: l, k => fun x x' => (k = p.1 → p.2 x x') ∧ (k ≠ p.1 → relOf R0 l k x x')
def Refls : List (Nat × (World → World → Prop)) → Prop
  | [] => True
  | p :: l => (∀ x, p.2 x x) ∧ Refls l
theorem relOf_refl {R0 : World → World → Prop} (h0 : ∀ x, R0 x x) : ∀ {l : List (Nat × (World → World → Prop))}, Refls l → ∀ k x, relOf R0 l k x x
  | [], _, _, x => h0 x
  | _ :: _, h, k, x => ⟨fun _ => h.1 x, fun _ => relOf_refl h0 h.2 k x⟩
def StabS (ops : List Oper) (V : Say) (i : Nat) : List (Nat × (World → World → Prop)) → Prop
  | [] => True
  | p :: l => (reach ops ops.length i p.1 = true ∨ i = p.1 ∨ ∀ vs x x', V vs x → p.2 x x' → V vs x') ∧ StabS ops V i l
def Stabs3 (ops : List Oper) (R0 : World → World → Prop) (Rs : List (Nat × (World → World → Prop))) : Nat → List Say → Prop
  | _, [] => True
  | i, V :: l => ((isLast ops i = true ∨ ∀ vs x x', V vs x → R0 x x' → V vs x') ∧ StabS ops V i Rs) ∧ Stabs3 ops R0 Rs (i + 1) l
theorem relOf_stab {ops : List Oper} {R0 : World → World → Prop} {V : Say} {i k : Nat} (hik : i ≠ k) (hr : reach ops ops.length i k = false) (h0 : ∀ vs x x', V vs x → R0 x x' → V vs x') : ∀ {l : List (Nat × (World → World → Prop))}, StabS ops V i l → ∀ vs x x', V vs x → relOf R0 l k x x' → V vs x'
  | [], _, vs, x, x', hv, h => h0 vs x x' hv h
  | p :: l, hs, vs, x, x', hv, h => by
    by_cases e : k = p.1
    · rcases hs.1 with h1 | h1 | h1
      · rw [e, h1] at hr; cases hr
      · exact absurd (h1.trans e.symm) hik
      · exact h1 vs x x' hv (h.1 e)
    · exact relOf_stab hik hr h0 hs.2 vs x x' hv (h.2 e)
theorem relOf_last {ops : List Oper} {R0 : World → World → Prop} {V : Say} {i k : Nat} (hik : i ≠ k) (hr : reach ops ops.length i k = false) (hk : k < ops.length) (hl : isLast ops i = true) : False := by
  unfold isLast at hl
  have h1 := List.all_eq_true.1 hl k (List.mem_range.2 hk)
  rw [Bool.or_eq_true, hr] at h1
  rcases h1 with h1 | h1
  · exact hik (by simpa using Eq.symm (by simpa using h1 : k = i))
  · cases h1
theorem Stabs3.get {ops : List Oper} {R0 : World → World → Prop} {Rs : List (Nat × (World → World → Prop))} {k : Nat} (hk : k < ops.length) : ∀ {L : List Say} {m : Nat}, Stabs3 ops R0 Rs m L → ∀ i, m + i ≠ k → reach ops ops.length (m + i) k = false → ∀ vs x x', L.getD i (fun _ _ => True) vs x → relOf R0 Rs k x x' → L.getD i (fun _ _ => True) vs x'
  | [], _, _, i, _, _, vs, x, x', _, _ => by simp
  | V :: l, m, h, 0, hik, hr, vs, x, x', hv, hR => by
    rcases h.1.1 with h1 | h1
    · exact (relOf_last (R0 := R0) (V := V) hik hr hk h1).elim
    · simpa using relOf_stab hik hr h1 h.1.2 vs x x' (by simpa using hv) hR
  | V :: l, m, h, i + 1, hik, hr, vs, x, x', hv, hR => by
    have e : m + (i + 1) = m + 1 + i := by omega
    rw [e] at hik hr
    simpa using Stabs3.get hk h.2 i hik hr vs x x' (by simpa using hv) hR
end Go.Proofs.YtjghcaghigebjaaGreatDoor

/-! A drawn region, each operation once: what is so all along may look at which operations have been done. No program is named here. -/
namespace Go.Proofs.YtjghcaghigebjaaGreatDoor
open Go Go.RowKit
variable {P : Program} {Q : Exit → Act → World → Prop}

/-- It has been done too. -/
def did (f : Nat → Bool) (k : Nat) : Nat → Bool := fun j => if j = k then true else f j
theorem did_same (f : Nat → Bool) (k : Nat) : did f k k = true := if_pos rfl
theorem did_ne {f : Nat → Bool} {k j : Nat} (h : Nat.beq j k = false) : did f k j = f j := if_neg (Nat.ne_of_beq_eq_false h)
def relQ4 (R : World → World → Prop) (I : (Nat → Bool) → World → Prop) (L : List Say) (vals : Nat → Value) (f : Nat → Bool) (k : Nat) (o : Oper) (a : Act) (x : World) : Exit → Act → World → Prop
  | .normal, a', x' => a'.defers = a.defers ∧ L.getD k (fun _ _ => True) (upd vals k (got o a')) x' ∧ R x x' ∧ I (did f k) x'
  | _, _, _ => False
def obligR4 (P : Program) (ops : List Oper) (D : List (List Nat)) (R : World → World → Prop) (I : (Nat → Bool) → World → Prop) (L : List Say) (a : Act) (k : Nat) (o : Oper) : Prop :=
  ∀ (vals : Nat → Value) (x : World) (f : Nat → Bool), f k = false → (∀ j, reach ops ops.length k j = true → f j = true) → (∀ j, reach ops ops.length j k = true → f j = false) → I f x → says L vals x (D.getD k []) →
    ((∀ g b, o.guard = some (g, b) → vals g = .bool b) → o.wp P (puts ops vals (D.getD k []) a) x (relQ4 R I L vals f k o (puts ops vals (D.getD k []) a) x .normal) (relQ4 R I L vals f k o (puts ops vals (D.getD k []) a) x)) ∧
    (∀ g b, o.guard = some (g, b) → vals g ≠ .bool b → L.getD k (fun _ _ => True) (upd vals k undef) x ∧ I (did f k) x)
structure RelInv4 (ops : List Oper) (I : (Nat → Bool) → World → Prop) (L : List Say) (a : Act) (listed : Array Bool) (a' : Act) (x : World) (vals : Nat → Value) : Prop where
  size : listed.size = ops.length
  closed : ∀ j k, waits ops k j = true → listed.getD k false = true → listed.getD j false = true
  tsize : a'.tmps.size = a.tmps.size
  defers : a'.defers = a.defers
  old : ∀ t, (∀ j, listed.getD j false = true → dstOf ops j ≠ some t) → a'.tmps[t]? = a.tmps[t]?
  new : ∀ j t, listed.getD j false = true → dstOf ops j = some t → a'.tmps[t]? = some (vals j)
  inv : I (fun i => listed.getD i false) x
  fact : ∀ j, listed.getD j false = true → L.getD j (fun _ _ => True) vals x
def owes4 (P : Program) (R : World → World → Prop) (I : (Nat → Bool) → World → Prop) (L : List Say) (vals : Nat → Value) (a : Act) (x : World) (f : Nat → Bool) (k : Nat) (o : Oper) (gd : Option (Nat × Bool)) : Prop :=
  match gd with
  | none => wpList P #[] (relQ4 R I L vals f k o a x) [bare o] a x
  | some (g, b) => (vals g = .bool b → wpList P #[] (relQ4 R I L vals f k o a x) [bare o] a x) ∧ (vals g ≠ .bool b → L.getD k (fun _ _ => True) (upd vals k undef) x ∧ I (did f k) x)
/-- As 'relOk'; an operation may look at a slot that a later one writes, if that one waits for it. -/
def relOk4 (ops : List Oper) (D : List (List Nat)) (size : Nat) : Bool :=
  (List.range ops.length).all fun k =>
    (match ops[k]? with
      | some o => (match o.guard with | none => true | some (g, _) => (D.getD k []).contains g && (dstOf ops g).isSome) && (match o.op with | .select .. => false | _ => true) && (o.after.all fun e => !Region.binds .any e || decide (e.on < k)) && (match o.dst with | some d => decide (d < size) | none => true)
      | none => false) &&
    ((D.getD k []).all fun j => waits ops k j && decide (j < ops.length)) &&
    (decide ((D.getD k []).Nodup)) &&
    (List.range ops.length).all fun j =>
      (!looks ops k j || (D.getD k []).contains j || reach ops ops.length j k) &&
      (decide (j = k) || (match dstOf ops j, dstOf ops k with | some d, some e => d != e | _, _ => true))
theorem relOk4_spec {ops : List Oper} {D : List (List Nat)} {size : Nat} (h : relOk4 ops D size = true) (k : Nat) (o : Oper) (hk : ops[k]? = some o) :
    (∀ g b, o.guard = some (g, b) → g ∈ D.getD k [] ∧ ∃ d, dstOf ops g = some d) ∧ (∀ cs b, o.op ≠ .select cs b) ∧ (∀ e ∈ o.after, Region.binds .any e = true → e.on < k) ∧ (∀ d, o.dst = some d → d < size) ∧
    (∀ j ∈ D.getD k [], waits ops k j = true ∧ j < ops.length) ∧ (∀ j, j < ops.length → looks ops k j = true → j ∈ D.getD k [] ∨ reach ops ops.length j k = true) ∧
    (∀ j d, j < ops.length → dstOf ops j = some d → o.dst = some d → j = k) := by
  have hlt : k < ops.length := (List.getElem?_eq_some_iff.1 hk).1
  unfold relOk4 at h
  have h := List.all_eq_true.1 h k (List.mem_range.2 hlt)
  have hdk : dstOf ops k = o.dst := by simp [dstOf, hk]
  simp only [hk, Bool.and_eq_true, hdk] at h
  obtain ⟨⟨⟨⟨⟨⟨h1, h2⟩, h3⟩, h4⟩, h5⟩, _⟩, h6⟩ := h
  have h6 : ∀ j, j < ops.length → _ := fun j hj => List.all_eq_true.1 h6 j (List.mem_range.2 hj)
  refine ⟨fun g b hg => ?_, fun cs b e => (by rw [e] at h2; cases h2), fun e he hb => ?_, fun d hd => by rw [hd] at h4; simpa using h4, fun j hj => ?_, fun j hj hl => ?_, fun j d hj hd hd' => ?_⟩
  · rw [hg] at h1
    simp only [Bool.and_eq_true, List.contains_iff_mem] at h1
    exact ⟨h1.1, Option.isSome_iff_exists.1 h1.2⟩
  · have := (Array.all_eq_true_iff_forall_mem.1 h3) e he
    simpa [hb] using this
  · have := List.all_eq_true.1 h5 j hj
    simpa using this
  · have := h6 j hj
    simp only [Bool.and_eq_true, hl] at this
    simpa using this.1
  · have := h6 j hj
    simp only [Bool.and_eq_true, hd, hd'] at this
    simpa using this.2
theorem rel4_any {ops : List Oper} {D : List (List Nat)} {R : Nat → World → World → Prop} {I : (Nat → Bool) → World → Prop} {L : List Say} {a : Act} (hRr : ∀ k x, R k x x) (hL : ∀ j k, k < ops.length → j ≠ k → reach ops ops.length j k = false → ∀ vs x x', L.getD j (fun _ _ => True) vs x → R k x x' → L.getD j (fun _ _ => True) vs x') (hLo : Locals D 0 L) (hB : relOk4 ops D a.tmps.size = true)
    (hs : ∀ k o, ops[k]? = some o → obligR4 P ops D (R k) I L a k o)
    (hfin : ∀ vals x f, (∀ i, i < ops.length → f i = true) → I f x → says L vals x (List.range ops.length) → Q .normal (puts ops vals (List.range ops.length) a) x) :
    ∀ (fuel : Nat) (listed : Array Bool) (a' : Act) (x : World) (vals : Nat → Value), cnt (fun i => listed.getD i false) ops.length ≤ fuel →
      RelInv4 ops I L a listed a' x vals → wpAny P .any ops.toArray Q fuel listed a' x := by
  have hdd : ∀ i j t, dstOf ops i = some t → dstOf ops j = some t → i = j := fun i j t hi hj => by
    have hjl : j < ops.length := dst_lt hj
    have ho : ops[j]? = some ops[j] := List.getElem?_eq_getElem hjl
    exact (relOk4_spec hB j _ ho).2.2.2.2.2.2 i t (dst_lt hi) hi (by simpa [dstOf, ho] using hj)
  have hds : ∀ j t, dstOf ops j = some t → t < a.tmps.size := fun j t hj => by
    have hjl : j < ops.length := dst_lt hj
    have ho : ops[j]? = some ops[j] := List.getElem?_eq_getElem hjl
    exact (relOk4_spec hB j _ ho).2.2.2.1 t (by simpa [dstOf, ho] using hj)
  have hdone : ∀ (listed : Array Bool) (a' : Act) (x : World) (vals : Nat → Value), (∀ i, i < ops.length → listed.getD i false = true) → RelInv4 ops I L a listed a' x vals → Q .normal a' x := by
    intro listed a' x vals hall inv
    have ha : a' = puts ops vals (List.range ops.length) a := by
      have ht : a'.tmps = (puts ops vals (List.range ops.length) a).tmps := by
        apply Array.ext_getElem?
        intro t
        by_cases h : ∃ j, dstOf ops j = some t
        · obtain ⟨j, hj⟩ := h
          rw [inv.new j t (hall j (dst_lt hj)) hj, puts_get (fun i j => hdd i j t) _ _ j (List.mem_range.2 (dst_lt hj)) hj (hds j t hj)]
        · rw [inv.old t (fun j _ e => h ⟨j, e⟩), puts_ne _ _ (fun i _ e => h ⟨i, e⟩)]
      have hdf : a'.defers = (puts ops vals (List.range ops.length) a).defers := by rw [puts_defers]; exact inv.defers
      cases a'
      cases hp : puts ops vals (List.range ops.length) a
      rw [hp] at ht hdf
      simp only at ht hdf
      rw [ht, hdf]
    rw [ha]
    exact hfin vals x _ hall inv.inv (says_iff.2 fun i hi => inv.fact i (hall i (List.mem_range.1 hi)))
  have hmin : ∀ (listed : Array Bool), listed.size = ops.length → ∀ i, i < ops.length → listed.getD i false = false → Region.ready .any ops.toArray listed ≠ [] := by
    intro listed hsz i
    induction i using Nat.strongRecOn with
    | _ i ih =>
      intro hi hun hr
      have ho : ops[i]? = some ops[i] := List.getElem?_eq_getElem hi
      by_cases h : ∀ e ∈ ops[i].after, Region.binds .any e = true → listed.getD e.on false = true
      · have : i ∈ Region.ready .any ops.toArray listed := mem_ready.2 ⟨getD_in (by omega) hun, ops[i], by simp [ho], h⟩
        rw [hr] at this; cases this
      · simp only [Classical.not_forall] at h
        obtain ⟨e, he, hb, hl⟩ := h
        have hlt := (relOk4_spec hB i _ ho).2.2.1 e he hb
        exact ih e.on hlt (by omega) (by simpa using hl) hr
  intro fuel
  induction fuel with
  | zero =>
    intro listed a' x vals hc inv
    have hall := cnt_zero (f := fun i => listed.getD i false) (Nat.le_zero.1 hc)
    refine ⟨?_, hdone _ _ _ _ hall inv⟩
    cases hr : Region.ready .any ops.toArray listed with
    | nil => rfl
    | cons k rs =>
      exfalso
      have hk : k ∈ Region.ready .any ops.toArray listed := by rw [hr]; simp
      obtain ⟨h0, o, ho, _⟩ := mem_ready.1 hk
      have hlt : k < ops.length := by
        have := (Array.getElem?_eq_some_iff.1 ho).1; simpa using this
      have h1 : listed.getD k false = true := hall k hlt
      rw [getD_both h0] at h1; cases h1
  | succ fuel ih =>
    intro listed a' x vals hc inv
    refine ⟨fun hr => ?_, fun k hk => ?_⟩
    · refine hdone _ _ _ _ (fun i hi => ?_) inv
      cases h : listed.getD i false with
      | true => rfl
      | false => exact absurd hr (hmin listed inv.size i hi h)
    · obtain ⟨h0, o, hoA, hwait⟩ := mem_ready.1 hk
      have ho : ops[k]? = some o := by simpa using hoA
      have hkl : k < ops.length := (List.getElem?_eq_some_iff.1 ho).1
      have h0f : listed.getD k false = false := getD_both h0
      have hsz : k < listed.size := by rw [inv.size]; exact hkl
      obtain ⟨hg, hsel, _, hdsz, hD, hlook, hdist⟩ := relOk4_spec hB k o ho
      have hw : ∀ m, waits ops k m = true → listed.getD m false = true := fun m hm => by
        obtain ⟨o', ho', e, he, hb, rfl⟩ := waits_spec.1 hm
        have : o' = o := Option.some.inj (ho'.symm.trans ho)
        subst this
        exact hwait e he hb
      have hDl : ∀ j ∈ D.getD k [], listed.getD j false = true := fun j hj => hw j (hD j hj).1
      have hdk : dstOf ops k = o.dst := by simp [dstOf, ho]
      -- the operation runs as it does in the small state
      have hexec : execOp a'.eval o = execOp (puts ops vals (D.getD k []) a).eval o := execOp_congr o hsel fun y hy => by
        cases y with
        | tmp t =>
          have ht : a'.tmps[t]? = (puts ops vals (D.getD k []) a).tmps[t]? := by
            by_cases h : ∃ j, dstOf ops j = some t
            · obtain ⟨j, hj⟩ := h
              rcases hlook j (dst_lt hj) (looks_spec ho hj hy) with hm | hm
              · rw [inv.new j t (hDl j hm) hj, puts_get (fun i j => hdd i j t) _ _ j hm hj (hds j t hj)]
              · have hjf : listed.getD j false = true → False := fun hjl => by
                  have := reach_listed inv.closed _ j k (fun m hm => inv.closed m j hm hjl) hm
                  rw [this] at h0f; cases h0f
                rw [inv.old t (fun i hi e => by have := hdd i j t e hj; subst this; exact hjf hi), puts_ne _ _ (fun i hi e => by have := hdd i j t e hj; subst this; exact hjf (hDl i hi))]
            · rw [inv.old t (fun j _ e => h ⟨j, e⟩), puts_ne _ _ (fun i _ e => h ⟨i, e⟩)]
          show a'.tmps.getD t undef = (puts ops vals (D.getD k []) a).tmps.getD t undef
          rw [Array.getD_eq_getD_getElem?, Array.getD_eq_getD_getElem?, ht]
        | _ => rfl
      have hcs := (cnt_set (f := fun i => listed.getD i false) (g := fun i => (listed.setIfInBounds k true).getD i false) h0f (getD_set (listed := listed) hsz) (n := ops.length)).2 hkl
      have hob := hs k o ho vals x (fun i => listed.getD i false) h0f (fun r h => reach_listed inv.closed _ k r (fun m hm => hw m hm) h) (fun r hr => by
        cases h : listed.getD r false with
        | false => rfl
        | true => exact absurd ((reach_listed inv.closed _ r k (fun m hm => inv.closed m r hm h) hr).symm.trans h0f) (by simp)) inv.inv (says_iff.2 fun j hj => inv.fact j (hDl j hj))
      have hbs : (puts ops vals (D.getD k []) a).tmps.size = a.tmps.size := puts_size _ _
      have hbd : (puts ops vals (D.getD k []) a).defers = a.defers := puts_defers _ _
      have next : ∀ v x', (L.getD k (fun _ _ => True) (upd vals k (got o ((puts ops vals (D.getD k []) a).put o.dst v))) x' ∧ R k x x' ∧ I (did (fun i => listed.getD i false) k) x') →
          wpAny P .any ops.toArray Q fuel (listed.setIfInBounds k true) (a'.put o.dst v) x' := by
        intro v x' hq
        obtain ⟨hV, hR, hI'⟩ := hq
        have hgs := getD_set (listed := listed) hsz
        have hold : ∀ j, (listed.setIfInBounds k true).getD j false = true → j ≠ k → listed.getD j false = true := fun j hj hne => by
          rw [hgs, if_neg hne] at hj; exact hj
        refine ih _ _ x' (fun j => if j = k then got o ((puts ops vals (D.getD k []) a).put o.dst v) else vals j) ?_ ⟨by simp [inv.size], fun j m hm hl => ?_, by rw [put_size]; exact inv.tsize, by rw [put_defers]; exact inv.defers, fun t ht => ?_, fun j t hj hdj => ?_, by rw [show (fun i => (listed.setIfInBounds k true).getD i false) = fun j => if j = k then true else listed.getD j false from funext hgs]; exact hI', fun j hj => ?_⟩
        · omega
        · rw [hgs]
          by_cases e : j = k
          · rw [if_pos e]
          · rw [if_neg e]
            by_cases e' : m = k
            · subst e'; exact hw j hm
            · exact inv.closed j m hm (hold m hl e')
        · rw [put_get_ne _ _ _ _ (by
            have := ht k (by rw [hgs, if_pos rfl])
            rwa [hdk] at this)]
          refine inv.old t fun j hj => ht j ?_
          rw [hgs]; split <;> first | rfl | exact hj
        · by_cases e : j = k
          · subst e
            rw [hdk] at hdj
            have htl := hdsz t hdj
            rw [if_pos rfl, hdj, put_get _ _ _ (by rw [inv.tsize]; exact htl)]
            simp only [got, hdj]
            rw [Array.getD_eq_getD_getElem?, put_get _ _ _ (by rw [hbs]; exact htl)]
            rfl
          · rw [if_neg e, put_get_ne _ _ _ _ (fun e' => e (hdist j t (dst_lt hdj) hdj e'))]
            exact inv.new j t (hold j hj e) hdj
        · by_cases e : j = k
          · subst e; exact hV
          · have hjl := hold j hj e
            have hrj : reach ops ops.length j k = false := by
              cases h : reach ops ops.length j k with
              | false => rfl
              | true => rw [reach_listed inv.closed _ j k (fun m hm => inv.closed m j hm hjl) h] at h0f; cases h0f
            have hfj := hL j k hkl e hrj vals x x' (inv.fact j hjl) hR
            refine hLo.get j vals _ x' (by simp [upd, e]) (fun m hm => ?_) hfj
            have hmk : m ≠ k := fun e' => by
              have hjlt := listed_lt inv.size hjl
              have hw' := ((relOk4_spec hB j ops[j] (List.getElem?_eq_getElem hjlt)).2.2.2.2.1 m (by simpa using hm)).1
              rw [e'] at hw'
              rw [inv.closed k j hw' hjl] at h0f; cases h0f
            simp [upd, hmk]
      unfold wpOp
      rw [hoA]
      dsimp only
      have hgv : ∀ g b, o.guard = some (g, b) → ∃ d, dstOf ops g = some d ∧ a'.tmps[d]? = some (vals g) := fun g b hgb => by
        obtain ⟨h1, d, h2⟩ := hg g b hgb
        exact ⟨d, h2, inv.new g d (hDl g h1) h2⟩
      have hyield : ∀ g b, o.guard = some (g, b) → (Region.wanted o (yielded ops.toArray a'.tmps) = true ↔ vals g = .bool b) := fun g b hgb => by
        obtain ⟨d, h1, h2⟩ := hgv g b hgb
        have hy : yielded ops.toArray a'.tmps g = match some (vals g) with | some (.bool b) => some b | _ => none := by
          unfold yielded
          rw [show (ops.toArray[g]?).bind (·.dst) = some d from by simpa [dstOf] using h1]
          simp only [Option.bind_some, h2]
          cases vals g <;> rfl
        unfold Region.wanted
        rw [hgb]
        simp only [hy]
        constructor
        · intro h
          split at h
          · rename_i b' he
            injection he with he
            rw [he]
            have : b' = b := by simpa using h
            rw [this]
          · cases h
        · intro h
          rw [h]; simp
      have hskip : Region.wanted o (yielded ops.toArray a'.tmps) = false → wpAny P .any ops.toArray Q fuel (listed.setIfInBounds k true) (a'.put o.dst undef) x := fun hw0 => by
        cases hgd : o.guard with
        | none => unfold Region.wanted at hw0; rw [hgd] at hw0; cases hw0
        | some p =>
          obtain ⟨g, b⟩ := p
          have hne : vals g ≠ .bool b := fun e => by rw [(hyield g b hgd).2 e] at hw0; cases hw0
          obtain ⟨h1, h2⟩ := hob.2 g b hgd hne
          refine next undef x ⟨?_, hRr k x, h2⟩
          have : got o ((puts ops vals (D.getD k []) a).put o.dst undef) = undef := by
            unfold got
            cases hd : o.dst with
            | none => rfl
            | some d =>
              simp only
              rw [Array.getD_eq_getD_getElem?, put_get _ _ _ (by rw [hbs]; exact hdsz d hd)]
              rfl
          rw [this]; exact h1
      by_cases hwant : Region.wanted o (yielded ops.toArray a'.tmps) = true
      rotate_left
      · rw [if_neg hwant]
        exact hskip (by simpa using hwant)
      rw [if_pos hwant]
      have hob := hob.1 fun g b hgd => (hyield g b hgd).1 hwant
      refine .inl ?_
      unfold Oper.wp at hob ⊢
      rw [hexec]
      generalize (execOp (puts ops vals (D.getD k []) a).eval o).run P x = r at hob ⊢
      cases r with
      | ok n w' =>
        cases n <;> simp only [Oper.upon] at hob ⊢
        case value v => exact next v w' hob.2
        case skip => exact next _ w' hob.2
        case defer d =>
          have := hob.1
          rw [put_defers] at this
          exact absurd (congrArg List.length this) (by simp)
        case enter f args =>
          refine Calls.mono hob fun e w'' he => ?_
          cases e with
          | returned u => exact next u w'' he.2
          | panicked c => exact he.elim
          | outgrown => obtain ⟨_, _, h⟩ := he; exact h.elim
        case row row args => exact Rows.mono hob fun u w'' he => next u w'' he.2
      | halt e w' =>
        cases e <;> simp only [Oper.upon] at hob ⊢ <;> exact hob.elim


def shareR4 (P : Program) (ops : List Oper) (R : World → World → Prop) (I : (Nat → Bool) → World → Prop) (L : List Say) (a : Act) (k : Nat) (o : Oper) (d : List (Nat × Tmp)) : Prop :=
  ∀ (vals : Nat → Value) (x : World) (f : Nat → Bool), f k = false → (∀ j, reach ops ops.length k j = true → f j = true) → (∀ j, reach ops ops.length j k = true → f j = false) → I f x → saysD L vals x d →
    owes4 P R I L vals (putsD vals d a) x f k o o.guard
def sharesR4 (P : Program) (ops : List Oper) (R : Nat → World → World → Prop) (I : (Nat → Bool) → World → Prop) (L : List Say) (a : Act) : Nat → List Oper → List (List (Nat × Tmp)) → Prop
  | _, [], _ => True
  | _, _ :: _, [] => False
  | k, o :: l, d :: ds => shareR4 P ops (R k) I L a k o d ∧ sharesR4 P ops R I L a (k + 1) l ds
theorem sharesR4_get {ops : List Oper} {R : Nat → World → World → Prop} {I : (Nat → Bool) → World → Prop} {L : List Say} {a : Act} : ∀ {l : List Oper} {ds : List (List (Nat × Tmp))} {k : Nat}, sharesR4 P ops R I L a k l ds →
    ∀ i o, l[i]? = some o → shareR4 P ops (R (k + i)) I L a (k + i) o (ds.getD i [])
  | [], _, _, _, i, o, h => by simp at h
  | _ :: _, [], _, h, _, _, _ => h.elim
  | o' :: l, d :: ds, k, h, 0, o, ho => by
    simp only [List.getElem?_cons_zero, Option.some.injEq] at ho
    subst ho; exact h.1
  | o' :: l, d :: ds, k, h, i + 1, o, ho => by
    simp only [List.getElem?_cons_succ] at ho
    have := sharesR4_get h.2 i o ho
    rw [show k + (i + 1) = k + 1 + i by omega]
    simpa using this
/-- A drawn region, each operation once. D: of each operation the ones that it looks at, with their slots; L: what is said of each one's value; R: what every operation does to memory; I: what is so all along, by which have been done. -/
theorem wp_region_rel4 {id : Nat} {ops : List Oper} {a : Act} {w : World} (D : List (List (Nat × Tmp))) (R0 : World → World → Prop) (Rs : List (Nat × (World → World → Prop))) (I : (Nat → Bool) → World → Prop) (L : List Say) (all : List (Nat × Tmp)) (hm : P.follows .mixedOrders = true)
    (hB : relOk4 ops (idxs D) a.tmps.size = true) (hD : D.all (fitsD ops) = true)
    (hall : (List.range ops.length).filterMap (fun i => (dstOf ops i).map fun t => (i, t)) = all)
    (hRr : ∀ x, R0 x x) (hRs : Refls Rs) (hL : Stabs3 ops R0 Rs 0 L) (hLo : Locals (idxs D) 0 L) (h0 : I (fun _ => false) (w.drewN 1))
    (hs : sharesR4 P ops (relOf R0 Rs) I L a 0 ops D)
    (hfin : ∀ vals x f, (∀ i, i < ops.length → f i = true) → I f x → says L vals x (List.range ops.length) → Q .normal (putsD vals all a) x) : (Code.region id ops.toArray true).wp P Q a w := by
  refine wp_region_any hm ?_
  have z0 : ∀ j, (Array.replicate ops.toArray.size false).getD j false = false := fun j => getD_replicate_false _ _
  have hle : ∀ (f : Nat → Bool) (n : Nat), cnt f n ≤ n := fun f n => by
    induction n with
    | zero => exact Nat.le_refl _
    | succ n ih => simp only [cnt]; split <;> omega
  have hrel := rel4_any (P := P) (Q := Q) (ops := ops) (a := a) (D := idxs D) (R := relOf R0 Rs) (I := I) (L := L) (relOf_refl hRr hRs) (fun j k hk hjk hr vs x x' => Stabs3.get hk hL j (by rw [Nat.zero_add]; exact hjk) (by rw [Nat.zero_add]; exact hr) vs x x') hLo hB
  refine hrel (fun k o hk => ?_) (fun vals x f hn hI hf => ?_) _ _ _ _ (fun _ => undef) (Nat.le_trans (hle _ _) (by simp)) ?_
  rotate_left
  · rw [puts_all, hall]; exact hfin vals x f hn hI hf
  · exact ⟨by simp, fun j k _ hl => (by rw [z0] at hl; cases hl), rfl, rfl, fun _ _ => rfl, fun j t hj => (by rw [z0] at hj; cases hj), by rw [show (fun i => (Array.replicate ops.toArray.size false).getD i false) = fun _ => false from funext z0]; exact h0, fun j hj => (by rw [z0] at hj; cases hj)⟩
  · have hsh := sharesR4_get hs k o hk
    rw [Nat.zero_add] at hsh
    have hfit : fitsD ops (D.getD k []) = true := by
      rcases Nat.lt_or_ge k D.length with h | h
      · rw [show D.getD k [] = D[k] by simp [h]]; exact List.all_eq_true.1 hD _ (List.getElem_mem h)
      · rw [show D.getD k [] = [] by simp [h]]; rfl
    have hDk : (idxs D).getD k [] = (D.getD k []).map (·.1) := by
      unfold idxs
      rcases Nat.lt_or_ge k D.length with h | h
      · simp [h]
      · simp [h]
    intro vals x f hn hl hl2 hI hf
    rw [hDk, says_saysD] at hf
    have h := hsh vals x f hn hl hl2 hI hf
    rw [hDk, puts_putsD hfit]
    have hun : wpList P #[] (relQ4 (relOf R0 Rs k) I L vals f k o (putsD vals (D.getD k []) a) x) [bare o] (putsD vals (D.getD k []) a) x → o.wp P (putsD vals (D.getD k []) a) x (relQ4 (relOf R0 Rs k) I L vals f k o (putsD vals (D.getD k []) a) x .normal) (relQ4 (relOf R0 Rs k) I L vals f k o (putsD vals (D.getD k []) a) x) := fun h => by
      rcases wpList_bare h with h | ⟨_, _, h⟩
      · exact h
      · exact h.elim
    generalize o.guard = gd at h ⊢
    cases gd with
    | none => exact ⟨fun _ => hun h, fun g b e => by cases e⟩
    | some p =>
      obtain ⟨g, b⟩ := p
      exact ⟨fun e => hun (h.1 (e g b rfl)), fun g' b' e hne => by injection e with e; injection e with e1 e2; subst e1; subst e2; exact h.2 hne⟩
end Go.Proofs.YtjghcaghigebjaaGreatDoor

/-! The program's builder: bit by bit. -/
namespace Go.Proofs.YtjghcaghigebjaaGreatDoor
open Go Go.RowKit

/-- append of one signal onto a row of the call's own, the signal lying in a block of its own. -/
theorem wpList_append_sig2 {Q : Exit → Act → World → Prop} {ops : Array Oper} {rest : List Oper} {o : Oper} {a : Act} {w : World} {lo : Nat} {A : Option Addr} {c : Nat} {xs ys : List Int} {x : Int} {b : Nat} {t : TypeId} {fr : Nat × Nat} (hgd : o.guard = none) (s y : Operand)
    (ho : o.op = .call { callee := .builtin .append, args := #[s, y], argTypes := #[77, 77] }) (hs : a.eval s = .slice A xs.length c) (hy : a.eval y = .slice (some ⟨b, 0, none⟩) 1 1)
    (hown : OwnSg w lo (.slice A xs.length c) xs) (hb : w.heap[b]? = some (.cells #[.int .i64 x] t fr)) (hn : xs.length ≤ 1048576) (hlo : lo ≤ w.heap.size) (hys : ys = xs ++ [x])
    (h : ∀ A' c' w', OwnSg w' lo (.slice A' ys.length c') ys → w.grownBy w' (Value.slice A xs.length c).ownBlock → wpList Tryz.prog ops Q rest (a.put o.dst (.slice A' ys.length c')) w') : wpList Tryz.prog ops Q (o :: rest) a w := by
  obtain ⟨i0, hi0, hz0, hz1, hz2⟩ := info_parts signal_info
  have hl : ys.length = xs.length + 1 := by rw [hys]; simp
  have hc : ys.map (Value.int .i64) = xs.map (Value.int .i64) ++ [.int .i64 x] := by rw [hys]; simp
  refine wpList_append_src (P := Tryz.prog) w hgd s y 77 ho lo 123 i0 _ 1 8 Tryz.underlying77 hi0 hz0 hz1 hz2 (by rfl) (by omega) _ xs.length (xs.map (Value.int .i64)) hs hown (some ⟨b, 0, none⟩) 1 1 [.int .i64 x] hy (src_block hb rfl) (by intro u hu; simp at hu; subst hu; rfl) ys.length hl.symm (by unfold maxLen; omega) (by omega) hlo (by simp) ?_
  intro A' c' w' h2 _ h3
  exact h A' c' w' (by unfold OwnSg; rw [hc]; exact h2) h3
/-- What the append leaves as it was. -/
theorem OwnSg.grown {x x' : World} {base c : Nat} {A : Option Addr} {l : List Int} (h : OwnSg x base (.slice A l.length c) l) (hg : x.grownBy x' (Value.slice A l.length c).ownBlock) (hb : base ≤ x.heap.size) {lo : Nat} (hl : lo ≤ base) : BelS lo x x' ∧ Below base x x' := by
  have hB : Below base x x' := (Below.refl base x).grown hg hb fun g hg' => (h.lt g hg').1
  have hk : ∀ (i : Nat) (o : Obj), x.heap[i]? = some o → (CK o ∨ BK o) → x'.heap[i]? = some o := fun i o hi hc => by
    refine (hg.block i (Array.getElem?_eq_some_iff.1 hi).1 fun e => ?_).trans hi
    rcases h.2 with ⟨e', _⟩ | ⟨g, cap, cur, e', _, hgg, _⟩
    · rw [e'] at e; cases e
    · rw [e'] at e
      injection e with e
      subst e
      rw [hi] at hgg
      injection hgg with hgg
      subst hgg
      rcases hc with hc | hc
      · exact sig_nck.1 hc
      · exact sig_nck.2 hc
  exact ⟨⟨hB.mono hl, fun i o hi hc => hk i o hi (.inl hc), fun i o hi hc => hk i o hi (.inr hc)⟩, hB⟩
theorem BelB.then {lo : Nat} {W x x' : World} (h : BelB lo W x) (hb : Below W.heap.size x x') (hl : lo ≤ W.heap.size) : BelB lo W x' :=
  ⟨h.bel.trans (hb.mono hl), fun i o hi hc hk => (hb.block i (Array.getElem?_eq_some_iff.1 hi).1).trans (h.kd i o hi hc hk)⟩
/-- What is so while a region of 'each' runs. -/
def EachI (a0 a1 : Addr) (lo : Nat) (W : World) (q r : Nat) (s s' : BS) (A : Option Addr) (c : Nat) (l : List Int) (called done : Bool) (x : World) : Prop :=
  BelB lo W x ∧ Bd a0 a1 lo x q r (if called = true then s' else s) ∧ (done = false → OwnSg x W.heap.size (.slice A l.length c) l)
theorem EachI.up {a0 a1 : Addr} {lo : Nat} {W : World} {q r : Nat} {s s' : BS} {A : Option Addr} {c : Nat} {l : List Int} {called done : Bool} {x x' : World} (h : EachI a0 a1 lo W q r s s' A c l called done x) (hb : Below x.heap.size x x') : EachI a0 a1 lo W q r s s' A c l called done x' :=
  ⟨h.1.trans (.of hb h.2.1.size), h.2.1.up hb, fun hd => own_below (h.2.2 hd) hb (Nat.le_refl _)⟩
/-- What 'each' answers. -/
def RetL (a0 a1 : Addr) (lo : Nat) (w : World) (q r : Nat) (res : BS × List Int) (e : Ending) (w' : World) : Prop :=
  ∃ A c, e = .returned (.slice A res.2.length c) ∧ res.2.length ≤ c ∧ Lay.int.Pl w' A res.2 ∧ (∀ m ∈ res.2, MB m) ∧ BelB lo w w' ∧ Bd a0 a1 lo w' q r res.1
theorem mux_mb {c x y : Int} {s : BS} (h : NB s.n) (hc : RB c) (hx : RB x) (hy : RB y) : NB (run opsP (muxP c x y) s).1.n ∧ MB (run opsP (muxP c x y) s).2 := by
  have h1 := opsP_and_mb (x := c) (y := x) h hc hx
  have h2 := opsP_and_mb (x := -c) (y := y) h1.1 hc.neg hy
  have h3 := opsP_and_mb (x := -(opsP.and s c x).2) (y := -(opsP.and (opsP.and s c x).1 (-c) y).2) h2.1 h1.2.rb.neg h2.2.rb.neg
  exact ⟨h3.1, h3.2.neg⟩
end Go.Proofs.YtjghcaghigebjaaGreatDoor

/-! Rows of the call's own whose elements may lead on to other blocks; append of one element. No program is named here. -/
namespace Go.Proofs.YtjghcaghigebjaaGreatDoor
open Go Go.RowKit

/-- What is so of a block hangs on the block alone. -/
def Stay (Q : World → Nat → Prop) : Prop := ∀ w w' b, w'.heap[b]? = w.heap[b]? → Q w b → Q w' b
theorem Stay.any : Stay (fun _ _ => True) := fun _ _ _ _ _ => trivial
theorem Stay.own (lo : Nat) : Stay (fun w b => lo ≤ b ∧ ∀ o, w.frozen? ⟨b, o, none⟩ = false) := fun w w' b h hq => ⟨hq.1, fun o => by
  rw [← hq.2 o]; exact World.frozen?_of_block (a := ⟨b, o, none⟩) h⟩
/-- A row of the call's own, of elements that lead to other blocks. -/
def OwnL {α : Type} (L : Lay α) (Q : World → Nat → Prop) (e : TypeId) (w : World) (lo : Nat) (v : Value) (xs : List α) : Prop :=
  ∃ cs, w.ownsRow lo e L.size v xs.length cs ∧ ∀ i x, xs[i]? = some x → ∃ vs, L.R w (fun b => b < w.heap.size ∧ v.ownBlock ≠ some b ∧ Q w b) x vs ∧ ∀ j u, vs[j]? = some u → cs[i * L.size + j]? = some u
section
variable {α : Type} {L : Lay α} {Q : World → Nat → Prop} {e : TypeId} {lo : Nat} {w : World} {v : Value} {xs : List α}
theorem OwnL.nil (L : Lay α) (Q : World → Nat → Prop) (e : TypeId) (w : World) (lo : Nat) : OwnL L Q e w lo (.slice none 0 0) [] := ⟨[], World.ownsRow_nil _ _ _ _, fun i x h => by simp at h⟩
/-- Nothing that the row leads to has turned. -/
theorem OwnL.keep {w' : World} (h : OwnL L Q e w lo v xs) (hQ : Stay Q) (hg : w.grownBy w' none) : OwnL L Q e w' lo v xs := by
  obtain ⟨cs, h1, h2⟩ := h
  refine ⟨cs, rows_kept h1 hg (by simp), fun i x hx => ?_⟩
  obtain ⟨vs, hr, hu⟩ := h2 i x hx
  refine ⟨vs, L.mono (fun b hb => ?_) (L.keep (fun b hb => hg.block b hb.1 (by simp)) hr), hu⟩
  exact ⟨Nat.lt_of_lt_of_le hb.1 hg.size, hb.2.1, hQ _ _ _ (hg.block b hb.1 (by simp)) hb.2.2⟩
theorem grown_of_below {a b : World} {row : Option Nat} (h : Below a.heap.size a b) : a.grownBy b row := ⟨h.os, h.tape, h.output, h.size, fun i hi _ => h.block i hi⟩
theorem OwnL.up {w' : World} (h : OwnL L Q e w lo v xs) (hQ : Stay Q) (hb : Below w.heap.size w w') : OwnL L Q e w' lo v xs := h.keep hQ (grown_of_below hb)
theorem OwnL.form (h : OwnL L Q e w lo v xs) : ∃ A c, v = .slice A xs.length c ∧ xs.length ≤ c := by
  obtain ⟨cs, h1, h2⟩ := h
  rcases h1.2 with ⟨e1, e2⟩ | ⟨g, cap, cur, e1, _, _, h3, _⟩
  · exact ⟨none, 0, by rw [e1, e2], by omega⟩
  · exact ⟨_, cap, e1, h3⟩
theorem OwnL.cap {A : Option Addr} {n c : Nat} (h : OwnL L Q e w lo (.slice A n c) xs) : n = xs.length ∧ xs.length ≤ c := by
  obtain ⟨A', c', e1, h1⟩ := h.form
  injection e1 with e1 e2 e3
  exact ⟨e2, by omega⟩
/-- How it reads: the row's own block, and those of its elements. -/
theorem OwnL.sl {A : Option Addr} {c : Nat} (h : OwnL L Q e w lo (.slice A xs.length c) xs) : L.Sl w (fun b => b < w.heap.size ∧ (lo ≤ b ∧ (∀ o, w.frozen? ⟨b, o, .none⟩ = false) ∨ Q w b)) A xs := by
  obtain ⟨cs, h1, h2⟩ := h
  intro h0
  rcases h1.2 with ⟨e1, e2⟩ | ⟨g, cap, cur, e1, hg, _⟩
  · omega
  · injection e1 with e1 e2 e3
    subst e1
    refine ⟨_, rfl, ⟨(h1.lt g rfl).2, .inl ⟨hg, fun o => h1.frozenAt o⟩⟩, fun k x hx => ?_⟩
    obtain ⟨vs, hr, hu⟩ := h2 k x hx
    exact ⟨vs, L.mono (fun b hb => ⟨hb.1, .inr hb.2.2⟩) hr, fun j u hj => h1.cells (g := g) rfl _ _ (hu j u hj)⟩
theorem OwnL.rd {A : Option Addr} {c : Nat} (h : OwnL L Q e w lo (.slice A xs.length c) xs) : L.Rd w A xs := h.sl.mono fun _ h => h.1
theorem OwnL.own {A : Option Addr} {c : Nat} (h : OwnL L (fun w b => lo ≤ b ∧ ∀ o, w.frozen? ⟨b, o, none⟩ = false) e w lo (.slice A xs.length c) xs) : L.Sl w (Own lo w) A xs :=
  h.sl.mono fun _ h => ⟨h.2.elim (fun h => h.1) (fun h => h.1), h.1, h.2.elim (fun h => h.2) (fun h => h.2)⟩
/-- The element at a place, as cells. -/
theorem OwnL.at {A : Option Addr} {c : Nat} (h : OwnL L Q e w lo (.slice A xs.length c) xs) {k : Nat} (hk : k < xs.length) : ∃ ad, A = some ad ∧ ad.block < w.heap.size := by
  obtain ⟨ad, e1, hf, _⟩ := h.rd (by omega)
  exact ⟨ad, e1, hf⟩
end
theorem OwnL.lt {α : Type} {L : Lay α} {Q : World → Nat → Prop} {e : TypeId} {w : World} {lo : Nat} {v : Value} {xs : List α} (h : OwnL L Q e w lo v xs) : ∀ g, v.ownBlock = some g → lo ≤ g ∧ g < w.heap.size := by
  obtain ⟨cs, h1, _⟩ := h
  exact fun g hg => h1.lt g hg
end Go.Proofs.YtjghcaghigebjaaGreatDoor
