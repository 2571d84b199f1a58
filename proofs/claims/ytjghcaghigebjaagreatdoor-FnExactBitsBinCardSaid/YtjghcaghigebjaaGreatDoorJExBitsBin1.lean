/- Gates and nets, how they lie in memory; the laws' copies and comparisons of them. The reference's absolute value. Contracts of the reference's nets. Contracts of the reference's nets: NetOk, the gates' making. Maps keyed by gates. The reference's gates: and, xor. The reference's xor. The program's circuits: nodes, turned, has, gate. -/
import Derived.Maps.OwnSet
import Derived.DeepKeys4
import Derived.Test.YtjghcaghigebjaaGreatDoorJExBitsBin0
/-! Gates and nets, how they lie in memory; the laws' copies and comparisons of them. -/
namespace Go.Proofs.YtjghcaghigebjaaGreatDoor
open Go Go.RowKit

structure G where
  x : Bool
  a : Int
  b : Int
  deriving DecidableEq
structure N where
  ins : Int
  gs : List G
  deriving DecidableEq

def Lay.gate : Lay G := Lay.flat 3 (fun g => [.bool g.x, .int .i64 g.a, .int .i64 g.b]) (fun _ => rfl)
theorem Lay.Sl.at_gate {w : World} {F : Nat → Prop} {A : Option Addr} {xs : List G} (h : Lay.gate.Sl w F A xs) {k : Nat} (hk : k < xs.length) :
    ∃ ad, A = some ad ∧ F ad.block ∧ w.cell? (ad.add (k * 3)) = some (.bool xs[k].x) ∧ w.cell? ⟨(ad.add (k * 3)).block, (ad.add (k * 3)).off + 1, none⟩ = some (.int .i64 xs[k].a) ∧ w.cell? ⟨(ad.add (k * 3)).block, (ad.add (k * 3)).off + 2, none⟩ = some (.int .i64 xs[k].b) := by
  obtain ⟨ad, e, hf, hc⟩ := h (by omega)
  obtain ⟨vs, rfl, hcell⟩ := hc k xs[k] (List.getElem?_eq_getElem hk)
  refine ⟨ad, e, hf, hcell 0 _ rfl, ?_, ?_⟩
  · show w.cell? ((ad.add (k * 3)).add 1) = _
    rw [add_of_add]; exact hcell 1 _ rfl
  · show w.cell? ((ad.add (k * 3)).add 2) = _
    rw [add_of_add]; exact hcell 2 _ rfl
/-- A gate's cells in a later world. -/
theorem gate_up {w w' : World} {B : Nat} {ad : Addr} {k : Nat} {g : G} (hb : Below B w w') (hB : ad.block < B)
    (h : w.cell? (ad.add (k * 3)) = some (.bool g.x) ∧ w.cell? ⟨(ad.add (k * 3)).block, (ad.add (k * 3)).off + 1, none⟩ = some (.int .i64 g.a) ∧ w.cell? ⟨(ad.add (k * 3)).block, (ad.add (k * 3)).off + 2, none⟩ = some (.int .i64 g.b)) :
    w'.cell? (ad.add (k * 3)) = some (.bool g.x) ∧ w'.cell? ⟨(ad.add (k * 3)).block, (ad.add (k * 3)).off + 1, none⟩ = some (.int .i64 g.a) ∧ w'.cell? ⟨(ad.add (k * 3)).block, (ad.add (k * 3)).off + 2, none⟩ = some (.int .i64 g.b) :=
  ⟨(hb.cell (by rw [block_of_add]; exact hB)).trans h.1, (hb.cell (by show (ad.add (k * 3)).block < B; rw [block_of_add]; exact hB)).trans h.2.1, (hb.cell (by show (ad.add (k * 3)).block < B; rw [block_of_add]; exact hB)).trans h.2.2⟩

def gcells (g : G) : List Value := [.bool g.x, .int .i64 g.a, .int .i64 g.b]
/-- The cells of a row of gates of which the first k are done. -/
def gatesDone (xs : List G) (k : Nat) : List Value := (xs.take k).flatMap gcells ++ (List.replicate (xs.length - k) [Value.bool false, .int .i64 0, .int .i64 0]).flatten
theorem gcells_len (l : List G) : (l.flatMap gcells).length = l.length * 3 := by
  induction l with
  | nil => rfl
  | cons g l ih => rw [List.flatMap_cons, List.length_append, ih]; simp [gcells]; omega
theorem gatesDone_set (xs : List G) (k : Nat) (h : k < xs.length) :
    (((gatesDone xs k).set (k * 3) (.bool xs[k].x)).set (k * 3 + 1) (.int .i64 xs[k].a)).set (k * 3 + 2) (.int .i64 xs[k].b) = gatesDone xs (k + 1) := by
  have hl : ((xs.take k).flatMap gcells).length = k * 3 := by rw [gcells_len]; simp; omega
  have hl0 : ¬ k * 3 < ((xs.take k).flatMap gcells).length := by omega
  have hl1 : ¬ k * 3 + 1 < ((xs.take k).flatMap gcells).length := by omega
  have hl2 : ¬ k * 3 + 2 < ((xs.take k).flatMap gcells).length := by omega
  unfold gatesDone
  rw [show xs.length - k = (xs.length - (k + 1)) + 1 from by omega, List.replicate_succ, List.flatten_cons, take_snoc xs k h, List.flatMap_append]
  generalize (List.replicate (xs.length - (k + 1)) [Value.bool false, .int .i64 0, .int .i64 0]).flatten = R
  rw [List.set_append, if_neg hl0, List.set_append, if_neg hl1, List.set_append, if_neg hl2, hl]
  simp [gcells]
theorem madeCells_three (a b c : Value) (n : Nat) : (madeCells #[a, b, c] (n * 3)).toList = (List.replicate n [a, b, c]).flatten := by
  induction n with
  | zero => simp [madeCells]
  | succ n ih =>
    rw [List.replicate_succ', List.flatten_append, ← ih]
    unfold madeCells
    rw [show (n + 1) * 3 = n * 3 + 1 + 1 + 1 from by omega, Array.range_succ, Array.range_succ, Array.range_succ]
    have e0 : (n * 3) % 3 = 0 := by omega
    have e1 : (n * 3 + 1) % 3 = 1 := by omega
    have e2 : (n * 3 + 1 + 1) % 3 = 2 := by omega
    simp [e0, e1, e2]

theorem szGateS_any (A : Option Addr) (c n : Nat) (left : Int) (w : World) (hn : n ≤ 9223372036854775807) (h0 : 0 ≤ left) (h1 : left ≤ 1048576) :
    Calls Tryz.prog 54 #[.slice A n c, .int .i64 left] w fun e w' => e = .returned (.int .i64 (if left < n then -1 else left - n)) ∧ w = w' := by
  by_cases h : left < n
  all_goals
    go_enter Tryz.func54, Tryz.ntmps54
    go_wp2
    go_ret
    exact ⟨ret_int (by simp [h]), rfl⟩

theorem szNet_any (A : Option Addr) (c n : Nat) (ins left : Int) (w : World) (hn : n ≤ 9223372036854775807) (h0 : 0 ≤ left) (h1 : left ≤ 1048576) :
    Calls Tryz.prog 18 #[.agg #[.int .i64 ins, .slice A n c], .int .i64 left] w fun e w' => e = .returned (.int .i64 (if left < n then -1 else left - n)) ∧ Below w.heap.size w w' := by
  by_cases h : left < n
  all_goals
    go_enter Tryz.func18, Tryz.ntmps18
    go_wp2_with (go_at_call 54; refine (szGateS_any A c n left _ hn h0 h1).mono ?_; rintro e w' ⟨rfl, rfl⟩)
    go_ret
    exact ⟨ret_int (by simp [h]), (Below.refl _ _).alloc (Nat.le_refl _) _⟩

theorem decide_G (g h : G) : decide (g = h) = (g.x == h.x && g.a == h.a && g.b == h.b) := by
  cases g; cases h
  rw [Bool.eq_iff_iff]; simp [and_assoc]
theorem eqGate_any (g h : G) (w : World) :
    Calls Tryz.prog 111 #[.agg #[.bool g.x, .int .i64 g.a, .int .i64 g.b], .agg #[.bool h.x, .int .i64 h.a, .int .i64 h.b]] w fun e w' => e = .returned (.bool (decide (g = h))) ∧ Below w.heap.size w w' := by
  go_enter Tryz.func111, Tryz.ntmps111
  go_wp2
  all_goals
    go_ret
    refine ⟨ret_bool ?_, ((Below.refl _ _).alloc (Nat.le_refl _) _).alloc (by simp) _⟩
    rw [decide_G]
    simp_all

set_option maxHeartbeats 400000 in
theorem eqGateS_any (A B : Option Addr) (c d : Nat) (xs ys : List G) (F G' : Nat → Prop) (w : World) (h : Lay.gate.Sl w F A xs) (h' : Lay.gate.Sl w G' B ys) (hF : ∀ b, F b → b < w.heap.size) (hG : ∀ b, G' b → b < w.heap.size) (hn : xs.length ≤ 1048576) (hn' : ys.length ≤ 1048576) :
    Calls Tryz.prog 56 #[.slice A xs.length c, .slice B ys.length d] w fun e w' => e = .returned (.bool (decide (xs = ys))) ∧ Below w.heap.size w w' := by
  by_cases hl : xs.length = ys.length
  · have hne : (((xs.length : Int) != (ys.length : Int))) = false := by simp [hl]
    have HL := Lib.hid hl
    clear hl
    go_enter Tryz.func56, Tryz.ntmps56
    go_wp2
    clear hne
    go_loopw [5] (fun i wr => ∃ k : Nat, k ≤ xs.length ∧ i = .int .i64 k ∧ Below w.heap.size w wr ∧ xs.take k = ys.take k) (fun i _ => xs.length - (intOf i).toNat)
    case atStart => exact ⟨0, Nat.zero_le _, rfl, Below.refl _ _, rfl⟩
    case round =>
      obtain ⟨k, hk, rfl, hb, ht⟩ := hrel
      have HT := Lib.hid ht
      clear ht
      by_cases hlt : k < xs.length
      · have hlt' : k < ys.length := by have := HL.out; omega
        obtain ⟨ad, rfl, hf, hc⟩ := h.at_gate hlt
        obtain ⟨ad', rfl, hf', hc'⟩ := h'.at_gate hlt'
        obtain ⟨c1, c2, c3⟩ := gate_up hb (hF _ hf) hc
        obtain ⟨c1', c2', c3'⟩ := gate_up hb (hG _ hf') hc'
        have d1 := Later.cell c1
        have d2 := Later.cell c2
        have d3 := Later.cell c3
        have d1' := Later.cell c1'
        have d2' := Later.cell c2'
        have d3' := Later.cell c3'
        have hk0 : (0 : Int) ≤ k := by omega
        have hk1 : (k : Int) < xs.length := by omega
        have hk2 : (k : Int) < ys.length := by omega
        by_cases hxy : xs[k] = ys[k]
        all_goals have HX := Lib.hid hxy
        all_goals clear hxy
        all_goals
          go_wp2
          refine wp_region_later (by kernel_rfl) (by kernel_rfl) ?_
          repeat (go_big_quiet_step ((go_at_call 111; exact later_of_below (eqGate_any xs[k] ys[k] _))))
          refine wpQuiet_nil ?_
          rintro _ ⟨x, rfl⟩
        · rw [show decide (xs[k] = ys[k]) = true from by simp [HX.out]]
          go_wp2
          go_roundw
          case rel => exact ⟨k + 1, by omega, by go_num, bthen hb x.le, take_eq_step hlt hlt' HT.out HX.out⟩
          case measure => simp [intOf]; omega
        · rw [show decide (xs[k] = ys[k]) = false from by simp [HX.out]]
          go_wp2
          go_ret
          exact ⟨ret_bool (by simp; rintro rfl; exact HX.out rfl), bthen hb x.le⟩
      · have : k = xs.length := by omega
        subst this
        go_wp2
        go_ret
        exact ⟨ret_bool (by simp [eq_of_take HL.out HT.out]), hb⟩
  · have hne : (((xs.length : Int) != (ys.length : Int))) = true := by simp; omega
    go_enter Tryz.func56, Tryz.ntmps56
    go_wp2
    go_ret
    exact ⟨ret_bool (by simp; rintro rfl; exact hl rfl), Below.refl _ _⟩

theorem eqNet_any (A B : Option Addr) (c d : Nat) (m n : N) (F G' : Nat → Prop) (w : World) (h : Lay.gate.Sl w F A m.gs) (h' : Lay.gate.Sl w G' B n.gs) (hF : ∀ b, F b → b < w.heap.size) (hG : ∀ b, G' b → b < w.heap.size)
    (hn : m.gs.length ≤ 1048576) (hn' : n.gs.length ≤ 1048576) :
    Calls Tryz.prog 21 #[.agg #[.int .i64 m.ins, .slice A m.gs.length c], .agg #[.int .i64 n.ins, .slice B n.gs.length d]] w fun e w' => e = .returned (.bool (decide (m = n))) ∧ Below w.heap.size w w' := by
  have hw2 : Below w.heap.size w ((w.alloc (.cells #[.int .i64 m.ins, .slice A m.gs.length c] 29)).alloc (.cells #[.int .i64 n.ins, .slice B n.gs.length d] 29)) :=
    ((Below.refl _ _).alloc (Nat.le_refl _) _).alloc (by simp) _
  have hd : decide (m = n) = (m.ins == n.ins && decide (m.gs = n.gs)) := by
    cases m; cases n; rw [Bool.eq_iff_iff]; simp
  have H := h.below hw2 hF
  have H' := h'.below hw2 hG
  have HD := Lib.hid hd
  clear hd
  go_enter Tryz.func21, Tryz.ntmps21
  go_wp2_with (go_at_call 56; refine (eqGateS_any A B c d m.gs n.gs F G' _ H H' (fun b hb => by have := hF b hb; simp; omega) (fun b hb => by have := hG b hb; simp; omega) hn hn').mono ?_; rintro e w' ⟨rfl, hb⟩)
  all_goals
    go_ret
    refine ⟨ret_bool (by rw [HD.out]; simp_all), ?_⟩
    first
      | exact hw2
      | exact bthen hw2 hb

theorem sl_gates_of_own {w : World} {F : Nat → Prop} {base : Nat} {e : TypeId} {A : Option Addr} {n c : Nat} {xs : List G} (h : w.ownsRow base e 3 (.slice A n c) n (xs.flatMap gcells))
    (hF : ∀ g, base ≤ g → g < w.heap.size → F g) : Lay.gate.Sl w F A xs ∧ n = xs.length ∧ n ≤ c := by
  have hn : n = xs.length := by have := h.1; rw [gcells_len] at this; omega
  refine ⟨.of_own h hn hF fun k x hx => ⟨_, rfl, fun j u hu => ?_⟩, hn, ?_⟩
  · have hk : k < xs.length := by
      rcases Nat.lt_or_ge k xs.length with h | h
      · exact h
      · rw [List.getElem?_eq_none h] at hx; cases hx
    rw [List.getElem?_eq_getElem hk] at hx
    injection hx with hx
    have hj : j < 3 := by
      rcases Nat.lt_or_ge j 3 with h | h
      · exact h
      · rw [List.getElem?_eq_none (by simpa [Lay.gate, Lay.flat] using h)] at hu; cases hu
    have e : xs = xs.take k ++ (xs[k] :: xs.drop (k + 1)) := by rw [← List.drop_eq_getElem_cons hk, List.take_append_drop]
    have hl : ((xs.take k).flatMap gcells).length = k * 3 := by rw [gcells_len]; simp; omega
    rw [e, List.flatMap_append, List.flatMap_cons, show Lay.gate.size = 3 from rfl, List.getElem?_append_right (by omega), hl, show k * 3 + j - k * 3 = j from by omega,
      List.getElem?_append_left (by simpa [gcells] using hj), hx]
    exact hu
  · rcases h.2 with ⟨h1, h2⟩ | ⟨g, cap, cur, h1, _, _, h2, _⟩
    · omega
    · injection h1 with _ _ h3; omega
/-- The call's own row of gates. -/
def OwnGs (w : World) (base : Nat) (v : Value) (xs : List G) : Prop := w.ownsRow base 88 3 v xs.length (xs.flatMap gcells)
theorem OwnGs.form {w : World} {base : Nat} {v : Value} {xs : List G} (h : OwnGs w base v xs) : ∃ A c, v = .slice A xs.length c ∧ xs.length ≤ c ∧ Lay.gate.Sl w (fun b => base ≤ b ∧ b < w.heap.size) A xs := by
  have hh := h
  unfold OwnGs at h
  rcases h.2 with ⟨h1, h2⟩ | ⟨g, cap, cur, h1, _, _, h3, _⟩
  · subst h1
    have : xs = [] := List.eq_nil_of_length_eq_zero h2
    subst this
    exact ⟨none, 0, rfl, by simp, .nil _ _ _ _⟩
  · subst h1
    exact ⟨_, cap, rfl, h3, (sl_gates_of_own hh (fun g h1 h2 => ⟨h1, h2⟩)).1⟩
theorem OwnGs.sl {w : World} {base c : Nat} {A : Option Addr} {xs : List G} (h : OwnGs w base (.slice A xs.length c) xs) : xs.length ≤ c ∧ Lay.gate.Sl w (fun b => base ≤ b ∧ b < w.heap.size) A xs := by
  obtain ⟨A', c', e, h1, h2⟩ := h.form
  injection e with e1 e2 e3
  subst e1; subst e3
  exact ⟨h1, h2⟩
theorem OwnGs.up {w w' : World} {base : Nat} {v : Value} {xs : List G} (h : OwnGs w base v xs) (hb : Below w.heap.size w w') : OwnGs w' base v xs := own_below h hb (Nat.le_refl _)
def RetGs (w : World) (xs : List G) (e : Ending) (w' : World) : Prop := ∃ A c, e = .returned (.slice A xs.length c) ∧ OwnGs w' w.heap.size (.slice A xs.length c) xs ∧ Below w.heap.size w w'

theorem toGate_any (g : G) (w : World) :
    Calls Tryz.prog 110 #[.agg #[.bool g.x, .int .i64 g.a, .int .i64 g.b]] w fun e w' => e = .returned (.agg #[.bool g.x, .int .i64 g.a, .int .i64 g.b]) ∧ Below w.heap.size w w' := by
  go_enter Tryz.func110, Tryz.ntmps110
  go_wp2
  refine bodyPost_ret (v := .agg #[.bool g.x, .int .i64 g.a, .int .i64 g.b]) (by simp [results, Tryz.results110, go_sem]) rfl ⟨rfl, ?_⟩
  exact (((Below.refl _ _).alloc (Nat.le_refl _) _).alloc (by simp) _).alloc (by simp; omega) _

theorem gate_info : (Tryz.prog.info? 88).map (fun i => (i.zero, i.size, i.bytes)) = some (some (.agg #[.bool false, .int .i64 0, .int .i64 0]), 3, 24) := by kernel_rfl

set_option maxHeartbeats 400000 in
theorem toGateS_any (A : Option Addr) (c : Nat) (xs : List G) (F : Nat → Prop) (w : World) (h : Lay.gate.Sl w F A xs) (hF : ∀ b, F b → b < w.heap.size) (hn : xs.length ≤ 1048576) :
    Calls Tryz.prog 55 #[.slice A xs.length c] w (RetGs w xs) := by
  obtain ⟨i0, hi0, hz0, hz1, hz2⟩ := info_parts gate_info
  go_enter Tryz.func55, Tryz.ntmps55
  go_wp2_with (at_make; refine wpList_make_full w rfl _ _ 27 rfl w.heap.size 88 i0 _ 3 Tryz.underlying27 hi0 hz0 hz1 .i64 .i64 _ _ xs.length rfl rfl rfl rfl (by rw [hz2]; omega) (by unfold maxLen; omega) (Nat.le_refl _) ?_; intro w1 hown hg)
  have H1 := Lib.hid hg
  clear hg hi0 hz0 hz1 hz2
  have hb1 : Below w.heap.size w w1 := (Below.refl _ _).grown H1.out (Nat.le_refl _) (by simp)
  rw [show (madeCells (Value.agg #[.bool false, .int .i64 0, .int .i64 0]).cells (xs.length * 3)).toList = gatesDone xs 0 from madeCells_three _ _ _ _] at hown
  go_loopw [4] (fun i wr => ∃ k : Nat, k ≤ xs.length ∧ i = .int .i64 k ∧ Below w.heap.size w wr ∧ wr.ownsRow w.heap.size 88 3 (.slice (some ⟨w.heap.size, 0, none⟩) xs.length xs.length) xs.length (gatesDone xs k))
    (fun i _ => xs.length - (intOf i).toNat)
  case atStart => exact ⟨0, Nat.zero_le _, rfl, hb1, hown⟩
  case round =>
    obtain ⟨k, hk, rfl, hb, ho⟩ := hrel
    by_cases hlt : k < xs.length
    · obtain ⟨ad, rfl, hf, hc⟩ := h.at_gate hlt
      obtain ⟨c1, c2, c3⟩ := gate_up hb (hF _ hf) hc
      have hk1 : (k : Int) < xs.length := by omega
      go_wp2_with fail
      refine (toGate_any xs[k] _).mono ?_
      rintro e w2 ⟨rfl, hb2⟩
      have ho2 := own_below ho hb2 (Nat.le_refl _)
      have hst1 := (ho2.stored (k * 3) (.bool xs[k].x)).1
      have hst2 := (hst1.stored (k * 3 + 1) (.int .i64 xs[k].a)).1
      have hst3 := (hst2.stored (k * 3 + 2) (.int .i64 xs[k].b)).1
      have hl0 : (gatesDone xs k).length = xs.length * 3 := ho.1
      have e1 : w2.cell? ⟨w.heap.size, k * 3, none⟩ = (gatesDone xs k)[k * 3]? := ho2.cellAt _ (by omega)
      have e2 : w2.cell? ⟨w.heap.size, k * 3 + 1, none⟩ = (gatesDone xs k)[k * 3 + 1]? := ho2.cellAt _ (by omega)
      have e3 : w2.cell? ⟨w.heap.size, k * 3 + 2, none⟩ = (gatesDone xs k)[k * 3 + 2]? := ho2.cellAt _ (by omega)
      rw [List.getElem?_eq_getElem (by omega)] at e1 e2 e3
      have f1 : w2.frozen? ⟨w.heap.size, k * 3, none⟩ = false := ho2.frozenAt _
      have f2 : w2.frozen? ⟨w.heap.size, k * 3 + 1, none⟩ = false := ho2.frozenAt _
      have f3 : w2.frozen? ⟨w.heap.size, k * 3 + 2, none⟩ = false := ho2.frozenAt _
      go_wp2
      go_roundw
      case rel => exact ⟨k + 1, by omega, by go_num, (((bthen hb hb2).setCell (Nat.le_refl _) _).setCell (Nat.le_refl _) _).setCell (Nat.le_refl _) _, by rw [gatesDone_set xs k hlt] at hst3; exact hst3⟩
      case measure => simp [intOf]; omega
    · have : k = xs.length := by omega
      subst this
      go_wp2
      go_ret
      exact ⟨_, _, rfl, by unfold OwnGs; simpa [gatesDone] using ho, hb⟩

/-- What a function returns that makes a net of its own. -/
def RetNet (w : World) (n : N) (e : Ending) (w' : World) : Prop :=
  ∃ A c, e = .returned (.agg #[.int .i64 n.ins, .slice A n.gs.length c]) ∧ OwnGs w' w.heap.size (.slice A n.gs.length c) n.gs ∧ Below w.heap.size w w'

theorem toNet_any (A : Option Addr) (c : Nat) (n : N) (F : Nat → Prop) (w : World) (h : Lay.gate.Sl w F A n.gs) (hF : ∀ b, F b → b < w.heap.size) (hn : n.gs.length ≤ 1048576) :
    Calls Tryz.prog 19 #[.agg #[.int .i64 n.ins, .slice A n.gs.length c]] w (RetNet w n) := by
  go_enter Tryz.func19, Tryz.ntmps19
  go_wp2_with fail
  have hw3 : Below w.heap.size w (((w.alloc (.cells #[.int .i64 n.ins, .slice A n.gs.length c] 46)).alloc (.cells #[.int .i64 0, .slice none 0 0] 29)).alloc (.cells #[.int .i64 n.ins, .slice none 0 0] 29)) :=
    (((Below.refl _ _).alloc (Nat.le_refl _) _).alloc (by simp) _).alloc (by simp; omega) _
  refine (toGateS_any A c n.gs F _ (h.below hw3 hF) (fun b hb => by have := hF b hb; simp; omega) hn).mono ?_
  rintro e w2 ⟨A', c', rfl, hs, hb⟩
  obtain ⟨hcc, hff⟩ := bcell hb
  have hz : w.heap.size + 1 + 1 + 1 ≤ w2.heap.size := by have := hb.size; simp at this; omega
  have hz1 : w.heap.size + 1 < w2.heap.size := by omega
  have hz2 : w.heap.size + 1 + 1 < w2.heap.size := by omega
  have hbw := bthen hw3 hb
  go_wp2
  refine bodyPost_ret (v := .agg #[.int .i64 n.ins, .slice A' n.gs.length c']) (by simp [results, Tryz.results19, go_sem, hcc, hff, hz1, hz2]) rfl ⟨A', c', rfl, ?_, ?_⟩
  · have hs' : OwnGs w2 (w.heap.size + 3) (.slice A' n.gs.length c') n.gs := own_mono hs (by simp)
    exact own_mono (own_far (own_far (own_far hs' _ _ (by simp)) _ _ (by simp)) _ _ (by simp)) (by omega)
  · exact ((hbw.setCell (by simp; omega) _).setCell (by simp) _).setCell (by simp) _

/-- The cells of marked gates, from k on. -/
def marked : Nat → Int → List G
  | 0, _ => []
  | n + 1, k => ⟨k % 3 == 0, k + 1, k + 1 + 1⟩ :: marked n (k + 3)
theorem marked_len (n : Nat) (k : Int) : (marked n k).length = n := by induction n generalizing k with | zero => rfl | succ n ih => simp [marked, ih]
theorem marked_get (n : Nat) (k : Int) (j : Nat) (h : j < (marked n k).length) : (marked n k)[j] = ⟨(k + 3 * j) % 3 == 0, k + 3 * j + 1, k + 3 * j + 1 + 1⟩ := by
  induction n generalizing k j with
  | zero => simp [marked] at h
  | succ n ih =>
    cases j with
    | zero => simp [marked]
    | succ j =>
      simp only [marked, List.getElem_cons_succ]
      rw [ih]
      have e : k + 3 + 3 * (j : Int) = k + 3 * ((j + 1 : Nat) : Int) := by omega
      rw [e]

set_option maxHeartbeats 400000 in
theorem heldGateS_any (A : Option Addr) (c n : Nat) (k0 : Int) (F : Nat → Prop) (w : World) (h : Lay.gate.Sl w F A (marked n k0)) (hn : n ≤ 1048576) (h0 : 0 ≤ k0) (h1 : k0 ≤ 1000000000) :
    Calls Tryz.prog 58 #[.slice A n c, .int .i64 k0] w fun e w' => e = .returned (.int .i64 (k0 + 3 * n)) ∧ ∃ m, w' = w.drewN m := by
  go_enter Tryz.func58, Tryz.ntmps58
  go_wp2
  go_loopw [1, 5] (fun kk i wr => ∃ j m : Nat, j ≤ n ∧ i = .int .i64 j ∧ kk = .int .i64 (k0 + 3 * j) ∧ wr = w.drewN m) (fun _ i _ => n - (intOf i).toNat)
  case atStart => exact ⟨0, 0, Nat.zero_le _, rfl, by simp, rfl⟩
  case round =>
    obtain ⟨j, m, hj, rfl, rfl, rfl⟩ := hrel
    by_cases hlt : j < n
    · have hltm : j < (marked n k0).length := by rw [marked_len]; exact hlt
      obtain ⟨ad, rfl, hf, c1, c2, c3⟩ := h.at_gate hltm
      rw [marked_get] at c1 c2 c3
      have hj1 : (0 : Int) ≤ j := by omega
      have hj2 : (j : Int) < n := by omega
      generalize hT : k0 + 3 * (j : Int) = T at *
      have HT := Lib.hid hT
      have hT0 : 0 ≤ T := by omega
      have hT1 : T ≤ 2000000000 := by omega
      clear hT
      have hx : (!((T % 3 == 0) == (T % 3 == 0))) = false := by simp
      have hy : ((T + 1 + 1) != (T + 1 + 1)) = false := by simp
      go_wp2
      go_roundw
      case rel => exact ⟨j + 1, m, by omega, by go_num, ret_num (by have := HT.out; omega), rfl⟩
      case measure => simp [intOf]; omega
    · have : j = n := by omega
      subst this
      go_wp2
      go_ret
      exact ⟨rfl, m, rfl⟩

theorem heldNet_any (A : Option Addr) (c n : Nat) (ins k0 : Int) (w : World) (h : Lay.gate.Rd w A (marked n k0)) (hn : n ≤ 1048576) (h0 : 0 ≤ k0) (h1 : k0 ≤ 1000000000) :
    Calls Tryz.prog 25 #[.agg #[.int .i64 ins, .slice A n c], .int .i64 k0] w fun e w' => e = .returned (.int .i64 (k0 + 3 * n)) ∧ Below w.heap.size w w' := by
  have hw : Below w.heap.size w (w.alloc (.cells #[.int .i64 ins, .slice A n c] 29)) := (Below.refl _ _).alloc (Nat.le_refl _) _
  go_enter Tryz.func25, Tryz.ntmps25
  go_wp2_with (go_at_call 58; refine (heldGateS_any A c n k0 _ _ (h.up hw) hn h0 h1).mono ?_; rintro e w' ⟨rfl, m, rfl⟩)
  go_ret
  exact ⟨rfl, below_drewN hw m⟩


end Go.Proofs.YtjghcaghigebjaaGreatDoor

/-! The reference's absolute value. -/
namespace Go.Proofs.YtjghcaghigebjaaGreatDoor
open Go Go.RowKit

theorem l4Abs_any (n : Int) (w : World) (h0 : -9223372036854775808 < n) (h1 : n ≤ 9223372036854775807) :
    Calls Tryz.prog 85 #[.int .i64 n] w fun e w' => e = .returned (.int .i64 n.natAbs) ∧ w = w' := by
  by_cases h : n < 0
  all_goals
    go_enter Tryz.func85, Tryz.ntmps85
    go_wp2
    go_ret
    exact ⟨ret_int (by omega), rfl⟩
end Go.Proofs.YtjghcaghigebjaaGreatDoor

/-! Contracts of the reference's nets. -/
namespace Go.Proofs.YtjghcaghigebjaaGreatDoor
open Go Go.RowKit

theorem src_gates {w : World} {F : Nat → Prop} {A : Option Addr} {xs : List G} (h : Lay.gate.Sl w F A xs) : Src w 3 A xs.length (xs.flatMap gcells) := by
  refine ⟨gcells_len xs, fun h0 => ?_⟩
  obtain ⟨ad, rfl, _, hc⟩ := h h0
  refine ⟨ad, rfl, fun j u hu => ?_⟩
  have hj : j < (xs.flatMap gcells).length := by
    rcases Nat.lt_or_ge j (xs.flatMap gcells).length with h | h
    · exact h
    · rw [List.getElem?_eq_none h] at hu; cases hu
  rw [gcells_len] at hj
  have hk : j / 3 < xs.length := by omega
  obtain ⟨vs, rfl, hcell⟩ := hc (j / 3) xs[j / 3] (List.getElem?_eq_getElem hk)
  have hl : ((xs.take (j / 3)).flatMap gcells).length = j / 3 * 3 := by rw [gcells_len]; simp; omega
  have e : xs = xs.take (j / 3) ++ (xs[j / 3] :: xs.drop (j / 3 + 1)) := by rw [← List.drop_eq_getElem_cons hk, List.take_append_drop]
  rw [e, List.flatMap_append, List.flatMap_cons, List.getElem?_append_right (by omega), hl, List.getElem?_append_left (by simp [gcells]; omega)] at hu
  have := hcell (j - j / 3 * 3) u hu
  rw [show Lay.gate.size = 3 from rfl, show j / 3 * 3 + (j - j / 3 * 3) = j from by omega] at this
  exact this
theorem gcells_one (xs : List G) : ∀ u ∈ xs.flatMap gcells, u.oneCell' = true := by
  intro u hu
  obtain ⟨g, _, hg⟩ := List.mem_flatMap.1 hu
  simp [gcells] at hg
  rcases hg with rfl | rfl | rfl <;> rfl

set_option maxRecDepth 100000 in
set_option maxHeartbeats 1000000 in
theorem l6Fresh_any (A : Option Addr) (c : Nat) (n : N) (w : World) (h : Lay.gate.Rd w A n.gs) (hn : n.gs.length ≤ 1048576) (hA : A = none → n.gs.length = 0) :
    Calls Tryz.prog 62 #[.agg #[.int .i64 n.ins, .slice A n.gs.length c]] w (RetNet w n) := by
  obtain ⟨i0, hi0, hz0, hz1, hz2⟩ := info_parts gate_info
  go_enter Tryz.func62, Tryz.ntmps62
  go_wp2
  go_region_held3 (fun w' => w'.cell? ⟨w.heap.size, 0, none⟩ = some (.int .i64 n.ins) ∧ w'.cell? ⟨w.heap.size, 1, none⟩ = some (.slice A n.gs.length c))
    (first | go_keep | (go_split_ands; refine ⟨?_, ?_⟩ <;> (rw [hb1.cell (by show w.heap.size < _; omega)]; assumption)))
    ((refine step_append_src _ (by rfl) _ _ _ (by rfl) (w.heap.size + 1 + 1) 88 i0 _ 3 24 Tryz.underlying27 hi0 hz0 hz1 hz2 (by rfl) (by omega) (.slice (some ⟨w.heap.size + 1 + 1, 0, none⟩) 0 0) 0 [] (by rfl) (by first | exact own_lit0 (by simp) | exact (own_lit0 (by simp)).drew) A n.gs.length c (n.gs.flatMap gcells) (by rfl) (src_gates (Lay.Sl.up h (by go_grown))) (gcells_one _) n.gs.length (by omega) (by unfold maxLen; omega) (by omega) (by simp) hA ?_; intro A1 c1 w1 hown1 hb1 _; obtain ⟨hcc, hff⟩ := bcell hb1; have hz : w.heap.size + 1 < w1.heap.size := by have := hb1.size; simp at this; omega))
  have hbw : Below w.heap.size w w1 := by
    refine Below.trans (b := (((w.alloc (Obj.cells #[.int .i64 n.ins, .slice A n.gs.length c] 29)).alloc (Obj.cells #[.int .i64 0, .slice none 0 0] 29)).alloc (Obj.cells #[] 88)).drew) ?_ (hb1.mono (by omega))
    exact ((((Below.refl _ _).alloc (Nat.le_refl _) _).alloc (by simp) _).alloc (by simp; omega) _).drew
  go_wp2
  refine bodyPost_ret (v := .agg #[.int .i64 n.ins, .slice A1 n.gs.length c1]) (by simp [results, Tryz.results62, go_sem, hcc, hff, hz]) rfl ⟨A1, c1, rfl, ?_, ?_⟩
  · exact own_mono (own_far (own_far hown1 _ _ (by simp)) _ _ (by simp)) (by omega)
  · exact (hbw.setCell (by simp) _).setCell (by simp) _

theorem eqlG (w : World) (g h : G) : (binOp .eql 88 (.agg #[.bool g.x, .int .i64 g.a, .int .i64 g.b]) (.agg #[.bool h.x, .int .i64 h.a, .int .i64 h.b])).run Tryz.prog w = .ok (.bool (decide (g = h))) w := by
  have hh : Tryz.prog.stoodInHeld 88 = false := by kernel_rfl
  rw [decide_G]
  simp [go_sem, hh]
  (repeat' split) <;> simp_all
theorem l6Many_any (A : Option Addr) (c n : Nat) (ins : Int) (w : World) (hn : n ≤ 1048576) (h0 : -1000000 ≤ ins) (h1 : ins ≤ 1000000) :
    Calls Tryz.prog 114 #[.agg #[.int .i64 ins, .slice A n c]] w fun e w' => e = .returned (.int .i64 (1 + ins + n)) ∧ Below w.heap.size w w' := by
  have hw : Below w.heap.size w (w.alloc (.cells #[.int .i64 ins, .slice A n c] 29)) := (Below.refl _ _).alloc (Nat.le_refl _) _
  go_enter Tryz.func114, Tryz.ntmps114
  go_wp2
  go_ret
  exact ⟨rfl, hw⟩

def netMark (n : N) (m : Int) : Bool := sigOf m (1 + n.ins + n.gs.length)
theorem l6Mark_any (A : Option Addr) (c : Nat) (n : N) (m : Int) (w : World) (hn : n.gs.length ≤ 1048576) (h0 : 0 ≤ n.ins) (h1 : n.ins ≤ 1000000) (m0 : -9223372036854775808 ≤ m) (m1 : m ≤ 9223372036854775807) :
    Calls Tryz.prog 103 #[.agg #[.int .i64 n.ins, .slice A n.gs.length c], .int .i64 m] w fun e w' => e = .returned (.bool (netMark n m)) ∧ Below w.heap.size w w' := by
  have hw : Below w.heap.size w (w.alloc (.cells #[.int .i64 n.ins, .slice A n.gs.length c] 29)) := (Below.refl _ _).alloc (Nat.le_refl _) _
  unfold netMark
  generalize hK : (1 + n.ins + (n.gs.length : Int)) = K
  have HK := Lib.hid hK
  have k0 : 0 ≤ K := by omega
  have k1 : K ≤ 3000000 := by omega
  clear hK
  go_enter Tryz.func103, Tryz.ntmps103
  go_wp2_with (go_at_call 114; refine (l6Many_any A c n.gs.length n.ins _ hn (by omega) h1).mono ?_; rw [HK.out]; rintro e w' ⟨rfl, hb⟩)
  all_goals
    go_ret
    refine ⟨ret_bool ?_, bthen hw hb⟩
    first
      | (simp [sigOf, *]; done)
      | (simp [sigOf, *]; omega)

/-- Is the gate right at place k of a net with so much coming in? -/
def okG (ins : Int) (k : Nat) (g : G) : Bool :=
  decide (-(1 + ins + k) ≤ g.a) && decide (g.a ≤ 1 + ins + k) && decide (-(1 + ins + k) ≤ g.b) && decide (g.b ≤ 1 + ins + k) && decide (2 ≤ (g.a.natAbs : Int)) && decide ((g.a.natAbs : Int) < g.b.natAbs) && !(g.x && (decide (g.a < 0) || decide (g.b < 0)))
def goodG (n : N) (k : Nat) (g : G) : Bool := okG n.ins k g && !(n.gs.take k).contains g
def okInts (n : N) : Prop := ∀ g ∈ n.gs, (-9223372036854775808 ≤ g.a ∧ g.a ≤ 9223372036854775807) ∧ (-9223372036854775808 ≤ g.b ∧ g.b ≤ 9223372036854775807)

theorem okG_no {K a b na nb : Int} {gx : Bool} (h : a < -K ∨ K < a ∨ b < -K ∨ K < b ∨ na < 2 ∨ nb ≤ na) :
    (decide (-K ≤ a) && decide (a ≤ K) && decide (-K ≤ b) && decide (b ≤ K) && decide (2 ≤ na) && decide (na < nb) && !(gx && (decide (a < 0) || decide (b < 0)))) = false := by
  rw [Bool.eq_false_iff]
  intro e
  simp only [Bool.and_eq_true, decide_eq_true_eq] at e
  omega
theorem okG_yes {K a b na nb : Int} {gx : Bool} (h1 : -K ≤ a) (h2 : a ≤ K) (h3 : -K ≤ b) (h4 : b ≤ K) (h5 : 2 ≤ na) (h6 : na < nb) :
    (decide (-K ≤ a) && decide (a ≤ K) && decide (-K ≤ b) && decide (b ≤ K) && decide (2 ≤ na) && decide (na < nb) && !(gx && (decide (a < 0) || decide (b < 0)))) = !(gx && (decide (a < 0) || decide (b < 0))) := by
  simp [h1, h2, h3, h4, h5, h6]

set_option maxRecDepth 100000 in
set_option maxHeartbeats 4000000 in
theorem l6Gate_any (A : Option Addr) (c : Nat) (n : N) (k : Nat) (hk : k < n.gs.length) (w : World) (h : Lay.gate.Rd w A n.gs) (hn : n.gs.length ≤ 1048576) (hi : okInts n) (h0 : 0 ≤ n.ins) (h1 : n.ins ≤ 1000000) :
    Calls Tryz.prog 43 #[.agg #[.int .i64 n.ins, .slice A n.gs.length c], .int .i64 k] w fun e w' => e = .returned (.bool (goodG n k n.gs[k])) ∧ Below w.heap.size w w' := by
  obtain ⟨ad, rfl, hf, hc⟩ := h.at_gate hk
  have hw : Below w.heap.size w (w.alloc (.cells #[.int .i64 n.ins, .slice (some ad) n.gs.length c] 29)) := (Below.refl _ _).alloc (Nat.le_refl _) _
  obtain ⟨c1, c2, c3⟩ := gate_up hw hf hc
  obtain ⟨⟨a0, a1⟩, b0, b1⟩ := hi n.gs[k] (List.getElem_mem _)
  have HG := Lib.hid (show goodG n k n.gs[k] = (okG n.ins k n.gs[k] && !(n.gs.take k).contains n.gs[k]) from rfl)
  unfold okG at HG
  have hk1 : (k : Int) < n.gs.length := by omega
  have hK0 : (0 : Int) ≤ 1 + n.ins + k := by omega
  have hK1 : 1 + n.ins + (k : Int) ≤ 3000000 := by omega
  generalize hgg : n.gs[k] = g at *
  obtain ⟨gx, ga, gb⟩ := g
  have HGG := Lib.hid hgg
  clear hgg hc hi
  dsimp only at c1 c2 c3 a0 a1 b0 b1 HG
  have hab : -9223372036854775808 < ga → ga.natAbs < 9223372036854775808 := by omega
  generalize hna : (ga.natAbs : Int) = na at *
  generalize hnb : (gb.natAbs : Int) = nb at *
  have qa : ∀ W : World, -9223372036854775808 < ga → Calls Tryz.prog 85 #[.int .i64 ga] W fun e w' => e = .returned (.int .i64 na) ∧ W = w' := fun W h => by rw [← hna]; exact l4Abs_any ga W h a1
  have qb : ∀ W : World, -9223372036854775808 < gb → Calls Tryz.prog 85 #[.int .i64 gb] W fun e w' => e = .returned (.int .i64 nb) ∧ W = w' := fun W h => by rw [← hnb]; exact l4Abs_any gb W h b1
  have Qa := Lib.hid qa
  have Qb := Lib.hid qb
  generalize hKK : 1 + n.ins + (k : Int) = K at *
  have HKK := Lib.hid hKK
  clear qa qb hna hnb hab hKK
  have hww := ((Below.refl w.heap.size w).alloc (Nat.le_refl _) (.cells #[.int .i64 n.ins, .slice (some ad) n.gs.length c] 29)).alloc (by simp) (.cells #[.bool gx, .int .i64 ga, .int .i64 gb] 88)
  go_enter Tryz.func43, Tryz.ntmps43
  go_wp2
  rw [show Value.int IntKind.i64 (1 + n.ins + (k : Int)) = .int .i64 K from by rw [HKK.out]]
  by_cases q0 : ga < -K
  · have d0 : decide (ga < -K) = true := decide_eq_true q0
    go_quiet (fail)
    go_wp2
    go_ret
    exact ⟨ret_bool (by rw [HG.out, okG_no (by omega)]; rfl), below_drewN hww _⟩
  have d0 : decide (ga < -K) = false := decide_eq_false q0
  by_cases q1 : K < ga
  · have d1 : decide (K < ga) = true := decide_eq_true q1
    go_quiet (fail)
    go_wp2
    go_ret
    exact ⟨ret_bool (by rw [HG.out, okG_no (by omega)]; rfl), below_drewN hww _⟩
  have d1 : decide (K < ga) = false := decide_eq_false q1
  by_cases q2 : gb < -K
  · have d2 : decide (gb < -K) = true := decide_eq_true q2
    go_quiet (fail)
    go_wp2
    go_ret
    exact ⟨ret_bool (by rw [HG.out, okG_no (by omega)]; rfl), below_drewN hww _⟩
  have d2 : decide (gb < -K) = false := decide_eq_false q2
  by_cases q3 : K < gb
  · have d3 : decide (K < gb) = true := decide_eq_true q3
    go_quiet (fail)
    go_wp2
    go_ret
    exact ⟨ret_bool (by rw [HG.out, okG_no (by omega)]; rfl), below_drewN hww _⟩
  have d3 : decide (K < gb) = false := decide_eq_false q3
  by_cases q4 : na < 2
  · have d4 : decide (na < 2) = true := decide_eq_true q4
    go_quiet ((first | (go_at_call 85; with_reducible exact quiet_left (Qa.out _ (by omega))) | (go_at_call 85; with_reducible exact quiet_left (Qb.out _ (by omega)))))
    go_wp2
    go_ret
    exact ⟨ret_bool (by rw [HG.out, okG_no (by omega)]; rfl), below_drewN hww _⟩
  have d4 : decide (na < 2) = false := decide_eq_false q4
  by_cases q5 : nb ≤ na
  · have d5 : decide (nb ≤ na) = true := decide_eq_true q5
    go_quiet ((first | (go_at_call 85; with_reducible exact quiet_left (Qa.out _ (by omega))) | (go_at_call 85; with_reducible exact quiet_left (Qb.out _ (by omega)))))
    go_wp2
    go_ret
    exact ⟨ret_bool (by rw [HG.out, okG_no (by omega)]; rfl), below_drewN hww _⟩
  have d5 : decide (nb ≤ na) = false := decide_eq_false q5
  go_quiet ((first | (go_at_call 85; with_reducible exact quiet_left (Qa.out _ (by omega))) | (go_at_call 85; with_reducible exact quiet_left (Qb.out _ (by omega)))))
  clear d0 d1 d2 d3 d4 d5
  have HG2 := Lib.hid (show goodG n k ⟨gx, ga, gb⟩ = (!(gx && (decide (ga < 0) || decide (gb < 0))) && !(n.gs.take k).contains ⟨gx, ga, gb⟩) by rw [HG.out, okG_yes (by omega) (by omega) (by omega) (by omega) (by omega) (by omega)])
  clear HG
  by_cases hx : (gx && (decide (ga < 0) || decide (gb < 0))) = true
  · have HX := Lib.hid (show goodG n k ⟨gx, ga, gb⟩ = false by rw [HG2.out, hx]; rfl)
    simp only [Bool.and_eq_true, Bool.or_eq_true, decide_eq_true_eq] at hx
    obtain ⟨rfl, hx⟩ := hx
    clear HG2
    by_cases hx1 : ga < 0
    all_goals
      go_wp2
      go_ret
      exact ⟨ret_bool (by rw [HX.out]), below_drewN hww _⟩
  · have HX := Lib.hid (show goodG n k ⟨gx, ga, gb⟩ = !(n.gs.take k).contains ⟨gx, ga, gb⟩ by rw [HG2.out, Bool.eq_false_iff.2 hx]; rfl)
    have hx' : gx = true → 0 ≤ ga ∧ 0 ≤ gb := by
      intro e; subst e
      simp only [Bool.true_and, Bool.or_eq_true, decide_eq_true_eq] at hx
      omega
    clear HG2 hx
    have v1 : ((w.alloc (.cells #[.int .i64 n.ins, .slice (some ad) n.gs.length c] 29)).alloc (.cells #[.bool gx, .int .i64 ga, .int .i64 gb] 88)).cell? ⟨w.heap.size, 1, none⟩ = some (.slice (some ad) n.gs.length c) := by simp [go_sem]
    have v2 : ((w.alloc (.cells #[.int .i64 n.ins, .slice (some ad) n.gs.length c] 29)).alloc (.cells #[.bool gx, .int .i64 ga, .int .i64 gb] 88)).cell? ⟨w.heap.size + 1, 0, none⟩ = some (.bool gx) := by simp [go_sem]
    have v3 : ((w.alloc (.cells #[.int .i64 n.ins, .slice (some ad) n.gs.length c] 29)).alloc (.cells #[.bool gx, .int .i64 ga, .int .i64 gb] 88)).cell? ⟨w.heap.size + 1, 1, none⟩ = some (.int .i64 ga) := by simp [go_sem]
    have v4 : ((w.alloc (.cells #[.int .i64 n.ins, .slice (some ad) n.gs.length c] 29)).alloc (.cells #[.bool gx, .int .i64 ga, .int .i64 gb] 88)).cell? ⟨w.heap.size + 1, 2, none⟩ = some (.int .i64 gb) := by simp [go_sem]
    generalize ((w.alloc (.cells #[.int .i64 n.ins, .slice (some ad) n.gs.length c] 29)).alloc (.cells #[.bool gx, .int .i64 ga, .int .i64 gb] 88)) = W at *
    have hxx : gx = false ∨ (gx = true ∧ 0 ≤ ga ∧ 0 ≤ gb) := by
      cases gx
      · exact .inl rfl
      · exact .inr ⟨rfl, hx' rfl⟩
    clear hx'
    have hkk : (n.gs.take k).contains ⟨gx, ga, gb⟩ = true ↔ ∃ i', i' < k ∧ n.gs[i']? = some ⟨gx, ga, gb⟩ := by
      rw [List.contains_iff_mem, List.mem_iff_getElem?]
      constructor
      · rintro ⟨i', hi'⟩
        rw [List.getElem?_take] at hi'
        split at hi'
        · exact ⟨i', by assumption, hi'⟩
        · cases hi'
      · rintro ⟨i', h1, h2⟩
        exact ⟨i', by rw [List.getElem?_take, if_pos h1, h2]⟩
    have HKK := Lib.hid hkk
    have hW : Below w.heap.size w W := hww
    have HE := Lib.hid (fun (W : World) (g : G) => eqlG W g ⟨gx, ga, gb⟩)
    clear hkk
    rcases hxx with hxf | ⟨hxf, hx1, hx2⟩
    all_goals
      go_wp2
      clear hxf
      go_loopw [7] (fun i wr => ∃ j m : Nat, j ≤ k ∧ i = .int .i64 j ∧ wr = W.drewN m ∧ ∀ i', i' < j → n.gs[i']? ≠ some ⟨gx, ga, gb⟩) (fun i _ => k - (intOf i).toNat)
      case atStart => exact ⟨0, nq, Nat.zero_le _, rfl, rfl, fun i' h => absurd h (by omega)⟩
      case round =>
        obtain ⟨j, m, hj, rfl, rfl, hnot⟩ := hrel
        have HN := Lib.hid hnot
        clear hnot
        by_cases hlt : j < k
        · have hjl : j < n.gs.length := by omega
          obtain ⟨ad', e, hf', hcj⟩ := h.at_gate hjl
          cases e
          obtain ⟨j1, j2, j3⟩ := gate_up hW hf' hcj
          have hj0 : (0 : Int) ≤ j := by omega
          have hj1 : (j : Int) < n.gs.length := by omega
          have hgj : n.gs[j]? = some n.gs[j] := List.getElem?_eq_getElem hjl
          have HGJ := Lib.hid hgj
          clear hgj hcj
          generalize n.gs[j] = gj at *
          by_cases hq : gj = ⟨gx, ga, gb⟩
          · have he : ∀ W' : World, (binOp .eql 88 (.agg #[.bool gj.x, .int .i64 gj.a, .int .i64 gj.b]) (.agg #[.bool gx, .int .i64 ga, .int .i64 gb])).run Tryz.prog W' = .ok (.bool true) W' := fun W' => by rw [HE.out W' gj, decide_eq_true hq]
            have HQ := Lib.hid hq
            clear hq
            go_wp2
            go_quiet (fail)
            go_wp2
            go_ret
            exact ⟨ret_bool (by rw [HX.out, HKK.out.2 ⟨j, hlt, by rw [HGJ.out, HQ.out]⟩]; rfl), below_drewN (below_drewN hW _) _⟩
          · have he : ∀ W' : World, (binOp .eql 88 (.agg #[.bool gj.x, .int .i64 gj.a, .int .i64 gj.b]) (.agg #[.bool gx, .int .i64 ga, .int .i64 gb])).run Tryz.prog W' = .ok (.bool false) W' := fun W' => by rw [HE.out W' gj, decide_eq_false hq]
            have HQ := Lib.hid hq
            clear hq
            go_wp2
            go_quiet (fail)
            go_wp2
            go_roundw
            case rel => exact ⟨j + 1, _, by omega, by go_num, rfl, fun i' hi' => by
              rcases Nat.lt_or_ge i' j with h' | h'
              · exact HN.out i' h'
              · have : i' = j := by omega
                subst this; rw [HGJ.out]; intro e; injection e with e; exact HQ.out e⟩
            case measure => simp [intOf]; omega
        · have : j = k := by omega
          subst this
          go_wp2
          go_ret
          refine ⟨ret_bool ?_, below_drewN hW _⟩
          rw [HX.out]
          have : ¬ (n.gs.take j).contains ⟨gx, ga, gb⟩ = true := by
            rw [HKK.out]; rintro ⟨i', h1, h2⟩; exact HN.out i' h1 h2
          simpa using this
end Go.Proofs.YtjghcaghigebjaaGreatDoor

/-! Contracts of the reference's nets: NetOk, the gates' making. -/
namespace Go.Proofs.YtjghcaghigebjaaGreatDoor
open Go Go.RowKit

theorem gcells_one1 (g : G) : ∀ u ∈ gcells g, u.oneCell' = true := by
  intro u hu
  simp [gcells] at hu
  rcases hu with rfl | rfl | rfl <;> rfl
def goodAt (n : N) (k : Nat) : Bool := match n.gs[k]? with | some g => goodG n k g | none => true
def netOk (n : N) : Bool := decide (0 ≤ n.ins) && decide (n.ins ≤ 8) && decide (n.gs.length ≤ 600) && (List.range n.gs.length).all (goodAt n)
theorem netOk_iff (n : N) : netOk n = true ↔ 0 ≤ n.ins ∧ n.ins ≤ 8 ∧ n.gs.length ≤ 600 ∧ ∀ k, k < n.gs.length → goodAt n k = true := by
  simp [netOk, and_assoc]
theorem netOk_no {n : N} (h : n.ins < 0 ∨ 8 < n.ins ∨ 600 < n.gs.length ∨ ∃ k, k < n.gs.length ∧ goodAt n k = false) : netOk n = false := by
  rw [Bool.eq_false_iff]
  intro e
  obtain ⟨h1, h2, h3, h4⟩ := (netOk_iff n).1 e
  rcases h with h | h | h | ⟨k, hk, hg⟩
  · omega
  · omega
  · omega
  · rw [h4 k hk] at hg; cases hg

set_option maxHeartbeats 1000000 in
theorem specNetOk_any (A : Option Addr) (c : Nat) (n : N) (w : World) (h : Lay.gate.Rd w A n.gs) (hn : n.gs.length ≤ 1048576) (hi : okInts n) :
    Calls Tryz.prog 11 #[.agg #[.int .i64 n.ins, .slice A n.gs.length c]] w fun e w' => e = .returned (.bool (netOk n)) ∧ Below w.heap.size w w' := by
  have hw : Below w.heap.size w (w.alloc (.cells #[.int .i64 n.ins, .slice A n.gs.length c] 29)) := (Below.refl _ _).alloc (Nat.le_refl _) _
  have H := h.up hw
  by_cases h0 : n.ins < 0
  · have HN := Lib.hid (netOk_no (.inl h0))
    go_enter Tryz.func11, Tryz.ntmps11
    go_wp2
    go_ret
    exact ⟨ret_bool (by rw [HN.out]), hw⟩
  by_cases h1 : 8 < n.ins
  · have HN := Lib.hid (netOk_no (.inr (.inl h1)))
    go_enter Tryz.func11, Tryz.ntmps11
    go_wp2
    go_ret
    exact ⟨ret_bool (by rw [HN.out]), hw⟩
  by_cases h2 : 600 < n.gs.length
  · have HN := Lib.hid (netOk_no (.inr (.inr (.inl h2))))
    go_enter Tryz.func11, Tryz.ntmps11
    go_wp2
    go_ret
    exact ⟨ret_bool (by rw [HN.out]), hw⟩
  have v0 : (w.alloc (.cells #[.int .i64 n.ins, .slice A n.gs.length c] 29)).cell? ⟨w.heap.size, 0, none⟩ = some (.int .i64 n.ins) := by simp [go_sem]
  have v1 : (w.alloc (.cells #[.int .i64 n.ins, .slice A n.gs.length c] 29)).cell? ⟨w.heap.size, 1, none⟩ = some (.slice A n.gs.length c) := by simp [go_sem]
  go_enter Tryz.func11, Tryz.ntmps11
  go_wp2
  generalize w.alloc (.cells #[.int .i64 n.ins, .slice A n.gs.length c] 29) = W at *
  go_loopw [3] (fun i wr => ∃ j : Nat, j ≤ n.gs.length ∧ i = .int .i64 j ∧ Below W.heap.size W wr ∧ ∀ i', i' < j → goodAt n i' = true) (fun i _ => n.gs.length - (intOf i).toNat)
  case atStart => exact ⟨0, Nat.zero_le _, rfl, Below.refl _ _, fun i' h => absurd h (by omega)⟩
  case round =>
    obtain ⟨j, hj, rfl, hb, hg⟩ := hrel
    have HG := Lib.hid hg
    clear hg
    have c0 := (hb.cell (World.block_lt_of_cell? W _ v0)).trans v0
    have c1 := (hb.cell (World.block_lt_of_cell? W _ v1)).trans v1
    by_cases hlt : j < n.gs.length
    · have hga : goodAt n j = goodG n j n.gs[j] := by simp [goodAt, hlt]
      have HA := Lib.hid hga
      clear hga
      go_wp2_with fail
      refine (l6Gate_any A c n j hlt wr (H.up hb) hn hi (by omega) (by omega)).mono ?_
      rw [← HA.out]
      rintro e w2 ⟨rfl, hb2⟩
      cases hq : goodAt n j with
      | false =>
        have HN := Lib.hid (netOk_no (.inr (.inr (.inr ⟨j, hlt, hq⟩))))
        clear hq
        go_wp2
        go_ret
        exact ⟨ret_bool (by rw [HN.out]), bthen (bthen hw hb) hb2⟩
      | true =>
        have HQ := Lib.hid hq
        clear hq
        go_wp2
        go_roundw
        case rel => exact ⟨j + 1, by omega, by go_num, bthen hb hb2, fun i' hi' => by
          rcases Nat.lt_or_ge i' j with h' | h'
          · exact HG.out i' h'
          · have : i' = j := by omega
            subst this; exact HQ.out⟩
        case measure => simp [intOf]; omega
    · have : j = n.gs.length := by omega
      subst this
      have HN := Lib.hid ((netOk_iff n).2 ⟨by omega, by omega, by omega, HG.out⟩)
      go_wp2
      go_ret
      exact ⟨ret_bool (by rw [HN.out]), bthen hw hb⟩

/-- A net with a gate, and its mark; nothing and 0 if there is no room. -/
def put (n : N) (g : G) : N × Int :=
  if g ∈ n.gs then (n, 2 + n.ins + n.gs.idxOf g) else if 600 ≤ n.gs.length then (⟨0, []⟩, 0) else (⟨n.ins, n.gs ++ [g]⟩, 2 + n.ins + n.gs.length)

theorem put_mem {n : N} {g : G} (h : g ∈ n.gs) : put n g = (n, 2 + n.ins + n.gs.idxOf g) := by unfold put; rw [if_pos h]
theorem put_full {n : N} {g : G} (h : g ∉ n.gs) (h6 : 600 ≤ n.gs.length) : put n g = (⟨0, []⟩, 0) := by unfold put; rw [if_neg h, if_pos h6]
theorem put_new {n : N} {g : G} (h : g ∉ n.gs) (h6 : ¬ 600 ≤ n.gs.length) : put n g = (⟨n.ins, n.gs ++ [g]⟩, 2 + n.ins + n.gs.length) := by unfold put; rw [if_neg h, if_neg h6]
/-- What a function returns that makes a net, which may share memory with what was there, and a number. -/
def RetNetInt (F : Nat → Prop) (w : World) (r : N × Int) (e : Ending) (w' : World) : Prop :=
  ∃ A c, e = .returned (.tuple #[.agg #[.int .i64 r.1.ins, .slice A r.1.gs.length c], .int .i64 r.2]) ∧ (A = none → r.1.gs.length = 0) ∧ Lay.gate.Sl w' (fun b => F b ∨ (w.heap.size ≤ b ∧ b < w'.heap.size)) A r.1.gs ∧ Below w.heap.size w w'

theorem idxOf_first {g : G} : ∀ {xs : List G} {j : Nat}, xs[j]? = some g → (∀ i, i < j → xs[i]? ≠ some g) → xs.idxOf g = j
  | [], j, h, _ => by simp at h
  | x :: xs, 0, h, _ => by
    simp only [List.getElem?_cons_zero, Option.some.injEq] at h
    subst h; simp
  | x :: xs, j + 1, h, hn => by
    have hx : x ≠ g := fun e => hn 0 (by omega) (by simp [e])
    have := idxOf_first (xs := xs) (j := j) (by simpa using h) (fun i hi => by have := hn (i + 1) (by omega); simpa using this)
    rw [List.idxOf_cons, this, beq_false_of_ne hx]; rfl
theorem below_set {B : Nat} {w X : World} {p : Addr} (h : Below B w X) (hp : B ≤ p.block) (u : Value) : Below B w (X.setCell p u) :=
  ⟨h.os, h.tape, h.output, by simpa [World.setCell] using h.size, fun b hb => (Below.heap_setCell X p u b (by omega)).trans (h.block b hb)⟩

/-- The net's box holds the net with the new gate. -/
def Fact.put (b : Nat) (W : World) (n : N) (g : G) : Fact :=
  .of (fun _ x => b < x.heap.size ∧ x.cell? ⟨b, 0, none⟩ = some (.int .i64 n.ins) ∧ W.heap.size ≤ x.heap.size ∧ (∀ b', b' < W.heap.size → b' ≠ b → x.heap[b']? = W.heap[b']?) ∧ x.os = W.os ∧ x.tape = W.tape ∧ x.output = W.output ∧
      ∃ A c, x.cell? ⟨b, 1, none⟩ = some (.slice A (n.gs.length + 1) c) ∧ x.ownsRow W.heap.size 88 3 (.slice A (n.gs.length + 1) c) (n.gs.length + 1) (n.gs.flatMap gcells ++ gcells g))
    fun _ x x' ⟨h1, h2, h3, h4, h5, h6, h7, A, c, h8, h9⟩ hb =>
      ⟨Nat.lt_of_lt_of_le h1 hb.size, (hb.cell (by exact h1)).trans h2, Nat.le_trans h3 hb.size, fun b' hb' hne => (hb.block b' (by omega)).trans (h4 b' hb' hne), hb.os.trans h5, hb.tape.trans h6, hb.output.trans h7, A, c, (hb.cell (by exact h1)).trans h8, own_below h9 hb (Nat.le_refl _)⟩

set_option maxRecDepth 100000 in
set_option maxHeartbeats 2000000 in
theorem l6Put_any (F : Nat → Prop) (A : Option Addr) (c : Nat) (n : N) (g : G) (w : World) (h : Lay.gate.Sl w F A n.gs) (hF : ∀ b, F b → b < w.heap.size) (hn : n.gs.length ≤ 1048576) (hA : A = none → n.gs.length = 0) (h0 : 0 ≤ n.ins) (h1 : n.ins ≤ 1000000) :
    Calls Tryz.prog 115 #[.agg #[.int .i64 n.ins, .slice A n.gs.length c], .agg #[.bool g.x, .int .i64 g.a, .int .i64 g.b]] w (RetNetInt F w (put n g)) := by
  obtain ⟨i0, hi0, hz0, hz1, hz2⟩ := info_parts gate_info
  go_enter Tryz.func115, Tryz.ntmps115
  go_wp2
  have hW : Below w.heap.size w (((w.alloc (.cells #[.int .i64 n.ins, .slice A n.gs.length c] 29)).alloc (.cells #[.bool g.x, .int .i64 g.a, .int .i64 g.b] 88)).alloc (.cells #[.int .i64 0, .slice none 0 0] 29)) := (((Below.refl _ _).alloc (Nat.le_refl _) _).alloc (by simp) _).alloc (by simp; omega) _
  have hs : (((w.alloc (.cells #[.int .i64 n.ins, .slice A n.gs.length c] 29)).alloc (.cells #[.bool g.x, .int .i64 g.a, .int .i64 g.b] 88)).alloc (.cells #[.int .i64 0, .slice none 0 0] 29)).heap.size ≥ w.heap.size + 3 := by simp
  have v0 : (((w.alloc (.cells #[.int .i64 n.ins, .slice A n.gs.length c] 29)).alloc (.cells #[.bool g.x, .int .i64 g.a, .int .i64 g.b] 88)).alloc (.cells #[.int .i64 0, .slice none 0 0] 29)).cell? ⟨w.heap.size, 0, none⟩ = some (.int .i64 n.ins) := by simp [go_sem]
  have v1 : (((w.alloc (.cells #[.int .i64 n.ins, .slice A n.gs.length c] 29)).alloc (.cells #[.bool g.x, .int .i64 g.a, .int .i64 g.b] 88)).alloc (.cells #[.int .i64 0, .slice none 0 0] 29)).cell? ⟨w.heap.size, 1, none⟩ = some (.slice A n.gs.length c) := by simp [go_sem]
  have v2 : (((w.alloc (.cells #[.int .i64 n.ins, .slice A n.gs.length c] 29)).alloc (.cells #[.bool g.x, .int .i64 g.a, .int .i64 g.b] 88)).alloc (.cells #[.int .i64 0, .slice none 0 0] 29)).cell? ⟨w.heap.size + 1, 0, none⟩ = some (.bool g.x) := by simp [go_sem]
  have v3 : (((w.alloc (.cells #[.int .i64 n.ins, .slice A n.gs.length c] 29)).alloc (.cells #[.bool g.x, .int .i64 g.a, .int .i64 g.b] 88)).alloc (.cells #[.int .i64 0, .slice none 0 0] 29)).cell? ⟨w.heap.size + 1, 1, none⟩ = some (.int .i64 g.a) := by simp [go_sem]
  have v4 : (((w.alloc (.cells #[.int .i64 n.ins, .slice A n.gs.length c] 29)).alloc (.cells #[.bool g.x, .int .i64 g.a, .int .i64 g.b] 88)).alloc (.cells #[.int .i64 0, .slice none 0 0] 29)).cell? ⟨w.heap.size + 1, 2, none⟩ = some (.int .i64 g.b) := by simp [go_sem]
  have v5 : (((w.alloc (.cells #[.int .i64 n.ins, .slice A n.gs.length c] 29)).alloc (.cells #[.bool g.x, .int .i64 g.a, .int .i64 g.b] 88)).alloc (.cells #[.int .i64 0, .slice none 0 0] 29)).cell? ⟨w.heap.size + 1 + 1, 0, none⟩ = some (.int .i64 0) := by simp [go_sem]
  have v6 : (((w.alloc (.cells #[.int .i64 n.ins, .slice A n.gs.length c] 29)).alloc (.cells #[.bool g.x, .int .i64 g.a, .int .i64 g.b] 88)).alloc (.cells #[.int .i64 0, .slice none 0 0] 29)).cell? ⟨w.heap.size + 1 + 1, 1, none⟩ = some (.slice none 0 0) := by simp [go_sem]
  have f0 : (((w.alloc (.cells #[.int .i64 n.ins, .slice A n.gs.length c] 29)).alloc (.cells #[.bool g.x, .int .i64 g.a, .int .i64 g.b] 88)).alloc (.cells #[.int .i64 0, .slice none 0 0] 29)).frozen? ⟨w.heap.size, 1, none⟩ = false := by simp [go_sem]
  have f5 : (((w.alloc (.cells #[.int .i64 n.ins, .slice A n.gs.length c] 29)).alloc (.cells #[.bool g.x, .int .i64 g.a, .int .i64 g.b] 88)).alloc (.cells #[.int .i64 0, .slice none 0 0] 29)).frozen? ⟨w.heap.size + 1 + 1, 0, none⟩ = false := by simp [go_sem]
  have f6 : (((w.alloc (.cells #[.int .i64 n.ins, .slice A n.gs.length c] 29)).alloc (.cells #[.bool g.x, .int .i64 g.a, .int .i64 g.b] 88)).alloc (.cells #[.int .i64 0, .slice none 0 0] 29)).frozen? ⟨w.heap.size + 1 + 1, 1, none⟩ = false := by simp [go_sem]
  generalize (((w.alloc (.cells #[.int .i64 n.ins, .slice A n.gs.length c] 29)).alloc (.cells #[.bool g.x, .int .i64 g.a, .int .i64 g.b] 88)).alloc (.cells #[.int .i64 0, .slice none 0 0] 29)) = W at *
  have H := Lay.Sl.up (h.mono hF) hW
  go_loopw [6] (fun i wr => ∃ j m : Nat, j ≤ n.gs.length ∧ i = .int .i64 j ∧ wr = W.drewN m ∧ ∀ i', i' < j → n.gs[i']? ≠ some g) (fun i _ => n.gs.length - (intOf i).toNat)
  case atStart => exact ⟨0, 0, Nat.zero_le _, rfl, rfl, fun i' h => absurd h (by omega)⟩
  case round =>
    obtain ⟨j, m, hj, rfl, rfl, hnot⟩ := hrel
    have HN := Lib.hid hnot
    clear hnot
    by_cases hlt : j < n.gs.length
    · obtain ⟨ad, rfl, hf, j1, j2, j3⟩ := H.at_gate hlt
      have hj0 : (0 : Int) ≤ j := by omega
      have hj1 : (j : Int) < n.gs.length := by omega
      have hgj : n.gs[j]? = some n.gs[j] := List.getElem?_eq_getElem hlt
      have HGJ := Lib.hid hgj
      clear hgj
      generalize n.gs[j] = gj at *
      by_cases hq : gj = g
      · have he : ∀ W' : World, (binOp .eql 88 (.agg #[.bool gj.x, .int .i64 gj.a, .int .i64 gj.b]) (.agg #[.bool g.x, .int .i64 g.a, .int .i64 g.b])).run Tryz.prog W' = .ok (.bool true) W' := fun W' => by rw [eqlG W' gj g, decide_eq_true hq]
        have HQ := Lib.hid hq
        clear hq
        have e1 : IntKind.i64.wrap (2 + n.ins) = 2 + n.ins := IntWalk.i64_in _ (by omega)
        have e2 : IntKind.i64.wrap (2 + n.ins + (j : Int)) = 2 + n.ins + (j : Int) := IntWalk.i64_in _ (by omega)
        go_wp2
        go_quiet (fail)
        go_wp2
        go_region_held3 (fun w' => w'.cell? ⟨w.heap.size, 0, none⟩ = some (.int .i64 n.ins) ∧ w'.cell? ⟨w.heap.size, 1, none⟩ = some (.slice (some ad) n.gs.length c)) (first | go_keep | (refine ⟨?_, ?_⟩ <;> (simp [go_sem, v0, v1]; done))) (fail)
        go_wp2
        refine bodyPost_ret (v := .tuple #[.agg #[.int .i64 n.ins, .slice (some ad) n.gs.length c], .int .i64 (2 + n.ins + j)]) (by simp [results, Tryz.results115, go_sem, v0, v1, v5, v6, f5, f6]) rfl ?_
        have hgs : n.gs[j]? = some g := by rw [HGJ.out, HQ.out]
        have hidx : n.gs.idxOf g = j := idxOf_first hgs HN.out
        have hmem : g ∈ n.gs := by
          have := HGJ.out; rw [HQ.out] at this; exact List.mem_of_getElem? this
        have hp : put n g = (n, 2 + n.ins + j) := by unfold put; rw [if_pos hmem, hidx]
        rw [hp]
        have hbel : Below w.heap.size w (((W.drewN (m + nq + 1)).setCell ⟨w.heap.size + 1 + 1, 0, none⟩ (.int .i64 n.ins)).setCell ⟨w.heap.size + 1 + 1, 1, none⟩ (.slice (some ad) n.gs.length c)) := by
          refine below_set (below_set (below_drewN hW _) ?_ _) ?_ _ <;> (show w.heap.size ≤ w.heap.size + 1 + 1; omega)
        exact ⟨some ad, c, rfl, fun e9 => (by cases e9), (h.below hbel hF).mono (fun _ => .inl), hbel⟩
      · have he : ∀ W' : World, (binOp .eql 88 (.agg #[.bool gj.x, .int .i64 gj.a, .int .i64 gj.b]) (.agg #[.bool g.x, .int .i64 g.a, .int .i64 g.b])).run Tryz.prog W' = .ok (.bool false) W' := fun W' => by rw [eqlG W' gj g, decide_eq_false hq]
        have HQ := Lib.hid hq
        clear hq
        go_wp2
        go_quiet (fail)
        go_wp2
        go_roundw
        case rel => exact ⟨j + 1, _, by omega, by go_num, rfl, fun i' hi' => by
          rcases Nat.lt_or_ge i' j with h' | h'
          · exact HN.out i' h'
          · have : i' = j := by omega
            subst this; rw [HGJ.out]; intro e; injection e with e; exact HQ.out e⟩
        case measure => simp [intOf]; omega
    · have : j = n.gs.length := by omega
      subst this
      by_cases h6 : 600 ≤ n.gs.length
      · go_wp2
        refine bodyPost_ret (v := .tuple #[.agg #[.int .i64 0, .slice none 0 0], .int .i64 0]) (by simp [results, Tryz.results115, go_sem, v0, v1, v5, v6, f5, f6]) rfl ?_
        have hnm : g ∉ n.gs := fun hm => by
          obtain ⟨i', hi', hg'⟩ := List.getElem_of_mem hm
          exact HN.out i' hi' (by rw [List.getElem?_eq_getElem hi', hg'])
        have hp : put n g = (⟨0, []⟩, 0) := by unfold put; rw [if_neg hnm, if_pos h6]
        rw [hp]
        exact ⟨none, 0, rfl, fun _ => rfl, Lay.Sl.nil _ _ _ _, by first | exact below_drewN hW _ | (refine below_set (below_set (below_drewN hW _) ?_ _) ?_ _ <;> (show w.heap.size ≤ w.heap.size + 1 + 1; omega))⟩
      · go_wp2
        have b1 : w.heap.size < (W.drewN m).heap.size := by show w.heap.size < W.heap.size; omega
        have b2 : w.heap.size + 1 < (W.drewN m).heap.size := by show w.heap.size + 1 < W.heap.size; omega
        refine wp_region_shares [[], [], [(1, 33)], [(0, 32), (2, 34)], [], [(4, 36)], [(3, 35), (5, 37)], [], [(6, 38), (7, 39)]]
          [.lit0 W.heap.size 88 3, .eq (.pointer (some ⟨w.heap.size, 1, none⟩)), .eq (.slice A n.gs.length c), .row W.heap.size 88 3 n.gs.length (n.gs.flatMap gcells),
            .eq (.agg #[.bool g.x, .int .i64 g.a, .int .i64 g.b]), .lit 88 1 #[.bool g.x, .int .i64 g.a, .int .i64 g.b], .row W.heap.size 88 3 (n.gs.length + 1) (n.gs.flatMap gcells ++ gcells g),
            .eq (.pointer (some ⟨w.heap.size, 1, none⟩)), Fact.put w.heap.size W n g]
          [6, 8] [8] [7] [8] [(0, 32), (1, 33), (2, 34), (3, 35), (4, 36), (5, 37), (6, 38), (7, 39)] (by kernel_rfl) (by kernel_rfl) (by kernel_rfl) (by kernel_rfl)
          ⟨?_, ?_, ?_, ?_, ?_, ?_, ?_, ?_, ?_, trivial⟩ ?_
        · intro vals x hC hF
          simp only [putsD, Act.put, List.setIfInBounds_toArray, List.set_cons_zero, List.set_cons_succ]
          have hC := hC.resolve_left (by simp)
          have hsz : W.heap.size ≤ x.heap.size := hC.size
          go_wp2
          exact ⟨rfl, ⟨_, rfl, own_mono (own_lit0 rfl) hsz⟩, .inr ((Below.refl _ _).alloc (Nat.le_refl _) _), .inr (.inl (by simp))⟩
        · intro vals x hC hF
          simp only [putsD, Act.put, List.setIfInBounds_toArray, List.set_cons_zero, List.set_cons_succ]
          go_wp2
          exact ⟨rfl, rfl, .inr (Below.refl _ _), .inr (.inl (by simp))⟩
        · intro vals x hC hF
          have hC := hC.resolve_left (by simp)
          simp only [factsD, List.getD_cons_zero, List.getD_cons_succ, Fact.eq, Fact.row, Fact.lit, Fact.lit0, Fact.of, and_true] at hF
          obtain ⟨hcc, hff⟩ := bcell hC
          have c1 := (hcc _ 1 b1).trans v1
          simp only [putsD, Act.put, List.setIfInBounds_toArray, List.set_cons_zero, List.set_cons_succ]
          simp only [hF]
          go_wp2
          exact ⟨rfl, rfl, .inr (Below.refl _ _), .inr (.inl (by simp))⟩
        · intro vals x hC hF
          have hC := hC.resolve_left (by simp)
          have hsz : W.heap.size ≤ x.heap.size := hC.size
          simp only [factsD, List.getD_cons_zero, List.getD_cons_succ, Fact.eq, Fact.row, Fact.lit, Fact.lit0, Fact.of, and_true] at hF
          obtain ⟨⟨p0, e0, own0⟩, e2⟩ := hF
          simp only [putsD, Act.put, List.setIfInBounds_toArray, List.set_cons_zero, List.set_cons_succ]
          simp only [e0, e2]
          refine wpList_append_lit _ (by rfl) (.tmp 32) (.tmp 34) _ (by rfl) W.heap.size 88 i0 _ 3 24 Tryz.underlying27 hi0 hz0 hz1 hz2 (by rfl) (by omega) p0 (by rfl) own0 A n.gs.length c (n.gs.flatMap gcells) (by rfl) (src_gates (H.up (w' := x) ⟨hC.os, hC.tape, hC.output, hC.size, hC.block⟩)) (gcells_one _) (by unfold maxLen; omega) (by omega) hsz hA ?_
          intro A1 c1 w1 hown1 hb1
          exact ⟨rfl, ⟨_, _, rfl, hown1⟩, .inr hb1, .inr (.inl (by simp))⟩
        · intro vals x hC hF
          have hC := hC.resolve_left (by simp)
          obtain ⟨hcc, hff⟩ := bcell hC
          have c1 := (hcc _ 0 b2).trans v2
          have c2 := (hcc _ 1 b2).trans v3
          have c3 := (hcc _ 2 b2).trans v4
          simp only [putsD, Act.put, List.setIfInBounds_toArray, List.set_cons_zero, List.set_cons_succ]
          go_wp2
          exact ⟨rfl, rfl, .inr (Below.refl _ _), .inr (.inl (by simp))⟩
        · intro vals x hC hF
          simp only [factsD, List.getD_cons_zero, List.getD_cons_succ, Fact.eq, Fact.row, Fact.lit, Fact.lit0, Fact.of, and_true] at hF
          simp only [putsD, Act.put, List.setIfInBounds_toArray, List.set_cons_zero, List.set_cons_succ]
          simp only [hF]
          go_wp2
          exact ⟨rfl, ⟨_, rfl, by simp, _, heap_alloc_new _ _⟩, .inr ((Below.refl _ _).alloc (Nat.le_refl _) _), .inr (.inl (by simp))⟩
        · intro vals x hC hF
          have hC := hC.resolve_left (by simp)
          have hsz : W.heap.size ≤ x.heap.size := hC.size
          simp only [factsD, List.getD_cons_zero, List.getD_cons_succ, Fact.eq, Fact.row, Fact.lit, Fact.lit0, Fact.of, and_true] at hF
          obtain ⟨⟨A1, c1, e1, own1⟩, b, e5, hlt5, fr5, hb5⟩ := hF
          simp only [putsD, Act.put, List.setIfInBounds_toArray, List.set_cons_zero, List.set_cons_succ]
          simp only [e1, e5]
          refine wpList_append_src _ (by rfl) (.tmp 35) (.tmp 37) _ (by rfl) W.heap.size 88 i0 _ 3 24 Tryz.underlying27 hi0 hz0 hz1 hz2 (by rfl) (by omega) (.slice A1 n.gs.length c1) n.gs.length (n.gs.flatMap gcells) (by rfl) own1 (some ⟨b, 0, none⟩) 1 1 (gcells g) (by rfl) (src_block hb5 rfl) (gcells_one1 g) (n.gs.length + 1) (by omega) (by unfold maxLen; omega) (by omega) hsz (by simp) ?_
          intro A2 c2 w2 hown2 hb2 hg2
          exact ⟨rfl, ⟨_, _, rfl, hown2⟩, .inl (by simp), .inr (.inr hb2)⟩
        · intro vals x hC hF
          simp only [putsD, Act.put, List.setIfInBounds_toArray, List.set_cons_zero, List.set_cons_succ]
          go_wp2
          exact ⟨rfl, rfl, .inr (Below.refl _ _), .inr (.inl (by simp))⟩
        · intro vals x hC hF
          have hC := hC.resolve_left (by simp)
          simp only [factsD, List.getD_cons_zero, List.getD_cons_succ, Fact.eq, Fact.row, Fact.lit, Fact.lit0, Fact.of, and_true] at hF
          obtain ⟨⟨A2, c2, e2, own2⟩, e7⟩ := hF
          obtain ⟨hcc, hff⟩ := bcell hC
          have hsz : W.heap.size ≤ x.heap.size := hC.size
          have k0 := (hcc _ 0 b1).trans v0
          have k1 := (hcc _ 1 b1).trans v1
          have k2 := (hff _ 1 b1).trans f0
          simp only [putsD, Act.put, List.setIfInBounds_toArray, List.set_cons_zero, List.set_cons_succ]
          simp only [e2, e7]
          go_wp2
          refine ⟨rfl, ?_, .inl (by simp), .inl (by simp)⟩
          simp only [List.getD_cons_zero, List.getD_cons_succ, Fact.put, Fact.of]
          refine ⟨?_, ?_, ?_, ?_, ?_, ?_, ?_, A2, c2, ?_, ?_⟩
          · simp [World.setCell]; omega
          · simp [go_sem, k0]
          · simp [World.setCell]; omega
          · exact fun b' hb' hne => (Below.heap_setCell x ⟨w.heap.size, 1, none⟩ _ b' hne).trans (hC.block b' hb')
          · exact hC.os
          · exact hC.tape
          · exact hC.output
          · simp [go_sem, k1]
          · exact own_far own2 _ _ (by show w.heap.size < W.heap.size; omega)
        · intro vals x hF
          simp only [facts, List.getD_cons_zero, List.getD_cons_succ, Fact.put, Fact.of, and_true] at hF
          obtain ⟨t1, t2, t3, t4, t5, t6, t7, A9, c9, t8, t9⟩ := hF
          simp only [putsD, Act.put, List.setIfInBounds_toArray, List.set_cons_zero, List.set_cons_succ]
          have t4c : ∀ b' o, b' < W.heap.size → b' ≠ w.heap.size → x.cell? ⟨b', o, none⟩ = W.cell? ⟨b', o, none⟩ := fun b' o hb' hne => World.cell?_of_block (t4 b' hb' hne)
          have t4f : ∀ b' o, b' < W.heap.size → b' ≠ w.heap.size → x.frozen? ⟨b', o, none⟩ = W.frozen? ⟨b', o, none⟩ := fun b' o hb' hne => World.frozen?_of_block (t4 b' hb' hne)
          have b3 : w.heap.size + 1 + 1 < W.heap.size := by omega
          have u5 := (t4c _ 0 b3 (by omega)).trans v5
          have u6 := (t4c _ 1 b3 (by omega)).trans v6
          have fu5 := (t4f _ 0 b3 (by omega)).trans f5
          have fu6 := (t4f _ 1 b3 (by omega)).trans f6
          have hnone := HN.out
          clear t4c t4f v0 v1 v2 v3 v4 v5 v6 f0 f5 f6 HN b1 b2 hA h
          have e1 : IntKind.i64.wrap (1 + n.ins) = 1 + n.ins := IntWalk.i64_in _ (by omega)
          have e2 : IntKind.i64.wrap (1 + n.ins + ((n.gs.length + 1 : Nat) : Int)) = 1 + n.ins + ((n.gs.length + 1 : Nat) : Int) := IntWalk.i64_in _ (by omega)
          have e3 : IntKind.i64.wrap (1 + n.ins + ((n.gs.length : Int) + 1)) = 1 + n.ins + ((n.gs.length : Int) + 1) := IntWalk.i64_in _ (by omega)
          have HNo := Lib.hid hnone
          clear hnone
          have hfar : ∀ (X : World) (o : Nat) (u : Value) (o' : Nat), (X.setCell ⟨w.heap.size + 1 + 1, o, none⟩ u).cell? ⟨w.heap.size, o', none⟩ = X.cell? ⟨w.heap.size, o', none⟩ := fun X o u o' =>
            World.cell?_of_block (Below.heap_setCell X _ u w.heap.size (by show w.heap.size ≠ w.heap.size + 1 + 1; omega))
          have hdrew : ∀ (X : World) (q : Addr), X.drew.cell? q = X.cell? q := fun _ _ => rfl
          go_wp2
          go_region_held3 (fun w' => w'.cell? ⟨w.heap.size, 0, none⟩ = some (.int .i64 n.ins) ∧ w'.cell? ⟨w.heap.size, 1, none⟩ = some (.slice A9 (n.gs.length + 1) c9)) (first | go_keep | (refine ⟨?_, ?_⟩ <;> (simp [go_sem, t2, t8]; done)) | (refine ⟨?_, ?_⟩ <;> (simp only [hdrew, hfar, t2, t8]; done))) (fail)
          go_wp2
          refine bodyPost_ret (v := .tuple #[.agg #[.int .i64 n.ins, .slice A9 (n.gs.length + 1) c9], .int .i64 (1 + n.ins + ((n.gs.length + 1 : Nat) : Int))]) (by simp [results, Tryz.results115, go_sem, u5, u6, fu5, fu6, e3]) rfl ?_
          have hnm : g ∉ n.gs := fun hm => by
            obtain ⟨i', hi', hg'⟩ := List.getElem_of_mem hm
            exact HNo.out i' hi' (by rw [List.getElem?_eq_getElem hi', hg'])
          have hp : put n g = (⟨n.ins, n.gs ++ [g]⟩, 2 + n.ins + n.gs.length) := by unfold put; rw [if_neg hnm, if_neg (by omega)]
          have hA9 : A9 ≠ none := by
            obtain ⟨g9, cap9, hv9, _⟩ := t9.form (by omega)
            intro e9; rw [e9] at hv9; injection hv9 with hv9; cases hv9
          have hcs : (n.gs ++ [g]).flatMap gcells = n.gs.flatMap gcells ++ gcells g := by simp
          have hlen : (n.gs ++ [g]).length = n.gs.length + 1 := by simp
          rw [hp]
          refine ⟨A9, c9, ?_, fun e9 => absurd e9 hA9, ?_, ?_⟩
          · simp only [hlen]
            rw [show (1 + n.ins + ((n.gs.length + 1 : Nat) : Int)) = 2 + n.ins + n.gs.length by omega]
          · rw [← hcs] at t9
            have hz9 : ∀ (p q : Addr) (u v : Value), ((x.setCell p u).setCell q v).heap.size = x.heap.size := fun p q u v => by simp [World.setCell]
            have h9 := own_far (own_far t9 ⟨w.heap.size + 1 + 1, 0, none⟩ (.int .i64 n.ins) (by show w.heap.size + 1 + 1 < W.heap.size; omega)) ⟨w.heap.size + 1 + 1, 1, none⟩ (.slice A9 (n.gs.length + 1) c9) (by show w.heap.size + 1 + 1 < W.heap.size; omega)
            refine ((sl_gates_of_own (F := fun b => w.heap.size ≤ b ∧ b < x.heap.size) h9 (fun g9 hg9 hl9 => ⟨by have := hW.size; omega, by rw [hz9] at hl9; exact hl9⟩)).1.drewN 1).mono (fun b9 hb9 => .inr ⟨hb9.1, ?_⟩)
            show b9 < ((x.setCell _ _).setCell _ _).heap.size
            rw [hz9]; exact hb9.2
          · have hwx : Below w.heap.size w x := ⟨t5.trans hW.os, t6.trans hW.tape, t7.trans hW.output, Nat.le_trans hW.size t3, fun b' hb' => (t4 b' (by omega) (by omega)).trans (hW.block b' hb')⟩
            refine below_drewN (below_set (below_set (X := x) hwx ?_ _) ?_ _) 1 <;> (show w.heap.size ≤ w.heap.size + 1 + 1; omega)
end Go.Proofs.YtjghcaghigebjaaGreatDoor

/-! Maps keyed by gates. -/
namespace Go.Proofs.YtjghcaghigebjaaGreatDoor
open Go Go.RowKit Go.Maps

def gval (g : G) : Value := .agg #[.bool g.x, .int .i64 g.a, .int .i64 g.b]
def keyG (g : G) : Lit := .string (keyBytes [.bool g.x, .int .i64 g.a, .int .i64 g.b])
def okGi (g : G) : Prop := (-9223372036854775808 ≤ g.a ∧ g.a ≤ 9223372036854775807) ∧ (-9223372036854775808 ≤ g.b ∧ g.b ≤ 9223372036854775807)
theorem gate_law : WideMaps.KeyLaw Tryz.prog 88 := deep_law_laid (by kernel_rfl) (m := 4) (by omega) (of_decide_eq_true (by kernel_rfl)) (by kernel_rfl) (by kernel_rfl)
theorem gate_keyed : Keyed Tryz.prog 88 := Keyed.of_law gate_law
theorem gate_types : ∃ m, Tryz.prog.types.size = m + 1 := ⟨Tryz.prog.types.size - 1, by
  have h : Tryz.prog.types.size ≠ 0 := of_decide_eq_true (by kernel_rfl)
  omega⟩
theorem keyG_ok (g : G) (h : okGi g) : keyOf Tryz.prog 88 (gval g) = some (keyG g) := by
  have wa : (Lit.int .i64 g.a).wf = true := WalkArith.wf_i64 h.1
  have wb : (Lit.int .i64 g.b).wf = true := WalkArith.wf_i64 h.2
  have hkt : Tryz.prog.keyType 88 = true := by kernel_rfl
  have hc : Tryz.prog.cellsOf 88 = 3 := by kernel_rfl
  have hcb : Tryz.prog.cellsOf 4 = 1 := by kernel_rfl
  have hci : Tryz.prog.cellsOf 3 = 1 := by kernel_rfl
  obtain ⟨m, hm⟩ := gate_types
  unfold keyOf
  simp only [Tryz.underlying88]
  rw [if_pos (by simp [hkt, gval, Value.formed, Tryz.underlying88, hc]), hm]
  unfold Program.keyLits
  simp only [Tryz.underlying88, gval, Value.cells]
  simp [hc, hcb, hci, Program.keyLits, Tryz.underlying4, Tryz.underlying3, wa, wb, keyG]
theorem keyG_inj {g h : G} (hg : okGi g) (hh : okGi h) (e : keyG g = keyG h) : g = h := by
  have := gate_keyed.inj (keyG_ok g hg) (by rw [e]; exact keyG_ok h hh)
  cases g; cases h
  simp [gval] at this
  obtain ⟨rfl, rfl, rfl⟩ := this
  rfl

/-- The map D says of each gate of the list its node. -/
structure Known (ins : Int) (gs : List G) (D : DataW Unit) : Prop where
  isMap : IsMap D
  has : ∀ g, okGi g → Maps.has D (keyG g) = decide (g ∈ gs)
  at_ : ∀ g, okGi g → g ∈ gs → D.atKey (keyG g) (.lit (.int .i64 0)) = .lit (.int .i64 (2 + ins + gs.idxOf g))
theorem Known.nil (ins : Int) : Known ins [] (.map []) := ⟨isMap_empty, fun g _ => by simp [Maps.has], fun g _ h => by cases h⟩
theorem Known.put {ins : Int} {gs : List G} {D : DataW Unit} (h : Known ins gs D) (g : G) (hg : okGi g) (hn : g ∉ gs) (k : Int) (hk : k = 2 + ins + gs.length) :
    Known ins (gs ++ [g]) (D.put (keyG g) (.lit (.int .i64 k))) := by
  subst hk
  refine ⟨h.isMap.put _ _, fun x hx => ?_, fun x hx hm => ?_⟩
  · by_cases e : x = g
    · subst e
      rw [has_put_same h.isMap (gate_keyed.key (keyG_ok _ hg))]; simp
    · have hne : keyG x ≠ keyG g := fun e' => e (keyG_inj hx hg e')
      rw [has_put_other hne, h.has x hx]
      simp [e]
  · by_cases e : x = g
    · subst e
      rw [atKey_put_same h.isMap (gate_keyed.key (keyG_ok _ hg)), List.idxOf_append, if_neg hn]
      simp
    · have hne : keyG x ≠ keyG g := fun e' => e (keyG_inj hx hg e')
      have hm' : x ∈ gs := by simpa [e] using hm
      rw [atKey_put_other hne, h.at_ x hx hm', List.idxOf_append, if_pos hm']

/-- The block b holds the map of the list's gates. -/
def KnownAt (w : World) (b : Nat) (ins : Int) (gs : List G) : Prop :=
  ∃ D : DataW Unit, w.ownsMap Tryz.prog 88 (plainElem Tryz.prog 3) b gs.length D ∧ Known ins gs D
end Go.Proofs.YtjghcaghigebjaaGreatDoor

/-! The reference's gates: and, xor. -/
namespace Go.Proofs.YtjghcaghigebjaaGreatDoor
open Go Go.RowKit

def and1 (n : N) (a b : Int) : N × Int :=
  if a = -1 ∨ b = -1 ∨ a = -b then (n, -1) else if a = 1 ∨ a = b then (n, b) else if b = 1 then (n, a)
  else if b.natAbs < a.natAbs then put n ⟨false, b, a⟩ else put n ⟨false, a, b⟩

/-- A box and a result's cells, ahead of the rest. -/
theorem same_end {F : Nat → Prop} {w : World} {n : N} {A : Option Addr} {c : Nat} (h : Lay.gate.Sl w F A n.gs) (hF : ∀ b, F b → b < w.heap.size) (hA : A = none → n.gs.length = 0) (k : Int) {w' : World} (hb : Below w.heap.size w w') :
    RetNetInt F w (n, k) (.returned (.tuple #[.agg #[.int .i64 n.ins, .slice A n.gs.length c], .int .i64 k])) w' := ⟨A, c, rfl, hA, (h.below hb hF).mono (fun _ => .inl), hb⟩

theorem res_cells {w w' : World} {v0 v1 : Value} {t : TypeId}
    (hb : Below ((w.alloc (.cells #[v0, v1] t)).alloc (.cells #[.int .i64 0, .slice none 0 0] t)).heap.size ((w.alloc (.cells #[v0, v1] t)).alloc (.cells #[.int .i64 0, .slice none 0 0] t)) w') :
    w'.cell? ⟨w.heap.size + 1, 0, none⟩ = some (.int .i64 0) ∧ w'.cell? ⟨w.heap.size + 1, 1, none⟩ = some (.slice none 0 0) ∧ w'.frozen? ⟨w.heap.size + 1, 0, none⟩ = false ∧ w'.frozen? ⟨w.heap.size + 1, 1, none⟩ = false := by
  have hlt : w.heap.size + 1 < ((w.alloc (.cells #[v0, v1] t)).alloc (.cells #[.int .i64 0, .slice none 0 0] t)).heap.size := by simp
  obtain ⟨hc, hf⟩ := bcell hb
  refine ⟨(hc _ _ hlt).trans ?_, (hc _ _ hlt).trans ?_, (hf _ _ hlt).trans ?_, (hf _ _ hlt).trans ?_⟩ <;> simp [go_sem]

/-- What was read behind two new blocks reads on when the second is written. -/
theorem sl_two {F : Nat → Prop} {w w' : World} {v0 v1 u0 u1 : Value} {t : TypeId} {A : Option Addr} {xs : List G}
    (hW : Below w.heap.size w ((w.alloc (.cells #[v0, v1] t)).alloc (.cells #[.int .i64 0, .slice none 0 0] t))) (hF : ∀ b, F b → b < w.heap.size)
    (h : Lay.gate.Sl w' (fun b => F b ∨ (((w.alloc (.cells #[v0, v1] t)).alloc (.cells #[.int .i64 0, .slice none 0 0] t)).heap.size ≤ b ∧ b < w'.heap.size)) A xs)
    (hb : Below ((w.alloc (.cells #[v0, v1] t)).alloc (.cells #[.int .i64 0, .slice none 0 0] t)).heap.size ((w.alloc (.cells #[v0, v1] t)).alloc (.cells #[.int .i64 0, .slice none 0 0] t)) w') :
    Lay.gate.Sl ((w'.setCell ⟨w.heap.size + 1, 0, none⟩ u0).setCell ⟨w.heap.size + 1, 1, none⟩ u1) (fun b => F b ∨ (w.heap.size ≤ b ∧ b < ((w'.setCell ⟨w.heap.size + 1, 0, none⟩ u0).setCell ⟨w.heap.size + 1, 1, none⟩ u1).heap.size)) A xs := by
  have hsz : ((w.alloc (.cells #[v0, v1] t)).alloc (.cells #[.int .i64 0, .slice none 0 0] t)).heap.size = w.heap.size + 2 := by simp
  refine (h.keep fun b hb' => ?_).mono fun b hb' => ?_
  · have hne : b ≠ w.heap.size + 1 := by
      rcases hb' with hb' | hb'
      · have := hF b hb'; omega
      · omega
    exact (Below.heap_setCell _ ⟨w.heap.size + 1, 1, none⟩ u1 b hne).trans (Below.heap_setCell _ ⟨w.heap.size + 1, 0, none⟩ u0 b hne)
  · rcases hb' with hb' | hb'
    · exact .inl hb'
    · refine .inr ⟨by omega, ?_⟩
      simp [World.setCell]; omega

set_option maxHeartbeats 1000000 in
theorem l6And_any (F : Nat → Prop) (A : Option Addr) (c : Nat) (n : N) (a b : Int) (w : World) (h : Lay.gate.Sl w F A n.gs) (hF : ∀ b, F b → b < w.heap.size) (hn : n.gs.length ≤ 1048576) (hA : A = none → n.gs.length = 0) (h0 : 0 ≤ n.ins) (h1 : n.ins ≤ 1000000)
    (ha : -2000000000 ≤ a ∧ a ≤ 2000000000) (hb : -2000000000 ≤ b ∧ b ≤ 2000000000) :
    Calls Tryz.prog 66 #[.agg #[.int .i64 n.ins, .slice A n.gs.length c], .int .i64 a, .int .i64 b] w (RetNetInt F w (and1 n a b)) := by
  have eb : IntKind.i64.wrap (-b) = -b := IntWalk.i64_in _ (by omega)
  have hW : Below w.heap.size w ((w.alloc (.cells #[.int .i64 n.ins, .slice A n.gs.length c] 29)).alloc (.cells #[.int .i64 0, .slice none 0 0] 29)) := ((Below.refl _ _).alloc (Nat.le_refl _) _).alloc (by simp) _
  by_cases c1 : a = -1 ∨ b = -1 ∨ a = -b
  · have hr : and1 n a b = (n, -1) := by unfold and1; rw [if_pos c1]
    rw [hr]
    have t : (a == -1 || (b == -1 || a == -b)) = true := by simp; omega
    cases t1 : (a == -1) <;> cases t2 : (b == -1) <;> cases t3 : (a == -b) <;> simp [t1, t2, t3] at t
    all_goals clear c1 t hr
    all_goals
      go_enter Tryz.func66, Tryz.ntmps66
      go_wp2_with fail
      refine bodyPost_ret (v := .tuple #[.agg #[.int .i64 n.ins, .slice A n.gs.length c], .int .i64 (-1)]) (by simp [results, Tryz.results66, go_sem]) rfl (same_end h hF hA (-1) ?_)
      exact ((Below.refl _ _).alloc (Nat.le_refl _) _).alloc (by simp) _
  have t1 : (a == -1) = false := by simp; omega
  have t2 : (b == -1) = false := by simp; omega
  have t3 : (a == -b) = false := by simp; omega
  by_cases c2 : a = 1 ∨ a = b
  · have hr : and1 n a b = (n, b) := by unfold and1; rw [if_neg c1, if_pos c2]
    rw [hr]
    have t : (a == 1 || a == b) = true := by simp; omega
    cases t4 : (a == 1) <;> cases t5 : (a == b) <;> simp [t4, t5] at t
    all_goals clear c1 c2 t hr
    all_goals
      go_enter Tryz.func66, Tryz.ntmps66
      go_wp2_with fail
      refine bodyPost_ret (v := .tuple #[.agg #[.int .i64 n.ins, .slice A n.gs.length c], .int .i64 b]) (by simp [results, Tryz.results66, go_sem]) rfl (same_end h hF hA b ?_)
      exact ((Below.refl _ _).alloc (Nat.le_refl _) _).alloc (by simp) _
  have t4 : (a == 1) = false := by simp; omega
  have t5 : (a == b) = false := by simp; omega
  by_cases c3 : b = 1
  · have hr : and1 n a b = (n, a) := by unfold and1; rw [if_neg c1, if_neg c2, if_pos c3]
    rw [hr]
    have t6 : (b == 1) = true := by simp; omega
    clear c1 c2 c3 hr
    all_goals
      go_enter Tryz.func66, Tryz.ntmps66
      go_wp2_with fail
      refine bodyPost_ret (v := .tuple #[.agg #[.int .i64 n.ins, .slice A n.gs.length c], .int .i64 a]) (by simp [results, Tryz.results66, go_sem]) rfl (same_end h hF hA a ?_)
      exact ((Below.refl _ _).alloc (Nat.le_refl _) _).alloc (by simp) _
  have t6 : (b == 1) = false := by simp; omega
  by_cases c4 : b.natAbs < a.natAbs
  · have hr : and1 n a b = put n ⟨false, b, a⟩ := by unfold and1; rw [if_neg c1, if_neg c2, if_neg c3, if_pos c4]
    rw [hr]
    clear hr c1 c2 c3
    go_enter Tryz.func66, Tryz.ntmps66
    go_wp2_with (first | (go_at_call 85; refine (l4Abs_any _ _ (by omega) (by omega)).mono ?_; rintro e w' ⟨rfl, rfl⟩) | fail)
    refine (l6Put_any F A c n ⟨false, b, a⟩ _ (h.below hW hF) (fun b' hb' => Nat.lt_of_lt_of_le (hF b' hb') hW.size) hn hA h0 h1).mono ?_
    rintro e w' ⟨A', c', rfl, hA', h', hb'⟩
    generalize put n ⟨false, b, a⟩ = r at *
    obtain ⟨k5, k6, kf5, kf6⟩ := res_cells hb'
    go_wp2_with fail
    refine bodyPost_ret (v := .tuple #[.agg #[.int .i64 r.1.ins, .slice A' r.1.gs.length c'], .int .i64 r.2]) (by simp [results, Tryz.results66, go_sem, k5, k6, kf5, kf6]) rfl ?_
    have hbel : Below w.heap.size w ((w'.setCell ⟨w.heap.size + 1, 0, none⟩ (.int .i64 r.1.ins)).setCell ⟨w.heap.size + 1, 1, none⟩ (.slice A' r.1.gs.length c')) := by
      refine below_set (below_set (bthen hW hb') ?_ _) ?_ _ <;> (show w.heap.size ≤ w.heap.size + 1; omega)
    exact ⟨A', c', rfl, hA', sl_two hW hF h' hb', hbel⟩
  · have hr : and1 n a b = put n ⟨false, a, b⟩ := by unfold and1; rw [if_neg c1, if_neg c2, if_neg c3, if_neg c4]
    rw [hr]
    clear hr c1 c2 c3
    go_enter Tryz.func66, Tryz.ntmps66
    go_wp2_with (first | (go_at_call 85; refine (l4Abs_any _ _ (by omega) (by omega)).mono ?_; rintro e w' ⟨rfl, rfl⟩) | fail)
    refine (l6Put_any F A c n ⟨false, a, b⟩ _ (h.below hW hF) (fun b' hb' => Nat.lt_of_lt_of_le (hF b' hb') hW.size) hn hA h0 h1).mono ?_
    rintro e w' ⟨A', c', rfl, hA', h', hb'⟩
    generalize put n ⟨false, a, b⟩ = r at *
    obtain ⟨k5, k6, kf5, kf6⟩ := res_cells hb'
    go_wp2_with fail
    refine bodyPost_ret (v := .tuple #[.agg #[.int .i64 r.1.ins, .slice A' r.1.gs.length c'], .int .i64 r.2]) (by simp [results, Tryz.results66, go_sem, k5, k6, kf5, kf6]) rfl ?_
    have hbel : Below w.heap.size w ((w'.setCell ⟨w.heap.size + 1, 0, none⟩ (.int .i64 r.1.ins)).setCell ⟨w.heap.size + 1, 1, none⟩ (.slice A' r.1.gs.length c')) := by
      refine below_set (below_set (bthen hW hb') ?_ _) ?_ _ <;> (show w.heap.size ≤ w.heap.size + 1; omega)
    exact ⟨A', c', rfl, hA', sl_two hW hF h' hb', hbel⟩
end Go.Proofs.YtjghcaghigebjaaGreatDoor

/-! The reference's xor. -/
namespace Go.Proofs.YtjghcaghigebjaaGreatDoor
open Go Go.RowKit

def sgn (a : Int) : Int := if a < 0 then -1 else 1
def xor1 (n : N) (a b : Int) : N × Int :=
  if a = 1 ∨ a = -1 then (n, -a * b) else if b = 1 ∨ b = -1 then (n, -b * a) else if a = b then (n, -1) else if a = -b then (n, 1)
  else
    let r := put n (if b.natAbs < a.natAbs then ⟨true, b.natAbs, a.natAbs⟩ else ⟨true, a.natAbs, b.natAbs⟩)
    (r.1, sgn a * sgn b * r.2)

theorem put_range (n : N) (g : G) (hn : n.gs.length ≤ 1048576) (h0 : 0 ≤ n.ins) (h1 : n.ins ≤ 1000000) : 0 ≤ (put n g).2 ∧ (put n g).2 ≤ 3000000 := by
  unfold put
  split
  · rename_i hm
    have := List.idxOf_lt_length_of_mem hm
    show 0 ≤ 2 + n.ins + ((n.gs.idxOf g : Nat) : Int) ∧ 2 + n.ins + ((n.gs.idxOf g : Nat) : Int) ≤ 3000000
    omega
  · split
    · exact ⟨by decide, by decide⟩
    · show 0 ≤ 2 + n.ins + (n.gs.length : Int) ∧ 2 + n.ins + (n.gs.length : Int) ≤ 3000000
      omega

theorem res_store {w' : World} {S : Nat} {v0 v1 u0 u1 : Value} {o : Obj} (k5 : w'.cell? ⟨S, 0, none⟩ = some v0) (k6 : w'.cell? ⟨S, 1, none⟩ = some v1) (hlt : S < w'.heap.size) :
    (((w'.setCell ⟨S, 0, none⟩ u0).setCell ⟨S, 1, none⟩ u1).alloc o).cell? ⟨S, 0, none⟩ = some u0 ∧ (((w'.setCell ⟨S, 0, none⟩ u0).setCell ⟨S, 1, none⟩ u1).alloc o).cell? ⟨S, 1, none⟩ = some u1 := by
  have hq : Below ((w'.setCell ⟨S, 0, none⟩ u0).setCell ⟨S, 1, none⟩ u1).heap.size ((w'.setCell ⟨S, 0, none⟩ u0).setCell ⟨S, 1, none⟩ u1) (((w'.setCell ⟨S, 0, none⟩ u0).setCell ⟨S, 1, none⟩ u1).alloc o) := (Below.refl _ _).alloc (Nat.le_refl _) _
  have hz : S < ((w'.setCell ⟨S, 0, none⟩ u0).setCell ⟨S, 1, none⟩ u1).heap.size := by simp [World.setCell]; exact hlt
  obtain ⟨hc, _⟩ := bcell hq
  exact ⟨(hc _ _ hz).trans (by simp [go_sem, k5]), (hc _ _ hz).trans (by simp [go_sem, k5, k6])⟩

/-- The end: the net that was made lies in a new box, and is stored into the result. -/
theorem xor_end {F : Nat → Prop} {w w' : World} {v0 v1 : Value} {t t' : TypeId} {A : Option Addr} {c : Nat} {r : N} {k : Int} {cs : Array Value}
    (hW : Below w.heap.size w ((w.alloc (.cells #[v0, v1] t)).alloc (.cells #[.int .i64 0, .slice none 0 0] t))) (hF : ∀ b, F b → b < w.heap.size) (hA : A = none → r.gs.length = 0)
    (h : Lay.gate.Sl w' (fun b => F b ∨ (((w.alloc (.cells #[v0, v1] t)).alloc (.cells #[.int .i64 0, .slice none 0 0] t)).heap.size ≤ b ∧ b < w'.heap.size)) A r.gs)
    (hb : Below ((w.alloc (.cells #[v0, v1] t)).alloc (.cells #[.int .i64 0, .slice none 0 0] t)).heap.size ((w.alloc (.cells #[v0, v1] t)).alloc (.cells #[.int .i64 0, .slice none 0 0] t)) w') (u0 : Value) :
    RetNetInt F w (r, k) (.returned (.tuple #[.agg #[.int .i64 r.ins, .slice A r.gs.length c], .int .i64 k])) (((w'.setCell ⟨w.heap.size + 1, 0, none⟩ u0).setCell ⟨w.heap.size + 1, 1, none⟩ (.slice A r.gs.length c)).alloc (.cells cs t')) := by
  have h2 := sl_two (u0 := u0) (u1 := .slice A r.gs.length c) hW hF h hb
  have hbel : Below w.heap.size w ((w'.setCell ⟨w.heap.size + 1, 0, none⟩ u0).setCell ⟨w.heap.size + 1, 1, none⟩ (.slice A r.gs.length c)) := by
    refine below_set (below_set (bthen hW hb) ?_ _) ?_ _ <;> (show w.heap.size ≤ w.heap.size + 1; omega)
  generalize ((w'.setCell ⟨w.heap.size + 1, 0, none⟩ u0).setCell ⟨w.heap.size + 1, 1, none⟩ (.slice A r.gs.length c)) = X at *
  have hq : Below X.heap.size X (X.alloc (.cells cs t')) := (Below.refl _ _).alloc (Nat.le_refl _) _
  refine ⟨A, c, rfl, hA, (h2.below hq ?_).mono ?_, bthen hbel hq⟩
  · rintro b (hb' | hb')
    · exact Nat.lt_of_lt_of_le (hF b hb') hbel.size
    · exact hb'.2
  · rintro b (hb' | hb')
    · exact .inl hb'
    · exact .inr ⟨hb'.1, Nat.lt_of_lt_of_le hb'.2 hq.size⟩

set_option maxHeartbeats 2000000 in
theorem l6Xor_any (F : Nat → Prop) (A : Option Addr) (c : Nat) (n : N) (a b : Int) (w : World) (h : Lay.gate.Sl w F A n.gs) (hF : ∀ b, F b → b < w.heap.size) (hn : n.gs.length ≤ 1048576) (hA : A = none → n.gs.length = 0) (h0 : 0 ≤ n.ins) (h1 : n.ins ≤ 1000000)
    (ha : -2000000000 ≤ a ∧ a ≤ 2000000000) (hb : -2000000000 ≤ b ∧ b ≤ 2000000000) :
    Calls Tryz.prog 65 #[.agg #[.int .i64 n.ins, .slice A n.gs.length c], .int .i64 a, .int .i64 b] w (RetNetInt F w (xor1 n a b)) := by
  have ea : IntKind.i64.wrap (-a) = -a := IntWalk.i64_in _ (by omega)
  have eb : IntKind.i64.wrap (-b) = -b := IntWalk.i64_in _ (by omega)
  by_cases c1 : a = 1 ∨ a = -1
  · have hr : xor1 n a b = (n, -a * b) := by unfold xor1; rw [if_pos c1]
    rw [hr]
    rcases c1 with rfl | rfl
    · have em : IntKind.i64.wrap (-1 * b) = -1 * b := IntWalk.i64_in _ (by omega)
      clear hr
      go_enter Tryz.func65, Tryz.ntmps65
      go_wp2_with fail
      refine bodyPost_ret (v := .tuple #[.agg #[.int .i64 n.ins, .slice A n.gs.length c], .int .i64 (-1 * b)]) (by simp [results, Tryz.results65, go_sem]) rfl (same_end h hF hA (-1 * b) ?_)
      exact ((Below.refl _ _).alloc (Nat.le_refl _) _).alloc (by simp) _
    · have em : IntKind.i64.wrap (1 * b) = 1 * b := IntWalk.i64_in _ (by omega)
      clear hr
      go_enter Tryz.func65, Tryz.ntmps65
      go_wp2_with fail
      refine bodyPost_ret (v := .tuple #[.agg #[.int .i64 n.ins, .slice A n.gs.length c], .int .i64 (- -1 * b)]) (by simp [results, Tryz.results65, go_sem]) rfl (same_end h hF hA (- -1 * b) ?_)
      exact ((Below.refl _ _).alloc (Nat.le_refl _) _).alloc (by simp) _
  have t1 : (a == 1) = false := by simp; omega
  have t2 : (a == -1) = false := by simp; omega
  by_cases c2 : b = 1 ∨ b = -1
  · have hr : xor1 n a b = (n, -b * a) := by unfold xor1; rw [if_neg c1, if_pos c2]
    rw [hr]
    clear c1
    rcases c2 with rfl | rfl
    · have em : IntKind.i64.wrap (-1 * a) = -1 * a := IntWalk.i64_in _ (by omega)
      clear hr
      go_enter Tryz.func65, Tryz.ntmps65
      go_wp2_with fail
      refine bodyPost_ret (v := .tuple #[.agg #[.int .i64 n.ins, .slice A n.gs.length c], .int .i64 (-1 * a)]) (by simp [results, Tryz.results65, go_sem]) rfl (same_end h hF hA (-1 * a) ?_)
      exact ((Below.refl _ _).alloc (Nat.le_refl _) _).alloc (by simp) _
    · have em : IntKind.i64.wrap (1 * a) = 1 * a := IntWalk.i64_in _ (by omega)
      clear hr
      go_enter Tryz.func65, Tryz.ntmps65
      go_wp2_with fail
      refine bodyPost_ret (v := .tuple #[.agg #[.int .i64 n.ins, .slice A n.gs.length c], .int .i64 (- -1 * a)]) (by simp [results, Tryz.results65, go_sem]) rfl (same_end h hF hA (- -1 * a) ?_)
      exact ((Below.refl _ _).alloc (Nat.le_refl _) _).alloc (by simp) _
  have t3 : (b == 1) = false := by simp; omega
  have t4 : (b == -1) = false := by simp; omega
  by_cases c3 : a = b
  · have hr : xor1 n a b = (n, -1) := by unfold xor1; rw [if_neg c1, if_neg c2, if_pos c3]
    rw [hr]
    have t5 : (a == b) = true := by simp [c3]
    clear c1 c2 c3 hr
    · skip
      go_enter Tryz.func65, Tryz.ntmps65
      go_wp2_with fail
      refine bodyPost_ret (v := .tuple #[.agg #[.int .i64 n.ins, .slice A n.gs.length c], .int .i64 (-1)]) (by simp [results, Tryz.results65, go_sem]) rfl (same_end h hF hA (-1) ?_)
      exact ((Below.refl _ _).alloc (Nat.le_refl _) _).alloc (by simp) _
  have t5 : (a == b) = false := by simp [c3]
  by_cases c4 : a = -b
  · have hr : xor1 n a b = (n, 1) := by unfold xor1; rw [if_neg c1, if_neg c2, if_neg c3, if_pos c4]
    rw [hr]
    have t6 : (a == -b) = true := by simp [c4]
    clear c1 c2 c3 c4 hr
    · skip
      go_enter Tryz.func65, Tryz.ntmps65
      go_wp2_with fail
      refine bodyPost_ret (v := .tuple #[.agg #[.int .i64 n.ins, .slice A n.gs.length c], .int .i64 1]) (by simp [results, Tryz.results65, go_sem]) rfl (same_end h hF hA 1 ?_)
      exact ((Below.refl _ _).alloc (Nat.le_refl _) _).alloc (by simp) _
  have t6 : (a == -b) = false := by simp [c4]
  have hr : xor1 n a b = ((put n (if b.natAbs < a.natAbs then ⟨true, b.natAbs, a.natAbs⟩ else ⟨true, a.natAbs, b.natAbs⟩)).1, sgn a * sgn b * (put n (if b.natAbs < a.natAbs then ⟨true, b.natAbs, a.natAbs⟩ else ⟨true, a.natAbs, b.natAbs⟩)).2) := by
    unfold xor1; rw [if_neg c1, if_neg c2, if_neg c3, if_neg c4]
  rw [hr]
  clear c1 c2 c3 c4 hr
  have hW : Below w.heap.size w ((w.alloc (.cells #[.int .i64 n.ins, .slice A n.gs.length c] 29)).alloc (.cells #[.int .i64 0, .slice none 0 0] 29)) := ((Below.refl _ _).alloc (Nat.le_refl _) _).alloc (by simp) _
  by_cases sc : b.natAbs < a.natAbs
  · rw [if_pos sc]
    by_cases sa : a < 0 <;> by_cases sb : b < 0
    · have hs : sgn a * sgn b = 1 := by simp [sgn, sa, sb]
      rw [hs]
      go_enter Tryz.func65, Tryz.ntmps65
      go_wp2_with (first | (go_at_call 85; refine (l4Abs_any _ _ (by omega) (by omega)).mono ?_; rintro e w' ⟨rfl, rfl⟩) | fail)
      refine (l6Put_any F A c n ⟨true, b.natAbs, a.natAbs⟩ _ (h.below hW hF) (fun b' hb' => Nat.lt_of_lt_of_le (hF b' hb') hW.size) hn hA h0 h1).mono ?_
      rintro e w' ⟨A', c', rfl, hA', h', hb'⟩
      have hrg := put_range n ⟨true, b.natAbs, a.natAbs⟩ hn h0 h1
      generalize put n ⟨true, b.natAbs, a.natAbs⟩ = r at *
      have m1 : IntKind.i64.wrap (1 * r.2) = 1 * r.2 := IntWalk.i64_in _ (by omega)
      have m2 : IntKind.i64.wrap (-1 * r.2) = -1 * r.2 := IntWalk.i64_in _ (by omega)
      have m3 : IntKind.i64.wrap r.2 = r.2 := IntWalk.i64_in _ (by omega)
      have m4 : IntKind.i64.wrap (-r.2) = -r.2 := IntWalk.i64_in _ (by omega)
      obtain ⟨k5, k6, kf5, kf6⟩ := res_cells hb'
      have hlt : w.heap.size + 1 < w'.heap.size := by have := hb'.size; simp at this; omega
      have hne : w.heap.size + 1 ≠ w'.heap.size := by omega
      go_wp2_with fail
      obtain ⟨q0, q1⟩ := res_store (u0 := .int .i64 r.1.ins) (u1 := .slice A' r.1.gs.length c') (o := .cells #[.int .i64 r.1.ins, .slice A' r.1.gs.length c'] 29) k5 k6 hlt
      refine bodyPost_ret (v := .tuple #[.agg #[.int .i64 r.1.ins, .slice A' r.1.gs.length c'], .int .i64 r.2]) (by simp [results, Tryz.results65, go_sem, q0, q1]) rfl ?_
      rw [Int.one_mul]
      exact xor_end hW hF hA' h' hb' _
    · have hs : sgn a * sgn b = -1 := by simp [sgn, sa, sb]
      rw [hs]
      go_enter Tryz.func65, Tryz.ntmps65
      go_wp2_with (first | (go_at_call 85; refine (l4Abs_any _ _ (by omega) (by omega)).mono ?_; rintro e w' ⟨rfl, rfl⟩) | fail)
      refine (l6Put_any F A c n ⟨true, b.natAbs, a.natAbs⟩ _ (h.below hW hF) (fun b' hb' => Nat.lt_of_lt_of_le (hF b' hb') hW.size) hn hA h0 h1).mono ?_
      rintro e w' ⟨A', c', rfl, hA', h', hb'⟩
      have hrg := put_range n ⟨true, b.natAbs, a.natAbs⟩ hn h0 h1
      generalize put n ⟨true, b.natAbs, a.natAbs⟩ = r at *
      have m1 : IntKind.i64.wrap (1 * r.2) = 1 * r.2 := IntWalk.i64_in _ (by omega)
      have m2 : IntKind.i64.wrap (-1 * r.2) = -1 * r.2 := IntWalk.i64_in _ (by omega)
      have m3 : IntKind.i64.wrap r.2 = r.2 := IntWalk.i64_in _ (by omega)
      have m4 : IntKind.i64.wrap (-r.2) = -r.2 := IntWalk.i64_in _ (by omega)
      obtain ⟨k5, k6, kf5, kf6⟩ := res_cells hb'
      have hlt : w.heap.size + 1 < w'.heap.size := by have := hb'.size; simp at this; omega
      have hne : w.heap.size + 1 ≠ w'.heap.size := by omega
      go_wp2_with fail
      obtain ⟨q0, q1⟩ := res_store (u0 := .int .i64 r.1.ins) (u1 := .slice A' r.1.gs.length c') (o := .cells #[.int .i64 r.1.ins, .slice A' r.1.gs.length c'] 29) k5 k6 hlt
      refine bodyPost_ret (v := .tuple #[.agg #[.int .i64 r.1.ins, .slice A' r.1.gs.length c'], .int .i64 (-r.2)]) (by simp [results, Tryz.results65, go_sem, q0, q1]) rfl ?_
      rw [show (-1 : Int) * r.2 = -r.2 by omega]
      exact xor_end hW hF hA' h' hb' _
    · have hs : sgn a * sgn b = -1 := by simp [sgn, sa, sb]
      rw [hs]
      go_enter Tryz.func65, Tryz.ntmps65
      go_wp2_with (first | (go_at_call 85; refine (l4Abs_any _ _ (by omega) (by omega)).mono ?_; rintro e w' ⟨rfl, rfl⟩) | fail)
      refine (l6Put_any F A c n ⟨true, b.natAbs, a.natAbs⟩ _ (h.below hW hF) (fun b' hb' => Nat.lt_of_lt_of_le (hF b' hb') hW.size) hn hA h0 h1).mono ?_
      rintro e w' ⟨A', c', rfl, hA', h', hb'⟩
      have hrg := put_range n ⟨true, b.natAbs, a.natAbs⟩ hn h0 h1
      generalize put n ⟨true, b.natAbs, a.natAbs⟩ = r at *
      have m1 : IntKind.i64.wrap (1 * r.2) = 1 * r.2 := IntWalk.i64_in _ (by omega)
      have m2 : IntKind.i64.wrap (-1 * r.2) = -1 * r.2 := IntWalk.i64_in _ (by omega)
      have m3 : IntKind.i64.wrap r.2 = r.2 := IntWalk.i64_in _ (by omega)
      have m4 : IntKind.i64.wrap (-r.2) = -r.2 := IntWalk.i64_in _ (by omega)
      obtain ⟨k5, k6, kf5, kf6⟩ := res_cells hb'
      have hlt : w.heap.size + 1 < w'.heap.size := by have := hb'.size; simp at this; omega
      have hne : w.heap.size + 1 ≠ w'.heap.size := by omega
      go_wp2_with fail
      obtain ⟨q0, q1⟩ := res_store (u0 := .int .i64 r.1.ins) (u1 := .slice A' r.1.gs.length c') (o := .cells #[.int .i64 r.1.ins, .slice A' r.1.gs.length c'] 29) k5 k6 hlt
      refine bodyPost_ret (v := .tuple #[.agg #[.int .i64 r.1.ins, .slice A' r.1.gs.length c'], .int .i64 (-r.2)]) (by simp [results, Tryz.results65, go_sem, q0, q1]) rfl ?_
      rw [show (-1 : Int) * r.2 = -r.2 by omega]
      exact xor_end hW hF hA' h' hb' _
    · have hs : sgn a * sgn b = 1 := by simp [sgn, sa, sb]
      rw [hs]
      go_enter Tryz.func65, Tryz.ntmps65
      go_wp2_with (first | (go_at_call 85; refine (l4Abs_any _ _ (by omega) (by omega)).mono ?_; rintro e w' ⟨rfl, rfl⟩) | fail)
      refine (l6Put_any F A c n ⟨true, b.natAbs, a.natAbs⟩ _ (h.below hW hF) (fun b' hb' => Nat.lt_of_lt_of_le (hF b' hb') hW.size) hn hA h0 h1).mono ?_
      rintro e w' ⟨A', c', rfl, hA', h', hb'⟩
      have hrg := put_range n ⟨true, b.natAbs, a.natAbs⟩ hn h0 h1
      generalize put n ⟨true, b.natAbs, a.natAbs⟩ = r at *
      have m1 : IntKind.i64.wrap (1 * r.2) = 1 * r.2 := IntWalk.i64_in _ (by omega)
      have m2 : IntKind.i64.wrap (-1 * r.2) = -1 * r.2 := IntWalk.i64_in _ (by omega)
      have m3 : IntKind.i64.wrap r.2 = r.2 := IntWalk.i64_in _ (by omega)
      have m4 : IntKind.i64.wrap (-r.2) = -r.2 := IntWalk.i64_in _ (by omega)
      obtain ⟨k5, k6, kf5, kf6⟩ := res_cells hb'
      have hlt : w.heap.size + 1 < w'.heap.size := by have := hb'.size; simp at this; omega
      have hne : w.heap.size + 1 ≠ w'.heap.size := by omega
      go_wp2_with fail
      obtain ⟨q0, q1⟩ := res_store (u0 := .int .i64 r.1.ins) (u1 := .slice A' r.1.gs.length c') (o := .cells #[.int .i64 r.1.ins, .slice A' r.1.gs.length c'] 29) k5 k6 hlt
      refine bodyPost_ret (v := .tuple #[.agg #[.int .i64 r.1.ins, .slice A' r.1.gs.length c'], .int .i64 r.2]) (by simp [results, Tryz.results65, go_sem, q0, q1]) rfl ?_
      rw [Int.one_mul]
      exact xor_end hW hF hA' h' hb' _
  · rw [if_neg sc]
    by_cases sa : a < 0 <;> by_cases sb : b < 0
    · have hs : sgn a * sgn b = 1 := by simp [sgn, sa, sb]
      rw [hs]
      go_enter Tryz.func65, Tryz.ntmps65
      go_wp2_with (first | (go_at_call 85; refine (l4Abs_any _ _ (by omega) (by omega)).mono ?_; rintro e w' ⟨rfl, rfl⟩) | fail)
      refine (l6Put_any F A c n ⟨true, a.natAbs, b.natAbs⟩ _ (h.below hW hF) (fun b' hb' => Nat.lt_of_lt_of_le (hF b' hb') hW.size) hn hA h0 h1).mono ?_
      rintro e w' ⟨A', c', rfl, hA', h', hb'⟩
      have hrg := put_range n ⟨true, a.natAbs, b.natAbs⟩ hn h0 h1
      generalize put n ⟨true, a.natAbs, b.natAbs⟩ = r at *
      have m1 : IntKind.i64.wrap (1 * r.2) = 1 * r.2 := IntWalk.i64_in _ (by omega)
      have m2 : IntKind.i64.wrap (-1 * r.2) = -1 * r.2 := IntWalk.i64_in _ (by omega)
      have m3 : IntKind.i64.wrap r.2 = r.2 := IntWalk.i64_in _ (by omega)
      have m4 : IntKind.i64.wrap (-r.2) = -r.2 := IntWalk.i64_in _ (by omega)
      obtain ⟨k5, k6, kf5, kf6⟩ := res_cells hb'
      have hlt : w.heap.size + 1 < w'.heap.size := by have := hb'.size; simp at this; omega
      have hne : w.heap.size + 1 ≠ w'.heap.size := by omega
      go_wp2_with fail
      obtain ⟨q0, q1⟩ := res_store (u0 := .int .i64 r.1.ins) (u1 := .slice A' r.1.gs.length c') (o := .cells #[.int .i64 r.1.ins, .slice A' r.1.gs.length c'] 29) k5 k6 hlt
      refine bodyPost_ret (v := .tuple #[.agg #[.int .i64 r.1.ins, .slice A' r.1.gs.length c'], .int .i64 r.2]) (by simp [results, Tryz.results65, go_sem, q0, q1]) rfl ?_
      rw [Int.one_mul]
      exact xor_end hW hF hA' h' hb' _
    · have hs : sgn a * sgn b = -1 := by simp [sgn, sa, sb]
      rw [hs]
      go_enter Tryz.func65, Tryz.ntmps65
      go_wp2_with (first | (go_at_call 85; refine (l4Abs_any _ _ (by omega) (by omega)).mono ?_; rintro e w' ⟨rfl, rfl⟩) | fail)
      refine (l6Put_any F A c n ⟨true, a.natAbs, b.natAbs⟩ _ (h.below hW hF) (fun b' hb' => Nat.lt_of_lt_of_le (hF b' hb') hW.size) hn hA h0 h1).mono ?_
      rintro e w' ⟨A', c', rfl, hA', h', hb'⟩
      have hrg := put_range n ⟨true, a.natAbs, b.natAbs⟩ hn h0 h1
      generalize put n ⟨true, a.natAbs, b.natAbs⟩ = r at *
      have m1 : IntKind.i64.wrap (1 * r.2) = 1 * r.2 := IntWalk.i64_in _ (by omega)
      have m2 : IntKind.i64.wrap (-1 * r.2) = -1 * r.2 := IntWalk.i64_in _ (by omega)
      have m3 : IntKind.i64.wrap r.2 = r.2 := IntWalk.i64_in _ (by omega)
      have m4 : IntKind.i64.wrap (-r.2) = -r.2 := IntWalk.i64_in _ (by omega)
      obtain ⟨k5, k6, kf5, kf6⟩ := res_cells hb'
      have hlt : w.heap.size + 1 < w'.heap.size := by have := hb'.size; simp at this; omega
      have hne : w.heap.size + 1 ≠ w'.heap.size := by omega
      go_wp2_with fail
      obtain ⟨q0, q1⟩ := res_store (u0 := .int .i64 r.1.ins) (u1 := .slice A' r.1.gs.length c') (o := .cells #[.int .i64 r.1.ins, .slice A' r.1.gs.length c'] 29) k5 k6 hlt
      refine bodyPost_ret (v := .tuple #[.agg #[.int .i64 r.1.ins, .slice A' r.1.gs.length c'], .int .i64 (-r.2)]) (by simp [results, Tryz.results65, go_sem, q0, q1]) rfl ?_
      rw [show (-1 : Int) * r.2 = -r.2 by omega]
      exact xor_end hW hF hA' h' hb' _
    · have hs : sgn a * sgn b = -1 := by simp [sgn, sa, sb]
      rw [hs]
      go_enter Tryz.func65, Tryz.ntmps65
      go_wp2_with (first | (go_at_call 85; refine (l4Abs_any _ _ (by omega) (by omega)).mono ?_; rintro e w' ⟨rfl, rfl⟩) | fail)
      refine (l6Put_any F A c n ⟨true, a.natAbs, b.natAbs⟩ _ (h.below hW hF) (fun b' hb' => Nat.lt_of_lt_of_le (hF b' hb') hW.size) hn hA h0 h1).mono ?_
      rintro e w' ⟨A', c', rfl, hA', h', hb'⟩
      have hrg := put_range n ⟨true, a.natAbs, b.natAbs⟩ hn h0 h1
      generalize put n ⟨true, a.natAbs, b.natAbs⟩ = r at *
      have m1 : IntKind.i64.wrap (1 * r.2) = 1 * r.2 := IntWalk.i64_in _ (by omega)
      have m2 : IntKind.i64.wrap (-1 * r.2) = -1 * r.2 := IntWalk.i64_in _ (by omega)
      have m3 : IntKind.i64.wrap r.2 = r.2 := IntWalk.i64_in _ (by omega)
      have m4 : IntKind.i64.wrap (-r.2) = -r.2 := IntWalk.i64_in _ (by omega)
      obtain ⟨k5, k6, kf5, kf6⟩ := res_cells hb'
      have hlt : w.heap.size + 1 < w'.heap.size := by have := hb'.size; simp at this; omega
      have hne : w.heap.size + 1 ≠ w'.heap.size := by omega
      go_wp2_with fail
      obtain ⟨q0, q1⟩ := res_store (u0 := .int .i64 r.1.ins) (u1 := .slice A' r.1.gs.length c') (o := .cells #[.int .i64 r.1.ins, .slice A' r.1.gs.length c'] 29) k5 k6 hlt
      refine bodyPost_ret (v := .tuple #[.agg #[.int .i64 r.1.ins, .slice A' r.1.gs.length c'], .int .i64 (-r.2)]) (by simp [results, Tryz.results65, go_sem, q0, q1]) rfl ?_
      rw [show (-1 : Int) * r.2 = -r.2 by omega]
      exact xor_end hW hF hA' h' hb' _
    · have hs : sgn a * sgn b = 1 := by simp [sgn, sa, sb]
      rw [hs]
      go_enter Tryz.func65, Tryz.ntmps65
      go_wp2_with (first | (go_at_call 85; refine (l4Abs_any _ _ (by omega) (by omega)).mono ?_; rintro e w' ⟨rfl, rfl⟩) | fail)
      refine (l6Put_any F A c n ⟨true, a.natAbs, b.natAbs⟩ _ (h.below hW hF) (fun b' hb' => Nat.lt_of_lt_of_le (hF b' hb') hW.size) hn hA h0 h1).mono ?_
      rintro e w' ⟨A', c', rfl, hA', h', hb'⟩
      have hrg := put_range n ⟨true, a.natAbs, b.natAbs⟩ hn h0 h1
      generalize put n ⟨true, a.natAbs, b.natAbs⟩ = r at *
      have m1 : IntKind.i64.wrap (1 * r.2) = 1 * r.2 := IntWalk.i64_in _ (by omega)
      have m2 : IntKind.i64.wrap (-1 * r.2) = -1 * r.2 := IntWalk.i64_in _ (by omega)
      have m3 : IntKind.i64.wrap r.2 = r.2 := IntWalk.i64_in _ (by omega)
      have m4 : IntKind.i64.wrap (-r.2) = -r.2 := IntWalk.i64_in _ (by omega)
      obtain ⟨k5, k6, kf5, kf6⟩ := res_cells hb'
      have hlt : w.heap.size + 1 < w'.heap.size := by have := hb'.size; simp at this; omega
      have hne : w.heap.size + 1 ≠ w'.heap.size := by omega
      go_wp2_with fail
      obtain ⟨q0, q1⟩ := res_store (u0 := .int .i64 r.1.ins) (u1 := .slice A' r.1.gs.length c') (o := .cells #[.int .i64 r.1.ins, .slice A' r.1.gs.length c'] 29) k5 k6 hlt
      refine bodyPost_ret (v := .tuple #[.agg #[.int .i64 r.1.ins, .slice A' r.1.gs.length c'], .int .i64 r.2]) (by simp [results, Tryz.results65, go_sem, q0, q1]) rfl ?_
      rw [Int.one_mul]
      exact xor_end hW hF hA' h' hb' _
end Go.Proofs.YtjghcaghigebjaaGreatDoor

/-! The program's circuits: nodes, turned, has, gate. -/
namespace Go.Proofs.YtjghcaghigebjaaGreatDoor
open Go Go.RowKit Go.Maps

theorem zero_int (w : World) : (zeroValue 3).run Tryz.prog w = .ok (.int .i64 0) w := by kernel_rfl
theorem nodes_any (A : Option Addr) (c n : Nat) (ins k : Int) (w : World) (h0 : -1000000 ≤ ins) (h1 : ins ≤ 1000000) (k0 : 0 ≤ k) (k1 : k ≤ 1048576) :
    Calls Tryz.prog 119 #[.agg #[.int .i64 ins, .slice A n c], .int .i64 k] w fun e w' => e = .returned (.int .i64 (1 + ins + k)) ∧ Below w.heap.size w w' := by
  go_enter Tryz.func119, Tryz.ntmps119
  go_wp2
  go_ret
  exact ⟨rfl, (Below.refl _ _).alloc (Nat.le_refl _) _⟩
theorem turned_any (s : Int) (q : Bool) (w : World) (h0 : -9223372036854775808 < s) (h1 : s ≤ 9223372036854775807) :
    Calls Tryz.prog 141 #[.int .i64 s, .bool q] w fun e w' => e = .returned (.int .i64 (if q then -s else s)) ∧ w = w' := by
  cases q
  all_goals
    go_enter Tryz.func141, Tryz.ntmps141
    go_wp2
    go_ret
    exact ⟨rfl, rfl⟩


/-- Block r is a circuit: a net whose gates are its own, and a map that knows the gates ks. -/
def Circ (lo : Nat) (w : World) (r : Nat) (n : N) (ks : List G) : Prop :=
  ∃ A c b, w.heap[r]? = some (.cells #[.int .i64 n.ins, .slice A n.gs.length c, .map (some b)] 119 (0, 0)) ∧ lo ≤ r ∧ lo ≤ b ∧ OwnGs w lo (.slice A n.gs.length c) n.gs ∧ KnownAt w b n.ins ks
theorem KnownAt.keep {w w' : World} {b : Nat} {ins : Int} {gs : List G} (h : KnownAt w b ins gs) (hk : w'.heap[b]? = w.heap[b]?) : KnownAt w' b ins gs := by
  obtain ⟨D, ⟨es, clock, hb, hr⟩, hD⟩ := h
  exact ⟨D, ⟨es, clock, hk.trans hb, hr⟩, hD⟩
theorem KnownAt.lt {w : World} {b : Nat} {ins : Int} {gs : List G} (h : KnownAt w b ins gs) : b < w.heap.size := h.choose_spec.1.lt
theorem Circ.up {lo : Nat} {w w' : World} {r : Nat} {n : N} {ks : List G} (h : Circ lo w r n ks) (hb : Below w.heap.size w w') : Circ lo w' r n ks := by
  obtain ⟨A, c, b, h1, h2, h3, h4, h5⟩ := h
  exact ⟨A, c, b, (hb.block r (lt_of_block h1)).trans h1, h2, h3, h4.up hb, h5.keep (hb.block b h5.lt)⟩
theorem Circ.lt {lo : Nat} {w : World} {r : Nat} {n : N} {ks : List G} (h : Circ lo w r n ks) : lo ≤ r ∧ r < w.heap.size := by
  obtain ⟨A, c, b, h1, h2, _⟩ := h
  exact ⟨h2, lt_of_block h1⟩

/-- What the map says of a gate, in every world that has it. -/
theorem KnownAt.look {w : World} {b : Nat} {ins : Int} {gs : List G} (h : KnownAt w b ins gs) (g : G) (hg : okGi g) (ok : Bool) :
    ∃ c : Int, (g ∈ gs → c = 2 + ins + gs.idxOf g) ∧ ∀ W : World, W.heap[b]? = w.heap[b]? → (Instr.lookup 117 (.map (some b)) (.agg #[.bool g.x, .int .i64 g.a, .int .i64 g.b]) ok).run Tryz.prog W = .ok (if ok then .tuple #[.int .i64 c, .bool (decide (g ∈ gs))] else .int .i64 c) W := by
  obtain ⟨D, hown, hD⟩ := h
  have hz := zero_int
  have hat : ∃ c : Int, D.atKey (keyG g) (.lit (.int .i64 0)) = .lit (.int .i64 c) := by
    obtain ⟨c, _, hc, _⟩ := hown.lookup_int gate_keyed Tryz.underlying117 Tryz.underlying3 (hz w) (keyG_ok g hg)
    exact ⟨c, hc⟩
  obtain ⟨c, hc⟩ := hat
  refine ⟨c, fun hm => ?_, fun W hW => ?_⟩
  · have := hD.at_ g hg hm
    rw [hc] at this
    injection this with this
    injection this
  · have hownW : W.ownsMap Tryz.prog 88 (plainElem Tryz.prog 3) b gs.length D := by
      obtain ⟨es, clock, hb, hr⟩ := hown
      exact ⟨es, clock, hW.trans hb, hr⟩
    cases ok
    · obtain ⟨c', hrun, hc', _⟩ := hownW.lookup_int gate_keyed Tryz.underlying117 Tryz.underlying3 (hz W) (keyG_ok g hg)
      rw [hc] at hc'
      simp only [DataW.lit.injEq, Lit.int.injEq, true_and] at hc'
      rw [hc']
      exact hrun
    · obtain ⟨v, ps, hrun, hv⟩ := hownW.look_ok gate_keyed Tryz.underlying117 (hz W) (plainElem_int (H := Unit) Tryz.underlying3 (by decide)) (keyG_ok g hg)
      rw [hc] at hv
      obtain ⟨c', rfl, hc', _⟩ := plainElem_int_inv Tryz.underlying3 hv
      simp only [Prod.mk.injEq] at hc'
      obtain ⟨hc', _⟩ := hc'
      simp only [DataW.lit.injEq, Lit.int.injEq, true_and] at hc'
      rw [hc']
      have hh : Maps.has D (keyG g) = decide (g ∈ gs) := hD.has g hg
      rw [← hh]
      exact hrun


/-- What the finding of a gate leaves. -/
theorem own_below_set {w : World} {lo r o : Nat} {u : Value} {A : Option Addr} {c : Nat} {xs : List G} (h : OwnGs w lo (.slice A xs.length c) xs) (hne : some r ≠ (Value.slice A xs.length c).ownBlock) : OwnGs (w.setCell ⟨r, o, none⟩ u) lo (.slice A xs.length c) xs :=
  h.kept (only_setCell (World.grownBy.refl _ _) o u) (.inr (fun e => hne e.symm))
/-- Objects that a circuit is made of: its cells, rows of gates, maps. -/
def CK (o : Obj) : Prop := (∃ cs fr, o = .cells cs 119 fr) ∨ (∃ cs fr, o = .cells cs 88 fr) ∨ ∃ es ck, o = .map es ck
/-- What was there below lo stays, and so does what is not of a circuit. -/
structure BelK (lo : Nat) (w w' : World) : Prop where
  bel : Below lo w w'
  kd : ∀ (i : Nat) (o : Obj), w.heap[i]? = some o → ¬ CK o → w'.heap[i]? = some o
theorem BelK.refl (lo : Nat) (w : World) : BelK lo w w := ⟨Below.refl _ _, fun _ _ h _ => h⟩
theorem BelK.of {lo : Nat} {w w' : World} (h : Below w.heap.size w w') (hl : lo ≤ w.heap.size) : BelK lo w w' := ⟨h.mono hl, fun i _ hi _ => (h.block i (Array.getElem?_eq_some_iff.1 hi).1).trans hi⟩
theorem BelK.trans {lo : Nat} {a b c : World} (h : BelK lo a b) (k : BelK lo b c) : BelK lo a c := ⟨h.bel.trans k.bel, fun i o hi hc => k.kd i o (h.kd i o hi hc) hc⟩
theorem BelK.drewN {lo : Nat} {a b : World} (h : BelK lo a b) (n : Nat) : BelK lo a (b.drewN n) := ⟨below_drewN h.bel n, h.kd⟩
theorem BelK.grown {lo g : Nat} {a w w' : World} (h : BelK lo a w) (hg : w.grownBy w' (some g)) (hlo : lo ≤ w.heap.size) (hgl : lo ≤ g) (hk : ∃ o, w.heap[g]? = some o ∧ CK o) : BelK lo a w' :=
  ⟨h.bel.grown hg hlo (fun k e => by injection e with e; omega), fun i o hi hc => by
    have h1 := h.kd i o hi hc
    refine (hg.block i (Array.getElem?_eq_some_iff.1 h1).1 fun e => ?_).trans h1
    injection e with e
    obtain ⟨o', ho', hck⟩ := hk
    rw [← e, h1] at ho'
    injection ho' with ho'
    rw [ho'] at hc
    exact hc hck⟩
theorem own_ck {w : World} {lo : Nat} {A : Option Addr} {c g : Nat} {xs : List G} (h : OwnGs w lo (.slice A xs.length c) xs) (e : (Value.slice A xs.length c).ownBlock = some g) : ∃ o, w.heap[g]? = some o ∧ CK o := by
  rcases h.2 with ⟨e', _⟩ | ⟨g', cap, cur, e', _, hg, _⟩
  · rw [e'] at e; cases e
  · rw [e'] at e
    injection e with e
    subst e
    exact ⟨_, hg, .inr (.inl ⟨_, _, rfl⟩)⟩
def RetGate (lo : Nat) (w : World) (r : Nat) (n : N) (g : G) (e : Ending) (w' : World) : Prop :=
  e = .returned (.int .i64 (put n g).2) ∧ BelK lo w w' ∧ ((put n g).2 ≠ 0 → Circ lo w' r (put n g).1 (put n g).1.gs)
def sortG (g : G) : G := if g.b.natAbs < g.a.natAbs then ⟨g.x, g.b, g.a⟩ else g
/-- append of one gate onto the circuit's row: the row's block, and no other old one, may turn. -/
theorem wpList_append_gate {Q : Exit → Act → World → Prop} {ops : Array Oper} {rest : List Oper} {o : Oper} {a : Act} {w : World} {lo : Nat} {A : Option Addr} {c : Nat} {xs ys : List G} {g : G} {b : Nat} {fr : Nat × Nat} (hgd : o.guard = none) (s x : Operand)
    (ho : o.op = .call { callee := .builtin .append, args := #[s, x], argTypes := #[27, 27] }) (hs : a.eval s = .slice A xs.length c) (hx : a.eval x = .slice (some ⟨b, 0, none⟩) 1 1)
    (hown : OwnGs w lo (.slice A xs.length c) xs) (hb : w.heap[b]? = some (.cells #[.bool g.x, .int .i64 g.a, .int .i64 g.b] 88 fr)) (hn : xs.length ≤ 1048576) (hlo : lo ≤ w.heap.size) (hy : ys = xs ++ [g])
    (h : ∀ A' c' w', OwnGs w' lo (.slice A' ys.length c') ys → w.grownBy w' (Value.slice A xs.length c).ownBlock → wpList Tryz.prog ops Q rest (a.put o.dst (.slice A' ys.length c')) w') : wpList Tryz.prog ops Q (o :: rest) a w := by
  obtain ⟨i0, hi0, hz0, hz1, hz2⟩ := info_parts gate_info
  have hl : ys.length = xs.length + 1 := by rw [hy]; simp
  have hc : ys.flatMap gcells = xs.flatMap gcells ++ gcells g := by rw [hy]; simp
  refine wpList_append_src (P := Tryz.prog) w hgd s x 27 ho lo 88 i0 _ 3 24 Tryz.underlying27 hi0 hz0 hz1 hz2 (by rfl) (by omega) _ xs.length (xs.flatMap gcells) hs hown (some ⟨b, 0, none⟩) 1 1 (gcells g) hx (src_block hb rfl) (gcells_one1 g) ys.length hl.symm (by unfold maxLen; omega) (by omega) hlo (by simp) ?_
  intro A' c' w' h2 _ h3
  exact h A' c' w' (by unfold OwnGs; rw [hc]; exact h2) h3
/-- The row's block is no circuit's block, and no map's. -/
theorem row_ne {w : World} {lo : Nat} {A : Option Addr} {c : Nat} {xs : List G} (h : OwnGs w lo (.slice A xs.length c) xs) (r : Nat) (o : Obj) (hr : w.heap[r]? = some o) (ho : ∀ cs fr, o ≠ .cells cs 88 fr) : some r ≠ (Value.slice A xs.length c).ownBlock := by
  rcases h.2 with ⟨e, _⟩ | ⟨g, cap, cur, e, _, hg, _⟩
  · rw [e]; intro h; cases h
  · rw [e]
    intro h
    injection h with h
    subst h
    rw [hr] at hg
    injection hg with hg
    exact ho _ _ hg

/-- The fact of the append: the row is longer; whatever is not the row's block is as it was. -/
def Fact.grow (lo : Nat) (W : World) (v0 : Value) (xs : List G) : Fact :=
  .of (fun v x => ∃ A c, v = .slice A xs.length c ∧ OwnGs x lo (.slice A xs.length c) xs ∧ W.heap.size ≤ x.heap.size ∧ (∀ b, b < W.heap.size → some b ≠ v0.ownBlock → x.heap[b]? = W.heap[b]?) ∧ x.os = W.os ∧ x.tape = W.tape ∧ x.output = W.output)
    fun _ x x' ⟨A, c, h1, h2, h3, h4, h5, h6, h7⟩ hb => ⟨A, c, h1, h2.up hb, Nat.le_trans h3 hb.size, fun b hlt hne => (hb.block b (by omega)).trans (h4 b hlt hne), hb.os.trans h5, hb.tape.trans h6, hb.output.trans h7⟩

set_option maxRecDepth 100000 in
set_option maxHeartbeats 4000000 in
/-- The circuit with the longer row, before the map knows. -/
def Fact.circ (lo : Nat) (W : World) (r S : Nat) (m : N) (ks : List G) : Fact :=
  .of (fun _ x => Circ lo x r m ks ∧ x.heap[S]? = W.heap[S]? ∧ S < x.heap.size ∧ BelK lo W x) fun _ x x' ⟨h1, h2, h3, h4⟩ hb =>
    ⟨h1.up hb, (hb.block S h3).trans h2, Nat.lt_of_lt_of_le h3 hb.size, h4.trans (.of hb (Nat.le_trans (Nat.le_of_lt (Nat.lt_of_le_of_lt h1.lt.1 h1.lt.2)) (Nat.le_refl _)))⟩
set_option maxRecDepth 100000 in
set_option maxHeartbeats 4000000 in
theorem gate_any (lo r : Nat) (n : N) (g : G) (w : World) (h : Circ lo w r n n.gs) (hn : n.gs.length ≤ 600) (h0 : 0 ≤ n.ins) (h1 : n.ins ≤ 8) (ha : -2000000000 ≤ g.a ∧ g.a ≤ 2000000000) (hb : -2000000000 ≤ g.b ∧ g.b ≤ 2000000000) :
    Calls Tryz.prog 140 #[.pointer (some ⟨r, 0, none⟩), .agg #[.bool g.x, .int .i64 g.a, .int .i64 g.b]] w (RetGate lo w r n (sortG g)) := by
  obtain ⟨gx, ga, gb⟩ := g
  obtain ⟨ha0, ha1⟩ := ha
  obtain ⟨hb0, hb1⟩ := hb
  dsimp only at ha0 ha1 hb0 hb1
  obtain ⟨A, c, b, hr, hrlo, hblo, hown, hkn⟩ := h
  have hrlt := lt_of_block hr
  have hblt := hkn.lt
  have hX : Below w.heap.size w (w.alloc (.cells #[.bool gx, .int .i64 ga, .int .i64 gb] 88)) := (Below.refl _ _).alloc (Nat.le_refl _) _
  have hXS : (w.alloc (.cells #[.bool gx, .int .i64 ga, .int .i64 gb] 88)).heap[w.heap.size]? = some (.cells #[.bool gx, .int .i64 ga, .int .i64 gb] 88 (0, 0)) := heap_alloc_new _ _
  have hneS : some w.heap.size ≠ (Value.slice A n.gs.length c).ownBlock := by
    intro e
    have := (hown.lt w.heap.size e.symm).2
    omega
  by_cases hs : gb.natAbs < ga.natAbs
  · rw [show sortG ⟨gx, ga, gb⟩ = ⟨gx, gb, ga⟩ by unfold sortG; rw [if_pos hs]]
    go_enter Tryz.func140, Tryz.ntmps140
    go_wp2
    go_quiet ((go_at_call 113; with_reducible exact quiet_left (node_any _ _ (by omega) (by omega))))
    go_wp2
    have hW2 : Below w.heap.size w ((((w.alloc (.cells #[.bool gx, .int .i64 ga, .int .i64 gb] 88)).drewN nq).setCell ⟨w.heap.size, 1, none⟩ (.int .i64 gb)).setCell ⟨w.heap.size, 2, none⟩ (.int .i64 ga)) := below_set (below_set (below_drewN hX _) (Nat.le_refl _) _) (Nat.le_refl _) _
    have hS2 : ((((w.alloc (.cells #[.bool gx, .int .i64 ga, .int .i64 gb] 88)).drewN nq).setCell ⟨w.heap.size, 1, none⟩ (.int .i64 gb)).setCell ⟨w.heap.size, 2, none⟩ (.int .i64 ga)).heap[w.heap.size]? = some (.cells #[.bool gx, .int .i64 gb, .int .i64 ga] 88 (0, 0)) := by
      rw [heap_set_same _ _ _ _ _ _ (heap_set_same _ _ _ _ _ _ (show ((w.alloc (.cells #[.bool gx, .int .i64 ga, .int .i64 gb] 88)).drewN nq).heap[w.heap.size]? = _ from hXS))]
      rfl
    generalize ((((w.alloc (.cells #[.bool gx, .int .i64 ga, .int .i64 gb] 88)).drewN nq).setCell ⟨w.heap.size, 1, none⟩ (.int .i64 gb)).setCell ⟨w.heap.size, 2, none⟩ (.int .i64 ga)) = W2 at *
    have hokg : okGi ⟨gx, gb, ga⟩ := by unfold okGi; dsimp only; omega
    have hr2 := (hW2.block r hrlt).trans hr
    have hown2 := own_below hown hW2 (Nat.le_refl _)
    have hown2 : OwnGs W2 lo (.slice A n.gs.length c) n.gs := hown2
    have hkn2 := hkn.keep (hW2.block b hblt)
    have hlo2 : lo ≤ W2.heap.size := Nat.le_trans (Nat.le_trans hrlo (Nat.le_of_lt hrlt)) hW2.size
    have hBel : BelK lo w W2 := .of hW2 (Nat.le_trans hrlo (Nat.le_of_lt hrlt))
    have hSlt : w.heap.size < W2.heap.size := lt_of_block hS2
    obtain ⟨cc, hcc, hlook⟩ := hkn2.look ⟨gx, gb, ga⟩ hokg true
    have hl : ∀ m, (Instr.lookup 117 (.map (some b)) (.agg #[.bool gx, .int .i64 gb, .int .i64 ga]) true).run Tryz.prog (W2.drewN m) = .ok (.tuple #[.int .i64 cc, .bool (decide ((⟨gx, gb, ga⟩ : G) ∈ n.gs))]) (W2.drewN m) := fun m => hlook (W2.drewN m) rfl
    have z0 : W2.cell? ⟨r, 0, none⟩ = some (.int .i64 n.ins) := (cell_of_block hr2 0).1
    have z1 : W2.cell? ⟨r, 1, none⟩ = some (.slice A n.gs.length c) := (cell_of_block hr2 1).1
    have z2 : W2.cell? ⟨r, 2, none⟩ = some (.map (some b)) := (cell_of_block hr2 2).1
    have y0 : W2.cell? ⟨w.heap.size, 0, none⟩ = some (.bool gx) := (cell_of_block hS2 0).1
    have y1 : W2.cell? ⟨w.heap.size, 1, none⟩ = some (.int .i64 gb) := (cell_of_block hS2 1).1
    have y2 : W2.cell? ⟨w.heap.size, 2, none⟩ = some (.int .i64 ga) := (cell_of_block hS2 2).1
    have hr2H := Lib.hid hr2
    have hS2H := Lib.hid hS2
    clear hr hr2 hS2 hlook hXS hkn hs
    have hokv : okGi ⟨gx, gb, ga⟩ := hokg
    have HOK := Lib.hid hokv
    clear hokv
    generalize hg : (⟨gx, gb, ga⟩ : G) = g at hokg hcc hl ⊢
    have HG := Lib.hid hg
    clear hg
    by_cases hm : g ∈ n.gs
    · have HP := Lib.hid (put_mem hm)
      have HC := Lib.hid (hcc hm)
      rw [decide_eq_true hm] at hl
      clear hm hcc
      go_quiet (fail)
      clear hl z0 z1 z2 y0 y1 y2
      go_wp2
      go_ret
      exact ⟨ret_int (by rw [HG.out, HP.out, HC.out]), hBel.drewN _, fun _ => by rw [HG.out, HP.out]; exact ⟨A, c, b, hr2H.out, hrlo, hblo, hown2, hkn2⟩⟩
    have HM := Lib.hid hm
    rw [decide_eq_false hm] at hl
    clear hm hcc
    by_cases h6 : 600 ≤ n.gs.length
    · have HP := Lib.hid (put_full HM.out h6)
      have h6b : ((n.gs.length : Int) == 600) = true := by simp; omega
      clear h6
      go_quiet (fail)
      clear hl
      go_wp2
      go_ret
      exact ⟨ret_int (by rw [HG.out, HP.out]), hBel.drewN _, fun h9 => absurd (by rw [HG.out, HP.out]) h9⟩
    have HP := Lib.hid (put_new HM.out h6)
    have h6b : ((n.gs.length : Int) == 600) = false := by simp; omega
    go_quiet (fail)
    clear hl
    go_wp2
    clear h6b
    have w3z1 : (W2.drewN nq).cell? ⟨r, 1, none⟩ = some (.slice A n.gs.length c) := z1
    have w3y0 : (W2.drewN nq).cell? ⟨w.heap.size, 0, none⟩ = some (.bool gx) := y0
    have w3y1 : (W2.drewN nq).cell? ⟨w.heap.size, 1, none⟩ = some (.int .i64 gb) := y1
    have w3y2 : (W2.drewN nq).cell? ⟨w.heap.size, 2, none⟩ = some (.int .i64 ga) := y2
    have hr3H := Lib.hid (show (W2.drewN nq).heap[r]? = _ from hr2H.out)
    have hS3H := Lib.hid (show (W2.drewN nq).heap[w.heap.size]? = _ from hS2H.out)
    have hown3 : OwnGs (W2.drewN nq) lo (.slice A n.gs.length c) n.gs := hown2
    have hkn3 : KnownAt (W2.drewN nq) b n.ins n.gs := hkn2
    have hBel3 : BelK lo w (W2.drewN nq) := hBel.drewN _
    have hlo3 : lo ≤ (W2.drewN nq).heap.size := hlo2
    have hS3 : w.heap.size < (W2.drewN nq).heap.size := hSlt
    clear z0 z1 z2 y0 y1 y2 hr2H hS2H hown2 hkn2 hBel hlo2 hSlt hW2
    generalize W2.drewN nq = W3 at *
    have d1 := Later.cell w3z1
    have q0 := Later.cell w3y0
    have q1 := Later.cell w3y1
    have q2 := Later.cell w3y2
    have hner := row_ne hown3 r _ hr3H.out (fun cs fr e => by injection e with _ e2 _; revert e2; decide)
    have hneb : some b ≠ (Value.slice A n.gs.length c).ownBlock := by
      obtain ⟨D, ⟨es, clock, hbb, _⟩, _⟩ := hkn3
      exact row_ne hown3 b _ hbb (fun cs fr e => by cases e)
    obtain ⟨ys, hys⟩ : ∃ ys, ys = n.gs ++ [g] := ⟨_, rfl⟩
    have HY := Lib.hid hys
    have HYL := Lib.hid (show ys.length = n.gs.length + 1 by rw [hys]; simp)
    clear hys
    refine wp_region_shares [[], [], [(1, 39)], [(2, 40)], [(3, 41)], [(4, 42)], [], [(6, 44)], [(5, 43), (7, 45)], [(0, 38)], [(9, 47)], [(10, 48)], [(11, 49), (8, 46)]]
      [.eq (.pointer (some ⟨r, 0, none⟩)), .eq (.pointer (some ⟨r, 0, none⟩)), .eq (.pointer (some ⟨r, 0, none⟩)), .eq (.pointer (some ⟨r, 0, none⟩)), .eq (.pointer (some ⟨r, 1, none⟩)), .eq (.slice A n.gs.length c), .eq (.agg #[.bool gx, .int .i64 gb, .int .i64 ga]), .lit 88 1 #[.bool gx, .int .i64 gb, .int .i64 ga], Fact.grow lo W3 (.slice A n.gs.length c) ys, .eq (.pointer (some ⟨r, 0, none⟩)), .eq (.pointer (some ⟨r, 0, none⟩)), .eq (.pointer (some ⟨r, 1, none⟩)), Fact.circ lo W3 r w.heap.size ⟨n.ins, ys⟩ n.gs]
      [8, 12] [8, 12] [0, 9, 10, 11, 12] [12] [(0, 38), (1, 39), (2, 40), (3, 41), (4, 42), (5, 43), (6, 44), (7, 45), (8, 46), (9, 47), (10, 48), (11, 49)] (by kernel_rfl) (by kernel_rfl) (by kernel_rfl) (by kernel_rfl)
      ⟨?_, ?_, ?_, ?_, ?_, ?_, ?_, ?_, ?_, ?_, ?_, ?_, ?_, trivial⟩ ?_
    · intro vals x hC hF
      simp only [putsD, Act.put, List.setIfInBounds_toArray, List.set_cons_zero, List.set_cons_succ]
      go_wp2
      exact ⟨rfl, rfl, .inr (Below.refl _ _), .inr (.inl (by simp))⟩
    · intro vals x hC hF
      simp only [putsD, Act.put, List.setIfInBounds_toArray, List.set_cons_zero, List.set_cons_succ]
      go_wp2
      exact ⟨rfl, rfl, .inr (Below.refl _ _), .inr (.inl (by simp))⟩
    · intro vals x hC hF
      simp only [factsD, List.getD_cons_zero, List.getD_cons_succ, Fact.eq, Fact.row, Fact.lit, Fact.lit0, Fact.of, and_true, Fact.grow] at hF
      simp only [putsD, Act.put, List.setIfInBounds_toArray, List.set_cons_zero, List.set_cons_succ]
      simp only [hF]
      go_wp2
      exact ⟨rfl, rfl, .inr (Below.refl _ _), .inr (.inl (by simp))⟩
    · intro vals x hC hF
      simp only [factsD, List.getD_cons_zero, List.getD_cons_succ, Fact.eq, Fact.row, Fact.lit, Fact.lit0, Fact.of, and_true, Fact.grow] at hF
      simp only [putsD, Act.put, List.setIfInBounds_toArray, List.set_cons_zero, List.set_cons_succ]
      simp only [hF]
      go_wp2
      exact ⟨rfl, rfl, .inr (Below.refl _ _), .inr (.inl (by simp))⟩
    · intro vals x hC hF
      simp only [factsD, List.getD_cons_zero, List.getD_cons_succ, Fact.eq, Fact.row, Fact.lit, Fact.lit0, Fact.of, and_true, Fact.grow] at hF
      simp only [putsD, Act.put, List.setIfInBounds_toArray, List.set_cons_zero, List.set_cons_succ]
      simp only [hF]
      go_wp2
      exact ⟨rfl, rfl, .inr (Below.refl _ _), .inr (.inl (by simp))⟩
    · intro vals x hC hF
      have hC := hC.resolve_left (by simp)
      have hsz := hC.size
      have e1 : x.cell? _ = _ := d1 ⟨x, hC⟩
      simp only [factsD, List.getD_cons_zero, List.getD_cons_succ, Fact.eq, Fact.row, Fact.lit, Fact.lit0, Fact.of, and_true, Fact.grow] at hF
      simp only [putsD, Act.put, List.setIfInBounds_toArray, List.set_cons_zero, List.set_cons_succ]
      simp only [hF]
      go_wp2
      exact ⟨rfl, rfl, .inr (Below.refl _ _), .inr (.inl (by simp))⟩
    · intro vals x hC hF
      have hC := hC.resolve_left (by simp)
      have hsz := hC.size
      have e1 : x.cell? _ = _ := q0 ⟨x, hC⟩
      have e2 : x.cell? _ = _ := q1 ⟨x, hC⟩
      have e3 : x.cell? _ = _ := q2 ⟨x, hC⟩
      simp only [putsD, Act.put, List.setIfInBounds_toArray, List.set_cons_zero, List.set_cons_succ]
      go_wp2
      exact ⟨rfl, rfl, .inr (Below.refl _ _), .inr (.inl (by simp))⟩
    · intro vals x hC hF
      have hC := hC.resolve_left (by simp)
      have hsz := hC.size
      simp only [factsD, List.getD_cons_zero, List.getD_cons_succ, Fact.eq, Fact.row, Fact.lit, Fact.lit0, Fact.of, and_true, Fact.grow] at hF
      simp only [putsD, Act.put, List.setIfInBounds_toArray, List.set_cons_zero, List.set_cons_succ]
      simp only [hF]
      go_wp2
      exact ⟨rfl, ⟨_, rfl, by simp, _, heap_alloc_new _ _⟩, .inr ((Below.refl _ _).alloc (Nat.le_refl _) _), .inr (.inl (by simp))⟩
    · intro vals x hC hF
      have hC := hC.resolve_left (by simp)
      have hsz := hC.size
      simp only [factsD, List.getD_cons_zero, List.getD_cons_succ, Fact.eq, Fact.row, Fact.lit, Fact.lit0, Fact.of, and_true, Fact.grow] at hF
      obtain ⟨e5, b5, e7, hlt5, fr5, hb5⟩ := hF
      simp only [putsD, Act.put, List.setIfInBounds_toArray, List.set_cons_zero, List.set_cons_succ]
      simp only [e5, e7]
      refine wpList_append_gate (ys := ys) (g := ⟨gx, gb, ga⟩) (by rfl) (.tmp 43) (.tmp 45) (by rfl) (by rfl) (by rfl) (own_below hown3 hC (Nat.le_refl _)) hb5 (by omega) (Nat.le_trans hlo3 hsz) (by rw [HY.out, HG.out]) ?_
      intro A1 c1 w1 hown1 hg1
      exact ⟨rfl, ⟨A1, c1, rfl, hown1, Nat.le_trans hsz hg1.size, fun b9 hb9 hn9 => (hg1.block b9 (Nat.lt_of_lt_of_le hb9 hsz) hn9).trans (hC.block b9 hb9), hg1.os.trans hC.os, hg1.tape.trans hC.tape, hg1.output.trans hC.output⟩, .inl (by simp), .inl (by simp)⟩
    · intro vals x hC hF
      simp only [factsD, List.getD_cons_zero, List.getD_cons_succ, Fact.eq, Fact.row, Fact.lit, Fact.lit0, Fact.of, and_true, Fact.grow] at hF
      simp only [putsD, Act.put, List.setIfInBounds_toArray, List.set_cons_zero, List.set_cons_succ]
      simp only [hF]
      go_wp2
      exact ⟨rfl, rfl, .inr (Below.refl _ _), .inr (.inl (by simp))⟩
    · intro vals x hC hF
      simp only [factsD, List.getD_cons_zero, List.getD_cons_succ, Fact.eq, Fact.row, Fact.lit, Fact.lit0, Fact.of, and_true, Fact.grow] at hF
      simp only [putsD, Act.put, List.setIfInBounds_toArray, List.set_cons_zero, List.set_cons_succ]
      simp only [hF]
      go_wp2
      exact ⟨rfl, rfl, .inr (Below.refl _ _), .inr (.inl (by simp))⟩
    · intro vals x hC hF
      simp only [factsD, List.getD_cons_zero, List.getD_cons_succ, Fact.eq, Fact.row, Fact.lit, Fact.lit0, Fact.of, and_true, Fact.grow] at hF
      simp only [putsD, Act.put, List.setIfInBounds_toArray, List.set_cons_zero, List.set_cons_succ]
      simp only [hF]
      go_wp2
      exact ⟨rfl, rfl, .inr (Below.refl _ _), .inr (.inl (by simp))⟩
    · intro vals x hC hF
      simp only [factsD, List.getD_cons_zero, List.getD_cons_succ, Fact.eq, Fact.row, Fact.lit, Fact.lit0, Fact.of, and_true, Fact.grow] at hF
      obtain ⟨e11, A1, c1, e8, hown1, hs1, hf1, ho1, ht1, hu1⟩ := hF
      simp only [putsD, Act.put, List.setIfInBounds_toArray, List.set_cons_zero, List.set_cons_succ]
      simp only [e11, e8]
      have hrx := (hf1 r (lt_of_block hr3H.out) hner).trans hr3H.out
      have hSx := (hf1 w.heap.size hS3 hneS).trans hS3H.out
      have x1 : x.cell? ⟨r, 1, none⟩ = some (.slice A n.gs.length c) := (cell_of_block hrx 1).1
      have x2 : x.frozen? ⟨r, 1, none⟩ = false := (cell_of_block hrx 1).2
      have hne1 := row_ne hown1 r _ hrx (fun cs fr e => by injection e with _ e2 _; revert e2; decide)
      go_wp2
      refine ⟨rfl, ⟨⟨A1, c1, b, ?_, hrlo, hblo, own_below_set hown1 hne1, (hkn3.keep (hf1 b hkn3.lt hneb)).keep (Below.heap_setCell _ _ _ _ ?_)⟩, ?_, ?_, ?_⟩, .inl (by simp), .inl (by simp)⟩
      · rw [heap_set_same _ _ _ _ _ _ hrx]; rfl
      · intro e; dsimp only at e; subst e; obtain ⟨D, ⟨es, clock, hbb, _⟩, _⟩ := hkn3; rw [hr3H.out] at hbb; cases hbb
      · exact (Below.heap_setCell _ _ _ _ (by dsimp only; omega)).trans (hSx.trans hS3H.out.symm)
      · simpa [World.setCell] using Nat.lt_of_lt_of_le hS3 hs1
      · refine ⟨below_set ⟨ho1, ht1, hu1, hs1, fun b9 hb9 => hf1 b9 (Nat.lt_of_lt_of_le hb9 hlo3) ?_⟩ hrlo _, fun i o hi hck => ?_⟩
        · intro e; have := (hown3.lt b9 e.symm).1; omega
        · refine (Below.heap_setCell _ _ _ _ ?_).trans ((hf1 i (Array.getElem?_eq_some_iff.1 hi).1 fun e => ?_).trans hi)
          · intro e; dsimp only at e; subst e; rw [hr3H.out] at hi; injection hi with hi; exact hck (.inl ⟨_, _, hi.symm⟩)
          · obtain ⟨o9, ho9, hc9⟩ := own_ck hown3 e.symm; rw [hi] at ho9; injection ho9 with ho9; rw [ho9] at hck; exact hck hc9
    · intro vals x hF
      simp only [facts, List.getD_cons_zero, List.getD_cons_succ, Fact.eq, Fact.row, Fact.lit, Fact.lit0, Fact.of, and_true, Fact.grow] at hF
      simp only [Fact.circ, Fact.of] at hF
      obtain ⟨hC4, hS4, hlt4, hB4⟩ := hF
      simp only [putsD, Act.put, List.setIfInBounds_toArray, List.set_cons_zero, List.set_cons_succ]
      have hB4 := hBel3.trans hB4
      have hS4 := hS4.trans hS3H.out
      clear w3z1 w3y0 w3y1 w3y2 hr3H hS3H hown3 hkn3 hBel3 hlo3 hS3 d1 q0 q1 q2 hner hneb hneS hown hX
      obtain ⟨A4, c4, b4, hr4, hr4lo, hb4lo, hown4, hkn4⟩ := hC4
      have hl4 : lo ≤ x.heap.size := Nat.le_trans hr4lo (Nat.le_of_lt (lt_of_block hr4))
      have z0 : x.cell? ⟨r, 0, none⟩ = some (.int .i64 n.ins) := (cell_of_block hr4 0).1
      have z1 : x.cell? ⟨r, 1, none⟩ = some (.slice A4 ys.length c4) := (cell_of_block hr4 1).1
      have z2 : x.cell? ⟨r, 2, none⟩ = some (.map (some b4)) := (cell_of_block hr4 2).1
      have y0 : x.cell? ⟨w.heap.size, 0, none⟩ = some (.bool gx) := (cell_of_block hS4 0).1
      have y1 : x.cell? ⟨w.heap.size, 1, none⟩ = some (.int .i64 gb) := (cell_of_block hS4 1).1
      have y2 : x.cell? ⟨w.heap.size, 2, none⟩ = some (.int .i64 ga) := (cell_of_block hS4 2).1
      have z0 := Later.cell z0
      have z1 := Later.cell z1
      have z2 := Later.cell z2
      have y0 := Later.cell y0
      have y1 := Later.cell y1
      have y2 := Later.cell y2
      have hr4H := Lib.hid hr4
      have hS4H := Lib.hid hS4
      clear hr4 hS4
      have hyl : (0 : Int) ≤ ys.length ∧ (ys.length : Int) ≤ 1048576 := by have := HYL.out; omega
      obtain ⟨hyl0, hyl1⟩ := hyl
      go_wp2
      refine wp_region_later_tail 16 (by kernel_rfl) (by kernel_rfl) ?_
      simp only [List.take_succ_cons, List.take_zero, List.drop_succ_cons, List.drop_zero]
      repeat (go_big_quiet_step ((go_at_call 119; exact later_of_below (nodes_any A4 c4 ys.length n.ins ys.length _ (by omega) (by omega) hyl0 hyl1))))
      refine wpQuiet_nil ?_
      rintro _ ⟨x9, rfl⟩
      have hB9 := hB4.trans (.of x9.le hl4)
      have hlo9 : lo ≤ x9.W.heap.size := Nat.le_trans hl4 x9.le.size
      have hr9 := (x9.le.block r (lt_of_block hr4H.out)).trans hr4H.out
      have hS9 := (x9.le.block w.heap.size hlt4).trans hS4H.out
      have hown9 : OwnGs x9.W lo (.slice A4 ys.length c4) ys := own_below hown4 x9.le (Nat.le_refl _)
      obtain ⟨D, hmap9, hD⟩ := hkn4.keep (x9.le.block b4 hkn4.lt)
      have hmapR := (hmap9 : x9.W.ownsMap Tryz.prog 88 (plainElem Tryz.prog 3) b4 n.gs.length D)
      go_wp2_with (at_mapUpdate; refine wpList_mapUpdate_own _ rfl _ _ _ 117 rfl 88 3 gate_keyed Tryz.underlying117 _ b4 n.gs.length D rfl hmapR (by unfold maxLen; omega) _ _ (keyG ⟨gx, gb, ga⟩) rfl rfl (keyG_ok ⟨gx, gb, ga⟩ HOK.out) (.lit (.int .i64 (1 + n.ins + ys.length))) [] (plainElem_int Tryz.underlying3 (WalkArith.wf_i64 (by omega))) ?_; intro w5 hown5 hgrow5)
      have hn5 := hgrow5.size
      have hD5 := hD.put ⟨gx, gb, ga⟩ HOK.out (by rw [HG.out]; exact HM.out) (1 + n.ins + ys.length) (by rw [HYL.out]; push_cast; omega)
      rw [HG.out, ← HY.out] at hD5
      have hneb9 : some r ≠ some b4 := by
        intro e; injection e with e; subst e
        obtain ⟨es, clock, hbb, _⟩ := hmapR; rw [hr9] at hbb; cases hbb
      have hneS9 : some w.heap.size ≠ some b4 := by
        intro e; injection e with e; rw [← e] at hmapR
        obtain ⟨es, clock, hbb, _⟩ := hmapR; rw [hS9] at hbb; cases hbb
      have hr5 := (hgrow5.block r (lt_of_block hr9) hneb9).trans hr9
      have hS5 := (hgrow5.block w.heap.size (lt_of_block hS9) hneS9).trans hS9
      have hownm : OwnGs w5 lo (.slice A4 ys.length c4) ys := hown9.kept hgrow5 (by
        obtain ⟨es, clock, hbb, _⟩ := hmapR
        exact .inr (fun e => row_ne hown9 b4 _ hbb (fun cs fr e => by cases e) e.symm))
      have hB5 := hB9.grown hgrow5 hlo9 hb4lo (by obtain ⟨es, clock, hbb, _⟩ := hmapR; exact ⟨_, hbb, .inr (.inr ⟨_, _, rfl⟩)⟩)
      rw [HG.out] at hown5
      have hkn5 : KnownAt w5 b4 n.ins ys := ⟨_, hown5.mono (by have := HYL.out; omega), hD5⟩
      obtain ⟨c5, hc5, hlook5⟩ := hkn5.look g hokg false
      have hidx : ys.idxOf g = n.gs.length := by rw [HY.out, List.idxOf_append, if_neg HM.out]; simp
      have hmem5 : g ∈ ys := by rw [HY.out]; simp
      have HC5 := Lib.hid (hc5 hmem5)
      have HIX := Lib.hid hidx
      have hl5 : ∀ m, (Instr.lookup 117 (.map (some b4)) (.agg #[.bool gx, .int .i64 gb, .int .i64 ga]) false).run Tryz.prog (w5.drewN m) = .ok (.int .i64 c5) (w5.drewN m) := fun m => by
        have := hlook5 (w5.drewN m) rfl
        rw [← HG.out] at this
        simpa using this
      have z2 : w5.cell? ⟨r, 2, none⟩ = some (.map (some b4)) := (cell_of_block hr5 2).1
      have y0 : w5.cell? ⟨w.heap.size, 0, none⟩ = some (.bool gx) := (cell_of_block hS5 0).1
      have y1 : w5.cell? ⟨w.heap.size, 1, none⟩ = some (.int .i64 gb) := (cell_of_block hS5 1).1
      have y2 : w5.cell? ⟨w.heap.size, 2, none⟩ = some (.int .i64 ga) := (cell_of_block hS5 2).1
      have hr5H := Lib.hid hr5
      clear hlook5 hc5 hidx hmem5 hr5 hS5 hr9 hS9 hown9 hmapR hmap9 hneb9 hneS9 hgrow5 hB9 hn5 hown5 hD5 hD
      go_wp2
      go_quiet (fail)
      clear hl5 z2 y0 y1 y2
      go_wp2
      go_ret
      exact ⟨ret_int (by rw [HG.out, HP.out, HC5.out, HIX.out]), hB5.drewN _, fun _ => by rw [HG.out, HP.out, ← HY.out]; exact ⟨A4, c4, b4, hr5H.out, hr4lo, hb4lo, hownm, hkn5⟩⟩
  · rw [show sortG ⟨gx, ga, gb⟩ = ⟨gx, ga, gb⟩ by unfold sortG; rw [if_neg hs]]
    go_enter Tryz.func140, Tryz.ntmps140
    go_wp2
    go_quiet ((go_at_call 113; with_reducible exact quiet_left (node_any _ _ (by omega) (by omega))))
    go_wp2
    have hW2 : Below w.heap.size w ((w.alloc (.cells #[.bool gx, .int .i64 ga, .int .i64 gb] 88)).drewN nq) := below_drewN hX _
    have hS2 : ((w.alloc (.cells #[.bool gx, .int .i64 ga, .int .i64 gb] 88)).drewN nq).heap[w.heap.size]? = some (.cells #[.bool gx, .int .i64 ga, .int .i64 gb] 88 (0, 0)) := hXS
    generalize ((w.alloc (.cells #[.bool gx, .int .i64 ga, .int .i64 gb] 88)).drewN nq) = W2 at *
    have hokg : okGi ⟨gx, ga, gb⟩ := by unfold okGi; dsimp only; omega
    have hr2 := (hW2.block r hrlt).trans hr
    have hown2 := own_below hown hW2 (Nat.le_refl _)
    have hown2 : OwnGs W2 lo (.slice A n.gs.length c) n.gs := hown2
    have hkn2 := hkn.keep (hW2.block b hblt)
    have hlo2 : lo ≤ W2.heap.size := Nat.le_trans (Nat.le_trans hrlo (Nat.le_of_lt hrlt)) hW2.size
    have hBel : BelK lo w W2 := .of hW2 (Nat.le_trans hrlo (Nat.le_of_lt hrlt))
    have hSlt : w.heap.size < W2.heap.size := lt_of_block hS2
    obtain ⟨cc, hcc, hlook⟩ := hkn2.look ⟨gx, ga, gb⟩ hokg true
    have hl : ∀ m, (Instr.lookup 117 (.map (some b)) (.agg #[.bool gx, .int .i64 ga, .int .i64 gb]) true).run Tryz.prog (W2.drewN m) = .ok (.tuple #[.int .i64 cc, .bool (decide ((⟨gx, ga, gb⟩ : G) ∈ n.gs))]) (W2.drewN m) := fun m => hlook (W2.drewN m) rfl
    have z0 : W2.cell? ⟨r, 0, none⟩ = some (.int .i64 n.ins) := (cell_of_block hr2 0).1
    have z1 : W2.cell? ⟨r, 1, none⟩ = some (.slice A n.gs.length c) := (cell_of_block hr2 1).1
    have z2 : W2.cell? ⟨r, 2, none⟩ = some (.map (some b)) := (cell_of_block hr2 2).1
    have y0 : W2.cell? ⟨w.heap.size, 0, none⟩ = some (.bool gx) := (cell_of_block hS2 0).1
    have y1 : W2.cell? ⟨w.heap.size, 1, none⟩ = some (.int .i64 ga) := (cell_of_block hS2 1).1
    have y2 : W2.cell? ⟨w.heap.size, 2, none⟩ = some (.int .i64 gb) := (cell_of_block hS2 2).1
    have hr2H := Lib.hid hr2
    have hS2H := Lib.hid hS2
    clear hr hr2 hS2 hlook hXS hkn hs
    have hokv : okGi ⟨gx, ga, gb⟩ := hokg
    have HOK := Lib.hid hokv
    clear hokv
    generalize hg : (⟨gx, ga, gb⟩ : G) = g at hokg hcc hl ⊢
    have HG := Lib.hid hg
    clear hg
    by_cases hm : g ∈ n.gs
    · have HP := Lib.hid (put_mem hm)
      have HC := Lib.hid (hcc hm)
      rw [decide_eq_true hm] at hl
      clear hm hcc
      go_quiet (fail)
      clear hl z0 z1 z2 y0 y1 y2
      go_wp2
      go_ret
      exact ⟨ret_int (by rw [HG.out, HP.out, HC.out]), hBel.drewN _, fun _ => by rw [HG.out, HP.out]; exact ⟨A, c, b, hr2H.out, hrlo, hblo, hown2, hkn2⟩⟩
    have HM := Lib.hid hm
    rw [decide_eq_false hm] at hl
    clear hm hcc
    by_cases h6 : 600 ≤ n.gs.length
    · have HP := Lib.hid (put_full HM.out h6)
      have h6b : ((n.gs.length : Int) == 600) = true := by simp; omega
      clear h6
      go_quiet (fail)
      clear hl
      go_wp2
      go_ret
      exact ⟨ret_int (by rw [HG.out, HP.out]), hBel.drewN _, fun h9 => absurd (by rw [HG.out, HP.out]) h9⟩
    have HP := Lib.hid (put_new HM.out h6)
    have h6b : ((n.gs.length : Int) == 600) = false := by simp; omega
    go_quiet (fail)
    clear hl
    go_wp2
    clear h6b
    have w3z1 : (W2.drewN nq).cell? ⟨r, 1, none⟩ = some (.slice A n.gs.length c) := z1
    have w3y0 : (W2.drewN nq).cell? ⟨w.heap.size, 0, none⟩ = some (.bool gx) := y0
    have w3y1 : (W2.drewN nq).cell? ⟨w.heap.size, 1, none⟩ = some (.int .i64 ga) := y1
    have w3y2 : (W2.drewN nq).cell? ⟨w.heap.size, 2, none⟩ = some (.int .i64 gb) := y2
    have hr3H := Lib.hid (show (W2.drewN nq).heap[r]? = _ from hr2H.out)
    have hS3H := Lib.hid (show (W2.drewN nq).heap[w.heap.size]? = _ from hS2H.out)
    have hown3 : OwnGs (W2.drewN nq) lo (.slice A n.gs.length c) n.gs := hown2
    have hkn3 : KnownAt (W2.drewN nq) b n.ins n.gs := hkn2
    have hBel3 : BelK lo w (W2.drewN nq) := hBel.drewN _
    have hlo3 : lo ≤ (W2.drewN nq).heap.size := hlo2
    have hS3 : w.heap.size < (W2.drewN nq).heap.size := hSlt
    clear z0 z1 z2 y0 y1 y2 hr2H hS2H hown2 hkn2 hBel hlo2 hSlt hW2
    generalize W2.drewN nq = W3 at *
    have d1 := Later.cell w3z1
    have q0 := Later.cell w3y0
    have q1 := Later.cell w3y1
    have q2 := Later.cell w3y2
    have hner := row_ne hown3 r _ hr3H.out (fun cs fr e => by injection e with _ e2 _; revert e2; decide)
    have hneb : some b ≠ (Value.slice A n.gs.length c).ownBlock := by
      obtain ⟨D, ⟨es, clock, hbb, _⟩, _⟩ := hkn3
      exact row_ne hown3 b _ hbb (fun cs fr e => by cases e)
    obtain ⟨ys, hys⟩ : ∃ ys, ys = n.gs ++ [g] := ⟨_, rfl⟩
    have HY := Lib.hid hys
    have HYL := Lib.hid (show ys.length = n.gs.length + 1 by rw [hys]; simp)
    clear hys
    refine wp_region_shares [[], [], [(1, 39)], [(2, 40)], [(3, 41)], [(4, 42)], [], [(6, 44)], [(5, 43), (7, 45)], [(0, 38)], [(9, 47)], [(10, 48)], [(11, 49), (8, 46)]]
      [.eq (.pointer (some ⟨r, 0, none⟩)), .eq (.pointer (some ⟨r, 0, none⟩)), .eq (.pointer (some ⟨r, 0, none⟩)), .eq (.pointer (some ⟨r, 0, none⟩)), .eq (.pointer (some ⟨r, 1, none⟩)), .eq (.slice A n.gs.length c), .eq (.agg #[.bool gx, .int .i64 ga, .int .i64 gb]), .lit 88 1 #[.bool gx, .int .i64 ga, .int .i64 gb], Fact.grow lo W3 (.slice A n.gs.length c) ys, .eq (.pointer (some ⟨r, 0, none⟩)), .eq (.pointer (some ⟨r, 0, none⟩)), .eq (.pointer (some ⟨r, 1, none⟩)), Fact.circ lo W3 r w.heap.size ⟨n.ins, ys⟩ n.gs]
      [8, 12] [8, 12] [0, 9, 10, 11, 12] [12] [(0, 38), (1, 39), (2, 40), (3, 41), (4, 42), (5, 43), (6, 44), (7, 45), (8, 46), (9, 47), (10, 48), (11, 49)] (by kernel_rfl) (by kernel_rfl) (by kernel_rfl) (by kernel_rfl)
      ⟨?_, ?_, ?_, ?_, ?_, ?_, ?_, ?_, ?_, ?_, ?_, ?_, ?_, trivial⟩ ?_
    · intro vals x hC hF
      simp only [putsD, Act.put, List.setIfInBounds_toArray, List.set_cons_zero, List.set_cons_succ]
      go_wp2
      exact ⟨rfl, rfl, .inr (Below.refl _ _), .inr (.inl (by simp))⟩
    · intro vals x hC hF
      simp only [putsD, Act.put, List.setIfInBounds_toArray, List.set_cons_zero, List.set_cons_succ]
      go_wp2
      exact ⟨rfl, rfl, .inr (Below.refl _ _), .inr (.inl (by simp))⟩
    · intro vals x hC hF
      simp only [factsD, List.getD_cons_zero, List.getD_cons_succ, Fact.eq, Fact.row, Fact.lit, Fact.lit0, Fact.of, and_true, Fact.grow] at hF
      simp only [putsD, Act.put, List.setIfInBounds_toArray, List.set_cons_zero, List.set_cons_succ]
      simp only [hF]
      go_wp2
      exact ⟨rfl, rfl, .inr (Below.refl _ _), .inr (.inl (by simp))⟩
    · intro vals x hC hF
      simp only [factsD, List.getD_cons_zero, List.getD_cons_succ, Fact.eq, Fact.row, Fact.lit, Fact.lit0, Fact.of, and_true, Fact.grow] at hF
      simp only [putsD, Act.put, List.setIfInBounds_toArray, List.set_cons_zero, List.set_cons_succ]
      simp only [hF]
      go_wp2
      exact ⟨rfl, rfl, .inr (Below.refl _ _), .inr (.inl (by simp))⟩
    · intro vals x hC hF
      simp only [factsD, List.getD_cons_zero, List.getD_cons_succ, Fact.eq, Fact.row, Fact.lit, Fact.lit0, Fact.of, and_true, Fact.grow] at hF
      simp only [putsD, Act.put, List.setIfInBounds_toArray, List.set_cons_zero, List.set_cons_succ]
      simp only [hF]
      go_wp2
      exact ⟨rfl, rfl, .inr (Below.refl _ _), .inr (.inl (by simp))⟩
    · intro vals x hC hF
      have hC := hC.resolve_left (by simp)
      have hsz := hC.size
      have e1 : x.cell? _ = _ := d1 ⟨x, hC⟩
      simp only [factsD, List.getD_cons_zero, List.getD_cons_succ, Fact.eq, Fact.row, Fact.lit, Fact.lit0, Fact.of, and_true, Fact.grow] at hF
      simp only [putsD, Act.put, List.setIfInBounds_toArray, List.set_cons_zero, List.set_cons_succ]
      simp only [hF]
      go_wp2
      exact ⟨rfl, rfl, .inr (Below.refl _ _), .inr (.inl (by simp))⟩
    · intro vals x hC hF
      have hC := hC.resolve_left (by simp)
      have hsz := hC.size
      have e1 : x.cell? _ = _ := q0 ⟨x, hC⟩
      have e2 : x.cell? _ = _ := q1 ⟨x, hC⟩
      have e3 : x.cell? _ = _ := q2 ⟨x, hC⟩
      simp only [putsD, Act.put, List.setIfInBounds_toArray, List.set_cons_zero, List.set_cons_succ]
      go_wp2
      exact ⟨rfl, rfl, .inr (Below.refl _ _), .inr (.inl (by simp))⟩
    · intro vals x hC hF
      have hC := hC.resolve_left (by simp)
      have hsz := hC.size
      simp only [factsD, List.getD_cons_zero, List.getD_cons_succ, Fact.eq, Fact.row, Fact.lit, Fact.lit0, Fact.of, and_true, Fact.grow] at hF
      simp only [putsD, Act.put, List.setIfInBounds_toArray, List.set_cons_zero, List.set_cons_succ]
      simp only [hF]
      go_wp2
      exact ⟨rfl, ⟨_, rfl, by simp, _, heap_alloc_new _ _⟩, .inr ((Below.refl _ _).alloc (Nat.le_refl _) _), .inr (.inl (by simp))⟩
    · intro vals x hC hF
      have hC := hC.resolve_left (by simp)
      have hsz := hC.size
      simp only [factsD, List.getD_cons_zero, List.getD_cons_succ, Fact.eq, Fact.row, Fact.lit, Fact.lit0, Fact.of, and_true, Fact.grow] at hF
      obtain ⟨e5, b5, e7, hlt5, fr5, hb5⟩ := hF
      simp only [putsD, Act.put, List.setIfInBounds_toArray, List.set_cons_zero, List.set_cons_succ]
      simp only [e5, e7]
      refine wpList_append_gate (ys := ys) (g := ⟨gx, ga, gb⟩) (by rfl) (.tmp 43) (.tmp 45) (by rfl) (by rfl) (by rfl) (own_below hown3 hC (Nat.le_refl _)) hb5 (by omega) (Nat.le_trans hlo3 hsz) (by rw [HY.out, HG.out]) ?_
      intro A1 c1 w1 hown1 hg1
      exact ⟨rfl, ⟨A1, c1, rfl, hown1, Nat.le_trans hsz hg1.size, fun b9 hb9 hn9 => (hg1.block b9 (Nat.lt_of_lt_of_le hb9 hsz) hn9).trans (hC.block b9 hb9), hg1.os.trans hC.os, hg1.tape.trans hC.tape, hg1.output.trans hC.output⟩, .inl (by simp), .inl (by simp)⟩
    · intro vals x hC hF
      simp only [factsD, List.getD_cons_zero, List.getD_cons_succ, Fact.eq, Fact.row, Fact.lit, Fact.lit0, Fact.of, and_true, Fact.grow] at hF
      simp only [putsD, Act.put, List.setIfInBounds_toArray, List.set_cons_zero, List.set_cons_succ]
      simp only [hF]
      go_wp2
      exact ⟨rfl, rfl, .inr (Below.refl _ _), .inr (.inl (by simp))⟩
    · intro vals x hC hF
      simp only [factsD, List.getD_cons_zero, List.getD_cons_succ, Fact.eq, Fact.row, Fact.lit, Fact.lit0, Fact.of, and_true, Fact.grow] at hF
      simp only [putsD, Act.put, List.setIfInBounds_toArray, List.set_cons_zero, List.set_cons_succ]
      simp only [hF]
      go_wp2
      exact ⟨rfl, rfl, .inr (Below.refl _ _), .inr (.inl (by simp))⟩
    · intro vals x hC hF
      simp only [factsD, List.getD_cons_zero, List.getD_cons_succ, Fact.eq, Fact.row, Fact.lit, Fact.lit0, Fact.of, and_true, Fact.grow] at hF
      simp only [putsD, Act.put, List.setIfInBounds_toArray, List.set_cons_zero, List.set_cons_succ]
      simp only [hF]
      go_wp2
      exact ⟨rfl, rfl, .inr (Below.refl _ _), .inr (.inl (by simp))⟩
    · intro vals x hC hF
      simp only [factsD, List.getD_cons_zero, List.getD_cons_succ, Fact.eq, Fact.row, Fact.lit, Fact.lit0, Fact.of, and_true, Fact.grow] at hF
      obtain ⟨e11, A1, c1, e8, hown1, hs1, hf1, ho1, ht1, hu1⟩ := hF
      simp only [putsD, Act.put, List.setIfInBounds_toArray, List.set_cons_zero, List.set_cons_succ]
      simp only [e11, e8]
      have hrx := (hf1 r (lt_of_block hr3H.out) hner).trans hr3H.out
      have hSx := (hf1 w.heap.size hS3 hneS).trans hS3H.out
      have x1 : x.cell? ⟨r, 1, none⟩ = some (.slice A n.gs.length c) := (cell_of_block hrx 1).1
      have x2 : x.frozen? ⟨r, 1, none⟩ = false := (cell_of_block hrx 1).2
      have hne1 := row_ne hown1 r _ hrx (fun cs fr e => by injection e with _ e2 _; revert e2; decide)
      go_wp2
      refine ⟨rfl, ⟨⟨A1, c1, b, ?_, hrlo, hblo, own_below_set hown1 hne1, (hkn3.keep (hf1 b hkn3.lt hneb)).keep (Below.heap_setCell _ _ _ _ ?_)⟩, ?_, ?_, ?_⟩, .inl (by simp), .inl (by simp)⟩
      · rw [heap_set_same _ _ _ _ _ _ hrx]; rfl
      · intro e; dsimp only at e; subst e; obtain ⟨D, ⟨es, clock, hbb, _⟩, _⟩ := hkn3; rw [hr3H.out] at hbb; cases hbb
      · exact (Below.heap_setCell _ _ _ _ (by dsimp only; omega)).trans (hSx.trans hS3H.out.symm)
      · simpa [World.setCell] using Nat.lt_of_lt_of_le hS3 hs1
      · refine ⟨below_set ⟨ho1, ht1, hu1, hs1, fun b9 hb9 => hf1 b9 (Nat.lt_of_lt_of_le hb9 hlo3) ?_⟩ hrlo _, fun i o hi hck => ?_⟩
        · intro e; have := (hown3.lt b9 e.symm).1; omega
        · refine (Below.heap_setCell _ _ _ _ ?_).trans ((hf1 i (Array.getElem?_eq_some_iff.1 hi).1 fun e => ?_).trans hi)
          · intro e; dsimp only at e; subst e; rw [hr3H.out] at hi; injection hi with hi; exact hck (.inl ⟨_, _, hi.symm⟩)
          · obtain ⟨o9, ho9, hc9⟩ := own_ck hown3 e.symm; rw [hi] at ho9; injection ho9 with ho9; rw [ho9] at hck; exact hck hc9
    · intro vals x hF
      simp only [facts, List.getD_cons_zero, List.getD_cons_succ, Fact.eq, Fact.row, Fact.lit, Fact.lit0, Fact.of, and_true, Fact.grow] at hF
      simp only [Fact.circ, Fact.of] at hF
      obtain ⟨hC4, hS4, hlt4, hB4⟩ := hF
      simp only [putsD, Act.put, List.setIfInBounds_toArray, List.set_cons_zero, List.set_cons_succ]
      have hB4 := hBel3.trans hB4
      have hS4 := hS4.trans hS3H.out
      clear w3z1 w3y0 w3y1 w3y2 hr3H hS3H hown3 hkn3 hBel3 hlo3 hS3 d1 q0 q1 q2 hner hneb hneS hown hX
      obtain ⟨A4, c4, b4, hr4, hr4lo, hb4lo, hown4, hkn4⟩ := hC4
      have hl4 : lo ≤ x.heap.size := Nat.le_trans hr4lo (Nat.le_of_lt (lt_of_block hr4))
      have z0 : x.cell? ⟨r, 0, none⟩ = some (.int .i64 n.ins) := (cell_of_block hr4 0).1
      have z1 : x.cell? ⟨r, 1, none⟩ = some (.slice A4 ys.length c4) := (cell_of_block hr4 1).1
      have z2 : x.cell? ⟨r, 2, none⟩ = some (.map (some b4)) := (cell_of_block hr4 2).1
      have y0 : x.cell? ⟨w.heap.size, 0, none⟩ = some (.bool gx) := (cell_of_block hS4 0).1
      have y1 : x.cell? ⟨w.heap.size, 1, none⟩ = some (.int .i64 ga) := (cell_of_block hS4 1).1
      have y2 : x.cell? ⟨w.heap.size, 2, none⟩ = some (.int .i64 gb) := (cell_of_block hS4 2).1
      have z0 := Later.cell z0
      have z1 := Later.cell z1
      have z2 := Later.cell z2
      have y0 := Later.cell y0
      have y1 := Later.cell y1
      have y2 := Later.cell y2
      have hr4H := Lib.hid hr4
      have hS4H := Lib.hid hS4
      clear hr4 hS4
      have hyl : (0 : Int) ≤ ys.length ∧ (ys.length : Int) ≤ 1048576 := by have := HYL.out; omega
      obtain ⟨hyl0, hyl1⟩ := hyl
      go_wp2
      refine wp_region_later_tail 16 (by kernel_rfl) (by kernel_rfl) ?_
      simp only [List.take_succ_cons, List.take_zero, List.drop_succ_cons, List.drop_zero]
      repeat (go_big_quiet_step ((go_at_call 119; exact later_of_below (nodes_any A4 c4 ys.length n.ins ys.length _ (by omega) (by omega) hyl0 hyl1))))
      refine wpQuiet_nil ?_
      rintro _ ⟨x9, rfl⟩
      have hB9 := hB4.trans (.of x9.le hl4)
      have hlo9 : lo ≤ x9.W.heap.size := Nat.le_trans hl4 x9.le.size
      have hr9 := (x9.le.block r (lt_of_block hr4H.out)).trans hr4H.out
      have hS9 := (x9.le.block w.heap.size hlt4).trans hS4H.out
      have hown9 : OwnGs x9.W lo (.slice A4 ys.length c4) ys := own_below hown4 x9.le (Nat.le_refl _)
      obtain ⟨D, hmap9, hD⟩ := hkn4.keep (x9.le.block b4 hkn4.lt)
      have hmapR := (hmap9 : x9.W.ownsMap Tryz.prog 88 (plainElem Tryz.prog 3) b4 n.gs.length D)
      go_wp2_with (at_mapUpdate; refine wpList_mapUpdate_own _ rfl _ _ _ 117 rfl 88 3 gate_keyed Tryz.underlying117 _ b4 n.gs.length D rfl hmapR (by unfold maxLen; omega) _ _ (keyG ⟨gx, ga, gb⟩) rfl rfl (keyG_ok ⟨gx, ga, gb⟩ HOK.out) (.lit (.int .i64 (1 + n.ins + ys.length))) [] (plainElem_int Tryz.underlying3 (WalkArith.wf_i64 (by omega))) ?_; intro w5 hown5 hgrow5)
      have hn5 := hgrow5.size
      have hD5 := hD.put ⟨gx, ga, gb⟩ HOK.out (by rw [HG.out]; exact HM.out) (1 + n.ins + ys.length) (by rw [HYL.out]; push_cast; omega)
      rw [HG.out, ← HY.out] at hD5
      have hneb9 : some r ≠ some b4 := by
        intro e; injection e with e; subst e
        obtain ⟨es, clock, hbb, _⟩ := hmapR; rw [hr9] at hbb; cases hbb
      have hneS9 : some w.heap.size ≠ some b4 := by
        intro e; injection e with e; rw [← e] at hmapR
        obtain ⟨es, clock, hbb, _⟩ := hmapR; rw [hS9] at hbb; cases hbb
      have hr5 := (hgrow5.block r (lt_of_block hr9) hneb9).trans hr9
      have hS5 := (hgrow5.block w.heap.size (lt_of_block hS9) hneS9).trans hS9
      have hownm : OwnGs w5 lo (.slice A4 ys.length c4) ys := hown9.kept hgrow5 (by
        obtain ⟨es, clock, hbb, _⟩ := hmapR
        exact .inr (fun e => row_ne hown9 b4 _ hbb (fun cs fr e => by cases e) e.symm))
      have hB5 := hB9.grown hgrow5 hlo9 hb4lo (by obtain ⟨es, clock, hbb, _⟩ := hmapR; exact ⟨_, hbb, .inr (.inr ⟨_, _, rfl⟩)⟩)
      rw [HG.out] at hown5
      have hkn5 : KnownAt w5 b4 n.ins ys := ⟨_, hown5.mono (by have := HYL.out; omega), hD5⟩
      obtain ⟨c5, hc5, hlook5⟩ := hkn5.look g hokg false
      have hidx : ys.idxOf g = n.gs.length := by rw [HY.out, List.idxOf_append, if_neg HM.out]; simp
      have hmem5 : g ∈ ys := by rw [HY.out]; simp
      have HC5 := Lib.hid (hc5 hmem5)
      have HIX := Lib.hid hidx
      have hl5 : ∀ m, (Instr.lookup 117 (.map (some b4)) (.agg #[.bool gx, .int .i64 ga, .int .i64 gb]) false).run Tryz.prog (w5.drewN m) = .ok (.int .i64 c5) (w5.drewN m) := fun m => by
        have := hlook5 (w5.drewN m) rfl
        rw [← HG.out] at this
        simpa using this
      have z2 : w5.cell? ⟨r, 2, none⟩ = some (.map (some b4)) := (cell_of_block hr5 2).1
      have y0 : w5.cell? ⟨w.heap.size, 0, none⟩ = some (.bool gx) := (cell_of_block hS5 0).1
      have y1 : w5.cell? ⟨w.heap.size, 1, none⟩ = some (.int .i64 ga) := (cell_of_block hS5 1).1
      have y2 : w5.cell? ⟨w.heap.size, 2, none⟩ = some (.int .i64 gb) := (cell_of_block hS5 2).1
      have hr5H := Lib.hid hr5
      clear hlook5 hc5 hidx hmem5 hr5 hS5 hr9 hS9 hown9 hmapR hmap9 hneb9 hneS9 hgrow5 hB9 hn5 hown5 hD5 hD
      go_wp2
      go_quiet (fail)
      clear hl5 z2 y0 y1 y2
      go_wp2
      go_ret
      exact ⟨ret_int (by rw [HG.out, HP.out, HC5.out, HIX.out]), hB5.drewN _, fun _ => by rw [HG.out, HP.out, ← HY.out]; exact ⟨A4, c4, b4, hr5H.out, hr4lo, hb4lo, hownm, hkn5⟩⟩

end Go.Proofs.YtjghcaghigebjaaGreatDoor
