/- Gates and nets, how they lie in memory; the laws' copies and comparisons of them. -/
import Derived.Test.YtohchplomjenfaaLit
import Derived.Test.YtohchplomjenfaaLater
namespace Go.Proofs.Ytohchplomjenfaa
open Go Go.RowKit

structure G where
  x : Bool
  a : Int
  b : Int
  deriving DecidableEq
structure N where
  ins : Int
  gs : List G
  deriving DecidableEq

def Lay.gate : Lay G := Lay.flat 3 (fun g => [.bool g.x, .int .i64 g.a, .int .i64 g.b]) (fun _ => rfl)
theorem Lay.Sl.at_gate {w : World} {F : Nat → Prop} {A : Option Addr} {xs : List G} (h : Lay.gate.Sl w F A xs) {k : Nat} (hk : k < xs.length) :
    ∃ ad, A = some ad ∧ F ad.block ∧ w.cell? (ad.add (k * 3)) = some (.bool xs[k].x) ∧ w.cell? ⟨(ad.add (k * 3)).block, (ad.add (k * 3)).off + 1, none⟩ = some (.int .i64 xs[k].a) ∧ w.cell? ⟨(ad.add (k * 3)).block, (ad.add (k * 3)).off + 2, none⟩ = some (.int .i64 xs[k].b) := by
  obtain ⟨ad, e, hf, hc⟩ := h (by omega)
  obtain ⟨vs, rfl, hcell⟩ := hc k xs[k] (List.getElem?_eq_getElem hk)
  refine ⟨ad, e, hf, hcell 0 _ rfl, ?_, ?_⟩
  · show w.cell? ((ad.add (k * 3)).add 1) = _
    rw [add_of_add]; exact hcell 1 _ rfl
  · show w.cell? ((ad.add (k * 3)).add 2) = _
    rw [add_of_add]; exact hcell 2 _ rfl
/-- A gate's cells in a later world. -/
theorem gate_up {w w' : World} {B : Nat} {ad : Addr} {k : Nat} {g : G} (hb : Below B w w') (hB : ad.block < B)
    (h : w.cell? (ad.add (k * 3)) = some (.bool g.x) ∧ w.cell? ⟨(ad.add (k * 3)).block, (ad.add (k * 3)).off + 1, none⟩ = some (.int .i64 g.a) ∧ w.cell? ⟨(ad.add (k * 3)).block, (ad.add (k * 3)).off + 2, none⟩ = some (.int .i64 g.b)) :
    w'.cell? (ad.add (k * 3)) = some (.bool g.x) ∧ w'.cell? ⟨(ad.add (k * 3)).block, (ad.add (k * 3)).off + 1, none⟩ = some (.int .i64 g.a) ∧ w'.cell? ⟨(ad.add (k * 3)).block, (ad.add (k * 3)).off + 2, none⟩ = some (.int .i64 g.b) :=
  ⟨(hb.cell (by rw [block_of_add]; exact hB)).trans h.1, (hb.cell (by show (ad.add (k * 3)).block < B; rw [block_of_add]; exact hB)).trans h.2.1, (hb.cell (by show (ad.add (k * 3)).block < B; rw [block_of_add]; exact hB)).trans h.2.2⟩

def gcells (g : G) : List Value := [.bool g.x, .int .i64 g.a, .int .i64 g.b]
/-- The cells of a row of gates of which the first k are done. -/
def gatesDone (xs : List G) (k : Nat) : List Value := (xs.take k).flatMap gcells ++ (List.replicate (xs.length - k) [Value.bool false, .int .i64 0, .int .i64 0]).flatten
theorem gcells_len (l : List G) : (l.flatMap gcells).length = l.length * 3 := by
  induction l with
  | nil => rfl
  | cons g l ih => rw [List.flatMap_cons, List.length_append, ih]; simp [gcells]; omega
theorem gatesDone_set (xs : List G) (k : Nat) (h : k < xs.length) :
    (((gatesDone xs k).set (k * 3) (.bool xs[k].x)).set (k * 3 + 1) (.int .i64 xs[k].a)).set (k * 3 + 2) (.int .i64 xs[k].b) = gatesDone xs (k + 1) := by
  have hl : ((xs.take k).flatMap gcells).length = k * 3 := by rw [gcells_len]; simp; omega
  have hl0 : ¬ k * 3 < ((xs.take k).flatMap gcells).length := by omega
  have hl1 : ¬ k * 3 + 1 < ((xs.take k).flatMap gcells).length := by omega
  have hl2 : ¬ k * 3 + 2 < ((xs.take k).flatMap gcells).length := by omega
  unfold gatesDone
  rw [show xs.length - k = (xs.length - (k + 1)) + 1 from by omega, List.replicate_succ, List.flatten_cons, take_snoc xs k h, List.flatMap_append]
  generalize (List.replicate (xs.length - (k + 1)) [Value.bool false, .int .i64 0, .int .i64 0]).flatten = R
  rw [List.set_append, if_neg hl0, List.set_append, if_neg hl1, List.set_append, if_neg hl2, hl]
  simp [gcells]
theorem madeCells_three (a b c : Value) (n : Nat) : (madeCells #[a, b, c] (n * 3)).toList = (List.replicate n [a, b, c]).flatten := by
  induction n with
  | zero => simp [madeCells]
  | succ n ih =>
    rw [List.replicate_succ', List.flatten_append, ← ih]
    unfold madeCells
    rw [show (n + 1) * 3 = n * 3 + 1 + 1 + 1 from by omega, Array.range_succ, Array.range_succ, Array.range_succ]
    have e0 : (n * 3) % 3 = 0 := by omega
    have e1 : (n * 3 + 1) % 3 = 1 := by omega
    have e2 : (n * 3 + 1 + 1) % 3 = 2 := by omega
    simp [e0, e1, e2]

theorem szGateS_any (A : Option Addr) (c n : Nat) (left : Int) (w : World) (hn : n ≤ 9223372036854775807) (h0 : 0 ≤ left) (h1 : left ≤ 1048576) :
    Calls Try.prog 49 #[.slice A n c, .int .i64 left] w fun e w' => e = .returned (.int .i64 (if left < n then -1 else left - n)) ∧ w = w' := by
  by_cases h : left < n
  all_goals
    go_enter Try.func49, Try.ntmps49
    go_wp2
    go_ret
    exact ⟨ret_int (by simp [h]), rfl⟩

theorem szNet_any (A : Option Addr) (c n : Nat) (ins left : Int) (w : World) (hn : n ≤ 9223372036854775807) (h0 : 0 ≤ left) (h1 : left ≤ 1048576) :
    Calls Try.prog 25 #[.agg #[.int .i64 ins, .slice A n c], .int .i64 left] w fun e w' => e = .returned (.int .i64 (if left < n then -1 else left - n)) ∧ Below w.heap.size w w' := by
  by_cases h : left < n
  all_goals
    go_enter Try.func25, Try.ntmps25
    go_wp2_with (go_at_call 49; refine (szGateS_any A c n left _ hn h0 h1).mono ?_; rintro e w' ⟨rfl, rfl⟩)
    go_ret
    exact ⟨ret_int (by simp [h]), (Below.refl _ _).alloc (Nat.le_refl _) _⟩

theorem decide_G (g h : G) : decide (g = h) = (g.x == h.x && g.a == h.a && g.b == h.b) := by
  cases g; cases h
  rw [Bool.eq_iff_iff]; simp [and_assoc]
theorem eqGate_any (g h : G) (w : World) :
    Calls Try.prog 83 #[.agg #[.bool g.x, .int .i64 g.a, .int .i64 g.b], .agg #[.bool h.x, .int .i64 h.a, .int .i64 h.b]] w fun e w' => e = .returned (.bool (decide (g = h))) ∧ Below w.heap.size w w' := by
  go_enter Try.func83, Try.ntmps83
  go_wp2
  all_goals
    go_ret
    refine ⟨ret_bool ?_, ((Below.refl _ _).alloc (Nat.le_refl _) _).alloc (by simp) _⟩
    rw [decide_G]
    simp_all

set_option maxHeartbeats 400000 in
theorem eqGateS_any (A B : Option Addr) (c d : Nat) (xs ys : List G) (F G' : Nat → Prop) (w : World) (h : Lay.gate.Sl w F A xs) (h' : Lay.gate.Sl w G' B ys) (hF : ∀ b, F b → b < w.heap.size) (hG : ∀ b, G' b → b < w.heap.size) (hn : xs.length ≤ 1048576) (hn' : ys.length ≤ 1048576) :
    Calls Try.prog 57 #[.slice A xs.length c, .slice B ys.length d] w fun e w' => e = .returned (.bool (decide (xs = ys))) ∧ Below w.heap.size w w' := by
  by_cases hl : xs.length = ys.length
  · have hne : (((xs.length : Int) != (ys.length : Int))) = false := by simp [hl]
    have HL := Lib.hid hl
    clear hl
    go_enter Try.func57, Try.ntmps57
    go_wp2
    clear hne
    go_loopw [5] (fun i wr => ∃ k : Nat, k ≤ xs.length ∧ i = .int .i64 k ∧ Below w.heap.size w wr ∧ xs.take k = ys.take k) (fun i _ => xs.length - (intOf i).toNat)
    case atStart => exact ⟨0, Nat.zero_le _, rfl, Below.refl _ _, rfl⟩
    case round =>
      obtain ⟨k, hk, rfl, hb, ht⟩ := hrel
      have HT := Lib.hid ht
      clear ht
      by_cases hlt : k < xs.length
      · have hlt' : k < ys.length := by have := HL.out; omega
        obtain ⟨ad, rfl, hf, hc⟩ := h.at_gate hlt
        obtain ⟨ad', rfl, hf', hc'⟩ := h'.at_gate hlt'
        obtain ⟨c1, c2, c3⟩ := gate_up hb (hF _ hf) hc
        obtain ⟨c1', c2', c3'⟩ := gate_up hb (hG _ hf') hc'
        have d1 := Later.cell c1
        have d2 := Later.cell c2
        have d3 := Later.cell c3
        have d1' := Later.cell c1'
        have d2' := Later.cell c2'
        have d3' := Later.cell c3'
        have hk0 : (0 : Int) ≤ k := by omega
        have hk1 : (k : Int) < xs.length := by omega
        have hk2 : (k : Int) < ys.length := by omega
        by_cases hxy : xs[k] = ys[k]
        all_goals have HX := Lib.hid hxy
        all_goals clear hxy
        all_goals
          go_wp2
          refine wp_region_later (by kernel_rfl) (by kernel_rfl) ?_
          repeat (go_big_quiet_step ((go_at_call 83; exact later_of_below (eqGate_any xs[k] ys[k] _))))
          refine wpQuiet_nil ?_
          rintro _ ⟨x, rfl⟩
        · rw [show decide (xs[k] = ys[k]) = true from by simp [HX.out]]
          go_wp2
          go_roundw
          case rel => exact ⟨k + 1, by omega, by go_num, bthen hb x.le, take_eq_step hlt hlt' HT.out HX.out⟩
          case measure => simp [intOf]; omega
        · rw [show decide (xs[k] = ys[k]) = false from by simp [HX.out]]
          go_wp2
          go_ret
          exact ⟨ret_bool (by simp; rintro rfl; exact HX.out rfl), bthen hb x.le⟩
      · have : k = xs.length := by omega
        subst this
        go_wp2
        go_ret
        exact ⟨ret_bool (by simp [eq_of_take HL.out HT.out]), hb⟩
  · have hne : (((xs.length : Int) != (ys.length : Int))) = true := by simp; omega
    go_enter Try.func57, Try.ntmps57
    go_wp2
    go_ret
    exact ⟨ret_bool (by simp; rintro rfl; exact hl rfl), Below.refl _ _⟩

theorem eqNet_any (A B : Option Addr) (c d : Nat) (m n : N) (F G' : Nat → Prop) (w : World) (h : Lay.gate.Sl w F A m.gs) (h' : Lay.gate.Sl w G' B n.gs) (hF : ∀ b, F b → b < w.heap.size) (hG : ∀ b, G' b → b < w.heap.size)
    (hn : m.gs.length ≤ 1048576) (hn' : n.gs.length ≤ 1048576) :
    Calls Try.prog 29 #[.agg #[.int .i64 m.ins, .slice A m.gs.length c], .agg #[.int .i64 n.ins, .slice B n.gs.length d]] w fun e w' => e = .returned (.bool (decide (m = n))) ∧ Below w.heap.size w w' := by
  have hw2 : Below w.heap.size w ((w.alloc (.cells #[.int .i64 m.ins, .slice A m.gs.length c] 49)).alloc (.cells #[.int .i64 n.ins, .slice B n.gs.length d] 49)) :=
    ((Below.refl _ _).alloc (Nat.le_refl _) _).alloc (by simp) _
  have hd : decide (m = n) = (m.ins == n.ins && decide (m.gs = n.gs)) := by
    cases m; cases n; rw [Bool.eq_iff_iff]; simp
  have H := h.below hw2 hF
  have H' := h'.below hw2 hG
  have HD := Lib.hid hd
  clear hd
  go_enter Try.func29, Try.ntmps29
  go_wp2_with (go_at_call 57; refine (eqGateS_any A B c d m.gs n.gs F G' _ H H' (fun b hb => by have := hF b hb; simp; omega) (fun b hb => by have := hG b hb; simp; omega) hn hn').mono ?_; rintro e w' ⟨rfl, hb⟩)
  all_goals
    go_ret
    refine ⟨ret_bool (by rw [HD.out]; simp_all), ?_⟩
    first
      | exact hw2
      | exact bthen hw2 hb

theorem sl_gates_of_own {w : World} {F : Nat → Prop} {base : Nat} {e : TypeId} {A : Option Addr} {n c : Nat} {xs : List G} (h : w.ownsRow base e 3 (.slice A n c) n (xs.flatMap gcells))
    (hF : ∀ g, base ≤ g → g < w.heap.size → F g) : Lay.gate.Sl w F A xs ∧ n = xs.length ∧ n ≤ c := by
  have hn : n = xs.length := by have := h.1; rw [gcells_len] at this; omega
  refine ⟨.of_own h hn hF fun k x hx => ⟨_, rfl, fun j u hu => ?_⟩, hn, ?_⟩
  · have hk : k < xs.length := by
      rcases Nat.lt_or_ge k xs.length with h | h
      · exact h
      · rw [List.getElem?_eq_none h] at hx; cases hx
    rw [List.getElem?_eq_getElem hk] at hx
    injection hx with hx
    have hj : j < 3 := by
      rcases Nat.lt_or_ge j 3 with h | h
      · exact h
      · rw [List.getElem?_eq_none (by simpa [Lay.gate, Lay.flat] using h)] at hu; cases hu
    have e : xs = xs.take k ++ (xs[k] :: xs.drop (k + 1)) := by rw [← List.drop_eq_getElem_cons hk, List.take_append_drop]
    have hl : ((xs.take k).flatMap gcells).length = k * 3 := by rw [gcells_len]; simp; omega
    rw [e, List.flatMap_append, List.flatMap_cons, show Lay.gate.size = 3 from rfl, List.getElem?_append_right (by omega), hl, show k * 3 + j - k * 3 = j from by omega,
      List.getElem?_append_left (by simpa [gcells] using hj), hx]
    exact hu
  · rcases h.2 with ⟨h1, h2⟩ | ⟨g, cap, cur, h1, _, _, h2, _⟩
    · omega
    · injection h1 with _ _ h3; omega
/-- The call's own row of gates. -/
def OwnGs (w : World) (base : Nat) (v : Value) (xs : List G) : Prop := w.ownsRow base 107 3 v xs.length (xs.flatMap gcells)
theorem OwnGs.form {w : World} {base : Nat} {v : Value} {xs : List G} (h : OwnGs w base v xs) : ∃ A c, v = .slice A xs.length c ∧ xs.length ≤ c ∧ Lay.gate.Sl w (fun b => base ≤ b ∧ b < w.heap.size) A xs := by
  have hh := h
  unfold OwnGs at h
  rcases h.2 with ⟨h1, h2⟩ | ⟨g, cap, cur, h1, _, _, h3, _⟩
  · subst h1
    have : xs = [] := List.eq_nil_of_length_eq_zero h2
    subst this
    exact ⟨none, 0, rfl, by simp, .nil _ _ _ _⟩
  · subst h1
    exact ⟨_, cap, rfl, h3, (sl_gates_of_own hh (fun g h1 h2 => ⟨h1, h2⟩)).1⟩
theorem OwnGs.sl {w : World} {base c : Nat} {A : Option Addr} {xs : List G} (h : OwnGs w base (.slice A xs.length c) xs) : xs.length ≤ c ∧ Lay.gate.Sl w (fun b => base ≤ b ∧ b < w.heap.size) A xs := by
  obtain ⟨A', c', e, h1, h2⟩ := h.form
  injection e with e1 e2 e3
  subst e1; subst e3
  exact ⟨h1, h2⟩
theorem OwnGs.up {w w' : World} {base : Nat} {v : Value} {xs : List G} (h : OwnGs w base v xs) (hb : Below w.heap.size w w') : OwnGs w' base v xs := own_below h hb (Nat.le_refl _)
def RetGs (w : World) (xs : List G) (e : Ending) (w' : World) : Prop := ∃ A c, e = .returned (.slice A xs.length c) ∧ OwnGs w' w.heap.size (.slice A xs.length c) xs ∧ Below w.heap.size w w'

theorem toGate_any (g : G) (w : World) :
    Calls Try.prog 79 #[.agg #[.bool g.x, .int .i64 g.a, .int .i64 g.b]] w fun e w' => e = .returned (.agg #[.bool g.x, .int .i64 g.a, .int .i64 g.b]) ∧ Below w.heap.size w w' := by
  go_enter Try.func79, Try.ntmps79
  go_wp2
  refine bodyPost_ret (v := .agg #[.bool g.x, .int .i64 g.a, .int .i64 g.b]) (by simp [results, Try.results79, go_sem]) rfl ⟨rfl, ?_⟩
  exact (((Below.refl _ _).alloc (Nat.le_refl _) _).alloc (by simp) _).alloc (by simp; omega) _

theorem gate_info : (Try.prog.info? 107).map (fun i => (i.zero, i.size, i.bytes)) = some (some (.agg #[.bool false, .int .i64 0, .int .i64 0]), 3, 24) := by kernel_rfl

set_option maxHeartbeats 400000 in
theorem toGateS_any (A : Option Addr) (c : Nat) (xs : List G) (F : Nat → Prop) (w : World) (h : Lay.gate.Sl w F A xs) (hF : ∀ b, F b → b < w.heap.size) (hn : xs.length ≤ 1048576) :
    Calls Try.prog 54 #[.slice A xs.length c] w (RetGs w xs) := by
  obtain ⟨i0, hi0, hz0, hz1, hz2⟩ := info_parts gate_info
  go_enter Try.func54, Try.ntmps54
  go_wp2_with (at_make; refine wpList_make_full w rfl _ _ 47 rfl w.heap.size 107 i0 _ 3 Try.underlying47 hi0 hz0 hz1 .i64 .i64 _ _ xs.length rfl rfl rfl rfl (by rw [hz2]; omega) (by unfold maxLen; omega) (Nat.le_refl _) ?_; intro w1 hown hg)
  have H1 := Lib.hid hg
  clear hg hi0 hz0 hz1 hz2
  have hb1 : Below w.heap.size w w1 := (Below.refl _ _).grown H1.out (Nat.le_refl _) (by simp)
  rw [show (madeCells (Value.agg #[.bool false, .int .i64 0, .int .i64 0]).cells (xs.length * 3)).toList = gatesDone xs 0 from madeCells_three _ _ _ _] at hown
  go_loopw [4] (fun i wr => ∃ k : Nat, k ≤ xs.length ∧ i = .int .i64 k ∧ Below w.heap.size w wr ∧ wr.ownsRow w.heap.size 107 3 (.slice (some ⟨w.heap.size, 0, none⟩) xs.length xs.length) xs.length (gatesDone xs k))
    (fun i _ => xs.length - (intOf i).toNat)
  case atStart => exact ⟨0, Nat.zero_le _, rfl, hb1, hown⟩
  case round =>
    obtain ⟨k, hk, rfl, hb, ho⟩ := hrel
    by_cases hlt : k < xs.length
    · obtain ⟨ad, rfl, hf, hc⟩ := h.at_gate hlt
      obtain ⟨c1, c2, c3⟩ := gate_up hb (hF _ hf) hc
      have hk1 : (k : Int) < xs.length := by omega
      go_wp2_with fail
      refine (toGate_any xs[k] _).mono ?_
      rintro e w2 ⟨rfl, hb2⟩
      have ho2 := own_below ho hb2 (Nat.le_refl _)
      have hst1 := (ho2.stored (k * 3) (.bool xs[k].x)).1
      have hst2 := (hst1.stored (k * 3 + 1) (.int .i64 xs[k].a)).1
      have hst3 := (hst2.stored (k * 3 + 2) (.int .i64 xs[k].b)).1
      have hl0 : (gatesDone xs k).length = xs.length * 3 := ho.1
      have e1 : w2.cell? ⟨w.heap.size, k * 3, none⟩ = (gatesDone xs k)[k * 3]? := ho2.cellAt _ (by omega)
      have e2 : w2.cell? ⟨w.heap.size, k * 3 + 1, none⟩ = (gatesDone xs k)[k * 3 + 1]? := ho2.cellAt _ (by omega)
      have e3 : w2.cell? ⟨w.heap.size, k * 3 + 2, none⟩ = (gatesDone xs k)[k * 3 + 2]? := ho2.cellAt _ (by omega)
      rw [List.getElem?_eq_getElem (by omega)] at e1 e2 e3
      have f1 : w2.frozen? ⟨w.heap.size, k * 3, none⟩ = false := ho2.frozenAt _
      have f2 : w2.frozen? ⟨w.heap.size, k * 3 + 1, none⟩ = false := ho2.frozenAt _
      have f3 : w2.frozen? ⟨w.heap.size, k * 3 + 2, none⟩ = false := ho2.frozenAt _
      go_wp2
      go_roundw
      case rel => exact ⟨k + 1, by omega, by go_num, (((bthen hb hb2).setCell (Nat.le_refl _) _).setCell (Nat.le_refl _) _).setCell (Nat.le_refl _) _, by rw [gatesDone_set xs k hlt] at hst3; exact hst3⟩
      case measure => simp [intOf]; omega
    · have : k = xs.length := by omega
      subst this
      go_wp2
      go_ret
      exact ⟨_, _, rfl, by unfold OwnGs; simpa [gatesDone] using ho, hb⟩

/-- What a function returns that makes a net of its own. -/
def RetNet (w : World) (n : N) (e : Ending) (w' : World) : Prop :=
  ∃ A c, e = .returned (.agg #[.int .i64 n.ins, .slice A n.gs.length c]) ∧ OwnGs w' w.heap.size (.slice A n.gs.length c) n.gs ∧ Below w.heap.size w w'

theorem toNet_any (A : Option Addr) (c : Nat) (n : N) (F : Nat → Prop) (w : World) (h : Lay.gate.Sl w F A n.gs) (hF : ∀ b, F b → b < w.heap.size) (hn : n.gs.length ≤ 1048576) :
    Calls Try.prog 27 #[.agg #[.int .i64 n.ins, .slice A n.gs.length c]] w (RetNet w n) := by
  go_enter Try.func27, Try.ntmps27
  go_wp2_with fail
  have hw3 : Below w.heap.size w (((w.alloc (.cells #[.int .i64 n.ins, .slice A n.gs.length c] 45)).alloc (.cells #[.int .i64 0, .slice none 0 0] 49)).alloc (.cells #[.int .i64 n.ins, .slice none 0 0] 49)) :=
    (((Below.refl _ _).alloc (Nat.le_refl _) _).alloc (by simp) _).alloc (by simp; omega) _
  refine (toGateS_any A c n.gs F _ (h.below hw3 hF) (fun b hb => by have := hF b hb; simp; omega) hn).mono ?_
  rintro e w2 ⟨A', c', rfl, hs, hb⟩
  obtain ⟨hcc, hff⟩ := bcell hb
  have hz : w.heap.size + 1 + 1 + 1 ≤ w2.heap.size := by have := hb.size; simp at this; omega
  have hz1 : w.heap.size + 1 < w2.heap.size := by omega
  have hz2 : w.heap.size + 1 + 1 < w2.heap.size := by omega
  have hbw := bthen hw3 hb
  go_wp2
  refine bodyPost_ret (v := .agg #[.int .i64 n.ins, .slice A' n.gs.length c']) (by simp [results, Try.results27, go_sem, hcc, hff, hz1, hz2]) rfl ⟨A', c', rfl, ?_, ?_⟩
  · have hs' : OwnGs w2 (w.heap.size + 3) (.slice A' n.gs.length c') n.gs := own_mono hs (by simp)
    exact own_mono (own_far (own_far (own_far hs' _ _ (by simp)) _ _ (by simp)) _ _ (by simp)) (by omega)
  · exact ((hbw.setCell (by simp; omega) _).setCell (by simp) _).setCell (by simp) _

/-- The cells of marked gates, from k on. -/
def marked : Nat → Int → List G
  | 0, _ => []
  | n + 1, k => ⟨k % 3 == 0, k + 1, k + 1 + 1⟩ :: marked n (k + 3)
theorem marked_len (n : Nat) (k : Int) : (marked n k).length = n := by induction n generalizing k with | zero => rfl | succ n ih => simp [marked, ih]
theorem marked_get (n : Nat) (k : Int) (j : Nat) (h : j < (marked n k).length) : (marked n k)[j] = ⟨(k + 3 * j) % 3 == 0, k + 3 * j + 1, k + 3 * j + 1 + 1⟩ := by
  induction n generalizing k j with
  | zero => simp [marked] at h
  | succ n ih =>
    cases j with
    | zero => simp [marked]
    | succ j =>
      simp only [marked, List.getElem_cons_succ]
      rw [ih]
      have e : k + 3 + 3 * (j : Int) = k + 3 * ((j + 1 : Nat) : Int) := by omega
      rw [e]

set_option maxHeartbeats 400000 in
theorem heldGateS_any (A : Option Addr) (c n : Nat) (k0 : Int) (F : Nat → Prop) (w : World) (h : Lay.gate.Sl w F A (marked n k0)) (hn : n ≤ 1048576) (h0 : 0 ≤ k0) (h1 : k0 ≤ 1000000000) :
    Calls Try.prog 59 #[.slice A n c, .int .i64 k0] w fun e w' => e = .returned (.int .i64 (k0 + 3 * n)) ∧ ∃ m, w' = w.drewN m := by
  go_enter Try.func59, Try.ntmps59
  go_wp2
  go_loopw [1, 5] (fun kk i wr => ∃ j m : Nat, j ≤ n ∧ i = .int .i64 j ∧ kk = .int .i64 (k0 + 3 * j) ∧ wr = w.drewN m) (fun _ i _ => n - (intOf i).toNat)
  case atStart => exact ⟨0, 0, Nat.zero_le _, rfl, by simp, rfl⟩
  case round =>
    obtain ⟨j, m, hj, rfl, rfl, rfl⟩ := hrel
    by_cases hlt : j < n
    · have hltm : j < (marked n k0).length := by rw [marked_len]; exact hlt
      obtain ⟨ad, rfl, hf, c1, c2, c3⟩ := h.at_gate hltm
      rw [marked_get] at c1 c2 c3
      have hj1 : (0 : Int) ≤ j := by omega
      have hj2 : (j : Int) < n := by omega
      generalize hT : k0 + 3 * (j : Int) = T at *
      have HT := Lib.hid hT
      have hT0 : 0 ≤ T := by omega
      have hT1 : T ≤ 2000000000 := by omega
      clear hT
      have hx : (!((T % 3 == 0) == (T % 3 == 0))) = false := by simp
      have hy : ((T + 1 + 1) != (T + 1 + 1)) = false := by simp
      go_wp2
      go_roundw
      case rel => exact ⟨j + 1, m, by omega, by go_num, ret_num (by have := HT.out; omega), rfl⟩
      case measure => simp [intOf]; omega
    · have : j = n := by omega
      subst this
      go_wp2
      go_ret
      exact ⟨rfl, m, rfl⟩

theorem gcells_set (ys : List G) (j : Nat) (h : j < ys.length) (g : G) :
    (((ys.flatMap gcells).set (j * 3) (.bool g.x)).set (j * 3 + 1) (.int .i64 g.a)).set (j * 3 + 2) (.int .i64 g.b) = (ys.set j g).flatMap gcells := by
  have e : ys = ys.take j ++ (ys[j] :: ys.drop (j + 1)) := by rw [← List.drop_eq_getElem_cons h, List.take_append_drop]
  have hl : ((ys.take j).flatMap gcells).length = j * 3 := by rw [gcells_len]; simp; omega
  have hl0 : ¬ j * 3 < ((ys.take j).flatMap gcells).length := by omega
  have hl1 : ¬ j * 3 + 1 < ((ys.take j).flatMap gcells).length := by omega
  have hl2 : ¬ j * 3 + 2 < ((ys.take j).flatMap gcells).length := by omega
  have hs : ys.set j g = ys.take j ++ (g :: ys.drop (j + 1)) := by
    conv => lhs; rw [e]
    rw [List.set_append_right j _ (by simp; omega)]
    simp [Nat.min_eq_left (Nat.le_of_lt h)]
    rw [List.drop_eq_getElem_cons h]; rfl
  rw [hs]
  conv => lhs; rw [e]
  rw [List.flatMap_append, List.flatMap_append, List.flatMap_cons, List.flatMap_cons]
  generalize (ys.drop (j + 1)).flatMap gcells = R
  rw [List.set_append, if_neg hl0, List.set_append, if_neg hl1, List.set_append, if_neg hl2, hl]
  simp [gcells]

set_option maxHeartbeats 400000 in
theorem markGateS_any (base c : Nat) (A : Option Addr) (xs : List G) (k0 : Int) (w : World) (h : OwnGs w base (.slice A xs.length c) xs) (hn : xs.length ≤ 1048576) (h0 : 0 ≤ k0) (h1 : k0 ≤ 1000000000) :
    Calls Try.prog 58 #[.slice A xs.length c, .int .i64 k0] w fun e w' => e = .returned (.int .i64 (k0 + 3 * xs.length)) ∧ OwnGs w' base (.slice A xs.length c) (marked xs.length k0) ∧ w.grownBy w' (Value.slice A xs.length c).ownBlock := by
  go_enter Try.func58, Try.ntmps58
  go_wp2
  go_loopw [1, 5] (fun kk i wr => ∃ (j : Nat) (ys : List G), j ≤ xs.length ∧ ys.length = xs.length ∧ (∀ i, i < j → ys[i]? = (marked xs.length k0)[i]?) ∧ i = .int .i64 j ∧ kk = .int .i64 (k0 + 3 * j) ∧
     wr.ownsRow base 107 3 (.slice A xs.length c) xs.length (ys.flatMap gcells) ∧ w.grownBy wr (Value.slice A xs.length c).ownBlock) (fun _ i _ => xs.length - (intOf i).toNat)
  case atStart => exact ⟨0, xs, Nat.zero_le _, rfl, fun i hi => absurd hi (by omega), rfl, by simp, h, World.grownBy.refl _ _⟩
  case round =>
    obtain ⟨j, ys, hj, hyl, hys, rfl, rfl, ho, hg⟩ := hrel
    have HY := Lib.hid hys
    have HL := Lib.hid hyl
    clear hys hyl
    by_cases hlt : j < xs.length
    · obtain ⟨g, cap, e, hbg, hgs⟩ := ho.form (by omega)
      injection e with e1 _ e3
      subst e1; subst e3
      generalize hT : k0 + 3 * (j : Int) = T at *
      have HT := Lib.hid hT
      have hT0 : 0 ≤ T := by omega
      have hT1 : T ≤ 2000000000 := by omega
      clear hT
      have hst1 := (ho.stored (j * 3) (.bool (T % 3 == 0))).1
      have hst2 := (hst1.stored (j * 3 + 1) (.int .i64 (T + 1))).1
      have hst3 := (hst2.stored (j * 3 + 2) (.int .i64 (T + 1 + 1))).1
      have hl0 : (ys.flatMap gcells).length = xs.length * 3 := ho.1
      have e1 : wr.cell? ⟨g, j * 3, none⟩ = (ys.flatMap gcells)[j * 3]? := ho.cellAt _ (by omega)
      have e2 : wr.cell? ⟨g, j * 3 + 1, none⟩ = (ys.flatMap gcells)[j * 3 + 1]? := ho.cellAt _ (by omega)
      have e3 : wr.cell? ⟨g, j * 3 + 2, none⟩ = (ys.flatMap gcells)[j * 3 + 2]? := ho.cellAt _ (by omega)
      rw [List.getElem?_eq_getElem (by omega)] at e1 e2 e3
      have f1 : wr.frozen? ⟨g, j * 3, none⟩ = false := ho.frozenAt _
      have f2 : wr.frozen? ⟨g, j * 3 + 1, none⟩ = false := ho.frozenAt _
      have f3 : wr.frozen? ⟨g, j * 3 + 2, none⟩ = false := ho.frozenAt _
      go_wp2
      go_roundw
      case rel => exact ⟨j + 1, ys.set j ⟨T % 3 == 0, T + 1, T + 1 + 1⟩, by omega, by simp [HL.out], by
          intro i hi
          rcases Nat.lt_or_ge i j with h' | h'
          · rw [List.getElem?_set_ne (by omega)]; exact HY.out i h'
          · have : i = j := by omega
            subst this
            rw [List.getElem?_set_self (by have := HL.out; omega), List.getElem?_eq_getElem (by rw [marked_len]; exact hlt), marked_get, HT.out], by go_num, ret_num (by have := HT.out; omega), by
          rw [gcells_set ys j (by have := HL.out; omega) ⟨T % 3 == 0, T + 1, T + 1 + 1⟩] at hst3; exact hst3, only_setCell (only_setCell (only_setCell hg _ _) _ _) _ _⟩
      case measure => simp [intOf]; omega
    · have : j = xs.length := by omega
      subst this
      go_wp2
      go_ret
      refine ⟨rfl, ?_, hg⟩
      have hym : ys = marked xs.length k0 := List.ext_getElem? fun i => by
        rcases Nat.lt_or_ge i xs.length with hi | hi
        · exact HY.out i hi
        · rw [List.getElem?_eq_none (by rw [HL.out]; exact hi), List.getElem?_eq_none (by rw [marked_len]; exact hi)]
      unfold OwnGs
      rw [marked_len, ← hym]
      exact ho

theorem heldNet_any (A : Option Addr) (c n : Nat) (ins k0 : Int) (w : World) (h : Lay.gate.Rd w A (marked n k0)) (hn : n ≤ 1048576) (h0 : 0 ≤ k0) (h1 : k0 ≤ 1000000000) :
    Calls Try.prog 31 #[.agg #[.int .i64 ins, .slice A n c], .int .i64 k0] w fun e w' => e = .returned (.int .i64 (k0 + 3 * n)) ∧ Below w.heap.size w w' := by
  have hw : Below w.heap.size w (w.alloc (.cells #[.int .i64 ins, .slice A n c] 49)) := (Below.refl _ _).alloc (Nat.le_refl _) _
  go_enter Try.func31, Try.ntmps31
  go_wp2_with (go_at_call 59; refine (heldGateS_any A c n k0 _ _ (h.up hw) hn h0 h1).mono ?_; rintro e w' ⟨rfl, m, rfl⟩)
  go_ret
  exact ⟨rfl, below_drewN hw m⟩

theorem grown_then {a w w' : World} {row : Option Nat} (h : Below a.heap.size a w) (h' : w.grownBy w' row) : a.grownBy w' row :=
  ⟨h'.os.trans h.os, h'.tape.trans h.tape, h'.output.trans h.output, Nat.le_trans h.size h'.size, fun i hi hne => (h'.block i (Nat.lt_of_lt_of_le hi h.size) hne).trans (h.block i hi)⟩

theorem markNet_any (base c : Nat) (A : Option Addr) (n : N) (k0 : Int) (w : World) (h : OwnGs w base (.slice A n.gs.length c) n.gs) (hn : n.gs.length ≤ 1048576) (h0 : 0 ≤ k0) (h1 : k0 ≤ 1000000000) :
    Calls Try.prog 30 #[.agg #[.int .i64 n.ins, .slice A n.gs.length c], .int .i64 k0] w fun e w' => e = .returned (.int .i64 (k0 + 3 * n.gs.length)) ∧ OwnGs w' base (.slice A n.gs.length c) (marked n.gs.length k0) ∧ w.grownBy w' (Value.slice A n.gs.length c).ownBlock := by
  have hw : Below w.heap.size w (w.alloc (.cells #[.int .i64 n.ins, .slice A n.gs.length c] 49)) := (Below.refl _ _).alloc (Nat.le_refl _) _
  go_enter Try.func30, Try.ntmps30
  go_wp2_with (go_at_call 58; refine (markGateS_any base c A n.gs k0 _ (h.up hw) hn h0 h1).mono ?_; rintro e w' ⟨rfl, ho, hg⟩)
  go_ret
  exact ⟨rfl, ho, grown_then hw hg⟩
end Go.Proofs.Ytohchplomjenfaa
