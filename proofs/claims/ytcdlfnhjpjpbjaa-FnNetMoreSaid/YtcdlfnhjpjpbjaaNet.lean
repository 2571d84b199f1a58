/- Gates and nets, how they lie in memory; the laws' copies and comparisons of them. -/
import Derived.Test.YtcdlfnhjpjpbjaaLit
import Derived.Test.YtcdlfnhjpjpbjaaLater
import Derived.Test.YtcdlfnhjpjpbjaaGrow
namespace Go.Proofs.Ytcdlfnhjpjpbjaa
open Go Go.RowKit

structure G where
  x : Bool
  a : Int
  b : Int
  deriving DecidableEq
structure N where
  ins : Int
  gs : List G
  deriving DecidableEq

def Lay.gate : Lay G := Lay.flat 3 (fun g => [.bool g.x, .int .i64 g.a, .int .i64 g.b]) (fun _ => rfl)
theorem Lay.Sl.at_gate {w : World} {F : Nat → Prop} {A : Option Addr} {xs : List G} (h : Lay.gate.Sl w F A xs) {k : Nat} (hk : k < xs.length) :
    ∃ ad, A = some ad ∧ F ad.block ∧ w.cell? (ad.add (k * 3)) = some (.bool xs[k].x) ∧ w.cell? ⟨(ad.add (k * 3)).block, (ad.add (k * 3)).off + 1, none⟩ = some (.int .i64 xs[k].a) ∧ w.cell? ⟨(ad.add (k * 3)).block, (ad.add (k * 3)).off + 2, none⟩ = some (.int .i64 xs[k].b) := by
  obtain ⟨ad, e, hf, hc⟩ := h (by omega)
  obtain ⟨vs, rfl, hcell⟩ := hc k xs[k] (List.getElem?_eq_getElem hk)
  refine ⟨ad, e, hf, hcell 0 _ rfl, ?_, ?_⟩
  · show w.cell? ((ad.add (k * 3)).add 1) = _
    rw [add_of_add]; exact hcell 1 _ rfl
  · show w.cell? ((ad.add (k * 3)).add 2) = _
    rw [add_of_add]; exact hcell 2 _ rfl
/-- A gate's cells in a later world. -/
theorem gate_up {w w' : World} {B : Nat} {ad : Addr} {k : Nat} {g : G} (hb : Below B w w') (hB : ad.block < B)
    (h : w.cell? (ad.add (k * 3)) = some (.bool g.x) ∧ w.cell? ⟨(ad.add (k * 3)).block, (ad.add (k * 3)).off + 1, none⟩ = some (.int .i64 g.a) ∧ w.cell? ⟨(ad.add (k * 3)).block, (ad.add (k * 3)).off + 2, none⟩ = some (.int .i64 g.b)) :
    w'.cell? (ad.add (k * 3)) = some (.bool g.x) ∧ w'.cell? ⟨(ad.add (k * 3)).block, (ad.add (k * 3)).off + 1, none⟩ = some (.int .i64 g.a) ∧ w'.cell? ⟨(ad.add (k * 3)).block, (ad.add (k * 3)).off + 2, none⟩ = some (.int .i64 g.b) :=
  ⟨(hb.cell (by rw [block_of_add]; exact hB)).trans h.1, (hb.cell (by show (ad.add (k * 3)).block < B; rw [block_of_add]; exact hB)).trans h.2.1, (hb.cell (by show (ad.add (k * 3)).block < B; rw [block_of_add]; exact hB)).trans h.2.2⟩

def gcells (g : G) : List Value := [.bool g.x, .int .i64 g.a, .int .i64 g.b]
/-- The cells of a row of gates of which the first k are done. -/
def gatesDone (xs : List G) (k : Nat) : List Value := (xs.take k).flatMap gcells ++ (List.replicate (xs.length - k) [Value.bool false, .int .i64 0, .int .i64 0]).flatten
theorem gcells_len (l : List G) : (l.flatMap gcells).length = l.length * 3 := by
  induction l with
  | nil => rfl
  | cons g l ih => rw [List.flatMap_cons, List.length_append, ih]; simp [gcells]; omega
theorem gatesDone_set (xs : List G) (k : Nat) (h : k < xs.length) :
    (((gatesDone xs k).set (k * 3) (.bool xs[k].x)).set (k * 3 + 1) (.int .i64 xs[k].a)).set (k * 3 + 2) (.int .i64 xs[k].b) = gatesDone xs (k + 1) := by
  have hl : ((xs.take k).flatMap gcells).length = k * 3 := by rw [gcells_len]; simp; omega
  have hl0 : ¬ k * 3 < ((xs.take k).flatMap gcells).length := by omega
  have hl1 : ¬ k * 3 + 1 < ((xs.take k).flatMap gcells).length := by omega
  have hl2 : ¬ k * 3 + 2 < ((xs.take k).flatMap gcells).length := by omega
  unfold gatesDone
  rw [show xs.length - k = (xs.length - (k + 1)) + 1 from by omega, List.replicate_succ, List.flatten_cons, take_snoc xs k h, List.flatMap_append]
  generalize (List.replicate (xs.length - (k + 1)) [Value.bool false, .int .i64 0, .int .i64 0]).flatten = R
  rw [List.set_append, if_neg hl0, List.set_append, if_neg hl1, List.set_append, if_neg hl2, hl]
  simp [gcells]
theorem madeCells_three (a b c : Value) (n : Nat) : (madeCells #[a, b, c] (n * 3)).toList = (List.replicate n [a, b, c]).flatten := by
  induction n with
  | zero => simp [madeCells]
  | succ n ih =>
    rw [List.replicate_succ', List.flatten_append, ← ih]
    unfold madeCells
    rw [show (n + 1) * 3 = n * 3 + 1 + 1 + 1 from by omega, Array.range_succ, Array.range_succ, Array.range_succ]
    have e0 : (n * 3) % 3 = 0 := by omega
    have e1 : (n * 3 + 1) % 3 = 1 := by omega
    have e2 : (n * 3 + 1 + 1) % 3 = 2 := by omega
    simp [e0, e1, e2]

theorem decide_G (g h : G) : decide (g = h) = (g.x == h.x && g.a == h.a && g.b == h.b) := by
  cases g; cases h
  rw [Bool.eq_iff_iff]; simp [and_assoc]
theorem sl_gates_of_own {w : World} {F : Nat → Prop} {base : Nat} {e : TypeId} {A : Option Addr} {n c : Nat} {xs : List G} (h : w.ownsRow base e 3 (.slice A n c) n (xs.flatMap gcells))
    (hF : ∀ g, base ≤ g → g < w.heap.size → F g) : Lay.gate.Sl w F A xs ∧ n = xs.length ∧ n ≤ c := by
  have hn : n = xs.length := by have := h.1; rw [gcells_len] at this; omega
  refine ⟨.of_own h hn hF fun k x hx => ⟨_, rfl, fun j u hu => ?_⟩, hn, ?_⟩
  · have hk : k < xs.length := by
      rcases Nat.lt_or_ge k xs.length with h | h
      · exact h
      · rw [List.getElem?_eq_none h] at hx; cases hx
    rw [List.getElem?_eq_getElem hk] at hx
    injection hx with hx
    have hj : j < 3 := by
      rcases Nat.lt_or_ge j 3 with h | h
      · exact h
      · rw [List.getElem?_eq_none (by simpa [Lay.gate, Lay.flat] using h)] at hu; cases hu
    have e : xs = xs.take k ++ (xs[k] :: xs.drop (k + 1)) := by rw [← List.drop_eq_getElem_cons hk, List.take_append_drop]
    have hl : ((xs.take k).flatMap gcells).length = k * 3 := by rw [gcells_len]; simp; omega
    rw [e, List.flatMap_append, List.flatMap_cons, show Lay.gate.size = 3 from rfl, List.getElem?_append_right (by omega), hl, show k * 3 + j - k * 3 = j from by omega,
      List.getElem?_append_left (by simpa [gcells] using hj), hx]
    exact hu
  · rcases h.2 with ⟨h1, h2⟩ | ⟨g, cap, cur, h1, _, _, h2, _⟩
    · omega
    · injection h1 with _ _ h3; omega
/-- The call's own row of gates. -/
def OwnGs (w : World) (base : Nat) (v : Value) (xs : List G) : Prop := w.ownsRow base 58 3 v xs.length (xs.flatMap gcells)
theorem OwnGs.form {w : World} {base : Nat} {v : Value} {xs : List G} (h : OwnGs w base v xs) : ∃ A c, v = .slice A xs.length c ∧ xs.length ≤ c ∧ Lay.gate.Sl w (fun b => base ≤ b ∧ b < w.heap.size) A xs := by
  have hh := h
  unfold OwnGs at h
  rcases h.2 with ⟨h1, h2⟩ | ⟨g, cap, cur, h1, _, _, h3, _⟩
  · subst h1
    have : xs = [] := List.eq_nil_of_length_eq_zero h2
    subst this
    exact ⟨none, 0, rfl, by simp, .nil _ _ _ _⟩
  · subst h1
    exact ⟨_, cap, rfl, h3, (sl_gates_of_own hh (fun g h1 h2 => ⟨h1, h2⟩)).1⟩
theorem OwnGs.sl {w : World} {base c : Nat} {A : Option Addr} {xs : List G} (h : OwnGs w base (.slice A xs.length c) xs) : xs.length ≤ c ∧ Lay.gate.Sl w (fun b => base ≤ b ∧ b < w.heap.size) A xs := by
  obtain ⟨A', c', e, h1, h2⟩ := h.form
  injection e with e1 e2 e3
  subst e1; subst e3
  exact ⟨h1, h2⟩
theorem OwnGs.up {w w' : World} {base : Nat} {v : Value} {xs : List G} (h : OwnGs w base v xs) (hb : Below w.heap.size w w') : OwnGs w' base v xs := own_below h hb (Nat.le_refl _)
def RetGs (w : World) (xs : List G) (e : Ending) (w' : World) : Prop := ∃ A c, e = .returned (.slice A xs.length c) ∧ OwnGs w' w.heap.size (.slice A xs.length c) xs ∧ Below w.heap.size w w'

theorem gate_info : (Try.prog.info? 58).map (fun i => (i.zero, i.size, i.bytes)) = some (some (.agg #[.bool false, .int .i64 0, .int .i64 0]), 3, 24) := by kernel_rfl

/-- What a function returns that makes a net of its own. -/
def RetNet (w : World) (n : N) (e : Ending) (w' : World) : Prop :=
  ∃ A c, e = .returned (.agg #[.int .i64 n.ins, .slice A n.gs.length c]) ∧ OwnGs w' w.heap.size (.slice A n.gs.length c) n.gs ∧ Below w.heap.size w w'

/-- The cells of marked gates, from k on. -/
def marked : Nat → Int → List G
  | 0, _ => []
  | n + 1, k => ⟨k % 3 == 0, k + 1, k + 1 + 1⟩ :: marked n (k + 3)
theorem marked_len (n : Nat) (k : Int) : (marked n k).length = n := by induction n generalizing k with | zero => rfl | succ n ih => simp [marked, ih]
theorem marked_get (n : Nat) (k : Int) (j : Nat) (h : j < (marked n k).length) : (marked n k)[j] = ⟨(k + 3 * j) % 3 == 0, k + 3 * j + 1, k + 3 * j + 1 + 1⟩ := by
  induction n generalizing k j with
  | zero => simp [marked] at h
  | succ n ih =>
    cases j with
    | zero => simp [marked]
    | succ j =>
      simp only [marked, List.getElem_cons_succ]
      rw [ih]
      have e : k + 3 + 3 * (j : Int) = k + 3 * ((j + 1 : Nat) : Int) := by omega
      rw [e]

theorem gcells_set (ys : List G) (j : Nat) (h : j < ys.length) (g : G) :
    (((ys.flatMap gcells).set (j * 3) (.bool g.x)).set (j * 3 + 1) (.int .i64 g.a)).set (j * 3 + 2) (.int .i64 g.b) = (ys.set j g).flatMap gcells := by
  have e : ys = ys.take j ++ (ys[j] :: ys.drop (j + 1)) := by rw [← List.drop_eq_getElem_cons h, List.take_append_drop]
  have hl : ((ys.take j).flatMap gcells).length = j * 3 := by rw [gcells_len]; simp; omega
  have hl0 : ¬ j * 3 < ((ys.take j).flatMap gcells).length := by omega
  have hl1 : ¬ j * 3 + 1 < ((ys.take j).flatMap gcells).length := by omega
  have hl2 : ¬ j * 3 + 2 < ((ys.take j).flatMap gcells).length := by omega
  have hs : ys.set j g = ys.take j ++ (g :: ys.drop (j + 1)) := by
    conv => lhs; rw [e]
    rw [List.set_append_right j _ (by simp; omega)]
    simp [Nat.min_eq_left (Nat.le_of_lt h)]
    rw [List.drop_eq_getElem_cons h]; rfl
  rw [hs]
  conv => lhs; rw [e]
  rw [List.flatMap_append, List.flatMap_append, List.flatMap_cons, List.flatMap_cons]
  generalize (ys.drop (j + 1)).flatMap gcells = R
  rw [List.set_append, if_neg hl0, List.set_append, if_neg hl1, List.set_append, if_neg hl2, hl]
  simp [gcells]

end Go.Proofs.Ytcdlfnhjpjpbjaa
