/- The reference's gates: and, xor. -/
import Derived.Test.YtcdlfnhjpjpbjaaNetS2
namespace Go.Proofs.Ytcdlfnhjpjpbjaa
open Go Go.RowKit

def and1 (n : N) (a b : Int) : N × Int :=
  if a = -1 ∨ b = -1 ∨ a = -b then (n, -1) else if a = 1 ∨ a = b then (n, b) else if b = 1 then (n, a)
  else if b.natAbs < a.natAbs then put n ⟨false, b, a⟩ else put n ⟨false, a, b⟩

/-- A box and a result's cells, ahead of the rest. -/
theorem same_end {F : Nat → Prop} {w : World} {n : N} {A : Option Addr} {c : Nat} (h : Lay.gate.Sl w F A n.gs) (hF : ∀ b, F b → b < w.heap.size) (hA : A = none → n.gs.length = 0) (k : Int) {w' : World} (hb : Below w.heap.size w w') :
    RetNetInt F w (n, k) (.returned (.tuple #[.agg #[.int .i64 n.ins, .slice A n.gs.length c], .int .i64 k])) w' := ⟨A, c, rfl, hA, (h.below hb hF).mono (fun _ => .inl), hb⟩

theorem res_cells {w w' : World} {v0 v1 : Value} {t : TypeId}
    (hb : Below ((w.alloc (.cells #[v0, v1] t)).alloc (.cells #[.int .i64 0, .slice none 0 0] t)).heap.size ((w.alloc (.cells #[v0, v1] t)).alloc (.cells #[.int .i64 0, .slice none 0 0] t)) w') :
    w'.cell? ⟨w.heap.size + 1, 0, none⟩ = some (.int .i64 0) ∧ w'.cell? ⟨w.heap.size + 1, 1, none⟩ = some (.slice none 0 0) ∧ w'.frozen? ⟨w.heap.size + 1, 0, none⟩ = false ∧ w'.frozen? ⟨w.heap.size + 1, 1, none⟩ = false := by
  have hlt : w.heap.size + 1 < ((w.alloc (.cells #[v0, v1] t)).alloc (.cells #[.int .i64 0, .slice none 0 0] t)).heap.size := by simp
  obtain ⟨hc, hf⟩ := bcell hb
  refine ⟨(hc _ _ hlt).trans ?_, (hc _ _ hlt).trans ?_, (hf _ _ hlt).trans ?_, (hf _ _ hlt).trans ?_⟩ <;> simp [go_sem]

/-- What was read behind two new blocks reads on when the second is written. -/
theorem sl_two {F : Nat → Prop} {w w' : World} {v0 v1 u0 u1 : Value} {t : TypeId} {A : Option Addr} {xs : List G}
    (hW : Below w.heap.size w ((w.alloc (.cells #[v0, v1] t)).alloc (.cells #[.int .i64 0, .slice none 0 0] t))) (hF : ∀ b, F b → b < w.heap.size)
    (h : Lay.gate.Sl w' (fun b => F b ∨ (((w.alloc (.cells #[v0, v1] t)).alloc (.cells #[.int .i64 0, .slice none 0 0] t)).heap.size ≤ b ∧ b < w'.heap.size)) A xs)
    (hb : Below ((w.alloc (.cells #[v0, v1] t)).alloc (.cells #[.int .i64 0, .slice none 0 0] t)).heap.size ((w.alloc (.cells #[v0, v1] t)).alloc (.cells #[.int .i64 0, .slice none 0 0] t)) w') :
    Lay.gate.Sl ((w'.setCell ⟨w.heap.size + 1, 0, none⟩ u0).setCell ⟨w.heap.size + 1, 1, none⟩ u1) (fun b => F b ∨ (w.heap.size ≤ b ∧ b < ((w'.setCell ⟨w.heap.size + 1, 0, none⟩ u0).setCell ⟨w.heap.size + 1, 1, none⟩ u1).heap.size)) A xs := by
  have hsz : ((w.alloc (.cells #[v0, v1] t)).alloc (.cells #[.int .i64 0, .slice none 0 0] t)).heap.size = w.heap.size + 2 := by simp
  refine (h.keep fun b hb' => ?_).mono fun b hb' => ?_
  · have hne : b ≠ w.heap.size + 1 := by
      rcases hb' with hb' | hb'
      · have := hF b hb'; omega
      · omega
    exact (Below.heap_setCell _ ⟨w.heap.size + 1, 1, none⟩ u1 b hne).trans (Below.heap_setCell _ ⟨w.heap.size + 1, 0, none⟩ u0 b hne)
  · rcases hb' with hb' | hb'
    · exact .inl hb'
    · refine .inr ⟨by omega, ?_⟩
      simp [World.setCell]; omega

set_option maxHeartbeats 1000000 in
theorem l6And_any (F : Nat → Prop) (A : Option Addr) (c : Nat) (n : N) (a b : Int) (w : World) (h : Lay.gate.Sl w F A n.gs) (hF : ∀ b, F b → b < w.heap.size) (hn : n.gs.length ≤ 1048576) (hA : A = none → n.gs.length = 0) (h0 : 0 ≤ n.ins) (h1 : n.ins ≤ 1000000)
    (ha : -2000000000 ≤ a ∧ a ≤ 2000000000) (hb : -2000000000 ≤ b ∧ b ≤ 2000000000) :
    Calls Try.prog 30 #[.agg #[.int .i64 n.ins, .slice A n.gs.length c], .int .i64 a, .int .i64 b] w (RetNetInt F w (and1 n a b)) := by
  have eb : IntKind.i64.wrap (-b) = -b := IntWalk.i64_in _ (by omega)
  have hW : Below w.heap.size w ((w.alloc (.cells #[.int .i64 n.ins, .slice A n.gs.length c] 25)).alloc (.cells #[.int .i64 0, .slice none 0 0] 25)) := ((Below.refl _ _).alloc (Nat.le_refl _) _).alloc (by simp) _
  by_cases c1 : a = -1 ∨ b = -1 ∨ a = -b
  · have hr : and1 n a b = (n, -1) := by unfold and1; rw [if_pos c1]
    rw [hr]
    have t : (a == -1 || (b == -1 || a == -b)) = true := by simp; omega
    cases t1 : (a == -1) <;> cases t2 : (b == -1) <;> cases t3 : (a == -b) <;> simp [t1, t2, t3] at t
    all_goals clear c1 t hr
    all_goals
      go_enter Try.func30, Try.ntmps30
      go_wp2_with fail
      refine bodyPost_ret (v := .tuple #[.agg #[.int .i64 n.ins, .slice A n.gs.length c], .int .i64 (-1)]) (by simp [results, Try.results30, go_sem]) rfl (same_end h hF hA (-1) ?_)
      exact ((Below.refl _ _).alloc (Nat.le_refl _) _).alloc (by simp) _
  have t1 : (a == -1) = false := by simp; omega
  have t2 : (b == -1) = false := by simp; omega
  have t3 : (a == -b) = false := by simp; omega
  by_cases c2 : a = 1 ∨ a = b
  · have hr : and1 n a b = (n, b) := by unfold and1; rw [if_neg c1, if_pos c2]
    rw [hr]
    have t : (a == 1 || a == b) = true := by simp; omega
    cases t4 : (a == 1) <;> cases t5 : (a == b) <;> simp [t4, t5] at t
    all_goals clear c1 c2 t hr
    all_goals
      go_enter Try.func30, Try.ntmps30
      go_wp2_with fail
      refine bodyPost_ret (v := .tuple #[.agg #[.int .i64 n.ins, .slice A n.gs.length c], .int .i64 b]) (by simp [results, Try.results30, go_sem]) rfl (same_end h hF hA b ?_)
      exact ((Below.refl _ _).alloc (Nat.le_refl _) _).alloc (by simp) _
  have t4 : (a == 1) = false := by simp; omega
  have t5 : (a == b) = false := by simp; omega
  by_cases c3 : b = 1
  · have hr : and1 n a b = (n, a) := by unfold and1; rw [if_neg c1, if_neg c2, if_pos c3]
    rw [hr]
    have t6 : (b == 1) = true := by simp; omega
    clear c1 c2 c3 hr
    all_goals
      go_enter Try.func30, Try.ntmps30
      go_wp2_with fail
      refine bodyPost_ret (v := .tuple #[.agg #[.int .i64 n.ins, .slice A n.gs.length c], .int .i64 a]) (by simp [results, Try.results30, go_sem]) rfl (same_end h hF hA a ?_)
      exact ((Below.refl _ _).alloc (Nat.le_refl _) _).alloc (by simp) _
  have t6 : (b == 1) = false := by simp; omega
  by_cases c4 : b.natAbs < a.natAbs
  · have hr : and1 n a b = put n ⟨false, b, a⟩ := by unfold and1; rw [if_neg c1, if_neg c2, if_neg c3, if_pos c4]
    rw [hr]
    clear hr c1 c2 c3
    go_enter Try.func30, Try.ntmps30
    go_wp2_with (first | (go_at_call 57; refine (l4Abs_any _ _ (by omega) (by omega)).mono ?_; rintro e w' ⟨rfl, rfl⟩) | fail)
    refine (l6Put_any F A c n ⟨false, b, a⟩ _ (h.below hW hF) (fun b' hb' => Nat.lt_of_lt_of_le (hF b' hb') hW.size) hn hA h0 h1).mono ?_
    rintro e w' ⟨A', c', rfl, hA', h', hb'⟩
    generalize put n ⟨false, b, a⟩ = r at *
    obtain ⟨k5, k6, kf5, kf6⟩ := res_cells hb'
    go_wp2_with fail
    refine bodyPost_ret (v := .tuple #[.agg #[.int .i64 r.1.ins, .slice A' r.1.gs.length c'], .int .i64 r.2]) (by simp [results, Try.results30, go_sem, k5, k6, kf5, kf6]) rfl ?_
    have hbel : Below w.heap.size w ((w'.setCell ⟨w.heap.size + 1, 0, none⟩ (.int .i64 r.1.ins)).setCell ⟨w.heap.size + 1, 1, none⟩ (.slice A' r.1.gs.length c')) := by
      refine below_set (below_set (bthen hW hb') ?_ _) ?_ _ <;> (show w.heap.size ≤ w.heap.size + 1; omega)
    exact ⟨A', c', rfl, hA', sl_two hW hF h' hb', hbel⟩
  · have hr : and1 n a b = put n ⟨false, a, b⟩ := by unfold and1; rw [if_neg c1, if_neg c2, if_neg c3, if_neg c4]
    rw [hr]
    clear hr c1 c2 c3
    go_enter Try.func30, Try.ntmps30
    go_wp2_with (first | (go_at_call 57; refine (l4Abs_any _ _ (by omega) (by omega)).mono ?_; rintro e w' ⟨rfl, rfl⟩) | fail)
    refine (l6Put_any F A c n ⟨false, a, b⟩ _ (h.below hW hF) (fun b' hb' => Nat.lt_of_lt_of_le (hF b' hb') hW.size) hn hA h0 h1).mono ?_
    rintro e w' ⟨A', c', rfl, hA', h', hb'⟩
    generalize put n ⟨false, a, b⟩ = r at *
    obtain ⟨k5, k6, kf5, kf6⟩ := res_cells hb'
    go_wp2_with fail
    refine bodyPost_ret (v := .tuple #[.agg #[.int .i64 r.1.ins, .slice A' r.1.gs.length c'], .int .i64 r.2]) (by simp [results, Try.results30, go_sem, k5, k6, kf5, kf6]) rfl ?_
    have hbel : Below w.heap.size w ((w'.setCell ⟨w.heap.size + 1, 0, none⟩ (.int .i64 r.1.ins)).setCell ⟨w.heap.size + 1, 1, none⟩ (.slice A' r.1.gs.length c')) := by
      refine below_set (below_set (bthen hW hb') ?_ _) ?_ _ <;> (show w.heap.size ≤ w.heap.size + 1; omega)
    exact ⟨A', c', rfl, hA', sl_two hW hF h' hb', hbel⟩
end Go.Proofs.Ytcdlfnhjpjpbjaa
