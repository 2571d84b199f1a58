/- What truth values say of clauses; counting through them; unit propagation is sound: the plain law. No program is named here. -/
import Derived.Test.YtndolbplkjhooaaUnitL
namespace Go.Proofs.Ytndolbplkjhooaa
open Go Go.RowKit

def inV (n : Nat) (l : Int) : Bool := decide (l ≠ 0 ∧ -(n : Int) ≤ l ∧ l ≤ n)
def holdsL (vs : List Bool) (l : Int) : Bool := inV vs.length l && (vs.getD (l.natAbs - 1) false == decide (0 < l))
def clHas (vs : List Bool) (cl : List Int) : Bool := cl.any (holdsL vs)
def cnfHas (x : C) (vs : List Bool) : Bool := cnfOk x && (decide ((vs.length : Int) = x.many) && x.list.all (clHas vs))
theorem holdsL_neg {vs : List Bool} {l : Int} (h : inV vs.length l = true) : holdsL vs (-l) = !holdsL vs l := by
  have h' := h
  unfold inV at h
  rw [decide_eq_true_eq] at h
  have h2 : inV vs.length (-l) = true := by unfold inV; rw [decide_eq_true_eq]; omega
  unfold holdsL
  rw [h', h2, Int.natAbs_neg]
  by_cases hp : 0 < l
  · rw [decide_eq_true hp, decide_eq_false (by omega)]
    cases vs.getD (l.natAbs - 1) false <;> rfl
  · rw [decide_eq_false hp, decide_eq_true (by omega)]
    cases vs.getD (l.natAbs - 1) false <;> rfl
theorem holdsL_in {vs : List Bool} {l : Int} (h : holdsL vs l = true) : inV vs.length l = true := by
  unfold holdsL at h
  rw [Bool.and_eq_true] at h
  exact h.1
theorem cnfHas_iff {x : C} {vs : List Bool} : cnfHas x vs = true ↔ cnfOk x = true ∧ (vs.length : Int) = x.many ∧ ∀ cl ∈ x.list, clHas vs cl = true := by
  unfold cnfHas
  simp only [Bool.and_eq_true, decide_eq_true_eq, List.all_eq_true]
/-- Whatever makes all clauses true makes true what is propagated, and nothing is wrong. -/
theorem un_sound {many : Int} {cs : List (List Int)} {vs : List Bool} (hlen : (vs.length : Int) = many) (hc : ∀ cl ∈ cs, ∀ l ∈ cl, l ≠ 0 ∧ -many ≤ l ∧ l ≤ many) (hall : ∀ cl ∈ cs, clHas vs cl = true) :
    ∀ (n : Nat) (P : List Int), (∀ l ∈ P, holdsL vs l = true) → (∀ l ∈ (un cs n P).1, holdsL vs l = true) ∧ (un cs n P).2 = false
  | 0, P, hP => ⟨hP, rfl⟩
  | n + 1, P, hP => by
    obtain ⟨a, b⟩ := @fd_spec P cs 0 (-1) 0 (by omega)
    have hin : ∀ cl ∈ cs, ∀ l ∈ cl, inV vs.length l = true := fun cl hcl l hl => by
      have := hc cl hcl l hl
      unfold inV; rw [decide_eq_true_eq]; omega
    have hfalse : ∀ cl ∈ cs, ∀ l ∈ cl, -l ∈ P → holdsL vs l = false := fun cl hcl l hl h => by
      have h1 := hP _ h
      rw [holdsL_neg (hin cl hcl l hl)] at h1
      simpa using h1
    have h1 : (fd P cs 0 (-1) 0).1 < 0 := by
      rcases Int.lt_or_le (fd P cs 0 (-1) 0).1 0 with h | h
      · exact h
      · obtain ⟨cl, hcl, m, hm⟩ := a h
        have hh := (lk_some hm).2.2.1 rfl
        have hx := hall cl hcl
        unfold clHas at hx
        obtain ⟨l, hl, hl2⟩ := List.any_eq_true.1 hx
        rw [hfalse cl hcl l hl (hh.2 l hl)] at hl2
        cases hl2
    simp only [un]
    rw [if_neg (by omega)]
    split
    · exact ⟨hP, rfl⟩
    · rename_i h2
      refine un_sound hlen hc hall n _ fun l hl => ?_
      rcases List.mem_append.1 hl with h | h
      · exact hP l h
      · rw [List.mem_singleton.1 h]
        rcases (b h1).2 with ⟨e1, _⟩ | ⟨_, _, cl, hcl, hm⟩
        · omega
        · generalize (fd P cs 0 (-1) 0).2.2 = m at *
          have hh := (lk_some hm).2.2.2 (by omega)
          have hx := hall cl hcl
          unfold clHas at hx
          obtain ⟨l', hl', hl2⟩ := List.any_eq_true.1 hx
          rcases hh.2.2 l' hl' with e | e
          · rw [← e]; exact hl2
          · rw [hfalse cl hcl l' hl' e] at hl2; cases hl2
/-- The formula with what is put. -/
def withPut (x : C) (put : List Int) : C := ⟨x.many, x.list ++ put.map fun l => [l]⟩
theorem withPut_has {x : C} {put : List Int} {vs : List Bool} (h : cnfHas (withPut x put) vs = true) : (vs.length : Int) = x.many ∧ (∀ cl ∈ x.list, clHas vs cl = true) ∧ ∀ l ∈ put, holdsL vs l = true := by
  obtain ⟨_, h2, h3⟩ := cnfHas_iff.1 h
  refine ⟨h2, fun cl hcl => h3 cl (List.mem_append_left _ hcl), fun l hl => ?_⟩
  have := h3 [l] (List.mem_append_right _ (List.mem_map.2 ⟨l, hl, rfl⟩))
  simpa [clHas] using this
theorem unit_sound {x : C} {put : List Int} (hok : cnfOk x = true) (hl : put.length ≤ (unitAllP x put).1.length) :
    (∀ vs, cnfHas (withPut x put) vs = true → (∀ l ∈ (unitAllP x put).1, holdsL vs l = true) ∧ (unitAllP x put).2 = false) ∧ ∃ s, (unitAllP x put).1 = put ++ s := by
  by_cases hy : cnfOk x = true ∧ Good x.many put
  · rw [unitAllP_yes hy]
    refine ⟨fun vs h => ?_, (units_out (cnfOk_rng hok) hy.2).1⟩
    obtain ⟨h1, h2, h3⟩ := withPut_has h
    exact un_sound h1 (cnfOk_rng hok) h2 _ _ h3
  · rw [unitAllP_no hy] at hl ⊢
    have : put = [] := List.eq_nil_of_length_eq_zero (by simpa using hl)
    subst this
    exact absurd ⟨hok, Good.nil _⟩ hy

/-- The truth values as a number: the first is the highest. -/
def bval : List Bool → Nat → Nat
  | [], a => a
  | b :: bs, a => bval bs (2 * a + if b then 1 else 0)
theorem bval_add : ∀ (bs : List Bool) (a : Nat), bval bs a = a * 2 ^ bs.length + bval bs 0
  | [], a => by simp [bval]
  | b :: bs, a => by
    rw [bval, bval_add bs, bval, bval_add bs (2 * 0 + _)]
    simp only [List.length_cons, Nat.pow_succ]
    generalize 2 ^ bs.length = q
    cases b
    · simp only [Bool.false_eq_true, if_false, Nat.add_zero, Nat.mul_zero, Nat.zero_mul, Nat.zero_add]
      rw [Nat.mul_comm 2 a, Nat.mul_assoc, Nat.mul_comm 2]
    · simp only [if_true, Nat.mul_zero, Nat.zero_add, Nat.add_mul, Nat.one_mul]
      rw [Nat.mul_comm 2 a, Nat.mul_assoc, Nat.mul_comm 2]
      omega
theorem bval_lt : ∀ (bs : List Bool), bval bs 0 < 2 ^ bs.length
  | [] => by simp [bval]
  | b :: bs => by
    have h1 := bval_lt bs
    rw [bval, bval_add]
    simp only [List.length_cons, Nat.pow_succ]
    cases b <;> simp <;> omega
theorem bval_inj : ∀ {cs bs : List Bool}, cs.length = bs.length → bval cs 0 = bval bs 0 → cs = bs
  | [], [], _, _ => rfl
  | a :: cs, b :: bs, hl, h => by
    have hl' : cs.length = bs.length := by simpa using hl
    rw [bval, bval, bval_add, bval_add bs] at h
    have h1 := bval_lt cs
    have h2 := bval_lt bs
    rw [hl'] at h h1
    have hab : a = b := by
      cases a <;> cases b <;> simp at h ⊢ <;> omega
    subst hab
    rw [bval_inj hl' (by omega)]
/-- All ahead of it are true, and false behind: one step of counting, from a place on. -/
theorem bval_ones : ∀ (n : Nat), bval (List.replicate n true) 0 + 1 = 2 ^ n
  | 0 => rfl
  | n + 1 => by
    have := bval_ones n
    rw [List.replicate_succ, bval, bval_add]
    simp only [List.length_replicate, Nat.pow_succ]
    simp
    omega
theorem bval_zeros : ∀ (n : Nat), bval (List.replicate n false) 0 = 0
  | 0 => rfl
  | n + 1 => by rw [List.replicate_succ, bval]; simpa using bval_zeros n
theorem bval_append : ∀ (cs bs : List Bool) (a : Nat), bval (cs ++ bs) a = bval bs (bval cs a)
  | [], bs, a => rfl
  | x :: cs, bs, a => by simp only [List.cons_append, bval, bval_append cs bs]
/-- The next ones: the last false turns true, all behind it false. -/
theorem bval_next (pre : List Bool) (n : Nat) : bval (pre ++ true :: List.replicate n false) 0 = bval (pre ++ false :: List.replicate n true) 0 + 1 := by
  rw [bval_append, bval_append, bval, bval, bval_add, bval_add (List.replicate n true), bval_zeros]
  have := bval_ones n
  simp only [List.length_replicate]
  generalize bval pre 0 = p
  simp only [if_true, Bool.false_eq_true, if_false, Nat.add_zero, Nat.add_mul, Nat.one_mul]
  omega
end Go.Proofs.Ytndolbplkjhooaa
