/- Clauses, what is put, unit propagation: the plain law. No program is named here. -/
import Derived.Test.YtndolbplkjhooaaOpenT
namespace Go.Proofs.Ytndolbplkjhooaa
open Go Go.RowKit

structure C where
  many : Int
  list : List (List Int)
/-- A clause, from a place on, behind a mark. -/
def cOk (many : Int) : Int → List Int → Bool
  | _, [] => true
  | last, l :: ls => decide (-many ≤ l) && decide (l ≤ many) && decide (last < (l.natAbs : Int)) && cOk many l.natAbs ls
def clOk (many : Int) (cl : List Int) : Bool := cOk many 0 cl
def cnfOk (c : C) : Bool := decide (0 ≤ c.many) && decide (c.many ≤ 700) && decide (c.list.length ≤ 2500) && c.list.all (clOk c.many)
theorem cOk_drop {many last : Int} {cl : List Int} {k : Nat} (h : k < cl.length) : cOk many last (cl.drop k) = (decide (-many ≤ cl[k]) && decide (cl[k] ≤ many) && decide (last < (cl[k].natAbs : Int)) && cOk many (cl[k].natAbs) (cl.drop (k + 1))) := by
  rw [List.drop_eq_getElem_cons h]; rfl
theorem cOk_mem {many last : Int} (h0 : 0 ≤ last) : ∀ {cl : List Int}, cOk many last cl = true → ∀ l ∈ cl, l ≠ 0 ∧ -many ≤ l ∧ l ≤ many ∧ last < (l.natAbs : Int)
  | l :: ls, h, x, hx => by
    simp only [cOk, Bool.and_eq_true, decide_eq_true_eq] at h
    obtain ⟨⟨⟨h1, h2⟩, h3⟩, h4⟩ := h
    rcases List.mem_cons.1 hx with rfl | hx
    · exact ⟨by omega, h1, h2, h3⟩
    · have := cOk_mem (by omega) h4 x hx
      exact ⟨this.1, this.2.1, this.2.2.1, by omega⟩

/-- What is put: marks that are there, each at most once. -/
structure Good (many : Int) (put : List Int) : Prop where
  rng : ∀ l ∈ put, l ≠ 0 ∧ -many ≤ l ∧ l ≤ many
  nodup : (put.map Int.natAbs).Nodup
theorem Good.nil (many : Int) : Good many [] := ⟨by simp, by simp⟩
theorem mem_natAbs {put : List Int} {l : Int} : l.natAbs ∈ put.map Int.natAbs ↔ l ∈ put ∨ -l ∈ put := by
  rw [List.mem_map]
  constructor
  · rintro ⟨x, hx, he⟩
    have : x = l ∨ x = -l := by omega
    rcases this with rfl | rfl
    · exact .inl hx
    · exact .inr hx
  · rintro (h | h)
    · exact ⟨l, h, rfl⟩
    · exact ⟨-l, h, by omega⟩
theorem Good.snoc {many : Int} {put : List Int} {l : Int} (h : Good many put) (h0 : l ≠ 0) (h1 : -many ≤ l) (h2 : l ≤ many) (h3 : l ∉ put) (h4 : -l ∉ put) : Good many (put ++ [l]) := by
  refine ⟨fun x hx => ?_, ?_⟩
  · rcases List.mem_append.1 hx with hx | hx
    · exact h.rng x hx
    · rw [List.mem_singleton.1 hx]; exact ⟨h0, h1, h2⟩
  · rw [List.map_append]
    refine List.nodup_append.2 ⟨h.nodup, by simp, fun a ha b hb => ?_⟩
    simp only [List.map_cons, List.map_nil, List.mem_singleton] at hb
    rintro rfl
    rw [hb] at ha
    rcases mem_natAbs.1 ha with h' | h'
    · exact h3 h'
    · exact h4 h'
theorem nodup_bound : ∀ (m : Nat) (l : List Nat), l.Nodup → (∀ x ∈ l, 1 ≤ x ∧ x ≤ m) → l.length ≤ m
  | 0, l, _, h => by
    cases l with
    | nil => simp
    | cons x xs => have := h x (by simp); omega
  | m + 1, l, hn, h => by
    have h1 : (l.filter (fun x => x != m + 1)).length ≤ m := nodup_bound m _ (hn.filter _) (fun x hx => by
      have hx' := List.mem_filter.1 hx
      have := h x hx'.1
      have hne : x ≠ m + 1 := by simpa using hx'.2
      omega)
    have h2 : (l.filter (fun x => x == m + 1)).length ≤ 1 := by
      have : ∀ (l : List Nat), l.Nodup → (l.filter (fun x => x == m + 1)).length ≤ 1 := by
        intro l hn
        induction l with
        | nil => simp
        | cons x xs ih =>
          have hx := List.nodup_cons.1 hn
          by_cases e : x = m + 1
          · subst e
            have : xs.filter (fun x => x == m + 1) = [] := List.filter_eq_nil_iff.2 (fun y hy => by
              simp only [beq_iff_eq]; rintro rfl; exact hx.1 hy)
            simp [this]
          · have hf : (x == m + 1) = false := by simp [e]
            rw [List.filter_cons, hf]
            exact ih hx.2
      exact this l hn
    have h3 : l.length = (l.filter (fun x => x == m + 1)).length + (l.filter (fun x => x != m + 1)).length := by
      clear h hn h1 h2
      induction l with
      | nil => rfl
      | cons x xs ih =>
        by_cases e : x = m + 1
        · have h1 : (x == m + 1) = true := by simp [e]
          have h2 : (x != m + 1) = false := by simp [e]
          simp only [List.filter_cons, h1, h2, List.length_cons, if_true]
          simp only [Bool.false_eq_true, if_false]
          omega
        · have h1 : (x == m + 1) = false := by simp [e]
          have h2 : (x != m + 1) = true := by simp [e]
          simp only [List.filter_cons, h1, h2, List.length_cons, if_true]
          simp only [Bool.false_eq_true, if_false]
          omega
    omega
theorem Good.length {many : Int} {put : List Int} (h : Good many put) : put.length ≤ many.toNat := by
  have := nodup_bound many.toNat (put.map Int.natAbs) h.nodup (fun x hx => by
    obtain ⟨l, hl, rfl⟩ := List.mem_map.1 hx
    have := h.rng l hl
    omega)
  simpa using this
theorem Good.apart {many : Int} {put : List Int} (h : Good many put) {l : Int} (h1 : l ∈ put) (h2 : -l ∈ put) : False := by
  have h0 := (h.rng l h1).1
  have := h.nodup
  obtain ⟨i, hi, ei⟩ := List.getElem_of_mem h1
  obtain ⟨j, hj, ej⟩ := List.getElem_of_mem h2
  have hp := List.pairwise_iff_getElem.1 this
  have hne : i ≠ j := by
    rintro rfl
    rw [ei] at ej; omega
  rcases Nat.lt_or_ge i j with hlt | hge
  · exact hp i j (by simpa using hi) (by simpa using hj) hlt (by simp only [List.getElem_map, ei, ej]; omega)
  · exact hp j i (by simpa using hj) (by simpa using hi) (by omega) (by simp only [List.getElem_map, ei, ej]; omega)
/-- How a mark is: 1 put, -1 turned, 0 free. -/
def sg (put : List Int) (m : Int) : Int := if m ∈ put then 1 else if -m ∈ put then -1 else 0

/-- The look at a clause: nothing if one is put; else how many are free, and the last one of these. -/
def lk (put : List Int) : List Int → Int → Int → Option (Int × Int)
  | [], n, f => some (n, f)
  | l :: ls, n, f => if l ∈ put then none else if -l ∈ put then lk put ls n f else lk put ls (n + 1) l
theorem lk_drop {put cl : List Int} {k : Nat} {n f : Int} (h : k < cl.length) : lk put (cl.drop k) n f = if cl[k] ∈ put then none else if -cl[k] ∈ put then lk put (cl.drop (k + 1)) n f else lk put (cl.drop (k + 1)) (n + 1) cl[k] := by
  rw [List.drop_eq_getElem_cons h]; rfl
/-- The first false clause, and the first one with a single free mark, and that one. -/
def fd (put : List Int) : List (List Int) → Int → Int → Int → Int × Int × Int
  | [], _, u, f => (-1, u, f)
  | cl :: cls, k, u, f => match lk put cl 0 0 with
    | none => fd put cls (k + 1) u f
    | some (n, m) => if n = 0 then (k, u, f) else if n = 1 ∧ u < 0 then fd put cls (k + 1) k m else fd put cls (k + 1) u f
theorem fd_drop {put : List Int} {cs : List (List Int)} {j : Nat} {k u f : Int} (h : j < cs.length) : fd put (cs.drop j) k u f = match lk put cs[j] 0 0 with
    | none => fd put (cs.drop (j + 1)) (k + 1) u f
    | some (n, m) => if n = 0 then (k, u, f) else if n = 1 ∧ u < 0 then fd put (cs.drop (j + 1)) (k + 1) k m else fd put (cs.drop (j + 1)) (k + 1) u f := by
  rw [List.drop_eq_getElem_cons h]; rfl
/-- Unit propagation, with fuel. -/
def un (cs : List (List Int)) : Nat → List Int → List Int × Bool
  | 0, put => (put, false)
  | n + 1, put => if 0 ≤ (fd put cs 0 (-1) 0).1 then (put, true) else if (fd put cs 0 (-1) 0).2.1 < 0 then (put, false) else un cs n (put ++ [(fd put cs 0 (-1) 0).2.2])
def units (many : Int) (cs : List (List Int)) (put : List Int) : List Int × Bool := un cs (many.toNat + 1 - put.length) put

theorem lk_free {many : Int} {put : List Int} : ∀ {cl : List Int} {n f n' f' : Int}, (∀ l ∈ cl, l ≠ 0 ∧ -many ≤ l ∧ l ≤ many) → (0 < n → f ≠ 0 ∧ -many ≤ f ∧ f ≤ many ∧ f ∉ put ∧ -f ∉ put) → 0 ≤ n → lk put cl n f = some (n', f') → 0 < n' → f' ≠ 0 ∧ -many ≤ f' ∧ f' ≤ many ∧ f' ∉ put ∧ -f' ∉ put
  | [], n, f, n', f', _, hf, _, h, hp => by
    simp only [lk, Option.some.injEq, Prod.mk.injEq] at h
    obtain ⟨rfl, rfl⟩ := h
    exact hf hp
  | l :: ls, n, f, n', f', hc, hf, h0, h, hp => by
    have hl := hc l (by simp)
    have hls : ∀ l ∈ ls, l ≠ 0 ∧ -many ≤ l ∧ l ≤ many := fun x hx => hc x (by simp [hx])
    simp only [lk] at h
    split at h
    · cases h
    · rename_i h1
      split at h
      · exact lk_free hls hf h0 h hp
      · rename_i h2
        exact lk_free hls (fun _ => ⟨hl.1, hl.2.1, hl.2.2, h1, h2⟩) (by omega) h hp
theorem fd_free {many : Int} {put : List Int} : ∀ {cs : List (List Int)} {k u f : Int}, (∀ cl ∈ cs, ∀ l ∈ cl, l ≠ 0 ∧ -many ≤ l ∧ l ≤ many) → (0 ≤ u → f ≠ 0 ∧ -many ≤ f ∧ f ≤ many ∧ f ∉ put ∧ -f ∉ put) → 0 ≤ k →
    0 ≤ (fd put cs k u f).2.1 → (fd put cs k u f).2.2 ≠ 0 ∧ -many ≤ (fd put cs k u f).2.2 ∧ (fd put cs k u f).2.2 ≤ many ∧ (fd put cs k u f).2.2 ∉ put ∧ -(fd put cs k u f).2.2 ∉ put
  | [], k, u, f, _, hf, _, h => hf h
  | cl :: cls, k, u, f, hc, hf, hk, h => by
    have hcl := hc cl (by simp)
    have hcls : ∀ cl ∈ cls, ∀ l ∈ cl, l ≠ 0 ∧ -many ≤ l ∧ l ≤ many := fun x hx => hc x (by simp [hx])
    simp only [fd] at h ⊢
    cases hlk : lk put cl 0 0 with
    | none =>
      rw [hlk] at h
      exact fd_free hcls hf (by omega) h
    | some p =>
      obtain ⟨n, m⟩ := p
      rw [hlk] at h
      dsimp only at h ⊢
      split at h
      · rename_i hn
        rw [if_pos hn]; exact hf h
      · rename_i hn
        rw [if_neg hn]
        split at h
        · rename_i h1
          rw [if_pos h1]
          exact fd_free hcls (fun _ => lk_free hcl (fun h => absurd h (by omega)) (by omega) hlk (by omega)) (by omega) h
        · rename_i h1
          rw [if_neg h1]
          exact fd_free hcls hf (by omega) h
theorem clOk_rng {many : Int} {cl : List Int} (h : clOk many cl = true) : ∀ l ∈ cl, l ≠ 0 ∧ -many ≤ l ∧ l ≤ many := fun l hl => by
  have := cOk_mem (Int.le_refl 0) h l hl
  exact ⟨this.1, this.2.1, this.2.2.1⟩
theorem cnfOk_rng {c : C} (h : cnfOk c = true) : ∀ cl ∈ c.list, ∀ l ∈ cl, l ≠ 0 ∧ -c.many ≤ l ∧ l ≤ c.many := fun cl hc => by
  simp only [cnfOk, Bool.and_eq_true, List.all_eq_true] at h
  exact clOk_rng (h.2 cl hc)
/-- The next unit may be put. -/
theorem Good.next {many : Int} {put : List Int} {cs : List (List Int)} (h : Good many put) (hc : ∀ cl ∈ cs, ∀ l ∈ cl, l ≠ 0 ∧ -many ≤ l ∧ l ≤ many) (hu : 0 ≤ (fd put cs 0 (-1) 0).2.1) : Good many (put ++ [(fd put cs 0 (-1) 0).2.2]) := by
  have := fd_free hc (fun h => absurd h (by omega)) (Int.le_refl 0) hu
  exact h.snoc this.1 this.2.1 this.2.2.1 this.2.2.2.1 this.2.2.2.2
theorem units_step {many : Int} {cs : List (List Int)} {put : List Int} (h : put.length ≤ many.toNat) : units many cs put =
    if 0 ≤ (fd put cs 0 (-1) 0).1 then (put, true) else if (fd put cs 0 (-1) 0).2.1 < 0 then (put, false) else units many cs (put ++ [(fd put cs 0 (-1) 0).2.2]) := by
  unfold units
  rw [show many.toNat + 1 - put.length = (many.toNat + 1 - (put.length + 1)) + 1 by omega, un]
  simp only [List.length_append, List.length_cons, List.length_nil]

theorem cOk_good {many last : Int} (h0 : 0 ≤ last) : ∀ {cl : List Int}, cOk many last cl = true → Good many (cl.map fun l => -l) ∧ ∀ l ∈ cl, last < (l.natAbs : Int)
  | [], _ => ⟨Good.nil many, by simp⟩
  | l :: ls, h => by
    have hm := cOk_mem h0 h
    simp only [cOk, Bool.and_eq_true, decide_eq_true_eq] at h
    obtain ⟨⟨⟨h1, h2⟩, h3⟩, h4⟩ := h
    obtain ⟨hg, hgt⟩ := cOk_good (by omega) h4
    refine ⟨⟨fun x hx => ?_, ?_⟩, fun x hx => (hm x hx).2.2.2⟩
    · obtain ⟨y, hy, rfl⟩ := List.mem_map.1 hx
      have := hm y hy
      omega
    · simp only [List.map_cons, List.map_map]
      refine List.nodup_cons.2 ⟨fun hx => ?_, by simpa [List.map_map] using hg.nodup⟩
      obtain ⟨y, hy, e⟩ := List.mem_map.1 hx
      have := hgt y hy
      simp only [Function.comp] at e
      omega
def rupP (c : C) (cl : List Int) : Bool := (units c.many c.list (cl.map fun l => -l)).2
def rupOk (c : C) (cl : List Int) : Bool := cnfOk c && (clOk c.many cl && rupP c cl)
end Go.Proofs.Ytndolbplkjhooaa
