/- Unit propagation is confluent: the plain law. No program is named here. -/
import Derived.Test.YtndolbplkjhooaaUnitAll
namespace Go.Proofs.Ytndolbplkjhooaa
open Go Go.RowKit

theorem lk_some {put : List Int} : ∀ {cl : List Int} {n f n' f' : Int}, lk put cl n f = some (n', f') →
    (∀ l ∈ cl, l ∉ put) ∧ n ≤ n' ∧ (n' = n → f' = f ∧ ∀ l ∈ cl, -l ∈ put) ∧ (n' = n + 1 → f' ∈ cl ∧ -f' ∉ put ∧ ∀ l ∈ cl, l = f' ∨ -l ∈ put)
  | [], n, f, n', f', h => by
    simp only [lk, Option.some.injEq, Prod.mk.injEq] at h
    obtain ⟨rfl, rfl⟩ := h
    exact ⟨by simp, Int.le_refl _, fun _ => ⟨rfl, by simp⟩, fun h => by omega⟩
  | l :: ls, n, f, n', f', h => by
    simp only [lk] at h
    split at h
    · cases h
    · rename_i h1
      split at h
      · rename_i h2
        obtain ⟨a, b, c, d⟩ := lk_some h
        refine ⟨fun x hx => ?_, b, fun e => ⟨(c e).1, fun x hx => ?_⟩, fun e => ⟨List.mem_cons_of_mem _ (d e).1, (d e).2.1, fun x hx => ?_⟩⟩
        · rcases List.mem_cons.1 hx with rfl | hx
          · exact h1
          · exact a x hx
        · rcases List.mem_cons.1 hx with rfl | hx
          · exact h2
          · exact (c e).2 x hx
        · rcases List.mem_cons.1 hx with rfl | hx
          · exact .inr h2
          · exact (d e).2.2 x hx
      · rename_i h2
        obtain ⟨a, b, c, d⟩ := lk_some h
        refine ⟨fun x hx => ?_, by omega, fun e => by omega, fun e => ?_⟩
        · rcases List.mem_cons.1 hx with rfl | hx
          · exact h1
          · exact a x hx
        · obtain ⟨e1, e2⟩ := c e
          subst e1
          refine ⟨List.mem_cons_self, h2, fun x hx => ?_⟩
          rcases List.mem_cons.1 hx with rfl | hx
          · exact .inl rfl
          · exact .inr (e2 x hx)
theorem lk_is0 {put : List Int} : ∀ {cl : List Int} {n f : Int}, (∀ l ∈ cl, l ∉ put ∧ -l ∈ put) → lk put cl n f = some (n, f)
  | [], n, f, _ => rfl
  | l :: ls, n, f, h => by
    simp only [lk]
    rw [if_neg (h l (by simp)).1, if_pos (h l (by simp)).2]
    exact lk_is0 fun x hx => h x (by simp [hx])
theorem lk_is1 {put : List Int} {m : Int} : ∀ {cl : List Int} {n f : Int}, cl.Nodup → m ∈ cl → m ∉ put → -m ∉ put → (∀ l ∈ cl, l ≠ m → l ∉ put ∧ -l ∈ put) → lk put cl n f = some (n + 1, m)
  | l :: ls, n, f, hn, hm, h1, h2, h => by
    simp only [lk]
    have hn' := List.nodup_cons.1 hn
    by_cases e : l = m
    · subst e
      rw [if_neg h1, if_neg h2]
      exact lk_is0 fun x hx => h x (by simp [hx]) (fun e => hn'.1 (e ▸ hx))
    · have := h l (by simp) e
      rw [if_neg this.1, if_pos this.2]
      have hm' : m ∈ ls := by
        rcases List.mem_cons.1 hm with h9 | h9
        · exact absurd h9.symm e
        · exact h9
      exact lk_is1 hn'.2 hm' h1 h2 fun x hx => h x (by simp [hx])
theorem fd_spec {put : List Int} : ∀ {cs : List (List Int)} {k u f : Int}, 0 ≤ k →
    (0 ≤ (fd put cs k u f).1 → ∃ cl ∈ cs, ∃ m, lk put cl 0 0 = some (0, m)) ∧
    ((fd put cs k u f).1 < 0 → (∀ cl ∈ cs, ∀ m, lk put cl 0 0 ≠ some (0, m)) ∧
      (((fd put cs k u f).2.1 = u ∧ (fd put cs k u f).2.2 = f ∧ (u < 0 → ∀ cl ∈ cs, ∀ m, lk put cl 0 0 ≠ some (1, m))) ∨
       (u < 0 ∧ 0 ≤ (fd put cs k u f).2.1 ∧ ∃ cl ∈ cs, lk put cl 0 0 = some (1, (fd put cs k u f).2.2))))
  | [], k, u, f, _ => by
    simp [fd]
  | cl :: cls, k, u, f, hk => by
    have ih := fun u f => @fd_spec put cls (k + 1) u f (by omega)
    simp only [fd]
    cases hl : lk put cl 0 0 with
    | none =>
      obtain ⟨a, b⟩ := ih u f
      refine ⟨fun h => ?_, fun h => ?_⟩
      · obtain ⟨c, hc, m, hm⟩ := a h
        exact ⟨c, List.mem_cons_of_mem _ hc, m, hm⟩
      · obtain ⟨b1, b2⟩ := b h
        refine ⟨fun c hc m => ?_, ?_⟩
        · rcases List.mem_cons.1 hc with rfl | hc
          · rw [hl]; simp
          · exact b1 c hc m
        · rcases b2 with ⟨e1, e2, e3⟩ | ⟨e1, e2, c, hc, e3⟩
          · refine .inl ⟨e1, e2, fun hu c hc m => ?_⟩
            rcases List.mem_cons.1 hc with rfl | hc
            · rw [hl]; simp
            · exact e3 hu c hc m
          · exact .inr ⟨e1, e2, c, List.mem_cons_of_mem _ hc, e3⟩
    | some p =>
      obtain ⟨n, m⟩ := p
      dsimp only
      by_cases h0 : n = 0
      · rw [if_pos h0]
        subst h0
        exact ⟨fun _ => ⟨cl, List.mem_cons_self, m, hl⟩, fun h => by dsimp only at h; omega⟩
      rw [if_neg h0]
      by_cases h1 : n = 1 ∧ u < 0
      · rw [if_pos h1]
        obtain ⟨rfl, hu⟩ := h1
        obtain ⟨a, b⟩ := ih k m
        refine ⟨fun h => ?_, fun h => ?_⟩
        · obtain ⟨c, hc, m, hm⟩ := a h
          exact ⟨c, List.mem_cons_of_mem _ hc, m, hm⟩
        · obtain ⟨b1, b2⟩ := b h
          refine ⟨fun c hc m' => ?_, ?_⟩
          · rcases List.mem_cons.1 hc with rfl | hc
            · rw [hl]; simp
            · exact b1 c hc m'
          · rcases b2 with ⟨e1, e2, _⟩ | ⟨e1, _⟩
            · exact .inr ⟨hu, by omega, cl, List.mem_cons_self, by rw [e2]; exact hl⟩
            · omega
      · rw [if_neg h1]
        obtain ⟨a, b⟩ := ih u f
        refine ⟨fun h => ?_, fun h => ?_⟩
        · obtain ⟨c, hc, m, hm⟩ := a h
          exact ⟨c, List.mem_cons_of_mem _ hc, m, hm⟩
        · obtain ⟨b1, b2⟩ := b h
          refine ⟨fun c hc m' => ?_, ?_⟩
          · rcases List.mem_cons.1 hc with rfl | hc
            · rw [hl]; simp [h0]
            · exact b1 c hc m'
          · rcases b2 with ⟨e1, e2, e3⟩ | ⟨e1, e2, c, hc, e3⟩
            · refine .inl ⟨e1, e2, fun hu c hc m' => ?_⟩
              rcases List.mem_cons.1 hc with rfl | hc
              · rw [hl]; intro h9; injection h9 with h9; injection h9 with h9 _; exact h1 ⟨h9, hu⟩
              · exact e3 hu c hc m'
            · exact .inr ⟨e1, e2, c, List.mem_cons_of_mem _ hc, e3⟩
theorem cOk_nodup {many last : Int} (h0 : 0 ≤ last) : ∀ {cl : List Int}, cOk many last cl = true → cl.Nodup
  | [], _ => List.nodup_nil
  | l :: ls, h => by
    have h' := h
    simp only [cOk, Bool.and_eq_true, decide_eq_true_eq] at h
    refine List.nodup_cons.2 ⟨fun hx => ?_, cOk_nodup (by omega) h.2⟩
    have := (cOk_mem (by omega) h.2 l hx).2.2.2
    omega
/-- Nothing is left to do, and nothing is wrong. -/
def Shut (many : Int) (cs : List (List Int)) (O : List Int) : Prop := Good many O ∧ ∀ cl ∈ cs, ∀ m, lk O cl 0 0 ≠ some (0, m) ∧ lk O cl 0 0 ≠ some (1, m)
theorem shut_step {many : Int} {cs : List (List Int)} {O P : List Int} (hO : Shut many cs O) (hn : ∀ cl ∈ cs, cl.Nodup) (hP : ∀ l ∈ P, l ∈ O) :
    (fd P cs 0 (-1) 0).1 < 0 ∧ (0 ≤ (fd P cs 0 (-1) 0).2.1 → (fd P cs 0 (-1) 0).2.2 ∈ O) := by
  obtain ⟨a, b⟩ := @fd_spec P cs 0 (-1) 0 (by omega)
  have h1 : (fd P cs 0 (-1) 0).1 < 0 := by
    rcases Int.lt_or_le (fd P cs 0 (-1) 0).1 0 with h | h
    · exact h
    · obtain ⟨cl, hc, m, hm⟩ := a h
      have hh := lk_some hm
      have hz : lk O cl 0 0 = some (0, 0) := lk_is0 fun l hl => by
        have h2 := hP _ ((hh.2.2.1 rfl).2 l hl)
        exact ⟨fun h3 => hO.1.apart h3 h2, h2⟩
      exact absurd hz (hO.2 cl hc 0).1
  refine ⟨h1, fun h2 => ?_⟩
  rcases (b h1).2 with ⟨e1, _⟩ | ⟨_, _, cl, hc, hm⟩
  · omega
  generalize (fd P cs 0 (-1) 0).2.2 = m at *
  have hh := (lk_some hm).2.2.2 (by omega)
  have hrest : ∀ l ∈ cl, l ≠ m → l ∉ O ∧ -l ∈ O := fun l hl hne => by
    have h2 := hP _ ((hh.2.2 l hl).resolve_left hne)
    exact ⟨fun h3 => hO.1.apart h3 h2, h2⟩
  by_cases hmO : m ∈ O
  · exact hmO
  by_cases hmO' : -m ∈ O
  · have hz : lk O cl 0 0 = some (0, 0) := lk_is0 fun l hl => by
      by_cases e : l = m
      · subst e; exact ⟨hmO, hmO'⟩
      · exact hrest l hl e
    exact absurd hz (hO.2 cl hc 0).1
  · exact absurd (lk_is1 (n := 0) (f := 0) (hn cl hc) hh.1 hmO hmO' hrest) (hO.2 cl hc m).2
theorem un_in {many : Int} {cs : List (List Int)} {O : List Int} (hO : Shut many cs O) (hn : ∀ cl ∈ cs, cl.Nodup) : ∀ (n : Nat) (P : List Int), (∀ l ∈ P, l ∈ O) → (un cs n P).2 = false ∧ ∀ l ∈ (un cs n P).1, l ∈ O
  | 0, P, hP => ⟨rfl, hP⟩
  | n + 1, P, hP => by
    have hs := shut_step hO hn hP
    simp only [un]
    rw [if_neg (by omega)]
    split
    · exact ⟨rfl, hP⟩
    · exact un_in hO hn n _ fun l hl => by
        rcases List.mem_append.1 hl with h | h
        · exact hP l h
        · rw [List.mem_singleton.1 h]; exact hs.2 (by omega)
/-- What a propagation gives: more than was put; if nothing is wrong all is done. -/
theorem un_out {many : Int} {cs : List (List Int)} (hc : ∀ cl ∈ cs, ∀ l ∈ cl, l ≠ 0 ∧ -many ≤ l ∧ l ≤ many) : ∀ (n : Nat) (P : List Int), Good many P → many.toNat + 1 - P.length ≤ n →
    (∃ s, (un cs n P).1 = P ++ s) ∧ Good many (un cs n P).1 ∧ ((un cs n P).2 = false → Shut many cs (un cs n P).1)
  | 0, P, hg, hf => by
    have := hg.length
    omega
  | n + 1, P, hg, hf => by
    have hl := hg.length
    obtain ⟨a, b⟩ := @fd_spec P cs 0 (-1) 0 (by omega)
    simp only [un]
    split
    · exact ⟨⟨[], by simp⟩, hg, by simp⟩
    · rename_i h1
      split
      · rename_i h2
        refine ⟨⟨[], by simp⟩, hg, fun _ => ⟨hg, fun cl hcl m => ?_⟩⟩
        obtain ⟨b1, b2⟩ := b (by omega)
        rcases b2 with ⟨_, _, e3⟩ | ⟨_, e2, _⟩
        · exact ⟨b1 cl hcl m, e3 (by omega) cl hcl m⟩
        · omega
      · rename_i h2
        have hg' := hg.next hc (by omega)
        obtain ⟨⟨s, hs⟩, h3, h4⟩ := un_out hc n _ hg' (by simp; omega)
        exact ⟨⟨(fd P cs 0 (-1) 0).2.2 :: s, by rw [hs]; simp⟩, h3, h4⟩
theorem units_out {many : Int} {cs : List (List Int)} (hc : ∀ cl ∈ cs, ∀ l ∈ cl, l ≠ 0 ∧ -many ≤ l ∧ l ≤ many) {P : List Int} (hg : Good many P) :
    (∃ s, (units many cs P).1 = P ++ s) ∧ Good many (units many cs P).1 ∧ ((units many cs P).2 = false → Shut many cs (units many cs P).1) := un_out hc _ P hg (Nat.le_refl _)
theorem sub_length {l1 l2 : List Int} (hn : l1.Nodup) (hs : ∀ x ∈ l1, x ∈ l2) : l1.length ≤ l2.length := by
  induction l1 generalizing l2 with
  | nil => simp
  | cons x xs ih =>
    have hx := List.nodup_cons.1 hn
    have h1 := ih (l2 := l2.erase x) hx.2 fun y hy => by
      have hne : y ≠ x := fun e => hx.1 (e ▸ hy)
      exact (List.mem_erase_of_ne hne).2 (hs y (by simp [hy]))
    have h2 : (l2.erase x).length = l2.length - 1 := List.length_erase_of_mem (hs x (by simp))
    have h3 : 0 < l2.length := List.length_pos_of_mem (hs x (by simp))
    simp only [List.length_cons]
    omega
theorem Good.nd {many : Int} {put : List Int} (h : Good many put) : put.Nodup := by
  refine List.pairwise_iff_getElem.2 fun i j hi hj hij e => ?_
  exact List.pairwise_iff_getElem.1 h.nodup i j (by simpa using hi) (by simpa using hj) hij (by simp [e])
theorem Good.rev {many : Int} {put : List Int} (h : Good many put) : Good many put.reverse :=
  ⟨fun l hl => h.rng l (by simpa using hl), by rw [List.map_reverse]; exact List.pairwise_reverse.2 (h.nodup.imp Ne.symm)⟩
theorem Good.rev_iff {many : Int} {put : List Int} : Good many put.reverse ↔ Good many put := ⟨fun h => by have := h.rev; rwa [List.reverse_reverse] at this, fun h => h.rev⟩
theorem cnfOk_nd {c : C} (h : cnfOk c = true) : ∀ cl ∈ c.list, cl.Nodup := fun cl hc => by
  simp only [cnfOk, Bool.and_eq_true, List.all_eq_true] at h
  exact cOk_nodup (Int.le_refl 0) (h.2 cl hc)
theorem unitAllP_i64 (x : C) (sl : List Int) : i64s (unitAllP x sl).1 := fun l hl => by
  by_cases hy : cnfOk x = true ∧ Good x.many sl
  · rw [unitAllP_yes hy] at hl
    have := (units_out (cnfOk_rng hy.1) hy.2).2.1.rng l hl
    have h := hy.1
    simp only [cnfOk, Bool.and_eq_true, decide_eq_true_eq] at h
    omega
  · rw [unitAllP_no hy] at hl; simp at hl
/-- The law: turned round, the same. -/
theorem unit_turn (x : C) (put : List Int) :
    (unitAllP x put.reverse).2 = (unitAllP x put).2 ∧ ((unitAllP x put).2 = false → put.length ≤ (unitAllP x put).1.length →
      (∀ l ∈ (unitAllP x put.reverse).1, l ∈ (unitAllP x put).1) ∧ (unitAllP x put.reverse).1.length = (unitAllP x put).1.length ∧ unitAllP x (unitAllP x put).1 = ((unitAllP x put).1, false)) := by
  by_cases hy : cnfOk x = true ∧ Good x.many put
  · have hy' : cnfOk x = true ∧ Good x.many put.reverse := ⟨hy.1, hy.2.rev⟩
    rw [unitAllP_yes hy, unitAllP_yes hy']
    have hc := cnfOk_rng hy.1
    have hn := cnfOk_nd hy.1
    obtain ⟨⟨s1, e1⟩, g1, c1⟩ := units_out hc hy.2
    obtain ⟨⟨s2, e2⟩, g2, c2⟩ := units_out hc hy'.2
    have k1 : (units x.many x.list put).2 = false → (units x.many x.list put.reverse).2 = false ∧ ∀ l ∈ (units x.many x.list put.reverse).1, l ∈ (units x.many x.list put).1 := fun h =>
      un_in (c1 h) hn _ _ fun l hl => by rw [e1]; simp; exact .inl (by simpa using hl)
    have k2 : (units x.many x.list put.reverse).2 = false → (units x.many x.list put).2 = false ∧ ∀ l ∈ (units x.many x.list put).1, l ∈ (units x.many x.list put.reverse).1 := fun h =>
      un_in (c2 h) hn _ _ fun l hl => by rw [e2]; simp; exact .inl (by simpa using hl)
    refine ⟨?_, fun h _ => ?_⟩
    · cases h1 : (units x.many x.list put).2
      · exact (k1 h1).1
      · cases h2 : (units x.many x.list put.reverse).2
        · rw [(k2 h2).1] at h1; cases h1
        · rfl
    · obtain ⟨h2, h3⟩ := k1 h
      obtain ⟨_, h5⟩ := k2 h2
      refine ⟨h3, Nat.le_antisymm (sub_length g2.nd h3) (sub_length g1.nd h5), ?_⟩
      rw [unitAllP_yes ⟨hy.1, g1⟩, units_step g1.length]
      have hs := shut_step (c1 h) hn (fun _ h => h)
      rw [if_neg (by omega), if_pos]
      rcases Int.lt_or_le (fd (units x.many x.list put).1 x.list 0 (-1) 0).2.1 0 with h6 | h6
      · exact h6
      · have h7 := hs.2 h6
        have := fd_free hc (fun h => absurd h (by omega)) (Int.le_refl 0) h6
        exact absurd h7 this.2.2.2.1
  · have hy' : ¬ (cnfOk x = true ∧ Good x.many put.reverse) := fun h => hy ⟨h.1, Good.rev_iff.1 h.2⟩
    rw [unitAllP_no hy, unitAllP_no hy']
    refine ⟨rfl, fun _ hl => ⟨by simp, rfl, ?_⟩⟩
    have : put = [] := List.eq_nil_of_length_eq_zero (by simpa using hl)
    subst this
    exact unitAllP_no hy
end Go.Proofs.Ytndolbplkjhooaa
