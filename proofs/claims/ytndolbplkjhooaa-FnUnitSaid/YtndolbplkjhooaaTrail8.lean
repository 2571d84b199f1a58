/- The program's trail: place, implies. -/
import Derived.Test.YtndolbplkjhooaaTrail7
import Derived.Test.YtndolbplkjhooaaSatP
namespace Go.Proofs.Ytndolbplkjhooaa
open Go Go.RowKit

theorem Good.idx {many : Int} {put : List Int} (h : Good many put) {i j : Nat} (hi : i < put.length) (hj : j < put.length) (he : put[i].natAbs = put[j].natAbs) : i = j := by
  have hp := List.pairwise_iff_getElem.1 h.nodup
  rcases Nat.lt_trichotomy i j with h1 | h1 | h1
  · exact absurd (by rw [List.getElem_map, List.getElem_map]; exact he) (hp i j (by simpa using hi) (by simpa using hj) h1)
  · exact h1
  · exact absurd (by rw [List.getElem_map, List.getElem_map]; exact he.symm) (hp j i (by simpa using hj) (by simpa using hi) h1)
theorem place_any (lo : Nat) (S : Nat → Prop) (M t : Nat) (put ls : List Int) (l : Int) (k : Nat) (w : World) (h : Tr lo S M w t put ls) (hg : Good M put) (h0 : l ≠ 0) (h1 : -(M : Int) ≤ l) (h2 : l ≤ M) (hk : k < put.length) (hkl : put[k].natAbs = l.natAbs) (hM : M ≤ 1000000) :
    Calls Try.prog 98 #[.pointer (some ⟨t, 0, none⟩), .int .i64 l] w fun e w' => e = .returned (.int .i64 k) ∧ ∃ n, w' = w.drewN n := by
  obtain ⟨A, B, c, d, Q, pl, h⟩ := h
  obtain ⟨p, hp, hcase⟩ := places_at h.ok h0 h1 h2
  have hml := hg.length
  have z1 : w.cell? ⟨t, 1, none⟩ = some (.slice (some ⟨Q, 0, none⟩) (M + 1) (M + 1)) := (cell_of_block h.blk 1).1
  have z2 : w.cell? ⟨Q, l.natAbs, none⟩ = some (.int .i64 p) := by
    have := h.hpl.cellAt l.natAbs (by omega)
    rw [this, List.getElem?_map, hp]; rfl
  have hpk : p = (k : Int) + 1 := by
    rcases hcase with ⟨_, k', hk', hek, rfl⟩ | ⟨e, rfl⟩
    · have := hg.idx hk' hk (by rw [hek, hkl]); rw [this]
    · unfold isPut at e
      rw [decide_eq_false_iff_not] at e
      have hm : put[k] ∈ put := List.getElem_mem hk
      have : put[k] = l ∨ put[k] = -l := by omega
      rcases this with e9 | e9
      · exact absurd (.inl (e9 ▸ hm)) e
      · exact absurd (.inr (e9 ▸ hm)) e
  subst hpk
  clear hcase hkl hp
  obtain ⟨na, hna⟩ : ∃ na : Int, na = l.natAbs := ⟨_, rfl⟩
  have qa : ∀ W : World, Calls Try.prog 90 #[.int .i64 l] W fun e w' => e = .returned (.int .i64 na) ∧ W = w' := fun W => by rw [hna]; exact variable_any l W (by omega) (by omega)
  have Qa := Lib.hid qa
  have hn0 : 0 ≤ na := by omega
  have hn1 : na < (M : Int) + 1 := by omega
  have hn2 : na < ((M + 1 : Nat) : Int) := by omega
  have hn3 : na.toNat = l.natAbs := by omega
  rw [← hn3] at z2
  have hk0 : (0 : Int) ≤ k := by omega
  have hkb : k < 1000001 := by omega
  have e1 : IntKind.i64.wrap ((k : Int) + 1 - 1) = (k : Int) := by rw [Int.add_sub_cancel]; exact IntWalk.i64_in _ (by omega)
  clear qa hna hn3
  go_enter Try.func98, Try.ntmps98
  go_wp2
  go_quiet ((go_at_call 90; with_reducible exact quiet_left (Qa.out _)))
  go_wp2
  go_ret
  exact ⟨rfl, _, rfl⟩
/-- What the closure of 'implies' answers. -/
def notWhy (pre : List Int) (m l : Int) : Bool := !(l == m) && !decide (-l ∈ pre)
theorem because_any (pre cl : List Int) (m : Int) : because pre cl m = (decide (m ∈ cl) && !cl.any (notWhy pre m)) := by
  unfold because
  congr 1
  rw [Bool.eq_iff_iff]
  simp only [List.all_eq_true, Bool.not_eq_true', List.any_eq_false, notWhy, Bool.or_eq_true, beq_iff_eq, decide_eq_true_eq, Bool.and_eq_true, Bool.not_eq_true', decide_eq_false_iff_not, beq_eq_false_iff_ne, ne_eq, not_and, Decidable.not_not]
  constructor
  · intro h x hx hne
    rcases h x hx with h1 | h1
    · exact absurd h1 hne
    · exact h1
  · intro h x hx
    by_cases e : x = m
    · exact .inl e
    · exact .inr (h x hx e)
set_option maxRecDepth 100000 in
set_option maxHeartbeats 4000000 in
theorem implies1_any (lo : Nat) (S : Nat → Prop) (M t bt ba : Nat) (put ls : List Int) (l : Int) (k : Nat) (w : World) (h : Tr lo S M w t put ls) (hg : Good M put) (h0 : l ≠ 0) (h1 : -(M : Int) ≤ l) (h2 : l ≤ M) (hk : k < put.length) (hM : M ≤ 1000000)
    (ht : w.cell? ⟨bt, 0, none⟩ = some (.pointer (some ⟨t, 0, none⟩))) (ha : w.cell? ⟨ba, 0, none⟩ = some (.int .i64 k)) :
    Calls Try.prog 96 #[.int .i64 l, .pointer (some ⟨bt, 0, none⟩), .pointer (some ⟨ba, 0, none⟩)] w fun e w' => e = .returned (.bool (notWhy (put.take k) put[k] l)) ∧ ∃ n, w' = w.drewN n := by
  have hml := hg.length
  have HTR := Lib.hid h
  have HGD := Lib.hid hg
  have h' := h
  obtain ⟨A, B, c, d, Q, pl, h⟩ := h'
  have z0 : w.cell? ⟨t, 0, none⟩ = some (.slice A put.length c) := (cell_of_block h.blk 0).1
  obtain ⟨ad, rfl, _, z3⟩ := (OwnI.rd h.hput).at_int hk
  have hk0 : (0 : Int) ≤ k := by omega
  have hk1 : (k : Int) < put.length := by omega
  have hmem : put[k] ∈ put := List.getElem_mem hk
  have HAS : Hid (∀ n, Calls Try.prog 74 #[.pointer (some ⟨t, 0, none⟩), .int .i64 l] (w.drewN n) fun e w' => e = .returned (.bool (isPut put l)) ∧ ∃ k, w' = (w.drewN n).drewN k) :=
    Lib.hid fun n => assigned_any lo S M t put ls l (w.drewN n) (HTR.out.drewN n) h0 h1 h2 hM
  have HIT : Hid (∀ n, Calls Try.prog 97 #[.pointer (some ⟨t, 0, none⟩), .int .i64 l] (w.drewN n) fun e w' => e = .returned (.bool (decide (l ∈ put))) ∧ ∃ k, w' = (w.drewN n).drewN k) :=
    Lib.hid fun n => isTrue_any lo S M t put ls l (w.drewN n) (HTR.out.drewN n) HGD.out h0 h1 h2 hM
  have HPL : Hid (∀ (j : Nat) (hj : j < put.length), put[j].natAbs = l.natAbs → ∀ n, Calls Try.prog 98 #[.pointer (some ⟨t, 0, none⟩), .int .i64 l] (w.drewN n) fun e w' => e = .returned (.int .i64 j) ∧ ∃ k, w' = (w.drewN n).drewN k) :=
    Lib.hid fun j hj he n => place_any lo S M t put ls l j (w.drewN n) (HTR.out.drewN n) HGD.out h0 h1 h2 hj he hM
  clear h h0 h1 h2
  generalize hpm : put[k] = m at *
  have HPM := Lib.hid hpm
  clear hpm
  by_cases e1 : l = m
  · subst e1
    have HE := Lib.hid (show notWhy (put.take k) l l = false by simp [notWhy])
    clear hg hml hmem HAS HIT HPL
    go_enter Try.func96, Try.ntmps96
    go_wp2
    go_quiet (fail)
    go_wp2
    go_ret
    exact ⟨ret_bool (by rw [HE.out]), _, rfl⟩
  have e1b : (l != m) = true := by simpa using e1
  by_cases e2 : isPut put l = false
  · rw [e2] at HAS
    have hn : ¬ -l ∈ put.take k := fun h9 => by
      unfold isPut at e2
      rw [decide_eq_false_iff_not] at e2
      exact e2 (.inr (List.mem_of_mem_take h9))
    have HE := Lib.hid (show notWhy (put.take k) m l = true by simp [notWhy, e1, hn])
    clear hg hml hmem HIT HPL hn e1 e2
    go_enter Try.func96, Try.ntmps96
    go_wp2
    go_quiet ((go_at_call 74; with_reducible exact quiet_drawn (HAS.out _)))
    go_wp2
    go_ret
    exact ⟨ret_bool (by rw [HE.out]), _, rfl⟩
  rw [Bool.not_eq_false] at e2
  rw [e2] at HAS
  by_cases e3 : l ∈ put
  · rw [decide_eq_true e3] at HIT
    have hn : ¬ -l ∈ put.take k := fun h9 => HGD.out.apart e3 (List.mem_of_mem_take h9)
    have HE := Lib.hid (show notWhy (put.take k) m l = true by simp [notWhy, e1, hn])
    clear hg hml hmem HPL hn e1 e2 e3
    go_enter Try.func96, Try.ntmps96
    go_wp2
    go_quiet ((first | (go_at_call 74; with_reducible exact quiet_drawn (HAS.out _)) | (go_at_call 97; with_reducible exact quiet_drawn (HIT.out _))))
    go_wp2
    go_ret
    exact ⟨ret_bool (by rw [HE.out]), _, rfl⟩
  rw [decide_eq_false e3] at HIT
  have e4 : -l ∈ put := by
    unfold isPut at e2
    rw [decide_eq_true_eq] at e2
    exact e2.resolve_left e3
  obtain ⟨j, hj, hjl⟩ := List.getElem_of_mem e4
  have HPJ := Lib.hid (HPL.out j hj (by omega))
  have hjM : j < 1000001 := by omega
  have hiff : -l ∈ put.take k ↔ j < k := by
    constructor
    · intro h9
      obtain ⟨i, hi, hil⟩ := List.getElem_of_mem h9
      have hi2 : i < k := by rw [List.length_take] at hi; omega
      rw [List.getElem_take] at hil
      have := HGD.out.idx (i := i) (j := j) (by rw [List.length_take] at hi; omega) hj (by rw [hil, hjl])
      omega
    · intro h9
      rw [← hjl]
      exact List.mem_iff_getElem.2 ⟨j, by rw [List.length_take]; omega, by rw [List.getElem_take]⟩
  by_cases e5 : k ≤ j
  · have hn : ¬ -l ∈ put.take k := fun h9 => by have := hiff.1 h9; omega
    have HE := Lib.hid (show notWhy (put.take k) m l = true by simp [notWhy, e1, hn])
    have e5b : decide ((k : Int) ≤ (j : Int)) = true := by simpa using e5
    have e5c : decide (k ≤ j) = true := by simpa using e5
    clear hg hml hmem HPL hn e1 e2 e3 e4 hj hjl hiff
    go_enter Try.func96, Try.ntmps96
    go_wp2
    go_quiet ((first | (go_at_call 74; with_reducible exact quiet_drawn (HAS.out _)) | (go_at_call 97; with_reducible exact quiet_drawn (HIT.out _)) | (go_at_call 98; with_reducible exact quiet_drawn (HPJ.out _))))
    go_wp2
    go_ret
    exact ⟨ret_bool (by rw [HE.out]), _, rfl⟩
  · have hn : -l ∈ put.take k := hiff.2 (by omega)
    have HE := Lib.hid (show notWhy (put.take k) m l = false by simp [notWhy, hn])
    have e5b : decide ((k : Int) ≤ (j : Int)) = false := by simpa using e5
    have e5c : decide (k ≤ j) = false := by simpa using e5
    clear hg hml hmem HPL hn e1 e2 e3 e4 hj hjl hiff
    go_enter Try.func96, Try.ntmps96
    go_wp2
    go_quiet ((first | (go_at_call 74; with_reducible exact quiet_drawn (HAS.out _)) | (go_at_call 97; with_reducible exact quiet_drawn (HIT.out _)) | (go_at_call 98; with_reducible exact quiet_drawn (HPJ.out _))))
    go_wp2
    go_ret
    exact ⟨ret_bool (by rw [HE.out]), _, rfl⟩
end Go.Proofs.Ytndolbplkjhooaa
