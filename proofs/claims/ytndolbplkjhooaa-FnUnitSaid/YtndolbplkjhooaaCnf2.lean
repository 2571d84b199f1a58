/- Contracts of the reference's clauses and unit propagation: l4Clause, CnfOk, l5Sign, l5Look, l5Find. -/
import Derived.Test.YtndolbplkjhooaaCnf1
namespace Go.Proofs.Ytndolbplkjhooaa
open Go Go.RowKit

theorem l4Abs_any (n : Int) (w : World) (h0 : -9223372036854775808 < n) (h1 : n ≤ 9223372036854775807) :
    Calls Try.prog 64 #[.int .i64 n] w fun e w' => e = .returned (.int .i64 n.natAbs) ∧ w = w' := by
  by_cases h : n < 0
  all_goals
    go_enter Try.func64, Try.ntmps64
    go_wp2
    go_ret
    exact ⟨ret_int (by omega), rfl⟩
theorem cOk_no {many last : Int} {cl : List Int} {k : Nat} (h : k < cl.length) (hn : cl[k] < -many ∨ many < cl[k] ∨ (cl[k].natAbs : Int) ≤ last) : cOk many last (cl.drop k) = false := by
  rw [cOk_drop h, Bool.eq_false_iff]
  intro e
  simp only [Bool.and_eq_true, decide_eq_true_eq] at e
  omega
theorem cOk_yes {many last : Int} {cl : List Int} {k : Nat} (h : k < cl.length) (h1 : -many ≤ cl[k]) (h2 : cl[k] ≤ many) (h3 : last < (cl[k].natAbs : Int)) : cOk many last (cl.drop k) = cOk many (cl[k].natAbs) (cl.drop (k + 1)) := by
  rw [cOk_drop h]; simp [h1, h2, h3]
set_option maxHeartbeats 1000000 in
theorem l4Clause_any (A : Option Addr) (c : Nat) (cl : List Int) (many : Int) (F : Nat → Prop) (w : World) (h : Lay.int.Sl w F A cl) (hn : cl.length ≤ 1048576) (m0 : 0 ≤ many) (m1 : many ≤ 700) :
    Calls Try.prog 38 #[.slice A cl.length c, .int .i64 many] w fun e w' => e = .returned (.bool (clOk many cl)) ∧ w = w' := by
  unfold clOk
  have em : IntKind.i64.wrap (-many) = -many := IntWalk.i64_in _ (by omega)
  go_enter Try.func38, Try.ntmps38
  go_wp2
  go_loop [5, 6] (fun l i => ∃ (k : Nat) (last : Int), k ≤ cl.length ∧ i = .int .i64 k ∧ l = .int .i64 last ∧ cOk many 0 cl = cOk many last (cl.drop k)) (fun _ i => cl.length - (intOf i).toNat)
  case atStart => exact ⟨0, 0, Nat.zero_le _, rfl, rfl, by simp⟩
  case round =>
    obtain ⟨k, last, hk, rfl, rfl, ht⟩ := hrel
    have HT := Lib.hid ht
    clear ht
    by_cases hlt : k < cl.length
    · obtain ⟨ad, rfl, hf, hc⟩ := h.at_int hlt
      have hk1 : (k : Int) < cl.length := by omega
      have hno := fun hn => cOk_no (many := many) (last := last) hlt hn
      have hyes := cOk_yes (many := many) (last := last) hlt
      generalize cl[k] = a at *
      have HNO := Lib.hid hno
      have HYES := Lib.hid hyes
      clear hno hyes
      by_cases q0 : a < -many
      · have HE := Lib.hid (HNO.out (.inl q0))
        go_wp2
        go_ret
        exact ⟨ret_bool (by rw [HT.out, HE.out]), rfl⟩
      by_cases q1 : many < a
      · have HE := Lib.hid (HNO.out (.inr (.inl q1)))
        go_wp2
        go_ret
        exact ⟨ret_bool (by rw [HT.out, HE.out]), rfl⟩
      have qa : ∀ W : World, Calls Try.prog 64 #[.int .i64 a] W fun e w' => e = .returned (.int .i64 a.natAbs) ∧ W = w' := fun W => l4Abs_any a W (by omega) (by omega)
      generalize hna : (a.natAbs : Int) = na at *
      have Qa := Lib.hid qa
      clear qa hna
      by_cases q2 : na ≤ last
      · have HE := Lib.hid (HNO.out (.inr (.inr q2)))
        go_wp2_with fail
        refine (Qa.out _).mono ?_
        rintro e w' ⟨rfl, rfl⟩
        go_wp2
        go_ret
        exact ⟨ret_bool (by rw [HT.out, HE.out]), rfl⟩
      have HE := Lib.hid (HYES.out (by omega) (by omega) (by omega))
      go_wp2_with fail
      refine (Qa.out _).mono ?_
      rintro e w' ⟨rfl, rfl⟩
      go_wp2_with fail
      refine (Qa.out _).mono ?_
      rintro e w' ⟨rfl, rfl⟩
      go_wp2
      go_round
      case rel => exact ⟨k + 1, na, by omega, by go_num, rfl, by rw [HT.out, HE.out]⟩
      case measure => simp [intOf]; omega
    · have hke : k = cl.length := by omega
      subst hke
      have HE := Lib.hid (show cOk many last (cl.drop cl.length) = true by rw [List.drop_length]; rfl)
      go_wp2
      go_ret
      exact ⟨ret_bool (by rw [HT.out, HE.out]), rfl⟩

theorem cnfOk_iff (c : C) : cnfOk c = true ↔ 0 ≤ c.many ∧ c.many ≤ 700 ∧ c.list.length ≤ 2500 ∧ ∀ k (h : k < c.list.length), clOk c.many c.list[k] = true := by
  simp only [cnfOk, Bool.and_eq_true, decide_eq_true_eq, List.all_eq_true, and_assoc]
  constructor
  · rintro ⟨h1, h2, h3, h4⟩
    exact ⟨h1, h2, h3, fun k hk => h4 _ (List.getElem_mem hk)⟩
  · rintro ⟨h1, h2, h3, h4⟩
    refine ⟨h1, h2, h3, fun x hx => ?_⟩
    obtain ⟨k, hk, rfl⟩ := List.getElem_of_mem hx
    exact h4 k hk
theorem cnfOk_no {c : C} (h : c.many < 0 ∨ 700 < c.many ∨ 2500 < c.list.length ∨ ∃ k, ∃ h : k < c.list.length, clOk c.many c.list[k] = false) : cnfOk c = false := by
  rw [Bool.eq_false_iff]
  intro e
  obtain ⟨h1, h2, h3, h4⟩ := (cnfOk_iff c).1 e
  rcases h with h | h | h | ⟨k, hk, h⟩
  · omega
  · omega
  · omega
  · rw [h4 k hk] at h; cases h
/-- All lists of a formula are short. -/
def shortC (c : C) : Prop := c.list.length ≤ 1048576 ∧ ∀ l ∈ c.list, l.length ≤ 1048576
set_option maxHeartbeats 1000000 in
theorem specCnfOk_any (A : Option Addr) (p : Nat) (c : C) (F : Nat → Prop) (w : World) (h : Lay.int.slice.Sl w F A c.list) (hF : ∀ b, F b → b < w.heap.size) (hn : shortC c) :
    Calls Try.prog 28 #[.agg #[.int .i64 c.many, .slice A c.list.length p]] w fun e w' => e = .returned (.bool (cnfOk c)) ∧ Below w.heap.size w w' := by
  obtain ⟨hn1, hn2⟩ := hn
  have hw : Below w.heap.size w (w.alloc (.cells #[.int .i64 c.many, .slice A c.list.length p] 28)) := (Below.refl _ _).alloc (Nat.le_refl _) _
  have H := h.below hw hF
  have hFW : ∀ b, F b → b < (w.alloc (.cells #[.int .i64 c.many, .slice A c.list.length p] 28)).heap.size := fun b hb => Nat.lt_of_lt_of_le (hF b hb) hw.size
  by_cases h0 : c.many < 0
  · have HN := Lib.hid (cnfOk_no (.inl h0))
    go_enter Try.func28, Try.ntmps28
    go_wp2
    go_ret
    exact ⟨ret_bool (by rw [HN.out]), hw⟩
  by_cases h1 : 700 < c.many
  · have HN := Lib.hid (cnfOk_no (.inr (.inl h1)))
    go_enter Try.func28, Try.ntmps28
    go_wp2
    go_ret
    exact ⟨ret_bool (by rw [HN.out]), hw⟩
  by_cases h2 : 2500 < c.list.length
  · have HN := Lib.hid (cnfOk_no (.inr (.inr (.inl h2))))
    go_enter Try.func28, Try.ntmps28
    go_wp2
    go_ret
    exact ⟨ret_bool (by rw [HN.out]), hw⟩
  have v0 : (w.alloc (.cells #[.int .i64 c.many, .slice A c.list.length p] 28)).cell? ⟨w.heap.size, 0, none⟩ = some (.int .i64 c.many) := by simp [go_sem]
  have v1 : (w.alloc (.cells #[.int .i64 c.many, .slice A c.list.length p] 28)).cell? ⟨w.heap.size, 1, none⟩ = some (.slice A c.list.length p) := by simp [go_sem]
  go_enter Try.func28, Try.ntmps28
  go_wp2
  generalize w.alloc (.cells #[.int .i64 c.many, .slice A c.list.length p] 28) = W at *
  go_loopw [3] (fun i wr => ∃ j : Nat, j ≤ c.list.length ∧ i = .int .i64 j ∧ Below W.heap.size W wr ∧ ∀ k (h : k < c.list.length), k < j → clOk c.many c.list[k] = true) (fun i _ => c.list.length - (intOf i).toNat)
  case atStart => exact ⟨0, Nat.zero_le _, rfl, Below.refl _ _, fun k _ h => absurd h (by omega)⟩
  case round =>
    obtain ⟨j, hj, rfl, hb, hg⟩ := hrel
    have HG := Lib.hid hg
    clear hg
    have c0 := (hb.cell (World.block_lt_of_cell? W _ v0)).trans v0
    have c1 := (hb.cell (World.block_lt_of_cell? W _ v1)).trans v1
    by_cases hlt : j < c.list.length
    · obtain ⟨ad, A', c', rfl, hf, k1, hl1, s1⟩ := (H.below hb hFW).at_slice hlt
      have d0 := Later.cell c0
      have d1 := Later.cell c1
      have d2 := Later.cell k1
      have hFr : ∀ b, F b → b < wr.heap.size := fun b hb' => Nat.lt_of_lt_of_le (hFW b hb') hb.size
      have hj0 : (0 : Int) ≤ j := by omega
      have hj1 : (j : Int) < c.list.length := by omega
      generalize hq : clOk c.many c.list[j] = q at *
      have HQ := Lib.hid hq
      have hsh := hn2 _ (List.getElem_mem hlt)
      clear hq
      go_wp2
      refine wp_region_later (by kernel_rfl) (by kernel_rfl) ?_
      repeat (go_big_quiet_step ((go_at_call 38; with_reducible exact later_of_same (l4Clause_any A' c' c.list[j] c.many F _ (s1.below (Later.le _) hFr) hsh (by omega) (by omega)))))
      refine wpQuiet_nil ?_
      rintro _ ⟨x, rfl⟩
      rw [HQ.out]
      cases q
      · have HN := Lib.hid (cnfOk_no (.inr (.inr (.inr ⟨j, hlt, HQ.out⟩))))
        go_wp2
        go_ret
        exact ⟨ret_bool (by rw [HN.out]), bthen (bthen hw hb) x.le⟩
      · go_wp2
        go_roundw
        case rel => exact ⟨j + 1, by omega, by go_num, bthen hb x.le, fun k h9 hk9 => by
          rcases Nat.lt_or_ge k j with h' | h'
          · exact HG.out k h9 h'
          · have : k = j := by omega
            subst this; exact HQ.out⟩
        case measure => simp [intOf]; omega
    · have hje : j = c.list.length := by omega
      subst hje
      have HN := Lib.hid ((cnfOk_iff c).2 ⟨by omega, by omega, by omega, fun k h9 => HG.out k h9 h9⟩)
      go_wp2
      go_ret
      exact ⟨ret_bool (by rw [HN.out]), bthen hw hb⟩

/-- The list says of each mark how it is. -/
def Vals (many : Nat) (put : List Int) (vs : List Int) : Prop := vs.length = many + 1 ∧ ∀ v : Nat, 1 ≤ v → v ≤ many → vs[v]? = some (sg put v)
theorem sg_neg {many : Int} {put : List Int} (h : Good many put) {m : Int} (hm : m ≠ 0) : sg put (-m) = -sg put m := by
  unfold sg
  by_cases h1 : m ∈ put
  · have h2 : -m ∉ put := fun h2 => h.apart h1 h2
    rw [if_neg h2, if_pos h1, if_pos (by simpa using h1)]
  · by_cases h2 : -m ∈ put
    · rw [if_pos h2, if_neg h1, if_pos h2]; rfl
    · rw [if_neg h2, if_neg h1, if_neg h2, if_neg (by simpa using h1)]; rfl
theorem sg_rng (put : List Int) (m : Int) : sg put m = 1 ∨ sg put m = -1 ∨ sg put m = 0 := by
  unfold sg
  split
  · exact .inl rfl
  · split
    · exact .inr (.inl rfl)
    · exact .inr (.inr rfl)
theorem l5Sign_any (A : Option Addr) (c : Nat) (many : Nat) (put vs : List Int) (m : Int) (F : Nat → Prop) (w : World) (h : Lay.int.Sl w F A vs) (hg : Good many put) (hv : Vals many put vs) (h0 : m ≠ 0) (h1 : -(many : Int) ≤ m) (h2 : m ≤ many) (hmany : many ≤ 1048576) :
    Calls Try.prog 94 #[.slice A vs.length c, .int .i64 m] w fun e w' => e = .returned (.int .i64 (sg put m)) ∧ w = w' := by
  obtain ⟨hl, hv⟩ := hv
  have hneg := sg_neg hg h0
  have hr := sg_rng put m
  by_cases hp : 0 < m
  · have hk : m.toNat < vs.length := by omega
    obtain ⟨ad, rfl, hf, hc⟩ := h.at_int hk
    have hx := hv m.toNat (by omega) (by omega)
    rw [List.getElem?_eq_getElem hk] at hx
    injection hx with hx
    rw [hx, show ((m.toNat : Nat) : Int) = m by omega] at hc
    have hm1 : m < vs.length := by omega
    clear hx hneg hl
    go_enter Try.func94, Try.ntmps94
    go_wp2
    go_ret
    exact ⟨rfl, rfl⟩
  · have hk : (-m).toNat < vs.length := by omega
    obtain ⟨ad, rfl, hf, hc⟩ := h.at_int hk
    have hx := hv (-m).toNat (by omega) (by omega)
    rw [List.getElem?_eq_getElem hk] at hx
    injection hx with hx
    rw [hx, show (((-m).toNat : Nat) : Int) = -m by omega, hneg] at hc
    have hm1 : -m < vs.length := by omega
    have hm0 : 0 ≤ -m := by omega
    generalize sg put m = s at *
    have e1 : IntKind.i64.wrap (-m) = -m := IntWalk.i64_in _ (by omega)
    have e2 : IntKind.i64.wrap (- -s) = s := by rw [Int.neg_neg]; exact IntWalk.i64_in _ (by omega)
    clear hx hneg hl
    go_enter Try.func94, Try.ntmps94
    go_wp2
    go_ret
    exact ⟨ret_int (by simp), rfl⟩

theorem ret_two {k : IntKind} {a b c d : Int} (h1 : a = c) (h2 : b = d) : Ending.returned (.tuple #[.int k a, .int k b]) = .returned (.tuple #[.int k c, .int k d]) := by rw [h1, h2]
theorem ret_three {k : IntKind} {a b c d e f : Int} (h1 : a = d) (h2 : b = e) (h3 : c = f) : Ending.returned (.tuple #[.int k a, .int k b, .int k c]) = .returned (.tuple #[.int k d, .int k e, .int k f]) := by rw [h1, h2, h3]
/-- What the look gives. -/
def lkI (put cl : List Int) : Int × Int := match lk put cl 0 0 with | none => (-1, 0) | some p => p
set_option maxHeartbeats 1000000 in
theorem l5Look_any (A B : Option Addr) (c d : Nat) (many : Nat) (put vs cl : List Int) (F G : Nat → Prop) (w : World) (h : Lay.int.Sl w F A vs) (hcl : Lay.int.Sl w G B cl) (hg : Good many put) (hv : Vals many put vs) (hmany : many ≤ 1048576)
    (hr : ∀ l ∈ cl, l ≠ 0 ∧ -(many : Int) ≤ l ∧ l ≤ many) (hn : cl.length ≤ 1048576) :
    Calls Try.prog 93 #[.slice A vs.length c, .slice B cl.length d] w fun e w' => e = .returned (.tuple #[.int .i64 (lkI put cl).1, .int .i64 (lkI put cl).2]) ∧ w = w' := by
  go_enter Try.func93, Try.ntmps93
  go_wp2
  go_loop [6, 7, 8] (fun x y i => ∃ (k : Nat) (n f : Int), k ≤ cl.length ∧ i = .int .i64 k ∧ x = .int .i64 n ∧ y = .int .i64 f ∧ 0 ≤ n ∧ n ≤ k ∧ lk put cl 0 0 = lk put (cl.drop k) n f) (fun _ _ i => cl.length - (intOf i).toNat)
  case atStart => exact ⟨0, 0, 0, Nat.zero_le _, rfl, rfl, rfl, by omega, by simp, by simp⟩
  case round =>
    obtain ⟨k, n, f, hk, rfl, rfl, rfl, n0, n1, ht⟩ := hrel
    have HT := Lib.hid ht
    clear ht
    by_cases hlt : k < cl.length
    · obtain ⟨ad, rfl, hf, hc⟩ := hcl.at_int hlt
      have hk1 : (k : Int) < cl.length := by omega
      obtain ⟨r0, r1, r2⟩ := hr _ (List.getElem_mem hlt)
      have hd := lk_drop (put := put) (n := n) (f := f) hlt
      generalize cl[k] = a at *
      have hs := l5Sign_any A c many put vs a F w h hg hv r0 r1 r2 hmany
      unfold sg at hs
      by_cases h1 : a ∈ put
      · rw [if_pos h1] at hd hs
        have HD := Lib.hid (show lkI put cl = (-1, 0) by unfold lkI; rw [HT.out, hd])
        have HS := Lib.hid hs
        clear hd hs
        go_wp2_with fail
        refine HS.out.mono ?_
        rintro e w' ⟨rfl, rfl⟩
        go_wp2
        go_ret2
        exact ⟨ret_two (by rw [HD.out]) (by rw [HD.out]), rfl⟩
      by_cases h2 : -a ∈ put
      · rw [if_neg h1, if_pos h2] at hd hs
        have HD := Lib.hid hd
        have HS := Lib.hid hs
        clear hd hs
        go_wp2_with fail
        refine HS.out.mono ?_
        rintro e w' ⟨rfl, rfl⟩
        go_wp2
        go_round
        case rel => exact ⟨k + 1, n, f, by omega, by go_num, rfl, rfl, n0, by omega, by rw [HT.out, HD.out]⟩
        case measure => simp [intOf]; omega
      · rw [if_neg h1, if_neg h2] at hd hs
        have HD := Lib.hid hd
        have HS := Lib.hid hs
        clear hd hs
        go_wp2_with fail
        refine HS.out.mono ?_
        rintro e w' ⟨rfl, rfl⟩
        go_wp2
        go_round
        case rel => exact ⟨k + 1, n + 1, a, by omega, by go_num, rfl, rfl, by omega, by omega, by rw [HT.out, HD.out]⟩
        case measure => simp [intOf]; omega
    · have hke : k = cl.length := by omega
      subst hke
      have HE := Lib.hid (show lkI put cl = (n, f) by unfold lkI; rw [HT.out, List.drop_length]; rfl)
      go_wp2
      go_ret2
      exact ⟨ret_two (by rw [HE.out]) (by rw [HE.out]), rfl⟩

end Go.Proofs.Ytndolbplkjhooaa
