/- The reference's terms: TermMany, l2Arity, l2Plain, l2One, l2Both, l2Sort, TermSort. Contexts: when they are right. No program is named here. What grows but for some blocks. No program is named here. Rows of declarations of the call's own. -/
import Derived.Test.YtiahmfpfimmbgaaGreatDoorJFnCtx0
import Derived.Test.YtiahmfpfimmbgaaGreatDoorJFnCtx1
/-! The reference's terms: TermMany, l2Arity, l2Plain, l2One, l2Both, l2Sort, TermSort. -/
namespace Go.Proofs.YtiahmfpfimmbgaaGreatDoor
open Go Go.RowKit

set_option maxHeartbeats 1000000 in
theorem l1Max_t (a b : Int) (w : World) : Calls Tryz.prog 119 #[.int .i64 a, .int .i64 b] w fun e w' => e = .returned (.int .i64 (imax a b)) ∧ w = w' := by
  by_cases h : b < a
  · rw [show imax a b = a from if_pos h]
    go_enter Tryz.func119, Tryz.ntmps119
    go_wp2
    go_ret
    exact ⟨rfl, rfl⟩
  · rw [show imax a b = b from if_neg h]
    go_enter Tryz.func119, Tryz.ntmps119
    go_wp2
    go_ret
    exact ⟨rfl, rfl⟩
set_option maxHeartbeats 4000000 in
theorem l2Arity_any (op : Int) (w : World) : Calls Tryz.prog 136 #[.int .i64 op] w fun e w' => e = .returned (.int .i64 (arity op)) ∧ w = w' := by
  obtain ⟨r, hr⟩ : ∃ r, r = arity op := ⟨_, rfl⟩
  rw [← hr]
  have HR := Lib.hid hr
  clear hr
  by_cases q20 : op = 20
  · subst q20
    go_enter Tryz.func136, Tryz.ntmps136
    go_wp2
    go_ret
    exact ⟨ret_int (by rw [HR.out]; rfl), rfl⟩
  by_cases q21 : op = 21
  · subst q21
    go_enter Tryz.func136, Tryz.ntmps136
    go_wp2
    go_ret
    exact ⟨ret_int (by rw [HR.out]; rfl), rfl⟩
  by_cases q24 : op = 24
  · subst q24
    go_enter Tryz.func136, Tryz.ntmps136
    go_wp2
    go_ret
    exact ⟨ret_int (by rw [HR.out]; rfl), rfl⟩
  by_cases q1 : op = 1
  · subst q1
    go_enter Tryz.func136, Tryz.ntmps136
    go_wp2
    go_ret
    exact ⟨ret_int (by rw [HR.out]; rfl), rfl⟩
  by_cases q2 : op = 2
  · subst q2
    go_enter Tryz.func136, Tryz.ntmps136
    go_wp2
    go_ret
    exact ⟨ret_int (by rw [HR.out]; rfl), rfl⟩
  by_cases q22 : op = 22
  · subst q22
    go_enter Tryz.func136, Tryz.ntmps136
    go_wp2
    go_ret
    exact ⟨ret_int (by rw [HR.out]; rfl), rfl⟩
  by_cases q25 : op = 25
  · subst q25
    go_enter Tryz.func136, Tryz.ntmps136
    go_wp2
    go_ret
    exact ⟨ret_int (by rw [HR.out]; rfl), rfl⟩
  by_cases q23 : op = 23
  · subst q23
    go_enter Tryz.func136, Tryz.ntmps136
    go_wp2
    go_ret
    exact ⟨ret_int (by rw [HR.out]; rfl), rfl⟩
  by_cases q26 : op = 26
  · subst q26
    go_enter Tryz.func136, Tryz.ntmps136
    go_wp2
    go_ret
    exact ⟨ret_int (by rw [HR.out]; rfl), rfl⟩
  by_cases q27 : op = 27
  · subst q27
    go_enter Tryz.func136, Tryz.ntmps136
    go_wp2
    go_ret
    exact ⟨ret_int (by rw [HR.out]; rfl), rfl⟩
  have HA : Hid (r = if 3 ≤ op then (if op ≤ 17 then 2 else -1) else -1) := Lib.hid (by rw [HR.out]; unfold arity; rw [if_neg q20, if_neg q21, if_neg q24, if_neg q1, if_neg q2, if_neg q22, if_neg q25, if_neg q23, if_neg q26, if_neg q27])
  have g20 : (op == 20) = false := by simpa using q20
  have g21 : (op == 21) = false := by simpa using q21
  have g24 : (op == 24) = false := by simpa using q24
  have g1 : (op == 1) = false := by simpa using q1
  have g2 : (op == 2) = false := by simpa using q2
  have g22 : (op == 22) = false := by simpa using q22
  have g25 : (op == 25) = false := by simpa using q25
  have g23 : (op == 23) = false := by simpa using q23
  have g26 : (op == 26) = false := by simpa using q26
  have g27 : (op == 27) = false := by simpa using q27
  clear q20 q21 q24 q1 q2 q22 q25 q23 q26 q27
  by_cases h3 : 3 ≤ op
  · by_cases h17 : op ≤ 17
    · have HA : Hid (r = 2) := Lib.hid (by rw [HA.out, if_pos h3, if_pos h17])
      go_enter Tryz.func136, Tryz.ntmps136
      go_wp2
      go_ret
      exact ⟨ret_int (by rw [HA.out]), rfl⟩
    · have HA : Hid (r = -1) := Lib.hid (by rw [HA.out, if_pos h3, if_neg h17])
      go_enter Tryz.func136, Tryz.ntmps136
      go_wp2
      go_ret
      exact ⟨ret_int (by rw [HA.out]), rfl⟩
  · have HA : Hid (r = -1) := Lib.hid (by rw [HA.out, if_neg h3])
    go_enter Tryz.func136, Tryz.ntmps136
    go_wp2
    go_ret
    exact ⟨ret_int (by rw [HA.out]), rfl⟩
set_option maxRecDepth 100000 in
set_option maxHeartbeats 4000000 in
theorem l2Plain_any (op a b : Int) (nm : ByteArray) (A : Option Addr) (n c : Nat) (w : World) (hn : n ≤ 9223372036854775807) :
    Calls Tryz.prog 120 #[.agg #[.int .i64 op, .int .i64 a, .int .i64 b, .string nm, .slice A n c]] w (RetB w (plainN op nm && plainV op a b && ((n : Int) == arity op))) := by
  have HAL := Lib.hid ((Below.refl w.heap.size w).alloc (Nat.le_refl _) (.cells #[.int .i64 op, .int .i64 a, .int .i64 b, .string nm, .slice A n c] 48))
  obtain ⟨q, hq⟩ : ∃ q, q = (nm.toList == []) := ⟨_, rfl⟩
  obtain ⟨r, hr⟩ : ∃ r, r = ((n : Int) == arity op) := ⟨_, rfl⟩
  rw [← hr]
  have HAR := Lib.hid (fun z => l2Arity_any op z)
  obtain ⟨ar, har⟩ : ∃ ar, ar = arity op := ⟨_, rfl⟩
  rw [← har] at hr HAR
  have HPN : Hid (plainN op nm = (op == 21 || q)) := Lib.hid (by rw [hq]; rfl)
  have HPV : Hid (plainV op a b = (op == 20 || op == 22 || (a == 0 && b == 0))) := Lib.hid rfl
  rw [HPN.out, HPV.out]
  have gq := hq.symm
  have gr := hr.symm
  clear hq hr har HPN HPV
  by_cases q21 : op = 21
  · subst q21
    by_cases ha : a = 0
    · subst ha
      by_cases hb : b = 0
      · subst hb
        go_enter Tryz.func120, Tryz.ntmps120
        go_wp2
        go_quiet ((go_at_call 136; exact quiet_left (HAR.out _)))
        go_wp2
        go_ret
        exact ⟨ret_bool (by simp [*]), below_drewN HAL.out _⟩
      · have gb : (b != 0) = true := by simpa using hb
        go_enter Tryz.func120, Tryz.ntmps120
        go_wp2
        go_ret
        exact ⟨ret_bool (by simp [*]), HAL.out⟩
    · have ga : (a != 0) = true := by simpa using ha
      go_enter Tryz.func120, Tryz.ntmps120
      go_wp2
      go_ret
      exact ⟨ret_bool (by simp [*]), HAL.out⟩
  · have g21 : (op != 21) = true := by simpa using q21
    cases q
    · have gq' : (!(nm.toList == [])) = true := by simpa using gq
      go_enter Tryz.func120, Tryz.ntmps120
      go_wp2
      go_ret
      exact ⟨ret_bool (by simp [*]), HAL.out⟩
    · have gq' : (!(nm.toList == [])) = false := by simpa using gq
      by_cases q20 : op = 20
      · subst q20
        go_enter Tryz.func120, Tryz.ntmps120
        go_wp2
        go_quiet ((go_at_call 136; exact quiet_left (HAR.out _)))
        go_wp2
        go_ret
        exact ⟨ret_bool (by simp [*]), below_drewN HAL.out _⟩
      · have g20 : (op != 20) = true := by simpa using q20
        by_cases q22 : op = 22
        · subst q22
          go_enter Tryz.func120, Tryz.ntmps120
          go_wp2
          go_quiet ((go_at_call 136; exact quiet_left (HAR.out _)))
          go_wp2
          go_ret
          exact ⟨ret_bool (by simp [*]), below_drewN HAL.out _⟩
        · have g22 : (op != 22) = true := by simpa using q22
          by_cases ha : a = 0
          · subst ha
            by_cases hb : b = 0
            · subst hb
              go_enter Tryz.func120, Tryz.ntmps120
              go_wp2
              go_quiet ((go_at_call 136; exact quiet_left (HAR.out _)))
              go_wp2
              go_ret
              exact ⟨ret_bool (by simp [*]), below_drewN HAL.out _⟩
            · have gb : (b != 0) = true := by simpa using hb
              go_enter Tryz.func120, Tryz.ntmps120
              go_wp2
              go_ret
              exact ⟨ret_bool (by simp [*]), HAL.out⟩
          · have ga : (a != 0) = true := by simpa using ha
            go_enter Tryz.func120, Tryz.ntmps120
            go_wp2
            go_ret
            exact ⟨ret_bool (by simp [*]), HAL.out⟩
set_option maxRecDepth 100000 in
set_option maxHeartbeats 4000000 in
theorem l2One_any (op a b s : Int) (nm : ByteArray) (A : Option Addr) (n c : Nat) (w : World) (hs : -1 ≤ s ∧ s ≤ 4) :
    Calls Tryz.prog 122 #[.agg #[.int .i64 op, .int .i64 a, .int .i64 b, .string nm, .slice A n c], .int .i64 s] w fun e w' => e = .returned (.int .i64 (oneK op a b s)) ∧ Below w.heap.size w w' := by
  have HAL := Lib.hid ((Below.refl w.heap.size w).alloc (Nat.le_refl _) (.cells #[.int .i64 op, .int .i64 a, .int .i64 b, .string nm, .slice A n c] 48))
  obtain ⟨r, hr⟩ : ∃ r, r = oneK op a b s := ⟨_, rfl⟩
  rw [← hr]
  have HR := Lib.hid hr
  clear hr
  by_cases q25 : op = 25
  · by_cases q0 : s = 0
    · have HX : Hid (r = 0) := Lib.hid (by rw [HR.out]; unfold oneK; rw [if_pos q25, if_pos q0])
      subst q25; subst q0
      go_enter Tryz.func122, Tryz.ntmps122
      go_wp2
      go_ret
      exact ⟨ret_int (by rw [HX.out]), HAL.out⟩
    · have HX : Hid (r = -1) := Lib.hid (by rw [HR.out]; unfold oneK; rw [if_pos q25, if_neg q0])
      have g0 : (s == 0) = false := by simpa using q0
      subst q25
      go_enter Tryz.func122, Tryz.ntmps122
      go_wp2
      go_ret
      exact ⟨ret_int (by rw [HX.out]), HAL.out⟩
  · have g25 : (op == 25) = false := by simpa using q25
    by_cases q1 : s < 1
    · have HX : Hid (r = -1) := Lib.hid (by rw [HR.out]; unfold oneK; rw [if_neg q25, if_pos q1])
      go_enter Tryz.func122, Tryz.ntmps122
      go_wp2
      go_ret
      exact ⟨ret_int (by rw [HX.out]), HAL.out⟩
    · by_cases q22 : op = 22
      · by_cases qb : 0 ≤ b
        · by_cases qa : b ≤ a
          · by_cases qs : a < s
            · have HX : Hid (r = a - b + 1) := Lib.hid (by rw [HR.out]; unfold oneK; rw [if_neg q25, if_neg q1, if_pos q22, if_pos qb, if_pos qa, if_pos qs])
              subst q22
              go_enter Tryz.func122, Tryz.ntmps122
              go_wp2
              go_ret
              exact ⟨ret_int (by rw [HX.out]), HAL.out⟩
            · have HX : Hid (r = -1) := Lib.hid (by rw [HR.out]; unfold oneK; rw [if_neg q25, if_neg q1, if_pos q22, if_pos qb, if_pos qa, if_neg qs])
              subst q22
              go_enter Tryz.func122, Tryz.ntmps122
              go_wp2
              go_ret
              exact ⟨ret_int (by rw [HX.out]), HAL.out⟩
          · have HX : Hid (r = -1) := Lib.hid (by rw [HR.out]; unfold oneK; rw [if_neg q25, if_neg q1, if_pos q22, if_pos qb, if_neg qa])
            subst q22
            go_enter Tryz.func122, Tryz.ntmps122
            go_wp2
            go_ret
            exact ⟨ret_int (by rw [HX.out]), HAL.out⟩
        · have HX : Hid (r = -1) := Lib.hid (by rw [HR.out]; unfold oneK; rw [if_neg q25, if_neg q1, if_pos q22, if_neg qb])
          subst q22
          go_enter Tryz.func122, Tryz.ntmps122
          go_wp2
          go_ret
          exact ⟨ret_int (by rw [HX.out]), HAL.out⟩
      · have HX : Hid (r = s) := Lib.hid (by rw [HR.out]; unfold oneK; rw [if_neg q25, if_neg q1, if_neg q22])
        have g22 : (op == 22) = false := by simpa using q22
        go_enter Tryz.func122, Tryz.ntmps122
        go_wp2
        go_ret
        exact ⟨ret_int (by rw [HX.out]), HAL.out⟩
set_option maxRecDepth 100000 in
set_option maxHeartbeats 4000000 in
theorem l2Both_any (op s q : Int) (w : World) (hs : -1 ≤ s ∧ s ≤ 4) (hq : -1 ≤ q ∧ q ≤ 4) :
    Calls Tryz.prog 123 #[.int .i64 op, .int .i64 s, .int .i64 q] w fun e w' => e = .returned (.int .i64 (bothK op s q)) ∧ w = w' := by
  obtain ⟨r, hr⟩ : ∃ r, r = bothK op s q := ⟨_, rfl⟩
  rw [← hr]
  have HR := Lib.hid hr
  clear hr
  by_cases q26 : op = 26
  · by_cases q0 : s = 0
    · by_cases q1 : q = 0
      · have HX : Hid (r = 0) := Lib.hid (by rw [HR.out]; unfold bothK; rw [if_pos (.inl q26), if_pos q0, if_pos q1])
        subst q26; subst q0; subst q1
        go_enter Tryz.func123, Tryz.ntmps123
        go_wp2
        go_ret
        exact ⟨ret_int (by rw [HX.out]), rfl⟩
      · have HX : Hid (r = -1) := Lib.hid (by rw [HR.out]; unfold bothK; rw [if_pos (.inl q26), if_pos q0, if_neg q1])
        have g0 : (q == 0) = false := by simpa using q1
        subst q26; subst q0
        go_enter Tryz.func123, Tryz.ntmps123
        go_wp2
        go_ret
        exact ⟨ret_int (by rw [HX.out]), rfl⟩
    · have HX : Hid (r = -1) := Lib.hid (by rw [HR.out]; unfold bothK; rw [if_pos (.inl q26), if_neg q0])
      have g0 : (s == 0) = false := by simpa using q0
      subst q26
      go_enter Tryz.func123, Tryz.ntmps123
      go_wp2
      go_ret
      exact ⟨ret_int (by rw [HX.out]), rfl⟩
  by_cases q27 : op = 27
  · by_cases q0 : s = 0
    · by_cases q1 : q = 0
      · have HX : Hid (r = 0) := Lib.hid (by rw [HR.out]; unfold bothK; rw [if_pos (.inr q27), if_pos q0, if_pos q1])
        subst q27; subst q0; subst q1
        go_enter Tryz.func123, Tryz.ntmps123
        go_wp2
        go_ret
        exact ⟨ret_int (by rw [HX.out]), rfl⟩
      · have HX : Hid (r = -1) := Lib.hid (by rw [HR.out]; unfold bothK; rw [if_pos (.inr q27), if_pos q0, if_neg q1])
        have g0 : (q == 0) = false := by simpa using q1
        subst q27; subst q0
        go_enter Tryz.func123, Tryz.ntmps123
        go_wp2
        go_ret
        exact ⟨ret_int (by rw [HX.out]), rfl⟩
    · have HX : Hid (r = -1) := Lib.hid (by rw [HR.out]; unfold bothK; rw [if_pos (.inr q27), if_neg q0])
      have g0 : (s == 0) = false := by simpa using q0
      subst q27
      go_enter Tryz.func123, Tryz.ntmps123
      go_wp2
      go_ret
      exact ⟨ret_int (by rw [HX.out]), rfl⟩
  have qo : ¬ (op = 26 ∨ op = 27) := fun h => h.elim q26 q27
  have g26 : (op == 26) = false := by simpa using q26
  have g27 : (op == 27) = false := by simpa using q27
  clear q26 q27
  by_cases q1 : s < 1
  · have HX : Hid (r = -1) := Lib.hid (by rw [HR.out]; unfold bothK; rw [if_neg qo, if_pos (.inl q1)])
    clear qo
    go_enter Tryz.func123, Tryz.ntmps123
    go_wp2
    go_ret
    exact ⟨ret_int (by rw [HX.out]), rfl⟩
  by_cases q2 : q < 1
  · have HX : Hid (r = -1) := Lib.hid (by rw [HR.out]; unfold bothK; rw [if_neg qo, if_pos (.inr q2)])
    clear qo
    go_enter Tryz.func123, Tryz.ntmps123
    go_wp2
    go_ret
    exact ⟨ret_int (by rw [HX.out]), rfl⟩
  have qn : ¬ (s < 1 ∨ q < 1) := fun h => h.elim q1 q2
  by_cases q14 : op = 14
  · by_cases q4 : s + q ≤ 4
    · have HX : Hid (r = s + q) := Lib.hid (by rw [HR.out]; unfold bothK; rw [if_neg qo, if_neg qn, if_pos q14, if_pos q4])
      clear qo qn
      subst q14
      go_enter Tryz.func123, Tryz.ntmps123
      go_wp2
      go_ret
      exact ⟨ret_int (by rw [HX.out]), rfl⟩
    · have HX : Hid (r = -1) := Lib.hid (by rw [HR.out]; unfold bothK; rw [if_neg qo, if_neg qn, if_pos q14, if_neg q4])
      clear qo qn
      subst q14
      go_enter Tryz.func123, Tryz.ntmps123
      go_wp2
      go_ret
      exact ⟨ret_int (by rw [HX.out]), rfl⟩
  have g14 : (op == 14) = false := by simpa using q14
  by_cases qe : s = q
  · by_cases q15 : 15 ≤ op
    · have HX : Hid (r = 0) := Lib.hid (by rw [HR.out]; unfold bothK; rw [if_neg qo, if_neg qn, if_neg q14, if_pos qe, if_pos q15])
      clear qo qn q14
      subst qe
      go_enter Tryz.func123, Tryz.ntmps123
      go_wp2
      go_ret
      exact ⟨ret_int (by rw [HX.out]), rfl⟩
    · have HX : Hid (r = s) := Lib.hid (by rw [HR.out]; unfold bothK; rw [if_neg qo, if_neg qn, if_neg q14, if_pos qe, if_neg q15])
      clear qo qn q14
      subst qe
      go_enter Tryz.func123, Tryz.ntmps123
      go_wp2
      go_ret
      exact ⟨ret_int (by rw [HX.out]), rfl⟩
  · have HX : Hid (r = -1) := Lib.hid (by rw [HR.out]; unfold bothK; rw [if_neg qo, if_neg qn, if_neg q14, if_neg qe])
    have ge : (s != q) = true := by simpa using qe
    clear qo qn q14 qe
    go_enter Tryz.func123, Tryz.ntmps123
    go_wp2
    go_ret
    exact ⟨ret_int (by rw [HX.out]), rfl⟩
/-- What the reference's TermMany is asked. -/
def SpecMany (t : T) : Prop := ∀ (A : Option Addr) (c : Nat) (F : Nat → Prop) (w : World), Lay.term.Sl w F A t.kids → (∀ b, F b → b < w.heap.size) →
  Calls Tryz.prog 97 #[.agg #[.int .i64 t.op, .int .i64 t.a, .int .i64 t.b, .string t.name, .slice A t.kids.length c]] w fun e w' => e = .returned (.tuple #[.int .i64 t.many.1, .int .i64 t.many.2]) ∧ Below w.heap.size w w'
set_option maxRecDepth 100000 in
set_option maxHeartbeats 4000000 in
theorem specMany_any (t : T) (ho : T.All okT2 t) : SpecMany t := by
  revert ho
  refine T.ind (p := fun x => T.All okT2 x → SpecMany x) (fun x ih ho => ?_) t
  obtain ⟨hkl, _⟩ := ho.here
  have ihk : ∀ k ∈ x.kids, SpecMany k := fun k hk => ih k hk (ho.kid k hk)
  clear ih ho
  intro A c F w h hF
  have hal : Below w.heap.size w (w.alloc (.cells #[.int .i64 x.op, .int .i64 x.a, .int .i64 x.b, .string x.name, .slice A x.kids.length c] 48)) := (Below.refl _ _).alloc (Nat.le_refl _) _
  have v1 : (w.alloc (.cells #[.int .i64 x.op, .int .i64 x.a, .int .i64 x.b, .string x.name, .slice A x.kids.length c] 48)).cell? ⟨w.heap.size, 4, none⟩ = some (.slice A x.kids.length c) := by simp [go_sem]
  obtain ⟨r, hr⟩ : ∃ r, r = x.many := ⟨_, rfl⟩
  rw [← hr]
  have HR := Lib.hid (hr.trans (T.many_def x))
  clear hr
  go_enter Tryz.func97, Tryz.ntmps97
  go_wp2
  generalize (w.alloc (.cells #[.int .i64 x.op, .int .i64 x.a, .int .i64 x.b, .string x.name, .slice A x.kids.length c] 48)) = W at *
  have H := h.below hal hF
  have hFW : ∀ b, F b → b < W.heap.size := fun b hb => Nat.lt_of_lt_of_le (hF b hb) hal.size
  clear h
  go_loopw [4, 5, 6] (fun a b i wr => ∃ (k : Nat) (n d : Int), k ≤ x.kids.length ∧ a = .int .i64 n ∧ b = .int .i64 d ∧ i = .int .i64 k ∧ 1 ≤ n ∧ n ≤ 41 ∧ 0 ≤ d ∧ d ≤ 8 ∧ Below W.heap.size W wr ∧ Hid (T.manyL x.kids 1 0 = T.manyL (x.kids.drop k) n d)) (fun _ _ i _ => x.kids.length - (intOf i).toNat)
  case atStart => exact ⟨0, 1, 0, Nat.zero_le _, rfl, rfl, rfl, by omega, by omega, by omega, by omega, Below.refl _ _, Lib.hid (by simp)⟩
  case round =>
    obtain ⟨k, n, d, hk, rfl, rfl, rfl, n1, n2, d1, d2, hb, HT⟩ := hrel
    have a1 := (hb.cell (World.block_lt_of_cell? W _ v1)).trans v1
    have hbw := bthen hal hb
    have hstop : ¬ (k < x.kids.length ∧ n ≤ 20) → Hid (T.manyL x.kids 1 0 = (n, d)) := fun h => Lib.hid (by
      rw [HT.out]
      by_cases h9 : n ≤ 20
      · have : k = x.kids.length := by omega
        rw [this]; exact T.manyL_full _ _ _
      · exact T.manyL_stop _ _ _ h9)
    by_cases hlt : k < x.kids.length
    · by_cases hn : n ≤ 20
      · clear hstop
        have hFr : ∀ b, F b → b < wr.heap.size := fun b hb' => Nat.lt_of_lt_of_le (hFW b hb') hb.size
        obtain ⟨ad, A1, c9, rfl, hf, c1, c2, c3, c4, c5, hcc, hkk⟩ := (H.below hb hFW).at_term hlt
        have hk1 : (k : Int) < x.kids.length := by omega
        have HI := Lib.hid (ihk _ (List.getElem_mem hlt) A1 c9 F wr hkk hFr)
        have HS := Lib.hid (HT.out.trans (T.manyL_step x.kids k n d hlt hn))
        obtain ⟨m1, m2, m3, m4⟩ := T.many_one x.kids[k]
        generalize x.kids[k].many = q at *
        have HM := Lib.hid (fun z => l1Max_t d q.2 z)
        have hm : 0 ≤ imax d q.2 ∧ imax d q.2 ≤ 8 := by rw [imax_eq]; omega
        generalize imax d q.2 = dm at *
        clear hkk H ihk hFr
        go_wp2_with fail
        refine HI.out.mono ?_
        rintro e w2 ⟨rfl, hb2⟩
        have hb3 := bthen hb hb2
        go_wp2_with fail
        refine (HM.out _).mono ?_
        rintro e w3 ⟨rfl, rfl⟩
        go_wp2
        go_roundw
        case rel => exact ⟨k + 1, n + q.1, dm, by omega, by go_num, rfl, by go_num, by omega, by omega, hm.1, hm.2, hb3, HS⟩
        case measure => simp [intOf]; omega
      · have hn9 : 20 < n := by omega
        have HE := hstop (fun h => hn h.2)
        have HX : Hid (r = (21, 8)) := Lib.hid (by rw [HR.out, HE.out]; exact if_pos (.inl (by dsimp only; omega)))
        clear hstop ihk H
        have hk1 : (k : Int) < x.kids.length := by omega
        go_wp2
        go_ret2
        exact ⟨by rw [HX.out]; rfl, hbw⟩
    · have HE := hstop (fun h => hlt h.1)
      have hke : k = x.kids.length := by omega
      clear hstop ihk H
      by_cases hn : 20 < n
      · have HX : Hid (r = (21, 8)) := Lib.hid (by rw [HR.out, HE.out]; exact if_pos (.inl hn))
        subst hke
        go_wp2
        go_ret2
        exact ⟨by rw [HX.out]; rfl, hbw⟩
      · by_cases hd : 7 < d + 1
        · have HX : Hid (r = (21, 8)) := Lib.hid (by rw [HR.out, HE.out]; exact if_pos (.inr hd))
          subst hke
          go_wp2
          go_ret2
          exact ⟨by rw [HX.out]; rfl, hbw⟩
        · have HX : Hid (r = (n, d + 1)) := Lib.hid (by rw [HR.out, HE.out]; exact if_neg (fun h => h.elim hn hd))
          subst hke
          go_wp2
          go_ret2
          exact ⟨by rw [HX.out]; rfl, hbw⟩
/-- What the reference's l2Sort is asked. -/
def SpecSort (ds : List D) (t : T) : Prop := ∀ (A B : Option Addr) (c d : Nat) (F : Nat → Prop) (w : World), Lay.term.Sl w F A t.kids → Lay.decl.Sl w F B ds → (∀ b, F b → b < w.heap.size) →
  Calls Tryz.prog 98 #[.slice B ds.length d, .agg #[.int .i64 t.op, .int .i64 t.a, .int .i64 t.b, .string t.name, .slice A t.kids.length c]] w fun e w' => e = .returned (.int .i64 (srt ds t)) ∧ Below w.heap.size w w'
theorem plainT_many {t : T} (h : plainT t = true) : (t.kids.length : Int) = arity t.op := by
  simp only [plainT, Bool.and_eq_true, beq_iff_eq] at h
  exact h.2
theorem arity_le (op : Int) : arity op ≤ 3 := by unfold arity; (repeat' split) <;> omega
theorem arity_none {op : Int} (h : arity op = 0) : op = 20 ∨ op = 21 ∨ op = 24 := by
  unfold arity at h; (repeat' split at h) <;> omega
theorem arity_some {op : Int} (h : 0 < arity op) : op ≠ 20 ∧ op ≠ 21 ∧ op ≠ 24 := by
  refine ⟨?_, ?_, ?_⟩ <;> (rintro rfl; revert h; decide)
theorem srt_bad (ds : List D) {t : T} (h : plainT t = false) : srt ds t = -1 := by rw [srt_def, h]; rfl
theorem srt_vec (ds : List D) {t : T} (h : plainT t = true) (h20 : t.op = 20) (hk : t.kids.length = 0) : srt ds t = if vecB t.a t.b = true then t.a else -1 := by
  rw [srt_def, if_pos h, List.eq_nil_of_length_eq_zero hk]
  exact if_pos h20
theorem srt_name (ds : List D) {t : T} (h : plainT t = true) (h21 : t.op = 21) (hk : t.kids.length = 0) : srt ds t = nameK ds t.name := by
  rw [srt_def, if_pos h, List.eq_nil_of_length_eq_zero hk]
  exact (if_neg (by omega)).trans (if_pos h21)
theorem srt_true (ds : List D) {t : T} (h : plainT t = true) (h24 : t.op = 24) (hk : t.kids.length = 0) : srt ds t = 0 := by
  rw [srt_def, if_pos h, List.eq_nil_of_length_eq_zero hk]
  exact (if_neg (by omega)).trans (if_neg (by omega))
theorem list_one {α : Type} {l : List α} (h : l.length = 1) : l = [l[0]] := by
  match l, h with
  | [x], _ => rfl
theorem list_two {α : Type} {l : List α} (h : l.length = 2) : l = [l[0], l[1]] := by
  match l, h with
  | [x, y], _ => rfl
theorem list_three {α : Type} {l : List α} (h : l.length = 3) : l = [l[0], l[1], l[2]] := by
  match l, h with
  | [x, y, z], _ => rfl
theorem srt_one (ds : List D) {t : T} (h : plainT t = true) (hk : t.kids.length = 1) : srt ds t = oneK t.op t.a t.b (srt ds t.kids[0]) := by
  rw [srt_def, if_pos h, srtL_map]
  have e : t.kids.map (srt ds) = [srt ds t.kids[0]] := by
    conv => lhs; rw [list_one hk]
    rfl
  rw [e]
theorem srt_two (ds : List D) {t : T} (h : plainT t = true) (hk : t.kids.length = 2) : srt ds t = bothK t.op (srt ds t.kids[0]) (srt ds t.kids[1]) := by
  rw [srt_def, if_pos h, srtL_map]
  have e : t.kids.map (srt ds) = [srt ds t.kids[0], srt ds t.kids[1]] := by
    conv => lhs; rw [list_two hk]
    rfl
  rw [e]
theorem srt_three (ds : List D) {t : T} (h : plainT t = true) (hk : t.kids.length = 3) : srt ds t = threeK (srt ds t.kids[0]) (srt ds t.kids[1]) (srt ds t.kids[2]) := by
  rw [srt_def, if_pos h, srtL_map]
  have e : t.kids.map (srt ds) = [srt ds t.kids[0], srt ds t.kids[1], srt ds t.kids[2]] := by
    conv => lhs; rw [list_three hk]
    rfl
  rw [e]
set_option maxRecDepth 100000 in
set_option maxHeartbeats 8000000 in
theorem specSort_any (ds : List D) (hw : ∀ x ∈ ds, 1 ≤ x.wide ∧ x.wide ≤ 4) (hd4 : ds.length ≤ 9223372036854775807) (t : T) (ho : T.All okT2 t) : SpecSort ds t := by
  revert ho
  refine T.ind (p := fun x => T.All okT2 x → SpecSort ds x) (fun x ih ho => ?_) t
  obtain ⟨hkl, _⟩ := ho.here
  have ihk : ∀ k ∈ x.kids, SpecSort ds k := fun k hk => ih k hk (ho.kid k hk)
  clear ih ho
  intro A B c d F w h hd hF
  have hal : Below w.heap.size w (w.alloc (.cells #[.int .i64 x.op, .int .i64 x.a, .int .i64 x.b, .string x.name, .slice A x.kids.length c] 48)) := (Below.refl _ _).alloc (Nat.le_refl _) _
  have HPL := Lib.hid (fun z => l2Plain_any x.op x.a x.b x.name A x.kids.length c z (by omega))
  have hpt : (plainN x.op x.name && plainV x.op x.a x.b && ((x.kids.length : Int) == arity x.op)) = plainT x := rfl
  rw [hpt] at HPL
  obtain ⟨r, hr⟩ : ∃ r, r = srt ds x := ⟨_, rfl⟩
  rw [← hr]
  have HR := Lib.hid hr
  clear hr hpt
  have H := Lib.hid (h.below hal hF)
  have HD := Lib.hid (hd.below hal hF)
  have hFW : ∀ b, F b → b < (w.alloc (.cells #[.int .i64 x.op, .int .i64 x.a, .int .i64 x.b, .string x.name, .slice A x.kids.length c] 48)).heap.size := fun b hb => Nat.lt_of_lt_of_le (hF b hb) hal.size
  have HAL := Lib.hid hal
  have v0 : (w.alloc (.cells #[.int .i64 x.op, .int .i64 x.a, .int .i64 x.b, .string x.name, .slice A x.kids.length c] 48)).cell? ⟨w.heap.size, 0, none⟩ = some (.int .i64 x.op) := by simp [go_sem]
  have v1 : (w.alloc (.cells #[.int .i64 x.op, .int .i64 x.a, .int .i64 x.b, .string x.name, .slice A x.kids.length c] 48)).cell? ⟨w.heap.size, 1, none⟩ = some (.int .i64 x.a) := by simp [go_sem]
  have v2 : (w.alloc (.cells #[.int .i64 x.op, .int .i64 x.a, .int .i64 x.b, .string x.name, .slice A x.kids.length c] 48)).cell? ⟨w.heap.size, 2, none⟩ = some (.int .i64 x.b) := by simp [go_sem]
  have v3 : (w.alloc (.cells #[.int .i64 x.op, .int .i64 x.a, .int .i64 x.b, .string x.name, .slice A x.kids.length c] 48)).cell? ⟨w.heap.size, 3, none⟩ = some (.string x.name) := by simp [go_sem]
  have v4 : (w.alloc (.cells #[.int .i64 x.op, .int .i64 x.a, .int .i64 x.b, .string x.name, .slice A x.kids.length c] 48)).cell? ⟨w.heap.size, 4, none⟩ = some (.slice A x.kids.length c) := by simp [go_sem]
  have hsz : w.heap.size < (w.alloc (.cells #[.int .i64 x.op, .int .i64 x.a, .int .i64 x.b, .string x.name, .slice A x.kids.length c] 48)).heap.size := by simp
  go_enter Tryz.func98, Tryz.ntmps98
  go_wp2_with fail
  generalize w.alloc (.cells #[.int .i64 x.op, .int .i64 x.a, .int .i64 x.b, .string x.name, .slice A x.kids.length c] 48) = W at *
  refine (HPL.out W).mono ?_
  rintro e w1 ⟨rfl, hb1⟩
  have H := Lib.hid (H.out.below hb1 hFW)
  have HD := Lib.hid (HD.out.below hb1 hFW)
  have hF1 : ∀ b, F b → b < w1.heap.size := fun b hb => Nat.lt_of_lt_of_le (hFW b hb) hb1.size
  have v0 := (hb1.cell hsz).trans v0
  have v1 := (hb1.cell hsz).trans v1
  have v2 := (hb1.cell hsz).trans v2
  have v3 := (hb1.cell hsz).trans v3
  have v4 := (hb1.cell hsz).trans v4
  have hsz : w.heap.size < w1.heap.size := Nat.lt_of_lt_of_le hsz hb1.size
  have HAL := Lib.hid (bthen HAL.out hb1)
  have HIK := Lib.hid ihk
  clear hb1 HPL hFW hal h hd ihk hF
  obtain ⟨p, hp⟩ : ∃ p, p = plainT x := ⟨_, rfl⟩
  rw [← hp]
  cases p
  · have HX : Hid (r = -1) := Lib.hid (by rw [HR.out]; exact srt_bad ds hp.symm)
    clear hp
    go_wp2
    go_ret
    exact ⟨ret_int (by rw [HX.out]), HAL.out⟩
  have HP := Lib.hid hp.symm
  clear hp
  have har := plainT_many HP.out
  have har3 := arity_le x.op
  by_cases k0 : x.kids.length = 0
  · rcases arity_none (op := x.op) (by omega) with q20 | q21 | q24
    · have HX : Hid (r = if vecB x.a x.b = true then x.a else -1) := Lib.hid (by rw [HR.out]; exact srt_vec ds HP.out q20 k0)
      have HV := Lib.hid (specVecOk_any x.a x.b w1)
      rw [q20] at v0
      clear har har3 q20 k0
      obtain ⟨q, hq⟩ : ∃ q, q = vecB x.a x.b := ⟨_, rfl⟩
      rw [← hq] at HX HV
      clear hq
      go_wp2_with fail
      refine HV.out.mono ?_
      rintro e w2 ⟨rfl, hb2⟩
      have HAL := Lib.hid (bthen HAL.out hb2)
      have v1 := (hb2.cell hsz).trans v1
      clear hb2
      cases q
      · go_wp2
        go_ret
        exact ⟨ret_int (by rw [HX.out]; rfl), HAL.out⟩
      · go_wp2
        go_ret
        exact ⟨ret_int (by rw [HX.out]; rfl), HAL.out⟩
    · have HX : Hid (r = nameK ds x.name) := Lib.hid (by rw [HR.out]; exact srt_name ds HP.out q21 k0)
      have HV := Lib.hid (l2Find_any B d ds x.name F w1 HD.out hd4)
      have HN := Lib.hid (nameK_fN ds x.name 0)
      rw [q21] at v0
      clear har har3 q21 k0
      obtain ⟨q, hq⟩ : ∃ q, q = fN 0 ds x.name := ⟨_, rfl⟩
      rw [← hq] at HN HV
      clear hq
      go_wp2_with fail
      refine HV.out.mono ?_
      rintro e w2 ⟨rfl, rfl⟩
      by_cases hq : q < 0
      · have HX : Hid (r = -1) := Lib.hid (by rw [HX.out]; exact HN.out.1 hq)
        go_wp2
        go_ret
        exact ⟨ret_int (by rw [HX.out]), HAL.out⟩
      · obtain ⟨j, hj, e9, e2⟩ := HN.out.2 (by omega)
        have HX : Hid (r = ds[j].wide) := Lib.hid (by rw [HX.out]; exact e2)
        have e1 : q = (j : Int) := by omega
        clear e9
        subst e1
        obtain ⟨ad, rfl, hf, c1, c2⟩ := HD.out.at_decl hj
        have hj1 : (j : Int) < ds.length := by omega
        clear e2 hq
        go_wp2
        go_ret
        exact ⟨ret_int (by rw [HX.out]), HAL.out⟩
    · have HX : Hid (r = 0) := Lib.hid (by rw [HR.out]; exact srt_true ds HP.out q24 k0)
      rw [q24] at v0
      clear har har3 q24 k0
      go_wp2
      go_ret
      exact ⟨ret_int (by rw [HX.out]), HAL.out⟩
  obtain ⟨n20, n21, n24⟩ := arity_some (op := x.op) (by omega)
  have g20 : (x.op == 20) = false := by simpa using n20
  have g21 : (x.op == 21) = false := by simpa using n21
  have g24 : (x.op == 24) = false := by simpa using n24
  clear n20 n21 n24
  have hp0 : 0 < x.kids.length := by omega
  obtain ⟨ad, A1, c9, rfl, hf, c1, c2, c3, c4, c5, hcc, hkk⟩ := H.out.at_term hp0
  rw [show ad.add (0 * 5) = ad from rfl] at c1 c2 c3 c4 c5
  have HI := Lib.hid (HIK.out _ (List.getElem_mem hp0) A1 B c9 d F w1 hkk HD.out hF1)
  have hsb := srt_bounds hw x.kids[0]
  have hp1 : (0 : Int) < x.kids.length := by omega
  obtain ⟨s0, hs0⟩ : ∃ s, s = srt ds x.kids[0] := ⟨_, rfl⟩
  rw [← hs0] at HI hsb
  have HS0 := Lib.hid hs0
  clear hs0 hkk
  go_wp2_with fail
  refine HI.out.mono ?_
  rintro e w2 ⟨rfl, hb2⟩
  have H := Lib.hid (H.out.below hb2 hF1)
  have HD := Lib.hid (HD.out.below hb2 hF1)
  have hF2 : ∀ b, F b → b < w2.heap.size := fun b hb => Nat.lt_of_lt_of_le (hF1 b hb) hb2.size
  have v0 := (hb2.cell hsz).trans v0
  have v1 := (hb2.cell hsz).trans v1
  have v2 := (hb2.cell hsz).trans v2
  have v3 := (hb2.cell hsz).trans v3
  have v4 := (hb2.cell hsz).trans v4
  have hsz2 : w.heap.size < w2.heap.size := Nat.lt_of_lt_of_le hsz hb2.size
  have HAL := Lib.hid (bthen HAL.out hb2)
  clear hb2 HI c1 c2 c3 c4 c5 hcc hf hsz
  by_cases k1 : x.kids.length = 1
  · have HX : Hid (r = oneK x.op x.a x.b s0) := Lib.hid (by rw [HR.out, HS0.out]; exact srt_one ds HP.out k1)
    have HC := Lib.hid (l2One_any x.op x.a x.b s0 x.name (some ad) x.kids.length c w2 hsb)
    rw [← HX.out] at HC
    have gk : ((x.kids.length : Int) == 1) = true := by rw [k1]; rfl
    clear k0 k1 har har3 hp1
    go_wp2_with fail
    refine HC.out.mono ?_
    rintro e w3 ⟨rfl, hb3⟩
    have HAL := Lib.hid (bthen HAL.out hb3)
    go_wp2
    go_ret
    exact ⟨rfl, HAL.out⟩
  have gk1 : ((x.kids.length : Int) == 1) = false := by simp; omega
  have hq0 : 1 < x.kids.length := by omega
  obtain ⟨ad', A1', c9', had, hf, c1, c2, c3, c4, c5, hcc, hkk⟩ := H.out.at_term hq0
  cases had
  rw [show ad.add (1 * 5) = ⟨ad.block, ad.off + 5, none⟩ from rfl] at c1 c2 c3 c4 c5
  dsimp only at c2 c3 c4 c5
  have HI := Lib.hid (HIK.out _ (List.getElem_mem hq0) A1' B c9' d F w2 hkk HD.out hF2)
  have hsb1 := srt_bounds hw x.kids[1]
  have hq1 : (1 : Int) < x.kids.length := by omega
  obtain ⟨s1, hs1⟩ : ∃ s, s = srt ds x.kids[1] := ⟨_, rfl⟩
  rw [← hs1] at HI hsb1
  have HS1 := Lib.hid hs1
  clear hs1 hkk
  go_wp2_with fail
  refine HI.out.mono ?_
  rintro e w3 ⟨rfl, hb3⟩
  have H := Lib.hid (H.out.below hb3 hF2)
  have HD := Lib.hid (HD.out.below hb3 hF2)
  have hF3 : ∀ b, F b → b < w3.heap.size := fun b hb => Nat.lt_of_lt_of_le (hF2 b hb) hb3.size
  have v0 := (hb3.cell hsz2).trans v0
  have v4 := (hb3.cell hsz2).trans v4
  have hsz3 : w.heap.size < w3.heap.size := Nat.lt_of_lt_of_le hsz2 hb3.size
  have HAL := Lib.hid (bthen HAL.out hb3)
  clear hb3 HI c1 c2 c3 c4 c5 hcc hf hsz2 v1 v2 v3
  by_cases k2 : x.kids.length = 2
  · have HX : Hid (r = bothK x.op s0 s1) := Lib.hid (by rw [HR.out, HS0.out, HS1.out]; exact srt_two ds HP.out k2)
    have HC := Lib.hid (l2Both_any x.op s0 s1 w3 hsb hsb1)
    rw [← HX.out] at HC
    have gk : ((x.kids.length : Int) == 2) = true := by rw [k2]; rfl
    clear k0 k1 k2 har har3 hp1 hq1
    go_wp2_with fail
    refine HC.out.mono ?_
    rintro e w4 ⟨rfl, rfl⟩
    go_wp2
    go_ret
    exact ⟨rfl, HAL.out⟩
  have gk2 : ((x.kids.length : Int) == 2) = false := by simp; omega
  have k3 : x.kids.length = 3 := by omega
  have HX : Hid (r = threeK s0 s1 (srt ds x.kids[2])) := Lib.hid (by rw [HR.out, HS0.out, HS1.out]; exact srt_three ds HP.out k3)
  by_cases q0 : s0 = 0
  rotate_left
  · have HX : Hid (r = -1) := Lib.hid (by rw [HX.out]; exact if_neg q0)
    have g0 : (s0 != 0) = true := by simpa using q0
    clear k0 k1 k2 hp1 hq1 q0
    go_wp2
    go_ret
    exact ⟨ret_int (by rw [HX.out]), HAL.out⟩
  have hr0 : 2 < x.kids.length := by omega
  obtain ⟨ad', A1', c9', had, hf, c1, c2, c3, c4, c5, hcc, hkk⟩ := H.out.at_term hr0
  cases had
  rw [show ad.add (2 * 5) = ⟨ad.block, ad.off + 10, none⟩ from rfl] at c1 c2 c3 c4 c5
  dsimp only at c2 c3 c4 c5
  have HI := Lib.hid (HIK.out _ (List.getElem_mem hr0) A1' B c9' d F w3 hkk HD.out hF3)
  have hr1 : (2 : Int) < x.kids.length := by omega
  obtain ⟨s2, hs2⟩ : ∃ s, s = srt ds x.kids[2] := ⟨_, rfl⟩
  rw [← hs2] at HI HX
  have HX : Hid (r = if s1 = s2 then s1 else -1) := Lib.hid (by rw [HX.out]; exact if_pos q0)
  clear hs2 hkk
  subst q0
  go_wp2_with fail
  refine HI.out.mono ?_
  rintro e w4 ⟨rfl, hb4⟩
  have HAL := Lib.hid (bthen HAL.out hb4)
  clear hb4 HI
  by_cases q1 : s1 = s2
  · have HX : Hid (r = s1) := Lib.hid (by rw [HX.out]; exact if_pos q1)
    have g1 : (s1 != s2) = false := by simpa using q1
    clear q1
    go_wp2
    go_ret
    exact ⟨ret_int (by rw [HX.out]), HAL.out⟩
  · have HX : Hid (r = -1) := Lib.hid (by rw [HX.out]; exact if_neg q1)
    have g1 : (s1 != s2) = true := by simpa using q1
    clear q1
    go_wp2
    go_ret
    exact ⟨ret_int (by rw [HX.out]), HAL.out⟩
set_option maxRecDepth 100000 in
set_option maxHeartbeats 4000000 in
theorem specTermSort_any (ds : List D) (x : T) (ho : T.All okT2 x) (hn : okNames ds) (hd4 : ds.length ≤ 9223372036854775807) (A B : Option Addr) (c d : Nat) (F : Nat → Prop) (w : World) (h : Lay.term.Sl w F A x.kids) (hd : Lay.decl.Sl w F B ds) (hF : ∀ b, F b → b < w.heap.size) (hc : ds.length ≤ d) :
    Calls Tryz.prog 68 #[.slice B ds.length d, .agg #[.int .i64 x.op, .int .i64 x.a, .int .i64 x.b, .string x.name, .slice A x.kids.length c]] w fun e w' => e = .returned (.int .i64 (tsort ds x)) ∧ Below w.heap.size w w' := by
  have hal : Below w.heap.size w (w.alloc (.cells #[.int .i64 x.op, .int .i64 x.a, .int .i64 x.b, .string x.name, .slice A x.kids.length c] 48)) := (Below.refl _ _).alloc (Nat.le_refl _) _
  have hFW : ∀ b, F b → b < (w.alloc (.cells #[.int .i64 x.op, .int .i64 x.a, .int .i64 x.b, .string x.name, .slice A x.kids.length c] 48)).heap.size := fun b hb => Nat.lt_of_lt_of_le (hF b hb) hal.size
  have H := Lib.hid (h.below hal hF)
  have HD := Lib.hid (hd.below hal hF)
  have HM := Lib.hid (specMany_any x ho A c F _ H.out hFW)
  have HN := Lib.hid hn
  have HB := Lib.hid (heap_alloc_new w (.cells #[.int .i64 x.op, .int .i64 x.a, .int .i64 x.b, .string x.name, .slice A x.kids.length c] 48))
  obtain ⟨r, hr⟩ : ∃ r, r = tsort ds x := ⟨_, rfl⟩
  rw [← hr]
  have HR := Lib.hid hr
  clear hr h hd
  have HAL := Lib.hid hal
  obtain ⟨m1, m2, m3, m4⟩ := T.many_one x
  have m5 : x.many.1 ≤ 20 → x.many.2 ≤ 7 := fun h => by
    rw [T.many_eq] at h ⊢
    split at h
    · rw [if_pos (by assumption)]; dsimp only; omega
    · dsimp only at h; omega
  obtain ⟨q, hq⟩ : ∃ q, q = x.many := ⟨_, rfl⟩
  rw [← hq] at HM m1 m2 m3 m4 m5
  have HQ := Lib.hid hq
  clear hq
  go_enter Tryz.func68, Tryz.ntmps68
  go_wp2_with fail
  generalize w.alloc (.cells #[.int .i64 x.op, .int .i64 x.a, .int .i64 x.b, .string x.name, .slice A x.kids.length c] 48) = W at *
  refine HM.out.mono ?_
  rintro e w1 ⟨rfl, hb1⟩
  have H := Lib.hid (H.out.below hb1 hFW)
  have HD := Lib.hid (HD.out.below hb1 hFW)
  have hF1 : ∀ b, F b → b < w1.heap.size := fun b hb => Nat.lt_of_lt_of_le (hFW b hb) hb1.size
  have HB := Lib.hid ((hb1.block _ (lt_of_block HB.out)).trans HB.out)
  have HAL := Lib.hid (bthen HAL.out hb1)
  have HC := Lib.hid (specDeclOk_any B d ds F w1 HD.out hF1 hd4 HN.out hc)
  clear hb1 hFW hal hF HM HN
  obtain ⟨p, hp⟩ : ∃ p, p = declOk ds := ⟨_, rfl⟩
  rw [← hp] at HC
  go_wp2_with fail
  refine HC.out.mono ?_
  rintro e w2 ⟨rfl, hb2⟩
  have HB := Lib.hid ((hb2.block _ (lt_of_block HB.out)).trans HB.out)
  have HAL := Lib.hid (bthen HAL.out hb2)
  cases p
  · have HX : Hid (r = -1) := Lib.hid (by rw [HR.out]; exact if_neg (fun h9 => by rw [← hp] at h9; simp at h9))
    clear hp
    go_wp2
    go_ret
    exact ⟨ret_int (by rw [HX.out]), HAL.out⟩
  by_cases hq : q.1 ≤ 20
  · have hq2 := m5 hq
    have HX : Hid (r = srt ds x) := Lib.hid (by rw [HR.out]; exact if_pos ⟨hp.symm, by rw [← HQ.out]; exact hq⟩)
    have HS := Lib.hid (specSort_any ds (fun y hy => (declOk_facts hp.symm).2.1 y hy |>.2) hd4 x ho A B c d F w2 (H.out.below hb2 hF1) (HD.out.below hb2 hF1) (fun b hb => Nat.lt_of_lt_of_le (hF1 b hb) hb2.size))
    rw [← HX.out] at HS
    have v0 := (cell_of_block HB.out 0).1
    have v1 := (cell_of_block HB.out 1).1
    have v2 := (cell_of_block HB.out 2).1
    have v3 := (cell_of_block HB.out 3).1
    have v4 := (cell_of_block HB.out 4).1
    clear hp m5 hb2
    go_wp2_with fail
    refine HS.out.mono ?_
    rintro e w3 ⟨rfl, hb3⟩
    have HAL := Lib.hid (bthen HAL.out hb3)
    go_wp2
    go_ret
    exact ⟨rfl, HAL.out⟩
  · have HX : Hid (r = -1) := Lib.hid (by rw [HR.out]; exact if_neg (fun h9 => hq (by rw [HQ.out]; exact h9.2)))
    have hq9 : 20 < q.1 := by omega
    clear hp m5
    go_wp2
    go_ret
    exact ⟨ret_int (by rw [HX.out]), HAL.out⟩
end Go.Proofs.YtiahmfpfimmbgaaGreatDoor

/-! Contexts: when they are right. No program is named here. -/
namespace Go.Proofs.YtiahmfpfimmbgaaGreatDoor
open Go Go.RowKit

def dsAll (c : List Ly) : List D := c.flatMap Ly.ds
def tsAll (c : List Ly) : List T := c.flatMap Ly.ts
def sort0 (ds : List D) (t : T) : Bool := tsort ds t == 0
def lyOk (seen : List Ly) (l : Ly) : Bool := l.ts.all (sort0 (dsAll (seen ++ [l])))
def ctxGo : List Ly → List Ly → Bool
  | _, [] => true
  | seen, l :: ls => lyOk seen l && ctxGo (seen ++ [l]) ls
/-- A right context. -/
def ctxOk (c : List Ly) : Bool := decide (1 ≤ c.length) && decide (c.length ≤ 6) && declOk (dsAll c) && decide ((tsAll c).length ≤ 8) && ctxGo [] c
theorem ctxGo_step (c : List Ly) (k : Nat) (h : k < c.length) : ctxGo (c.take k) (c.drop k) = (lyOk (c.take k) c[k] && ctxGo (c.take (k + 1)) (c.drop (k + 1))) := by
  rw [List.drop_eq_getElem_cons h]
  show (_ && ctxGo (c.take k ++ [c[k]]) _) = _
  rw [List.take_succ_eq_append_getElem h]
theorem lyOk_take (c : List Ly) (k : Nat) (h : k < c.length) : lyOk (c.take k) c[k] = c[k].ts.all (sort0 (dsAll (c.take (k + 1)))) := by
  unfold lyOk
  rw [List.take_succ_eq_append_getElem h]
theorem all_step {α : Type} (p : α → Bool) (l : List α) (k : Nat) (h : k < l.length) : (l.drop k).all p = (p l[k] && (l.drop (k + 1)).all p) := by
  rw [List.drop_eq_getElem_cons h]; rfl
theorem dsAll_step (c : List Ly) (k : Nat) (h : k < c.length) : dsAll (c.take (k + 1)) = dsAll (c.take k) ++ c[k].ds := by
  unfold dsAll
  rw [List.take_succ_eq_append_getElem h, List.flatMap_append]
  simp
theorem tsAll_step (c : List Ly) (k : Nat) (h : k < c.length) : tsAll (c.take (k + 1)) = tsAll (c.take k) ++ c[k].ts := by
  unfold tsAll
  rw [List.take_succ_eq_append_getElem h, List.flatMap_append]
  simp
theorem dsAll_le (c : List Ly) (k : Nat) : (dsAll (c.take k)).length ≤ (dsAll c).length := by
  conv => rhs; rw [← List.take_append_drop k c]
  unfold dsAll
  rw [List.flatMap_append, List.length_append]; omega
theorem tsAll_le (c : List Ly) (k : Nat) : (tsAll (c.take k)).length ≤ (tsAll c).length := by
  conv => rhs; rw [← List.take_append_drop k c]
  unfold tsAll
  rw [List.flatMap_append, List.length_append]; omega
theorem dsAll_at (c : List Ly) (k : Nat) (h : k < c.length) : c[k].ds.length ≤ (dsAll c).length := by
  have h1 := dsAll_le c (k + 1)
  rw [dsAll_step c k h, List.length_append] at h1
  omega
theorem tsAll_at (c : List Ly) (k : Nat) (h : k < c.length) : c[k].ts.length ≤ (tsAll c).length := by
  have h1 := tsAll_le c (k + 1)
  rw [tsAll_step c k h, List.length_append] at h1
  omega
theorem dsAll_mem {c : List Ly} {k : Nat} {d : D} (h : d ∈ dsAll (c.take k)) : d ∈ dsAll c := by
  obtain ⟨l, hl, hd⟩ := List.mem_flatMap.1 h
  exact List.mem_flatMap.2 ⟨l, List.mem_of_mem_take hl, hd⟩
theorem tsAll_mem {c : List Ly} {k j : Nat} (h : k < c.length) (hj : j < c[k].ts.length) : c[k].ts[j] ∈ tsAll c := List.mem_flatMap.2 ⟨c[k], List.getElem_mem h, List.getElem_mem hj⟩
theorem ctxOk_short {c : List Ly} (h : ¬ 1 ≤ c.length) : ctxOk c = false := by unfold ctxOk; rw [decide_eq_false h]; rfl
theorem ctxOk_long {c : List Ly} (h : ¬ c.length ≤ 6) : ctxOk c = false := by unfold ctxOk; rw [decide_eq_false h]; simp
theorem ctxOk_decl {c : List Ly} (h : declOk (dsAll c) = false) : ctxOk c = false := by unfold ctxOk; rw [h]; simp
theorem ctxOk_terms {c : List Ly} (h : ¬ (tsAll c).length ≤ 8) : ctxOk c = false := by unfold ctxOk; rw [decide_eq_false h]; simp
theorem ctxOk_go {c : List Ly} (h1 : 1 ≤ c.length) (h6 : c.length ≤ 6) (hd : declOk (dsAll c) = true) (h8 : (tsAll c).length ≤ 8) : ctxOk c = ctxGo [] c := by unfold ctxOk; rw [decide_eq_true h1, decide_eq_true h6, hd, decide_eq_true h8]; rfl
def okT3 (t : T) : Prop := okT2 t ∧ (-9223372036854775808 ≤ t.op ∧ t.op ≤ 9223372036854775807)
/-- What is asked of a context that comes in. -/
structure okC (c : List Ly) : Prop where
  len : c.length ≤ 1048576
  ds : (dsAll c).length ≤ 1048576
  ts : (tsAll c).length ≤ 1048576
  names : ∀ d ∈ dsAll c, d.name.size ≤ 9223372036854775807
  terms : ∀ t ∈ tsAll c, T.All okT3 t
end Go.Proofs.YtiahmfpfimmbgaaGreatDoor

/-! What grows but for some blocks. No program is named here. -/
namespace Go.Proofs.YtiahmfpfimmbgaaGreatDoor
open Go Go.RowKit

theorem own_of_heap {w w' : World} {base : Nat} {e : TypeId} {size n : Nat} {v : Value} {xs : List Value} (h : w.ownsRow base e size v n xs) (hk : ∀ g, v.ownBlock = some g → w'.heap[g]? = w.heap[g]?) : w'.ownsRow base e size v n xs := by
  refine ⟨h.1, ?_⟩
  rcases h.2 with hn | ⟨g, cap, cur, rfl, hb, hgg, rest⟩
  · exact .inl hn
  · exact .inr ⟨g, cap, cur, rfl, hb, (hk g rfl).trans hgg, rest⟩
/-- But for the blocks S nothing turned. -/
structure Gr (S : Nat → Prop) (w w' : World) : Prop where
  os : w'.os = w.os
  tape : w'.tape = w.tape
  output : w'.output = w.output
  size : w.heap.size ≤ w'.heap.size
  block : ∀ i, i < w.heap.size → ¬ S i → w'.heap[i]? = w.heap[i]?
theorem Gr.refl (S : Nat → Prop) (w : World) : Gr S w w := ⟨rfl, rfl, rfl, Nat.le_refl _, fun _ _ _ => rfl⟩
theorem Gr.trans {S : Nat → Prop} {a b c : World} (h : Gr S a b) (k : Gr S b c) : Gr S a c :=
  ⟨k.os.trans h.os, k.tape.trans h.tape, k.output.trans h.output, Nat.le_trans h.size k.size, fun i hi hn => (k.block i (Nat.lt_of_lt_of_le hi h.size) hn).trans (h.block i hi hn)⟩
theorem Gr.mono {S T : Nat → Prop} {a b : World} (h : Gr S a b) (hST : ∀ x, S x → T x) : Gr T a b := ⟨h.os, h.tape, h.output, h.size, fun i hi hn => h.block i hi (fun e => hn (hST i e))⟩
theorem Gr.below {S : Nat → Prop} {w w' : World} (h : Below w.heap.size w w') : Gr S w w' := ⟨h.os, h.tape, h.output, h.size, fun i hi _ => h.block i hi⟩
theorem Gr.up {S : Nat → Prop} {a w w' : World} (h : Gr S a w) (hb : Below w.heap.size w w') : Gr S a w' := h.trans (.below hb)
theorem Gr.one {S : Nat → Prop} {w w' : World} {g : Nat} (h : w.grownBy w' (some g)) (hg : S g) : Gr S w w' := ⟨h.os, h.tape, h.output, h.size, fun i hi hn => h.block i hi (fun e => by injection e with e; exact hn (e ▸ hg))⟩
theorem Gr.set {S : Nat → Prop} {a w : World} (h : Gr S a w) (g o : Nat) (u : Value) (hg : S g ∨ a.heap.size ≤ g) : Gr S a (w.setCell ⟨g, o, none⟩ u) :=
  ⟨h.os, h.tape, h.output, by rw [size_setCell]; exact h.size, fun i hi hn => (Below.heap_setCell w ⟨g, o, none⟩ u i (fun e => hg.elim (fun h9 => hn (by rw [e]; exact h9)) (fun h9 => by rw [e] at hi; exact absurd hi (by show ¬ g < _; omega)))).trans (h.block i hi hn)⟩
/-- A row of one's own has grown. -/
theorem Gr.own {S : Nat → Prop} {a w w' : World} {row : Option Nat} (h : Gr S a w) (k : w.grownBy w' row) (hr : ∀ g, row = some g → a.heap.size ≤ g) : Gr S a w' :=
  ⟨k.os.trans h.os, k.tape.trans h.tape, k.output.trans h.output, Nat.le_trans h.size k.size, fun i hi hn => (k.block i (Nat.lt_of_lt_of_le hi h.size) (fun e => by have := hr i e.symm; omega)).trans (h.block i hi hn)⟩
/-- From the blocks of a later start on, all is the caller's gain. -/
theorem Gr.then {S T : Nat → Prop} {a b c : World} (h : Gr S a b) (k : Gr T b c) (hT : ∀ x, T x → S x ∨ a.heap.size ≤ x) : Gr S a c :=
  ⟨k.os.trans h.os, k.tape.trans h.tape, k.output.trans h.output, Nat.le_trans h.size k.size, fun i hi hn => (k.block i (Nat.lt_of_lt_of_le hi h.size) (fun e => (hT i e).elim hn (fun h9 => by omega))).trans (h.block i hi hn)⟩
theorem Gr.to_below' {S : Nat → Prop} {B : Nat} {a b : World} (h : Gr S a b) (hB : B ≤ a.heap.size) (hS : ∀ x, S x → B ≤ x) : Below B a b := ⟨h.os, h.tape, h.output, h.size, fun i hi => h.block i (by omega) (fun e => by have := hS i e; omega)⟩
theorem Gr.heap {S : Nat → Prop} {w w' : World} {g : Nat} {o : Obj} (h : Gr S w w') (hg : ¬ S g) (hb : w.heap[g]? = some o) : w'.heap[g]? = some o := (h.block g (Array.getElem?_eq_some_iff.1 hb).1 hg).trans hb
/-- What stays: data that do not lie in the blocks S. -/
def Ab (S : Nat → Prop) (w : World) (b : Nat) : Prop := b < w.heap.size ∧ ¬ S b
theorem Lay.Sl.gr {α : Type} {L : Lay α} {w w' : World} {S : Nat → Prop} {A : Option Addr} {xs : List α} (h : L.Sl w (Ab S w) A xs) (hg : Gr S w w') : L.Sl w' (Ab S w') A xs :=
  (h.keep fun b hb => hg.block b hb.1 hb.2).mono fun b hb => ⟨Nat.lt_of_lt_of_le hb.1 hg.size, hb.2⟩
theorem Lay.Sl.ab_rd {α : Type} {L : Lay α} {w : World} {S : Nat → Prop} {A : Option Addr} {xs : List α} (h : L.Sl w (Ab S w) A xs) : L.Rd w A xs := h.mono fun _ h => h.1
theorem Lay.Sl.ab_mono {α : Type} {L : Lay α} {w : World} {S T : Nat → Prop} {A : Option Addr} {xs : List α} (h : L.Sl w (Ab S w) A xs) (hT : ∀ b, b < w.heap.size → T b → S b) : L.Sl w (Ab T w) A xs := h.mono fun b h => ⟨h.1, fun e => h.2 (hT b h.1 e)⟩
end Go.Proofs.YtiahmfpfimmbgaaGreatDoor

/-! Rows of declarations of the call's own. -/
namespace Go.Proofs.YtiahmfpfimmbgaaGreatDoor
open Go Go.RowKit

def dcells (d : D) : List Value := [.string d.name, .int .i64 d.wide]
theorem dcells_len (xs : List D) : (xs.flatMap dcells).length = xs.length * 2 := by
  induction xs with
  | nil => rfl
  | cons x xs ih => rw [List.flatMap_cons, List.length_append, ih]; simp [dcells]; omega
theorem dcells_get (xs : List D) (k j : Nat) (hk : k < xs.length) (hj : j < 2) : (xs.flatMap dcells)[k * 2 + j]? = (dcells xs[k])[j]? := by
  have hl : ((xs.take k).flatMap dcells).length = k * 2 := by rw [dcells_len]; simp; omega
  have e : xs.flatMap dcells = (xs.take k).flatMap dcells ++ (dcells xs[k] ++ (xs.drop (k + 1)).flatMap dcells) := by
    conv => lhs; rw [← List.take_append_drop k xs, List.drop_eq_getElem_cons hk]
    rw [List.flatMap_append, List.flatMap_cons]
  rw [e, List.getElem?_append_right (by omega), hl, show k * 2 + j - k * 2 = j by omega, List.getElem?_append_left (by simp [dcells]; omega)]
theorem dcells_put (xs : List D) (k j : Nat) (hk : k < xs.length) (v : Value) (d : D) (h : (dcells xs[k]).set j v = dcells d) (hj : j < 2) : (xs.flatMap dcells).set (k * 2 + j) v = (xs.set k d).flatMap dcells := by
  have hl : ((xs.take k).flatMap dcells).length = k * 2 := by rw [dcells_len]; simp; omega
  have e : xs.flatMap dcells = (xs.take k).flatMap dcells ++ (dcells xs[k] ++ (xs.drop (k + 1)).flatMap dcells) := by
    conv => lhs; rw [← List.take_append_drop k xs, List.drop_eq_getElem_cons hk]
    rw [List.flatMap_append, List.flatMap_cons]
  have e2 : (xs.set k d).flatMap dcells = (xs.take k).flatMap dcells ++ (dcells d ++ (xs.drop (k + 1)).flatMap dcells) := by
    rw [List.set_eq_take_append_cons_drop, if_pos hk, List.flatMap_append, List.flatMap_cons]
  rw [e, e2, List.set_append_right _ _ (by omega), hl, show k * 2 + j - k * 2 = j by omega, List.set_append_left _ _ (by simp [dcells]; omega), h]
theorem dcells_one (xs : List D) : ∀ u ∈ xs.flatMap dcells, u.oneCell' = true := by
  intro u hu
  obtain ⟨g, _, hg⟩ := List.mem_flatMap.1 hu
  simp [dcells] at hg
  rcases hg with rfl | rfl <;> rfl
theorem src_decls {w : World} {F : Nat → Prop} {A : Option Addr} {xs : List D} (h : Lay.decl.Sl w F A xs) : Src w 2 A xs.length (xs.flatMap dcells) := by
  refine ⟨dcells_len xs, fun h0 => ?_⟩
  obtain ⟨ad, rfl, _, hc⟩ := h h0
  refine ⟨ad, rfl, fun j u hu => ?_⟩
  have hj : j < (xs.flatMap dcells).length := by
    rcases Nat.lt_or_ge j (xs.flatMap dcells).length with h | h
    · exact h
    · rw [List.getElem?_eq_none h] at hu; cases hu
  rw [dcells_len] at hj
  have hk : j / 2 < xs.length := by omega
  obtain ⟨vs, hr, hcell⟩ := hc (j / 2) xs[j / 2] (List.getElem?_eq_getElem hk)
  have e : j = j / 2 * 2 + j % 2 := by omega
  rw [e, dcells_get xs (j / 2) (j % 2) hk (by omega)] at hu
  have := hcell (j % 2) u (by rw [hr]; exact hu)
  rw [show Lay.decl.size = 2 from rfl, ← e] at this
  exact this
/-- The call's own row of declarations. -/
def OwnDs (w : World) (base : Nat) (v : Value) (xs : List D) : Prop := w.ownsRow base 39 2 v xs.length (xs.flatMap dcells)
theorem OwnDs.up {w w' : World} {base : Nat} {v : Value} {xs : List D} (h : OwnDs w base v xs) (hb : Below w.heap.size w w') : OwnDs w' base v xs := own_below h hb (Nat.le_refl _)
theorem OwnDs.gr {S : Nat → Prop} {w w' : World} {base : Nat} {v : Value} {xs : List D} (h : OwnDs w base v xs) (hg : Gr S w w') (hr : ∀ b, S b → b < base) : OwnDs w' base v xs :=
  own_of_heap h fun g hg' => hg.block g (h.lt g hg').2 (fun e => by have := hr g e; have := (h.lt g hg').1; omega)
theorem OwnDs.sl {w : World} {base c : Nat} {A : Option Addr} {xs : List D} (h : OwnDs w base (.slice A xs.length c) xs) : Lay.decl.Sl w (fun b => base ≤ b ∧ b < w.heap.size) A xs :=
  Lay.Sl.of_own (L := Lay.decl) (e := 39) h rfl (fun g h1 h2 => ⟨h1, h2⟩) fun k x hx => ⟨dcells x, rfl, fun j u hu => by
    have hk : k < xs.length := (List.getElem?_eq_some_iff.1 hx).1
    have hj : j < 2 := by have := (List.getElem?_eq_some_iff.1 hu).1; simpa [dcells] using this
    show (xs.flatMap dcells)[k * 2 + j]? = _
    rw [dcells_get xs k j hk hj, (List.getElem?_eq_some_iff.1 hx).2]; exact hu⟩
theorem OwnDs.rd {w : World} {base c : Nat} {A : Option Addr} {xs : List D} (h : OwnDs w base (.slice A xs.length c) xs) : Lay.decl.Rd w A xs := h.sl.mono fun _ h => h.2
theorem OwnDs.ab {S : Nat → Prop} {w : World} {base c : Nat} {A : Option Addr} {xs : List D} (h : OwnDs w base (.slice A xs.length c) xs) (hr : ∀ b, S b → b < base) : Lay.decl.Sl w (Ab S w) A xs :=
  h.sl.mono fun b hb => ⟨hb.2, fun e => by have := hr b e; have := hb.1; omega⟩
theorem OwnDs.form {w : World} {lo : Nat} {v : Value} {xs : List D} (h : OwnDs w lo v xs) : ∃ A c, v = .slice A xs.length c ∧ xs.length ≤ c := by
  rcases h.2 with ⟨h1, h2⟩ | ⟨g, cap, cur, h1, _, _, h3, _⟩
  · exact ⟨none, 0, by rw [h1, h2], by rw [h2]; exact Nat.le_refl _⟩
  · exact ⟨_, cap, h1, h3⟩
theorem OwnDs.cap {w : World} {lo c n : Nat} {A : Option Addr} {xs : List D} (h : OwnDs w lo (.slice A n c) xs) : n = xs.length ∧ xs.length ≤ c := by
  obtain ⟨A', c', e, hl⟩ := h.form
  injection e with e1 e2 e3
  exact ⟨e2, by omega⟩
theorem OwnDs.first {w : World} {base c : Nat} {A : Option Addr} {xs : List D} (h : OwnDs w base (.slice A xs.length c) xs) (hx : 0 < xs.length) : ∃ g, A = some ⟨g, 0, none⟩ := by
  rcases h.2 with ⟨_, h2⟩ | ⟨g, cap, cur, h1, _⟩
  · rw [h2] at hx; exact absurd hx (by simp)
  · injection h1 with h1; exact ⟨g, h1⟩
/-- A field of an own row's declaration is stored. -/
theorem OwnDs.put {w : World} {base g c k j : Nat} {xs : List D} (h : OwnDs w base (.slice (some ⟨g, 0, none⟩) xs.length c) xs) (hk : k < xs.length) (v : Value) (d : D) (hd : (dcells xs[k]).set j v = dcells d) (hj : j < 2) :
    OwnDs (w.setCell ⟨g, k * 2 + j, none⟩ v) base (.slice (some ⟨g, 0, none⟩) (xs.set k d).length c) (xs.set k d) := by
  have := (World.ownsRow.stored h (k * 2 + j) v).1
  unfold OwnDs
  rw [← dcells_put xs k j hk v d hd hj]
  simpa using this
theorem OwnDs.cell {w : World} {base g c k j : Nat} {xs : List D} (h : OwnDs w base (.slice (some ⟨g, 0, none⟩) xs.length c) xs) (hk : k < xs.length) (hj : j < 2) : w.cell? ⟨g, k * 2 + j, none⟩ = (dcells xs[k])[j]? ∧ w.frozen? ⟨g, k * 2 + j, none⟩ = false := by
  have hl : (xs.flatMap dcells).length = xs.length * 2 := dcells_len xs
  refine ⟨?_, World.ownsRow.frozenAt h _⟩
  rw [World.ownsRow.cellAt h _ (by omega), dcells_get xs k j hk hj]
theorem OwnDs.mono {w : World} {base base' : Nat} {v : Value} {xs : List D} (h : OwnDs w base v xs) (hb : base' ≤ base) : OwnDs w base' v xs := own_mono h hb
theorem own_lit0D (w : World) : OwnDs (w.alloc (.cells #[] 39)) w.heap.size (.slice (some ⟨w.heap.size, 0, none⟩) ([] : List D).length 0) [] := own_lit0 rfl
theorem decl_info : (Tryz.prog.info? 39).map (fun i => (i.zero, i.size, i.bytes)) = some (some ((.agg #[.string ⟨#[]⟩, .int .i64 0])), 2, 24) := by kernel_rfl
/-- append of some declarations, read anywhere, onto an own row. -/
theorem wpList_append_decls {Q : Exit → Act → World → Prop} {ops : Array Oper} {rest : List Oper} {o : Oper} {a : Act} {w : World} {lo : Nat} {A B : Option Addr} {c d : Nat} {xs zs ys : List D} (hgd : o.guard = none) (s x : Operand)
    (ho : o.op = .call { callee := .builtin .append, args := #[s, x], argTypes := #[55, 55] }) (hs : a.eval s = .slice A xs.length c) (hx : a.eval x = .slice B zs.length d)
    (hown : OwnDs w lo (.slice A xs.length c) xs) (hsrc : Src w 2 B zs.length (zs.flatMap dcells)) (hB : B = none → zs.length = 0) (hn : xs.length ≤ 2000000) (hm : zs.length ≤ 2000000) (hlo : lo ≤ w.heap.size) (hy : ys = xs ++ zs)
    (h : ∀ A' c' w', OwnDs w' lo (.slice A' ys.length c') ys → Below lo w w' → w.grownBy w' (Value.slice A xs.length c).ownBlock → wpList Tryz.prog ops Q rest (a.put o.dst (.slice A' ys.length c')) w') : wpList Tryz.prog ops Q (o :: rest) a w := by
  obtain ⟨i0, hi0, hz0, hz1, hz2⟩ := info_parts decl_info
  have hl : xs.length + zs.length = ys.length := by rw [hy]; simp
  have hc : ys.flatMap dcells = xs.flatMap dcells ++ zs.flatMap dcells := by rw [hy]; simp
  refine wpList_append_src (P := Tryz.prog) w hgd s x 55 ho lo 39 i0 _ 2 24 Tryz.underlying55 hi0 hz0 hz1 hz2 (by rfl) (by omega) _ xs.length (xs.flatMap dcells) hs hown B zs.length d (zs.flatMap dcells) hx hsrc (dcells_one zs) ys.length hl (by unfold maxLen; omega) (by omega) hlo hB ?_
  intro A' c' w' h2 hb h3
  exact h A' c' w' (by unfold OwnDs; rw [hc]; exact h2) hb h3
end Go.Proofs.YtiahmfpfimmbgaaGreatDoor
