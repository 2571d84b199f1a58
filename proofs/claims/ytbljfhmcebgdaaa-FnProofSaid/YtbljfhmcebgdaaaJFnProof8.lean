/- The reference's search: l5Top, l5Has, l5Last, l5Below. The reference's search: l5Last, l5Levels. append of one integer onto a row of the call's own, and where the row lies then. The reference's search: l5Join. A drawn region, each operation once, what memory does told of each. No program is named here. -/
import Derived.Test.YtbljfhmcebgdaaaChecked
import Derived.Test.YtbljfhmcebgdaaaJFnProof0
import Derived.Test.YtbljfhmcebgdaaaJFnProof1
import Derived.Test.YtbljfhmcebgdaaaJFnProof2
import Derived.Test.YtbljfhmcebgdaaaJFnProof3
import Derived.Test.YtbljfhmcebgdaaaJFnProof6
import Derived.Test.YtbljfhmcebgdaaaJFnProof7
/-! The reference's search: l5Top, l5Has, l5Last, l5Below. -/
namespace Go.Proofs.Ytbljfhmcebgdaaa
open Go Go.RowKit

/-- A row of levels. -/
def LvR (M : Nat) (lv : Nat → Int) (vs : List Int) : Prop := vs.length = M + 1 ∧ ∀ v, v ≤ M → vs[v]? = some (lv v)
theorem lv_at {w : World} {F : Nat → Prop} {A : Option Addr} {M : Nat} {lv : Nat → Int} {vs : List Int} (h : Lay.int.Sl w F A vs) (hv : LvR M lv vs) {v : Nat} (hm : v ≤ M) : ∃ ad, A = some ad ∧ w.cell? (ad.add v) = some (.int .i64 (lv v)) := by
  have hl : v < vs.length := by rw [hv.1]; omega
  obtain ⟨ad, e, _, hc⟩ := h.at_int hl
  have := hv.2 v hm
  rw [List.getElem?_eq_getElem hl] at this
  injection this with this
  rw [this] at hc
  exact ⟨ad, e, hc⟩
theorem natAbs_le {M : Nat} {l : Int} (h1 : -(M : Int) ≤ l) (h2 : l ≤ M) : l.natAbs ≤ M := by omega
set_option maxHeartbeats 1000000 in
theorem l5Top_any (A B : Option Addr) (c d M : Nat) (lv : Nat → Int) (vs cl : List Int) (F G : Nat → Prop) (w : World) (h : Lay.int.Sl w F A vs) (hv : LvR M lv vs) (hcl : Lay.int.Sl w G B cl) (hr : ∀ l ∈ cl, -(M : Int) ≤ l ∧ l ≤ M) (hM : M ≤ 1048576) (hn : cl.length ≤ 1048576) :
    Calls Try.prog 122 #[.slice A vs.length c, .slice B cl.length d] w fun e w' => e = .returned (.tuple #[.int .i64 (topP lv cl 0 0).1, .int .i64 (topP lv cl 0 0).2]) ∧ w = w' := by
  have HV := Lib.hid hv
  clear hv
  go_enter Try.func122, Try.ntmps122
  go_wp2
  go_loop [6, 7, 8] (fun x y i => ∃ (k : Nat) (t n : Int), k ≤ cl.length ∧ i = .int .i64 k ∧ x = .int .i64 t ∧ y = .int .i64 n ∧ 0 ≤ n ∧ n ≤ k ∧ topP lv cl 0 0 = topP lv (cl.drop k) t n) (fun _ _ i => cl.length - (intOf i).toNat)
  case atStart => exact ⟨0, 0, 0, Nat.zero_le _, rfl, rfl, rfl, by omega, by simp, by simp⟩
  case round =>
    obtain ⟨k, t, n, hk, rfl, rfl, rfl, n0, n1, ht⟩ := hrel
    have HT := Lib.hid ht
    clear ht
    by_cases hlt : k < cl.length
    · obtain ⟨ad, rfl, hf, hc⟩ := hcl.at_int hlt
      have hk1 : (k : Int) < cl.length := by omega
      obtain ⟨r1, r2⟩ := hr _ (List.getElem_mem hlt)
      have hd := topP_drop (lv := lv) (t := t) (n := n) hlt
      generalize cl[k] = a at *
      have hna := natAbs_le r1 r2
      have hs := l4Abs_any a w (by omega) (by omega)
      obtain ⟨ae, rfl, he⟩ := lv_at h HV.out hna
      generalize a.natAbs = v at *
      generalize lv v = x at *
      have hv1 : (v : Int) < (vs.length : Int) := by rw [HV.out.1]; omega
      have HS := Lib.hid hs
      by_cases h1 : t < x
      · rw [if_pos h1] at hd
        have HD := Lib.hid hd
        clear hd hs
        go_wp2_with fail
        refine HS.out.mono ?_
        rintro e w' ⟨rfl, rfl⟩
        go_wp2
        go_round
        case rel => exact ⟨k + 1, x, 1, by omega, by go_num, rfl, rfl, by omega, by omega, by rw [HT.out, HD.out]⟩
        case measure => simp [intOf]; omega
      by_cases h2 : x = t
      · rw [if_neg h1, if_pos h2] at hd
        have HD := Lib.hid hd
        have h3 : (x == t) = true := by simpa using h2
        clear hd hs h2
        go_wp2_with fail
        refine HS.out.mono ?_
        rintro e w' ⟨rfl, rfl⟩
        go_wp2
        go_round
        case rel => exact ⟨k + 1, t, n + 1, by omega, by go_num, rfl, rfl, by omega, by omega, by rw [HT.out, HD.out]⟩
        case measure => simp [intOf]; omega
      · rw [if_neg h1, if_neg h2] at hd
        have HD := Lib.hid hd
        have h3 : (x == t) = false := by simpa using h2
        clear hd hs h2
        go_wp2_with fail
        refine HS.out.mono ?_
        rintro e w' ⟨rfl, rfl⟩
        go_wp2
        go_round
        case rel => exact ⟨k + 1, t, n, by omega, by go_num, rfl, rfl, n0, by omega, by rw [HT.out, HD.out]⟩
        case measure => simp [intOf]; omega
    · have hke : k = cl.length := by omega
      subst hke
      have HE := Lib.hid (show topP lv cl 0 0 = (t, n) by rw [HT.out, List.drop_length]; rfl)
      go_wp2
      go_ret2
      exact ⟨ret_two (by rw [HE.out]) (by rw [HE.out]), rfl⟩
theorem hasM_drop {cl : List Int} {k v : Nat} (h : k < cl.length) : hasM (cl.drop k) v = ((cl[k].natAbs == v) || hasM (cl.drop (k + 1)) v) := by
  rw [List.drop_eq_getElem_cons h]; rfl
set_option maxHeartbeats 1000000 in
theorem l5Has_any (B : Option Addr) (d M v : Nat) (cl : List Int) (G : Nat → Prop) (w : World) (hcl : Lay.int.Sl w G B cl) (hr : ∀ l ∈ cl, -(M : Int) ≤ l ∧ l ≤ M) (hM : M ≤ 1048576) (hn : cl.length ≤ 1048576) :
    Calls Try.prog 138 #[.slice B cl.length d, .int .i64 (v : Int)] w fun e w' => e = .returned (.bool (hasM cl v)) ∧ w = w' := by
  go_enter Try.func138, Try.ntmps138
  go_wp2
  go_loop [5] (fun i => ∃ (k : Nat), k ≤ cl.length ∧ i = .int .i64 k ∧ hasM cl v = hasM (cl.drop k) v) (fun i => cl.length - (intOf i).toNat)
  case atStart => exact ⟨0, Nat.zero_le _, rfl, by simp⟩
  case round =>
    obtain ⟨k, hk, rfl, ht⟩ := hrel
    have HT := Lib.hid ht
    clear ht
    by_cases hlt : k < cl.length
    · obtain ⟨ad, rfl, hf, hc⟩ := hcl.at_int hlt
      have hk1 : (k : Int) < cl.length := by omega
      obtain ⟨r1, r2⟩ := hr _ (List.getElem_mem hlt)
      have hd := hasM_drop (v := v) hlt
      generalize cl[k] = a at *
      have HS := Lib.hid (l4Abs_any a w (by omega) (by omega))
      generalize a.natAbs = u at *
      by_cases h1 : u = v
      · subst h1
        have HD : Hid (hasM cl u = true) := Lib.hid (by rw [HT.out, hd]; simp)
        clear hd
        go_wp2_with fail
        refine HS.out.mono ?_
        rintro e w' ⟨rfl, rfl⟩
        go_wp2
        go_ret
        exact ⟨ret_bool (by rw [HD.out]), rfl⟩
      · have h3 : (u == v) = false := by simpa using h1
        have h4 : ((u : Int) == (v : Int)) = false := by rw [beq_eq_false_iff_ne]; omega
        rw [h3, Bool.false_or] at hd
        have HD := Lib.hid hd
        clear hd
        go_wp2_with fail
        refine HS.out.mono ?_
        rintro e w' ⟨rfl, rfl⟩
        go_wp2
        go_round
        case rel => exact ⟨k + 1, by omega, by go_num, by rw [HT.out, HD.out]⟩
        case measure => simp [intOf]; omega
    · have hke : k = cl.length := by omega
      subst hke
      have HE := Lib.hid (show hasM cl v = false by rw [HT.out, List.drop_length]; rfl)
      go_wp2
      go_ret
      exact ⟨ret_bool (by rw [HE.out]), rfl⟩
theorem ret_int9 {k : IntKind} {a b : Int} (h : a = b) : Ending.returned (.int k a) = .returned (.int k b) := by rw [h]
theorem belowP_drop {lv : Nat → Int} {top o : Int} {cl : List Int} {k : Nat} (h : k < cl.length) : belowP lv top (cl.drop k) o = belowP lv top (cl.drop (k + 1)) (if lv cl[k].natAbs < top then (if o > lv cl[k].natAbs then o else lv cl[k].natAbs) else o) := by
  rw [List.drop_eq_getElem_cons h]; rfl
theorem l4Max9_any (a b : Int) (w : World) : Calls Try.prog 74 #[.int .i64 a, .int .i64 b] w fun e w' => e = .returned (.int .i64 (if a > b then a else b)) ∧ w = w' := by
  by_cases h : a > b
  · rw [if_pos h]
    go_enter Try.func74, Try.ntmps74
    go_wp2
    go_ret
    exact ⟨rfl, rfl⟩
  · rw [if_neg h]
    have h : ¬ b < a := h
    go_enter Try.func74, Try.ntmps74
    go_wp2
    go_ret
    exact ⟨rfl, rfl⟩
set_option maxHeartbeats 1000000 in
theorem l5Below_any (A B : Option Addr) (c d M : Nat) (lv : Nat → Int) (top : Int) (vs cl : List Int) (F G : Nat → Prop) (w : World) (h : Lay.int.Sl w F A vs) (hv : LvR M lv vs) (hcl : Lay.int.Sl w G B cl) (hr : ∀ l ∈ cl, -(M : Int) ≤ l ∧ l ≤ M) (hM : M ≤ 1048576) (hn : cl.length ≤ 1048576) :
    Calls Try.prog 125 #[.slice A vs.length c, .slice B cl.length d, .int .i64 top] w fun e w' => e = .returned (.int .i64 (belowP lv top cl 0)) ∧ w = w' := by
  have HV := Lib.hid hv
  clear hv
  go_enter Try.func125, Try.ntmps125
  go_wp2
  go_loop [7, 8] (fun x i => ∃ (k : Nat) (o : Int), k ≤ cl.length ∧ i = .int .i64 k ∧ x = .int .i64 o ∧ belowP lv top cl 0 = belowP lv top (cl.drop k) o) (fun _ i => cl.length - (intOf i).toNat)
  case atStart => exact ⟨0, 0, Nat.zero_le _, rfl, rfl, by simp⟩
  case round =>
    obtain ⟨k, o, hk, rfl, rfl, ht⟩ := hrel
    have HT := Lib.hid ht
    clear ht
    by_cases hlt : k < cl.length
    · obtain ⟨ad, rfl, hf, hc⟩ := hcl.at_int hlt
      have hk1 : (k : Int) < cl.length := by omega
      obtain ⟨r1, r2⟩ := hr _ (List.getElem_mem hlt)
      have hd := belowP_drop (lv := lv) (top := top) (o := o) hlt
      generalize cl[k] = a at *
      have hna := natAbs_le r1 r2
      have HS := Lib.hid (l4Abs_any a w (by omega) (by omega))
      obtain ⟨ae, rfl, he⟩ := lv_at h HV.out hna
      generalize a.natAbs = v at *
      generalize lv v = x at *
      have hv1 : (v : Int) < (vs.length : Int) := by rw [HV.out.1]; omega
      have HMX := Lib.hid (l4Max9_any o x w)
      by_cases h1 : x < top
      · rw [if_pos h1] at hd
        generalize (if o > x then o else x) = y at *
        have HD := Lib.hid hd
        clear hd
        go_wp2_with fail
        refine HS.out.mono ?_
        rintro e w' ⟨rfl, rfl⟩
        go_wp2_with fail
        refine HMX.out.mono ?_
        rintro e w' ⟨rfl, rfl⟩
        go_wp2
        go_round
        case rel => exact ⟨k + 1, y, by omega, by go_num, rfl, by rw [HT.out, HD.out]⟩
        case measure => simp [intOf]; omega
      · rw [if_neg h1] at hd
        have HD := Lib.hid hd
        clear hd HMX
        go_wp2_with fail
        refine HS.out.mono ?_
        rintro e w' ⟨rfl, rfl⟩
        go_wp2
        go_round
        case rel => exact ⟨k + 1, o, by omega, by go_num, rfl, by rw [HT.out, HD.out]⟩
        case measure => simp [intOf]; omega
    · have hke : k = cl.length := by omega
      subst hke
      have HE := Lib.hid (show belowP lv top cl 0 = o by rw [HT.out, List.drop_length]; rfl)
      go_wp2
      go_ret
      exact ⟨ret_int9 (by rw [HE.out]), rfl⟩
end Go.Proofs.Ytbljfhmcebgdaaa

/-! The reference's search: l5Last, l5Levels. -/
namespace Go.Proofs.Ytbljfhmcebgdaaa
open Go Go.RowKit

theorem lastP_step {put cl : List Int} {k : Nat} (h : k < put.length) : lastP put cl (k + 1) = if hasM cl put[k].natAbs then (k : Int) else lastP put cl k := by
  show (if _ then _ else _) = _
  rw [List.getD_eq_getElem?_getD, List.getElem?_eq_getElem h]
  rfl
set_option maxHeartbeats 1000000 in
theorem l5Last_any (s : S) (P Q D B : Option Addr) (p q d e M : Nat) (cl : List Int) (F : Nat → Prop) (w : World) (h : Lay.int.Rd w P s.put) (hcl : Lay.int.Sl w F B cl) (hF : ∀ b, F b → b < w.heap.size) (hg : Good M s.put) (hr : ∀ l ∈ cl, -(M : Int) ≤ l ∧ l ≤ M) (hM : M ≤ 1048576) (hn : cl.length ≤ 1048576) :
    Calls Try.prog 130 #[.agg #[.slice P s.put.length p, .slice Q s.why.length q, .slice D s.learned.length d, .int .i64 s.code], .slice B cl.length e] w fun e w' => e = .returned (.int .i64 (lastP s.put cl s.put.length)) ∧ Below w.heap.size w w' := by
  have hpl : s.put.length ≤ 1048576 := by have := hg.length; rw [Int.toNat_natCast] at this; omega
  have hal : Below w.heap.size w (w.alloc (.cells #[.slice P s.put.length p, .slice Q s.why.length q, .slice D s.learned.length d, .int .i64 s.code] 35)) := (Below.refl _ _).alloc (Nat.le_refl _) _
  have HBX := Lib.hid (heap_alloc_new w (.cells #[.slice P s.put.length p, .slice Q s.why.length q, .slice D s.learned.length d, .int .i64 s.code] 35))
  have H := Lib.hid (h.up hal)
  have HC := Lib.hid (Lay.Sl.below hcl hal hF)
  have HAL := Lib.hid hal
  have HG := Lib.hid hg
  clear h hcl hal hg
  go_enter Try.func130, Try.ntmps130
  go_wp2
  generalize w.alloc (.cells #[.slice P s.put.length p, .slice Q s.why.length q, .slice D s.learned.length d, .int .i64 s.code] 35) = W at *
  have cc0 := (cell_of_block HBX.out 0).1
  go_loop [5] (fun i => ∃ (k : Nat), k ≤ s.put.length ∧ i = .int .i64 ((k : Int) - 1) ∧ lastP s.put cl s.put.length = lastP s.put cl k) (fun i => (intOf i + 1).toNat)
  case atStart => exact ⟨s.put.length, Nat.le_refl _, rfl, rfl⟩
  case round =>
    obtain ⟨k, hk, rfl, ht⟩ := hrel
    have HT := Lib.hid ht
    clear ht
    rcases k with _ | k
    · have HE := Lib.hid (show lastP s.put cl s.put.length = -1 by rw [HT.out]; rfl)
      clear HT
      rw [show (((0 : Nat) : Int) - 1) = -1 from rfl]
      go_wp2
      go_ret
      exact ⟨ret_int9 (by rw [HE.out]), HAL.out⟩
    · rw [show (((k + 1 : Nat) : Int) - 1) = (k : Int) by omega]
      have hlt : k < s.put.length := by omega
      have hk0 : (0 : Int) ≤ k := by omega
      have hk1 : (k : Int) < s.put.length := by omega
      have hst := lastP_step (cl := cl) hlt
      obtain ⟨ad, hP, _, hc⟩ := H.out.at_int hlt
      obtain ⟨_, r1, r2⟩ := HG.out.rng _ (List.getElem_mem hlt)
      generalize s.put[k] = m at *
      subst hP
      have HS := Lib.hid (l4Abs_any m W (by omega) (by omega))
      generalize m.natAbs = u at *
      have HH := Lib.hid (l5Has_any B e M u cl _ W HC.out hr hM hn)
      cases hb : hasM cl u with
      | true =>
        rw [hb] at hst HH
        have HE := Lib.hid (show lastP s.put cl s.put.length = k by rw [HT.out, hst]; rfl)
        clear hst HT hb
        go_wp2_with fail
        refine HS.out.mono ?_
        rintro e w' ⟨rfl, rfl⟩
        go_wp2_with fail
        refine HH.out.mono ?_
        rintro e w' ⟨rfl, rfl⟩
        go_wp2
        go_ret
        exact ⟨ret_int9 (by rw [HE.out]), HAL.out⟩
      | false =>
        rw [hb] at hst HH
        have HE := Lib.hid (show lastP s.put cl s.put.length = lastP s.put cl k by rw [HT.out, hst]; rfl)
        clear hst HT hb
        go_wp2_with fail
        refine HS.out.mono ?_
        rintro e w' ⟨rfl, rfl⟩
        go_wp2_with fail
        refine HH.out.mono ?_
        rintro e w' ⟨rfl, rfl⟩
        go_wp2
        go_round
        case rel => exact ⟨k, by omega, rfl, HE.out⟩
        case measure => simp [intOf]
/-- A row of levels is handed back. -/
def RetLv (M : Nat) (lv : Nat → Int) (w : World) (e : Ending) (w' : World) : Prop := ∃ A c vs, e = .returned (.slice A vs.length c) ∧ LvR M lv vs ∧ Lay.int.Sl w' (fun y => w.heap.size ≤ y ∧ y < w'.heap.size) A vs ∧ Below w.heap.size w w'
set_option maxRecDepth 100000 in
set_option maxHeartbeats 4000000 in
theorem l5Levels_any (x : C) (s : S) (A P Q D : Option Addr) (a p q d M : Nat) (w : World) (hM : x.many = (M : Int)) (hM2 : M ≤ 1000000) (h : Lay.int.Rd w P s.put) (h' : Lay.int.Rd w Q s.why) (hg : Good M s.put) (hl : s.put.length = s.why.length) :
    Calls Try.prog 121 #[.agg #[.int .i64 x.many, .slice A x.list.length a], .agg #[.slice P s.put.length p, .slice Q s.why.length q, .slice D s.learned.length d, .int .i64 s.code]] w (RetLv M (lev s.put s.why 0) w) := by
  obtain ⟨i0, hi0, hz0, hz1, hz2⟩ := info_parts int_info
  have hpl : s.put.length ≤ 1048576 := by have := hg.length; rw [Int.toNat_natCast] at this; omega
  rw [hM]
  have hal1 : Below w.heap.size w (w.alloc (.cells #[.int .i64 (M : Int), .slice A x.list.length a] 25)) := (Below.refl _ _).alloc (Nat.le_refl _) _
  have hs1 : (w.alloc (.cells #[.int .i64 (M : Int), .slice A x.list.length a] 25)).heap.size = w.heap.size + 1 := by simp
  have hb1 := heap_alloc_new w (.cells #[.int .i64 (M : Int), .slice A x.list.length a] 25)
  obtain ⟨w1, hw1⟩ : ∃ w1, w1 = w.alloc (.cells #[.int .i64 (M : Int), .slice A x.list.length a] 25) := ⟨_, rfl⟩
  rw [← hw1] at hal1 hs1 hb1
  have hal2 : Below w1.heap.size w1 (w1.alloc (.cells #[.slice P s.put.length p, .slice Q s.why.length q, .slice D s.learned.length d, .int .i64 s.code] 35)) := (Below.refl _ _).alloc (Nat.le_refl _) _
  have hs2 : (w1.alloc (.cells #[.slice P s.put.length p, .slice Q s.why.length q, .slice D s.learned.length d, .int .i64 s.code] 35)).heap.size = w.heap.size + 1 + 1 := by simp [hs1]
  have hb2 := heap_alloc_new w1 (.cells #[.slice P s.put.length p, .slice Q s.why.length q, .slice D s.learned.length d, .int .i64 s.code] 35)
  rw [hs1] at hb2
  obtain ⟨w2, hw2⟩ : ∃ w2, w2 = w1.alloc (.cells #[.slice P s.put.length p, .slice Q s.why.length q, .slice D s.learned.length d, .int .i64 s.code] 35) := ⟨_, rfl⟩
  rw [← hw2] at hal2 hs2 hb2
  have HB1 := Lib.hid ((hal2.block _ (lt_of_block hb1)).trans hb1)
  have HB2 := Lib.hid hb2
  have H := Lib.hid (And.intro ((h.up hal1).up hal2) ((h'.up hal1).up hal2))
  have HAL := Lib.hid (bthen hal1 hal2)
  have HS2 := Lib.hid hs2
  have HG := Lib.hid hg
  have HLN := Lib.hid hl
  have cm : w2.cell? ⟨w.heap.size, 0, none⟩ = some (.int .i64 (M : Int)) := (cell_of_block HB1.out 0).1
  rw [hw2, hw1] at cm
  have HW1 := Lib.hid hw1
  have HW2 := Lib.hid hw2
  clear h h' hg hl hal1 hs1 hb1 hal2 hs2 hb2 hM hw1 hw2
  go_enter Try.func121, Try.ntmps121
  go_wp2_with (at_make; rw [← HW1.out, ← HW2.out]; refine wpList_make_full _ rfl _ _ 26 rfl w2.heap.size 3 i0 _ 1 Try.underlying26 hi0 hz0 hz1 .i64 .i64 _ _ (M + 1) rfl rfl (by push_cast; rfl) (by push_cast; rfl) (by rw [hz2]; omega) (by unfold maxLen; omega) (Nat.le_refl _) ?_; intro w3 hown hg1)
  have H1 := Lib.hid hg1
  clear hg1 hi0 hz0 hz1 hz2 HW1 HW2 cm
  have hb1 : Below w2.heap.size w2 w3 := (Below.refl _ _).grown H1.out (Nat.le_refl _) (by simp)
  rw [show (madeCells (Value.int .i64 0).cells ((M + 1) * 1)).toList = (List.replicate (M + 1) (0 : Int)).map (Value.int .i64) from by
    rw [show (Value.int .i64 0).cells = #[Value.int .i64 0] from rfl, toList_madeCells_one]; simp] at hown
  rw [HS2.out] at hown ⊢
  have hWle : w2.heap.size ≤ w.heap.size + 1 + 1 := by rw [HS2.out]; exact Nat.le_refl _
  go_wp2
  go_loopw [6, 7] (fun lvv i wr => ∃ (k : Nat) (vs : List Int) (t : Int), k ≤ s.put.length ∧ i = .int .i64 k ∧ lvv = .int .i64 t ∧ 0 ≤ t ∧ t ≤ k ∧ Hid (t = negs (s.why.take k)) ∧ Hid (Below w2.heap.size w2 wr) ∧ Hid (wr.ownsRow (w.heap.size + 1 + 1) 3 1 (.slice (some ⟨w.heap.size + 1 + 1, 0, none⟩) (M + 1) (M + 1)) (M + 1) (vs.map (Value.int .i64))) ∧ Hid (LvR M (lev (s.put.take k) (s.why.take k) 0) vs))
    (fun _ i _ => s.put.length - (intOf i).toNat)
  case atStart => exact ⟨0, _, 0, Nat.zero_le _, rfl, rfl, by omega, by omega, Lib.hid rfl, Lib.hid hb1, Lib.hid hown, Lib.hid ⟨by simp, fun v hv => by rw [List.getElem?_replicate, if_pos (by omega)]; rfl⟩⟩
  case round =>
    clear hown hb1
    obtain ⟨k, vs, t, hk, rfl, rfl, t0, t1, HT, HB, HO, HV⟩ := hrel
    have hbx := (HB.out.block _ (lt_of_block HB2.out)).trans HB2.out
    have cs0 := (cell_of_block hbx 0).1
    have cs1 := (cell_of_block hbx 1).1
    clear hbx
    by_cases hlt : k < s.put.length
    · have hk1 : (k : Int) < s.put.length := by omega
      have hlt2 : k < s.why.length := by rw [← HLN.out]; exact hlt
      have hk2 : (k : Int) < s.why.length := by omega
      obtain ⟨ad, hP, _, hc⟩ := (H.out.1.up HB.out).at_int hlt
      obtain ⟨ae, hQ, _, he⟩ := (H.out.2.up HB.out).at_int hlt2
      obtain ⟨r0, r1, r2⟩ := HG.out.rng _ (List.getElem_mem hlt)
      have htk : s.put.take (k + 1) = s.put.take k ++ [s.put[k]] := List.take_succ_eq_append_getElem hlt
      have htw : s.why.take (k + 1) = s.why.take k ++ [s.why[k]] := List.take_succ_eq_append_getElem hlt2
      have hng := negs_step hlt2
      have hnd : ((s.put.take k ++ [s.put[k]]).map Int.natAbs).Nodup := by rw [← htk]; exact (HG.out.take (k + 1)).nodup
      have hsn := fun v => lev_snoc (s.put.take k) (s.why.take k) 0 s.put[k] s.why[k] v (by rw [List.length_take, List.length_take, HLN.out]) hnd
      rw [← htk, ← htw] at hsn
      have HSN := Lib.hid hsn
      have HNG := Lib.hid hng
      clear htk htw hnd hsn hng
      generalize s.put[k] = m at *
      generalize s.why[k] = y at *
      subst hP hQ
      have hna := natAbs_le r1 r2
      have HS := Lib.hid (l4Abs_any m wr (by omega) (by omega))
      have hst := HO.out.stored m.natAbs
      have hlen : vs.length = M + 1 := HV.out.1
      obtain ⟨old, hold⟩ : ∃ old, wr.cell? ⟨w.heap.size + 1 + 1, m.natAbs, none⟩ = some (.int .i64 old) := by
        have h9 : wr.cell? ⟨w.heap.size + 1 + 1, m.natAbs, none⟩ = _ := HO.out.cellAt m.natAbs (by omega)
        rw [List.getElem?_map, List.getElem?_eq_getElem (by omega), Option.map_some] at h9
        exact ⟨_, h9⟩
      have hfr : wr.frozen? ⟨w.heap.size + 1 + 1, m.natAbs, none⟩ = false := HO.out.frozenAt m.natAbs
      have HST := Lib.hid hst
      clear hst
      have hv1 : ((m.natAbs : Nat) : Int) < ((M + 1 : Nat) : Int) := by omega
      have hv2 : ((m.natAbs : Nat) : Int) < (M : Int) + 1 := by omega
      have hVN : ∀ z : Int, z = negs (s.why.take (k + 1)) → LvR M (lev (s.put.take (k + 1)) (s.why.take (k + 1)) 0) (vs.set m.natAbs z) := fun z hz => ⟨by simp [hlen], fun v hv => by
        rw [HSN.out v, List.getElem?_set]
        by_cases e : m.natAbs = v
        · rw [if_pos e, if_pos e, if_pos (by omega), hz]; simp
        · rw [if_neg e, if_neg e]; exact HV.out.2 v hv⟩
      have HVN := Lib.hid hVN
      clear hVN hlen
      generalize m.natAbs = u at *
      by_cases hy : y < 0
      · have HN9 : Hid (t + 1 = negs (s.why.take (k + 1))) := Lib.hid (by rw [HNG.out, if_pos hy, HT.out])
        go_wp2_with fail
        refine HS.out.mono ?_
        rintro e w' ⟨rfl, rfl⟩
        go_wp2
        go_roundw
        case rel => exact ⟨k + 1, _, t + 1, by omega, by go_num, rfl, by omega, by omega, HN9, Lib.hid (HB.out.setCell hWle _), Lib.hid (by rw [List.map_set]; exact (HST.out (.int .i64 (t + 1))).1), Lib.hid (HVN.out _ HN9.out)⟩
        case measure => simp [intOf]; omega
      · have HN9 : Hid (t = negs (s.why.take (k + 1))) := Lib.hid (by rw [HNG.out, if_neg hy, HT.out]; simp)
        go_wp2_with fail
        refine HS.out.mono ?_
        rintro e w' ⟨rfl, rfl⟩
        go_wp2
        go_roundw
        case rel => exact ⟨k + 1, _, t, by omega, by go_num, rfl, by omega, by omega, HN9, Lib.hid (HB.out.setCell hWle _), Lib.hid (by rw [List.map_set]; exact (HST.out (.int .i64 t)).1), Lib.hid (HVN.out _ HN9.out)⟩
        case measure => simp [intOf]; omega
    · have hke : k = s.put.length := by omega
      subst hke
      have hvs := HV.out
      rw [List.take_length, HLN.out, List.take_length] at hvs
      have HV2 := Lib.hid hvs
      have HRD := Lib.hid (sl_ints_of_own (F := fun y => w.heap.size ≤ y ∧ y < wr.heap.size) HO.out (fun g h8 h9 => ⟨by omega, h9⟩)).1
      have HL : Hid (vs.length = M + 1) := Lib.hid HV.out.1
      clear hvs
      go_wp2
      go_ret
      exact ⟨some ⟨w.heap.size + 1 + 1, 0, none⟩, M + 1, vs, ret_slice (by rw [HL.out]), HV2.out, HRD.out, bthen HAL.out HB.out⟩
end Go.Proofs.Ytbljfhmcebgdaaa

/-! append of one integer onto a row of the call's own, and where the row lies then. -/
namespace Go.Proofs.Ytbljfhmcebgdaaa
open Go Go.RowKit

theorem wpList_append_int8 {Q : Exit → Act → World → Prop} {ops : Array Oper} {rest : List Oper} {o : Oper} {a : Act} {W : World} {lo : Nat} {A : Option Addr} {c : Nat} {xs ys : List Int} {x : Int} {e' : TypeId} (hgd : o.guard = none) (s y : Operand)
    (ho : o.op = .call { callee := .builtin .append, args := #[s, y], argTypes := #[26, 26] }) (hs : a.eval s = .slice A xs.length c) (hy : a.eval y = .slice (some ⟨W.heap.size, 0, none⟩) 1 1)
    (hown : OwnI W lo (.slice A xs.length c) xs) (hn : xs.length ≤ 2000000) (hlo : lo ≤ W.heap.size) (hys : ys = xs ++ [x])
    (h : ∀ A' c' w', OwnI w' lo (.slice A' ys.length c') ys → W.grownBy w' (Value.slice A xs.length c).ownBlock →
      ((Value.slice A' ys.length c').ownBlock = (Value.slice A xs.length c).ownBlock ∨ ∃ g, (Value.slice A' ys.length c').ownBlock = some g ∧ W.heap.size ≤ g) → wpList Try.prog ops Q rest (a.put o.dst (.slice A' ys.length c')) w') :
    wpList Try.prog ops Q (o :: rest) a (W.alloc (.cells #[.int .i64 x] e')) := by
  obtain ⟨i0, hi0, hz0, hz1, hz2⟩ := info_parts int_info
  have hal : Below W.heap.size W (W.alloc (.cells #[.int .i64 x] e')) := (Below.refl _ _).alloc (Nat.le_refl _) _
  have hl : ys.length = xs.length + 1 := by rw [hys]; simp
  have hm : ys.map (Value.int .i64) = xs.map (Value.int .i64) ++ [.int .i64 x] := by rw [hys]; simp
  refine wpList_plain hgd fun _ hK => ?_
  obtain ⟨v', w', hrun, ho', hg', _, hbk⟩ := run_append_own_at (P := Try.prog) (W.alloc (.cells #[.int .i64 x] e')) lo 26 o.type 3 i0 _ 1 8 Try.underlying26 hi0 hz0 hz1 hz2 (by rfl) (by omega)
    (.slice A xs.length c) xs.length (xs.map (Value.int .i64)) (hown.up hal) ⟨W.heap.size, 0, none⟩ 1 1 [.int .i64 x] (by rfl) (fun j u hu => by
      have := World.news_of_block (heap_alloc_new W (.cells #[.int .i64 x] e')) j u hu
      exact this) (by simp; rfl) (by unfold maxLen; omega) (by omega) (Nat.le_trans hlo hal.size)
  rw [← hl, ← hm] at ho'
  obtain ⟨A', c', rfl, _, _⟩ := OwnI.form (xs := ys) ho'
  unfold Oper.wp execOp
  simp only [ho, resolve, invoke, builtin, Sem.run_bind, Sem.run_pure, Result.andThen_ok, List.map_toArray, List.map_cons, List.map_nil, hs, hy, hrun]
  refine hK _ _ (h A' c' w' ho' (grown_then hal hg') ?_)
  rcases hbk with e | e
  · exact .inl e
  · exact .inr ⟨_, e, hal.size⟩
end Go.Proofs.Ytbljfhmcebgdaaa

/-! The reference's search: l5Join. -/
namespace Go.Proofs.Ytbljfhmcebgdaaa
open Go Go.RowKit

theorem litOf_snoc (xs : List Int) (l : Int) (v : Nat) : litOf (xs ++ [l]) v = if l.natAbs = v then l else litOf xs v := by
  rw [litOf_app]
  have e : hasM [l] v = (l.natAbs == v) := by simp [hasM]
  rw [e]
  by_cases h : l.natAbs = v
  · rw [if_pos (by simpa using h), if_pos h]
    simp [litOf, hasM, h]
  · rw [if_neg (by simpa using h), if_neg h]
theorem joinF_snoc (ab : List Int) (m : Nat) : ∀ (n a : Nat), joinF ab m a (n + 1) = joinF ab m a n ++ (if a + n + 1 ≠ m ∧ litOf ab (a + n + 1) ≠ 0 then [litOf ab (a + n + 1)] else [])
  | 0, a => by simp [joinF]
  | n + 1, a => by
    rw [joinF, joinF_snoc ab m n (a + 1)]
    conv => rhs; rw [joinF]
    rw [List.append_assoc, show a + 1 + n + 1 = a + (n + 1) + 1 by omega]
/-- A row of the numbers of the marks. -/
def LitR (M : Nat) (ab vs : List Int) : Prop := vs.length = M + 1 ∧ ∀ v, v ≤ M → 1 ≤ v → vs[v]? = some (litOf ab v)
theorem LitR.put {M : Nat} {ab vs : List Int} (h : LitR M ab vs) {l : Int} (hl : l.natAbs ≤ M) : LitR M (ab ++ [l]) (vs.set l.natAbs l) := ⟨by simp [h.1], fun v hv hv1 => by
  rw [litOf_snoc, List.getElem?_set]
  by_cases e : l.natAbs = v
  · rw [if_pos e, if_pos e, if_pos (by have := h.1; omega)]
  · rw [if_neg e, if_neg e]; exact h.2 v hv hv1⟩
theorem sl_block {w : World} {F : Nat → Prop} {g : Nat} {xs : List Int} (h : Lay.int.Sl w F (some ⟨g, 0, none⟩) xs) : Lay.int.Sl w (fun y => y = g) (some ⟨g, 0, none⟩) xs := fun h0 => by
  obtain ⟨ad, e, hf, hc⟩ := h h0
  injection e with e
  subst e
  exact ⟨_, rfl, rfl, fun k x hx => by
    obtain ⟨vs, h1, h2⟩ := hc k x hx
    exact ⟨vs, h1, h2⟩⟩
/-- A row of the call's own is handed back. -/
def RetJ (r : List Int) (w : World) (e : Ending) (w' : World) : Prop := ∃ A c, e = .returned (.slice A r.length c) ∧ OwnI w' w.heap.size (.slice A r.length c) r ∧ Below w.heap.size w w'
set_option maxRecDepth 100000 in
set_option maxHeartbeats 8000000 in
theorem l5Join_any (A B : Option Addr) (ca cb M m : Nat) (xa xb : List Int) (F G : Nat → Prop) (w : World) (ha : Lay.int.Sl w F A xa) (hb : Lay.int.Sl w G B xb) (hF : ∀ b, F b → b < w.heap.size) (hG : ∀ b, G b → b < w.heap.size) (hra : ∀ l ∈ xa, -(M : Int) ≤ l ∧ l ≤ M) (hrb : ∀ l ∈ xb, -(M : Int) ≤ l ∧ l ≤ M) (hM : M ≤ 1000000) (hm : m ≤ M) (hna : xa.length ≤ 1048576) (hnb : xb.length ≤ 1048576) :
    Calls Try.prog 131 #[.int .i64 (M : Int), .slice A xa.length ca, .slice B xb.length cb, .int .i64 (m : Int)] w (RetJ (joinP M xa xb m) w) := by
  obtain ⟨i0, hi0, hz0, hz1, hz2⟩ := info_parts int_info
  have hal1 : Below w.heap.size w (w.alloc (.cells #[] 3)) := (Below.refl _ _).alloc (Nat.le_refl _) _
  have hs1 : (w.alloc (.cells #[] 3)).heap.size = w.heap.size + 1 := by simp
  have hown1 : OwnI (w.alloc (.cells #[] 3)) w.heap.size (.slice (some ⟨w.heap.size, 0, none⟩) 0 0) [] := own_lit0 rfl
  obtain ⟨w1, hw1⟩ : ∃ w1, w1 = w.alloc (.cells #[] 3) := ⟨_, rfl⟩
  rw [← hw1] at hal1 hs1 hown1
  have HAL := Lib.hid hal1
  have HOUT := Lib.hid hown1
  have HS1 := Lib.hid hs1
  have KA := Lib.hid (Lay.Sl.below ha hal1 hF)
  have KB := Lib.hid (Lay.Sl.below hb hal1 hG)
  have HW1 := Lib.hid hw1
  have HFF := Lib.hid (And.intro hF hG)
  clear hal1 hs1 hown1 hw1 ha hb hF hG
  go_enter Try.func131, Try.ntmps131
  go_wp2_with (at_make; rw [← HW1.out]; refine wpList_make_full _ rfl _ _ 26 rfl w1.heap.size 3 i0 _ 1 Try.underlying26 hi0 hz0 hz1 .i64 .i64 _ _ (M + 1) rfl rfl (by push_cast; rfl) (by push_cast; rfl) (by rw [hz2]; omega) (by unfold maxLen; omega) (Nat.le_refl _) ?_; intro w3 hown hg1)
  have H1 := Lib.hid hg1
  clear hg1 hi0 hz0 hz1 hz2 HW1
  have hb1 : Below w1.heap.size w1 w3 := (Below.refl _ _).grown H1.out (Nat.le_refl _) (by simp)
  rw [show (madeCells (Value.int .i64 0).cells ((M + 1) * 1)).toList = (List.replicate (M + 1) (0 : Int)).map (Value.int .i64) from by
    rw [show (Value.int .i64 0).cells = #[Value.int .i64 0] from rfl, toList_madeCells_one]; simp] at hown
  rw [HS1.out] at hown ⊢
  have hWle : w1.heap.size ≤ w.heap.size + 1 := by rw [HS1.out]; exact Nat.le_refl _
  go_wp2
  go_loopw [11] (fun i wr => ∃ (k : Nat) (vs : List Int), k ≤ xa.length ∧ i = .int .i64 k ∧ Hid (Below w1.heap.size w1 wr) ∧ Hid (wr.ownsRow (w.heap.size + 1) 3 1 (.slice (some ⟨w.heap.size + 1, 0, none⟩) (M + 1) (M + 1)) (M + 1) (vs.map (Value.int .i64))) ∧ Hid (LitR M (xa.take k) vs))
    (fun i _ => xa.length - (intOf i).toNat)
  case atStart => exact ⟨0, _, Nat.zero_le _, rfl, Lib.hid hb1, Lib.hid hown, Lib.hid ⟨by simp, fun v hv h1 => by rw [List.getElem?_replicate, if_pos (by omega)]; rfl⟩⟩
  case round =>
    clear hown hb1
    obtain ⟨k, vs, hk, rfl, HB, HO, HV⟩ := hrel
    by_cases hlt : k < xa.length
    · have hk1 : (k : Int) < xa.length := by omega
      obtain ⟨ad, hA, _, hc⟩ := (Lay.Sl.below KA.out HB.out (fun b h9 => Nat.lt_of_lt_of_le (HFF.out.1 b h9) HAL.out.size)).at_int hlt
      obtain ⟨r1, r2⟩ := hra _ (List.getElem_mem hlt)
      have htk : xa.take (k + 1) = xa.take k ++ [xa[k]] := List.take_succ_eq_append_getElem hlt
      have HTK := Lib.hid htk
      clear htk
      generalize xa[k] = l at *
      subst hA
      have hna9 := natAbs_le r1 r2
      have HS := Lib.hid (fun z => l4Abs_any l z (by omega) (by omega))
      have HVN : Hid (LitR M (xa.take (k + 1)) (vs.set l.natAbs l)) := Lib.hid (by rw [HTK.out]; exact HV.out.put hna9)
      have hlen : vs.length = M + 1 := HV.out.1
      have hq1 := Later.cell hc
      have HLE := Lib.hid hlen
      clear hlen
      generalize hu : l.natAbs = u at *
      have HU := Lib.hid hu
      clear hu
      have hv1 : (u : Int) < ((M + 1 : Nat) : Int) := by omega
      have hv2 : (u : Int) < (M : Int) + 1 := by omega
      go_wp2
      refine wp_region_later_tail 11 (by kernel_rfl) (by kernel_rfl) ?_
      simp only [List.take_succ_cons, List.take_zero, List.drop_succ_cons, List.drop_zero]
      repeat (go_big_quiet_step ((go_at_call 75; exact later_of_same (HS.out _))))
      refine wpQuiet_nil ?_
      rintro _ ⟨x9, rfl⟩
      have HO9 := Lib.hid (own_below HO.out x9.le (Nat.le_refl _))
      obtain ⟨old, hold⟩ : ∃ old, x9.W.cell? ⟨w.heap.size + 1, u, none⟩ = some (.int .i64 old) := by
        have h9 : x9.W.cell? ⟨w.heap.size + 1, u, none⟩ = _ := HO9.out.cellAt u (by omega)
        rw [List.getElem?_map, List.getElem?_eq_getElem (by rw [HLE.out]; omega), Option.map_some] at h9
        exact ⟨_, h9⟩
      have hfr : x9.W.frozen? ⟨w.heap.size + 1, u, none⟩ = false := HO9.out.frozenAt u
      have HST := Lib.hid (HO9.out.stored u (.int .i64 l)).1
      have HB9 := Lib.hid (bthen HB.out x9.le)
      clear hq1 hc
      go_wp2
      go_roundw
      case rel => exact ⟨k + 1, _, by omega, by go_num, Lib.hid (HB9.out.setCell hWle _), Lib.hid (by rw [List.map_set]; exact HST.out), HVN⟩
      case measure => simp [intOf]; omega
    · have hke : k = xa.length := by omega
      subst hke
      have hvs := HV.out
      rw [List.take_length] at hvs
      have HV2 := Lib.hid hvs
      clear hvs HV
      go_wp2
      go_loopw [12] (fun i wr => ∃ (k : Nat) (vs : List Int), k ≤ xb.length ∧ i = .int .i64 k ∧ Hid (Below w1.heap.size w1 wr) ∧ Hid (wr.ownsRow (w.heap.size + 1) 3 1 (.slice (some ⟨w.heap.size + 1, 0, none⟩) (M + 1) (M + 1)) (M + 1) (vs.map (Value.int .i64))) ∧ Hid (LitR M (xa ++ xb.take k) vs))
        (fun i _ => xb.length - (intOf i).toNat)
      case atStart => exact ⟨0, _, Nat.zero_le _, rfl, HB, HO, Lib.hid (by simpa using HV2.out)⟩
      case round =>
        clear HB HO HV2
        obtain ⟨k, vs, hk, rfl, HB, HO, HV⟩ := hrel
        by_cases hlt : k < xb.length
        · have hk1 : (k : Int) < xb.length := by omega
          obtain ⟨ad, hA, _, hc⟩ := (Lay.Sl.below KB.out HB.out (fun b h9 => Nat.lt_of_lt_of_le (HFF.out.2 b h9) HAL.out.size)).at_int hlt
          obtain ⟨r1, r2⟩ := hrb _ (List.getElem_mem hlt)
          have htk : xb.take (k + 1) = xb.take k ++ [xb[k]] := List.take_succ_eq_append_getElem hlt
          have HTK := Lib.hid htk
          clear htk
          generalize xb[k] = l at *
          subst hA
          have hna9 := natAbs_le r1 r2
          have HS := Lib.hid (fun z => l4Abs_any l z (by omega) (by omega))
          have HVN : Hid (LitR M (xa ++ xb.take (k + 1)) (vs.set l.natAbs l)) := Lib.hid (by rw [HTK.out]; rw [← List.append_assoc]; exact HV.out.put hna9)
          have hlen : vs.length = M + 1 := HV.out.1
          have hq1 := Later.cell hc
          have HLE := Lib.hid hlen
          clear hlen
          generalize hu : l.natAbs = u at *
          have HU := Lib.hid hu
          clear hu
          have hv1 : (u : Int) < ((M + 1 : Nat) : Int) := by omega
          have hv2 : (u : Int) < (M : Int) + 1 := by omega
          go_wp2
          refine wp_region_later_tail 11 (by kernel_rfl) (by kernel_rfl) ?_
          simp only [List.take_succ_cons, List.take_zero, List.drop_succ_cons, List.drop_zero]
          repeat (go_big_quiet_step ((go_at_call 75; exact later_of_same (HS.out _))))
          refine wpQuiet_nil ?_
          rintro _ ⟨x9, rfl⟩
          have HO9 := Lib.hid (own_below HO.out x9.le (Nat.le_refl _))
          obtain ⟨old, hold⟩ : ∃ old, x9.W.cell? ⟨w.heap.size + 1, u, none⟩ = some (.int .i64 old) := by
            have h9 : x9.W.cell? ⟨w.heap.size + 1, u, none⟩ = _ := HO9.out.cellAt u (by omega)
            rw [List.getElem?_map, List.getElem?_eq_getElem (by rw [HLE.out]; omega), Option.map_some] at h9
            exact ⟨_, h9⟩
          have hfr : x9.W.frozen? ⟨w.heap.size + 1, u, none⟩ = false := HO9.out.frozenAt u
          have HST := Lib.hid (HO9.out.stored u (.int .i64 l)).1
          have HB9 := Lib.hid (bthen HB.out x9.le)
          clear hq1 hc
          go_wp2
          go_roundw
          case rel => exact ⟨k + 1, _, by omega, by go_num, Lib.hid (HB9.out.setCell hWle _), Lib.hid (by rw [List.map_set]; exact HST.out), HVN⟩
          case measure => simp [intOf]; omega
        · have hke : k = xb.length := by omega
          subst hke
          have hvs := HV.out
          rw [List.take_length] at hvs
          have HV2 := Lib.hid hvs
          clear hvs HV
          go_wp2
          have HOW := Lib.hid (own_of_heap HOUT.out fun g hg => by
            have hg9 := (World.ownsRow.lt HOUT.out g hg).2
            exact HB.out.block g hg9)
          have HRX := Lib.hid (sl_block (sl_ints_of_own (F := fun y => y < wr.heap.size) HO.out (fun g _ h9 => h9)).1)
          have HBW := Lib.hid (bthen HAL.out HB.out)
          have HSZ : Hid (w.heap.size + 1 < wr.heap.size) := Lib.hid (World.ownsRow.lt HO.out _ rfl).2
          clear HO HB HOUT
          obtain ⟨ab, hab⟩ : ∃ ab, ab = xa ++ xb := ⟨_, rfl⟩
          rw [← hab] at HV2
          have HAB := Lib.hid hab
          clear hab
          go_loopw [9, 13] (fun o i wr => ∃ (k : Nat) (A' : Option Addr) (c' : Nat) (os : List Int), k ≤ M ∧ i = .int .i64 ((k : Int) + 1) ∧ o = .slice A' os.length c' ∧ os.length ≤ k ∧ Hid (os = joinF ab m 0 k) ∧ Hid (OwnI wr w.heap.size (.slice A' os.length c') os) ∧ Hid (∀ g, (Value.slice A' os.length c').ownBlock = some g → g ≠ w.heap.size + 1) ∧ Hid (Lay.int.Sl wr (fun y => y = w.heap.size + 1) (some ⟨w.heap.size + 1, 0, none⟩) vs) ∧ Hid (Below w.heap.size w wr) ∧ Hid (w.heap.size + 1 < wr.heap.size)) (fun _ i _ => M + 1 - (intOf i).toNat)
          case atStart => exact ⟨0, _, _, [], Nat.zero_le _, rfl, rfl, by simp, Lib.hid rfl, HOW, Lib.hid (fun g hg => by have hg : some w.heap.size = some g := hg; injection hg with hg; omega), HRX, HBW, HSZ⟩
          case round =>
            clear HOW HRX HBW HSZ
            obtain ⟨k, A', c', os, hk, rfl, rfl, hol, HOS, HOW, HNE, HRX, HBW, HSZ⟩ := hrel
            by_cases hlt : k < M
            · have hk1 : (k : Int) + 1 ≤ M := by omega
              have hsn := joinF_snoc ab m k 0
              rw [← HOS.out, Nat.zero_add] at hsn
              have HSN := Lib.hid hsn
              clear hsn
              obtain ⟨ae, hae, hc⟩ : ∃ ae : Addr, ae = ⟨w.heap.size + 1, k + 1, none⟩ ∧ wr.cell? ae = some (.int .i64 (litOf ab (k + 1))) := by
                have hkl : k + 1 < vs.length := by rw [HV2.out.1]; omega
                obtain ⟨ae, e1, _, e2⟩ := HRX.out.at_int hkl
                injection e1 with e1
                subst e1
                have h9 := HV2.out.2 (k + 1) (by omega) (by omega)
                rw [List.getElem?_eq_getElem hkl] at h9
                injection h9 with h9
                refine ⟨_, rfl, ?_⟩
                rw [h9] at e2
                have e : (⟨w.heap.size + 1, 0, none⟩ : Addr).add (k + 1) = ⟨w.heap.size + 1, k + 1, none⟩ := by simp [Addr.add]
                rw [e] at e2
                exact e2
              subst hae
              have hk2 : ((k : Int) + 1).toNat = k + 1 := by omega
              have hk3 : (0 : Int) ≤ (k : Int) + 1 := by omega
              have hk4 : (k : Int) + 1 < ((M + 1 : Nat) : Int) := by omega
              have hk5 : (k : Int) + 1 < (M : Int) + 1 := by omega
              generalize litOf ab (k + 1) = y at *
              by_cases hkm : k + 1 = m
              · have h3 : ((k : Int) + 1 != (m : Int)) = false := by simp; omega
                have HE : Hid (os = joinF ab m 0 (k + 1)) := Lib.hid (by rw [HSN.out, if_neg (fun h => h.1 hkm), List.append_nil])
                clear hkm
                go_wp2
                go_roundw
                case rel => exact ⟨k + 1, A', c', os, by omega, by go_num, rfl, by omega, HE, HOW, HNE, HRX, HBW, HSZ⟩
                case measure => simp [intOf]; omega
              have h3 : ((k : Int) + 1 != (m : Int)) = true := by simp; omega
              by_cases hy : y = 0
              · have HE : Hid (os = joinF ab m 0 (k + 1)) := Lib.hid (by rw [HSN.out, if_neg (fun h => h.2 hy), List.append_nil])
                have h4 : (y != 0) = false := by simpa using hy
                clear hy hkm
                go_wp2
                go_roundw
                case rel => exact ⟨k + 1, A', c', os, by omega, by go_num, rfl, by omega, HE, HOW, HNE, HRX, HBW, HSZ⟩
                case measure => simp [intOf]; omega
              · have h4 : (y != 0) = true := by simpa using hy
                obtain ⟨zs, hzs⟩ : ∃ zs, zs = os ++ [y] := ⟨_, rfl⟩
                have HE : Hid (zs = joinF ab m 0 (k + 1)) := Lib.hid (by rw [HSN.out, if_pos ⟨hkm, hy⟩, hzs])
                have HZS := Lib.hid hzs
                have HZL : Hid (zs.length = os.length + 1) := Lib.hid (by rw [hzs]; simp)
                clear hzs hy hkm
                have hol2 : os.length ≤ 2000000 := by omega
                have hlw : w.heap.size ≤ wr.heap.size := by have := HSZ.out; omega
                go_wp2_with (at_builtin; refine wpList_append_int8 (ys := zs) (by rfl) (.tmp 67) (.tmp 72) (by rfl) (by rfl) (by rfl) HOW.out hol2 hlw HZS.out ?_; intro A3 c3 w4 hown4 hg4 hbk4)
                have HO4 := Lib.hid hown4
                have HN4 : Hid (∀ g, (Value.slice A3 zs.length c3).ownBlock = some g → g ≠ w.heap.size + 1) := Lib.hid fun g hg => by
                  rcases hbk4 with e | ⟨g9, e, hge⟩
                  · exact HNE.out g (e ▸ hg)
                  · rw [e] at hg; injection hg with hg; have := HSZ.out; omega
                have HR4 : Hid (Lay.int.Sl w4 (fun y => y = w.heap.size + 1) (some ⟨w.heap.size + 1, 0, none⟩) vs) := Lib.hid (HRX.out.keep fun b hb => by
                  rw [show b = w.heap.size + 1 from hb]
                  exact hg4.block _ HSZ.out fun e => HNE.out _ e.symm rfl)
                have HB4 : Hid (Below w.heap.size w w4) := Lib.hid (HBW.out.grown hg4 hlw fun g hg => (World.ownsRow.lt HOW.out g hg).1)
                have HS4 : Hid (w.heap.size + 1 < w4.heap.size) := Lib.hid (Nat.lt_of_lt_of_le HSZ.out hg4.size)
                clear hown4 hg4 hbk4
                go_wp2
                go_roundw
                case rel => exact ⟨k + 1, A3, c3, zs, by omega, by go_num, rfl, by rw [HZL.out]; omega, HE, HO4, HN4, HR4, HB4, HS4⟩
                case measure => simp [intOf]; omega
            · have hke : k = M := by omega
              subst hke
              have HE : Hid (os = joinP k xa xb m) := Lib.hid (by rw [HOS.out, HAB.out]; rfl)
              go_wp2
              go_ret
              rw [← HE.out]
              exact ⟨A', c', rfl, HOW.out, HBW.out⟩
end Go.Proofs.Ytbljfhmcebgdaaa

/-! A drawn region, each operation once, what memory does told of each. No program is named here. -/
namespace Go.Proofs.Ytbljfhmcebgdaaa
open Go Go.RowKit
variable {P : Program} {Q : Exit → Act → World → Prop}

/-- What the operation does to memory: R0, or what is told of it. -/
def relOf (R0 : World → World → Prop) : List (Nat × (World → World → Prop)) → Nat → World → World → Prop
  | [], _ => R0
  | p :: l, k => fun x x' => (k = p.1 → p.2 x x') ∧ (k ≠ p.1 → relOf R0 l k x x')
def Refls : List (Nat × (World → World → Prop)) → Prop
  | [] => True
  | p :: l => (∀ x, p.2 x x) ∧ Refls l
theorem relOf_refl {R0 : World → World → Prop} (h0 : ∀ x, R0 x x) : ∀ {l : List (Nat × (World → World → Prop))}, Refls l → ∀ k x, relOf R0 l k x x
  | [], _, _, x => h0 x
  | _ :: _, h, k, x => ⟨fun _ => h.1 x, fun _ => relOf_refl h0 h.2 k x⟩
def StabS (ops : List Oper) (V : Say) (i : Nat) : List (Nat × (World → World → Prop)) → Prop
  | [] => True
  | p :: l => (reach ops ops.length i p.1 = true ∨ i = p.1 ∨ ∀ vs x x', V vs x → p.2 x x' → V vs x') ∧ StabS ops V i l
def Stabs3 (ops : List Oper) (R0 : World → World → Prop) (Rs : List (Nat × (World → World → Prop))) : Nat → List Say → Prop
  | _, [] => True
  | i, V :: l => ((isLast ops i = true ∨ ∀ vs x x', V vs x → R0 x x' → V vs x') ∧ StabS ops V i Rs) ∧ Stabs3 ops R0 Rs (i + 1) l
theorem relOf_stab {ops : List Oper} {R0 : World → World → Prop} {V : Say} {i k : Nat} (hik : i ≠ k) (hr : reach ops ops.length i k = false) (h0 : ∀ vs x x', V vs x → R0 x x' → V vs x') : ∀ {l : List (Nat × (World → World → Prop))}, StabS ops V i l → ∀ vs x x', V vs x → relOf R0 l k x x' → V vs x'
  | [], _, vs, x, x', hv, h => h0 vs x x' hv h
  | p :: l, hs, vs, x, x', hv, h => by
    by_cases e : k = p.1
    · rcases hs.1 with h1 | h1 | h1
      · rw [e, h1] at hr; cases hr
      · exact absurd (h1.trans e.symm) hik
      · exact h1 vs x x' hv (h.1 e)
    · exact relOf_stab hik hr h0 hs.2 vs x x' hv (h.2 e)
theorem relOf_last {ops : List Oper} {R0 : World → World → Prop} {V : Say} {i k : Nat} (hik : i ≠ k) (hr : reach ops ops.length i k = false) (hk : k < ops.length) (hl : isLast ops i = true) : False := by
  unfold isLast at hl
  have h1 := List.all_eq_true.1 hl k (List.mem_range.2 hk)
  rw [Bool.or_eq_true, hr] at h1
  rcases h1 with h1 | h1
  · exact hik (by simpa using Eq.symm (by simpa using h1 : k = i))
  · cases h1
theorem Stabs3.get {ops : List Oper} {R0 : World → World → Prop} {Rs : List (Nat × (World → World → Prop))} {k : Nat} (hk : k < ops.length) : ∀ {L : List Say} {m : Nat}, Stabs3 ops R0 Rs m L → ∀ i, m + i ≠ k → reach ops ops.length (m + i) k = false → ∀ vs x x', L.getD i (fun _ _ => True) vs x → relOf R0 Rs k x x' → L.getD i (fun _ _ => True) vs x'
  | [], _, _, i, _, _, vs, x, x', _, _ => by simp
  | V :: l, m, h, 0, hik, hr, vs, x, x', hv, hR => by
    rcases h.1.1 with h1 | h1
    · exact (relOf_last (R0 := R0) (V := V) hik hr hk h1).elim
    · simpa using relOf_stab hik hr h1 h.1.2 vs x x' (by simpa using hv) hR
  | V :: l, m, h, i + 1, hik, hr, vs, x, x', hv, hR => by
    have e : m + (i + 1) = m + 1 + i := by omega
    rw [e] at hik hr
    simpa using Stabs3.get hk h.2 i hik hr vs x x' (by simpa using hv) hR
end Go.Proofs.Ytbljfhmcebgdaaa
