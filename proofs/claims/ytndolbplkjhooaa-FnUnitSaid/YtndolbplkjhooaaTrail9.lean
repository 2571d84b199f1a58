/- The program's readSat: its parts. -/
import Derived.Test.YtndolbplkjhooaaTrail8
namespace Go.Proofs.Ytndolbplkjhooaa
open Go Go.RowKit

theorem readSat1_any (cl : List Int) (m : Int) (A : Option Addr) (c b : Nat) (F : Nat → Prop) (w : World) (h : Lay.int.Sl w F A cl) (hn : cl.length ≤ 1048576) (hi : i64s cl) (m0 : 0 ≤ m) (m1 : m ≤ 700) (hm : w.cell? ⟨b, 0, none⟩ = some (.int .i64 m)) :
    Calls Try.prog 80 #[.slice A cl.length c, .pointer (some ⟨b, 0, none⟩)] w fun e w' => e = .returned (.bool (!clOk m cl)) ∧ w = w' := by
  go_enter Try.func80, Try.ntmps80
  go_wp2_with fail
  refine (clauseOk_any cl m A c F w h hn hi m0 m1).mono ?_
  rintro e w' ⟨rfl, rfl⟩
  go_wp2
  go_ret
  exact ⟨rfl, rfl⟩

set_option maxHeartbeats 1000000 in
theorem idxFuncR_any (xs : List (List Int)) (m : Int) (A : Option Addr) (c b : Nat) (F : Nat → Prop) (w : World) (h : Lay.int.slice.Sl w F A xs) (hx : xs.length ≤ 1048576) (hn : ∀ cl ∈ xs, cl.length ≤ 1048576 ∧ i64s cl) (m0 : 0 ≤ m) (m1 : m ≤ 700) (hm : w.cell? ⟨b, 0, none⟩ = some (.int .i64 m)) :
    Calls Try.prog 91 #[.slice A xs.length c, .func (.func 80) #[] #[.pointer (some ⟨b, 0, none⟩)]] w fun e w' => ∃ r : Int, e = .returned (.int .i64 r) ∧ decide (0 ≤ r) = !xs.all (clOk m) ∧ w = w' := by
  go_enter Try.func91, Try.ntmps91
  go_wp2
  go_loopw [8] (fun i wr => wr = w ∧ ∃ k : Nat, k ≤ xs.length ∧ i = .int .i64 k ∧ xs.all (clOk m) = (xs.drop k).all (clOk m)) (fun i _ => xs.length - (intOf i).toNat)
  case atStart => exact ⟨rfl, 0, Nat.zero_le _, rfl, rfl⟩
  case round =>
    obtain ⟨rfl, k, hk, rfl, ht⟩ := hrel
    have HT := Lib.hid ht
    clear ht
    by_cases hlt : k < xs.length
    · obtain ⟨ad, A', c', rfl, hf, k1, hl1, s1⟩ := h.at_slice hlt
      have hk1 : (k : Int) < xs.length := by omega
      obtain ⟨n1, n2⟩ := hn _ (List.getElem_mem hlt)
      have hd := all_drop (f := clOk m) hlt
      have hcall := readSat1_any xs[k] m A' c' b F wr s1 n1 n2 m0 m1 hm
      generalize xs[k] = cl at *
      have HD := Lib.hid hd
      clear hd
      by_cases h1 : clOk m cl = true
      · rw [h1] at hcall
        have HC := Lib.hid hcall
        have HE := Lib.hid (show xs.all (clOk m) = (xs.drop (k + 1)).all (clOk m) by rw [HT.out, HD.out, h1]; rfl)
        clear hcall h1
        go_wp2_with fail
        refine HC.out.mono ?_
        rintro e w' ⟨rfl, rfl⟩
        go_wp2
        go_roundw
        case rel => exact ⟨by trivial, k + 1, by omega, by go_num, HE.out⟩
        case measure => simp [intOf]; omega
      · rw [Bool.not_eq_true] at h1
        rw [h1] at hcall
        have HC := Lib.hid hcall
        have HE := Lib.hid (show xs.all (clOk m) = false by rw [HT.out, HD.out, h1]; rfl)
        clear hcall h1
        go_wp2_with fail
        refine HC.out.mono ?_
        rintro e w' ⟨rfl, rfl⟩
        go_wp2
        go_ret
        exact ⟨_, rfl, by rw [HE.out]; simp, rfl⟩
    · have hke : k = xs.length := by omega
      subst hke
      have HE := Lib.hid (show xs.all (clOk m) = true by rw [HT.out, List.drop_length]; rfl)
      go_wp2
      go_ret
      exact ⟨-1, rfl, by rw [HE.out]; rfl, rfl⟩
theorem hasFuncR_any (xs : List (List Int)) (m : Int) (A : Option Addr) (c b : Nat) (F : Nat → Prop) (w : World) (h : Lay.int.slice.Sl w F A xs) (hx : xs.length ≤ 1048576) (hn : ∀ cl ∈ xs, cl.length ≤ 1048576 ∧ i64s cl) (m0 : 0 ≤ m) (m1 : m ≤ 700) (hm : w.cell? ⟨b, 0, none⟩ = some (.int .i64 m)) :
    Calls Try.prog 65 #[.slice A xs.length c, .func (.func 80) #[] #[.pointer (some ⟨b, 0, none⟩)]] w fun e w' => e = .returned (.bool (!xs.all (clOk m))) ∧ w = w' := by
  go_enter Try.func65, Try.ntmps65
  go_wp2_with fail
  refine (idxFuncR_any xs m A c b F w h hx hn m0 m1 hm).mono ?_
  rintro e w' ⟨r, rfl, hr, rfl⟩
  have HR := Lib.hid hr
  clear hr
  go_wp2
  go_ret
  exact ⟨ret_bool (by rw [← HR.out]), rfl⟩


set_option maxHeartbeats 1000000 in
theorem index_any (xs : List Int) (m : Int) (A : Option Addr) (c : Nat) (F : Nat → Prop) (w : World) (h : Lay.int.Sl w F A xs) (hx : xs.length ≤ 1048576) :
    Calls Try.prog 100 #[.slice A xs.length c, .int .i64 m] w fun e w' => ∃ r : Int, e = .returned (.int .i64 r) ∧ decide (0 ≤ r) = decide (m ∈ xs) ∧ w = w' := by
  go_enter Try.func100, Try.ntmps100
  go_wp2
  go_loopw [8] (fun i wr => wr = w ∧ ∃ k : Nat, k ≤ xs.length ∧ i = .int .i64 k ∧ m ∉ xs.take k) (fun i _ => xs.length - (intOf i).toNat)
  case atStart => exact ⟨rfl, 0, Nat.zero_le _, rfl, by simp⟩
  case round =>
    obtain ⟨rfl, k, hk, rfl, ht⟩ := hrel
    have HT := Lib.hid ht
    clear ht
    by_cases hlt : k < xs.length
    · obtain ⟨ad, rfl, hf, hc⟩ := h.at_int hlt
      have hk1 : (k : Int) < xs.length := by omega
      have HM := Lib.hid (List.getElem_mem hlt)
      have HK := Lib.hid (show xs.take (k + 1) = xs.take k ++ [xs[k]] from List.take_succ_eq_append_getElem hlt)
      generalize xs[k] = a at *
      by_cases h1 : m = a
      · subst h1
        have HE := Lib.hid (show decide (m ∈ xs) = true from decide_eq_true HM.out)
        clear hf
        go_wp2
        go_ret
        exact ⟨_, rfl, by rw [HE.out]; simp, rfl⟩
      · have HN : Hid (m ∉ xs.take (k + 1)) := Lib.hid (by rw [HK.out]; simp [HT.out, h1])
        have h1b : (m == a) = false := by simpa using h1
        clear hf h1
        go_wp2
        go_roundw
        case rel => exact ⟨by trivial, k + 1, by omega, by go_num, HN.out⟩
        case measure => simp [intOf]; omega
    · have hke : k = xs.length := by omega
      subst hke
      have ht := HT.out
      rw [List.take_length] at ht
      have HE := Lib.hid (show decide (m ∈ xs) = false from decide_eq_false ht)
      clear ht
      go_wp2
      go_ret
      exact ⟨-1, rfl, by rw [HE.out]; rfl, rfl⟩
theorem contains_any (xs : List Int) (m : Int) (A : Option Addr) (c : Nat) (F : Nat → Prop) (w : World) (h : Lay.int.Sl w F A xs) (hx : xs.length ≤ 1048576) :
    Calls Try.prog 95 #[.slice A xs.length c, .int .i64 m] w fun e w' => e = .returned (.bool (decide (m ∈ xs))) ∧ w = w' := by
  go_enter Try.func95, Try.ntmps95
  go_wp2_with fail
  refine (index_any xs m A c F w h hx).mono ?_
  rintro e w' ⟨r, rfl, hr, rfl⟩
  have HR := Lib.hid hr
  clear hr
  go_wp2
  go_ret
  exact ⟨ret_bool (by rw [← HR.out]), rfl⟩
theorem any_drop {f : Int → Bool} {xs : List Int} {k : Nat} (h : k < xs.length) : (xs.drop k).any f = (f xs[k] || (xs.drop (k + 1)).any f) := by
  rw [List.drop_eq_getElem_cons h]; rfl
set_option maxHeartbeats 1000000 in
theorem idxWhy_any (lo : Nat) (S : Nat → Prop) (M t bt ba : Nat) (put ls xs : List Int) (k : Nat) (A : Option Addr) (c : Nat) (F : Nat → Prop) (w : World) (hs : Lay.int.Sl w F A xs) (hx : xs.length ≤ 1048576) (hr : ∀ l ∈ xs, l ≠ 0 ∧ -(M : Int) ≤ l ∧ l ≤ M) (h : Tr lo S M w t put ls) (hg : Good M put) (hk : k < put.length) (hM : M ≤ 1000000)
    (ht : w.cell? ⟨bt, 0, none⟩ = some (.pointer (some ⟨t, 0, none⟩))) (ha : w.cell? ⟨ba, 0, none⟩ = some (.int .i64 k)) :
    Calls Try.prog 99 #[.slice A xs.length c, .func (.func 96) #[] #[.pointer (some ⟨bt, 0, none⟩), .pointer (some ⟨ba, 0, none⟩)]] w fun e w' => ∃ r : Int, e = .returned (.int .i64 r) ∧ decide (0 ≤ r) = xs.any (notWhy (put.take k) put[k]) ∧ ∃ n, w' = w.drewN n := by
  have HC : Hid (∀ l ∈ xs, ∀ n, Calls Try.prog 96 #[.int .i64 l, .pointer (some ⟨bt, 0, none⟩), .pointer (some ⟨ba, 0, none⟩)] (w.drewN n) fun e w' => e = .returned (.bool (notWhy (put.take k) put[k] l)) ∧ ∃ m, w' = (w.drewN n).drewN m) :=
    Lib.hid fun l hl n => implies1_any lo S M t bt ba put ls l k (w.drewN n) (h.drewN n) hg (hr l hl).1 (hr l hl).2.1 (hr l hl).2.2 hk hM ht ha
  clear hr h hg ht ha
  generalize notWhy (put.take k) put[k] = f at *
  go_enter Try.func99, Try.ntmps99
  go_wp2
  go_loopw [8] (fun i wr => ∃ j n : Nat, wr = w.drewN n ∧ j ≤ xs.length ∧ i = .int .i64 j ∧ xs.any f = (xs.drop j).any f) (fun i _ => xs.length - (intOf i).toNat)
  case atStart => exact ⟨0, 0, rfl, Nat.zero_le _, rfl, rfl⟩
  case round =>
    obtain ⟨j, n, rfl, hj, rfl, ht⟩ := hrel
    have HT := Lib.hid ht
    clear ht
    by_cases hlt : j < xs.length
    · obtain ⟨ad, rfl, hf, hc⟩ := (hs.drewN n).at_int hlt
      have hj1 : (j : Int) < xs.length := by omega
      have hcall := HC.out _ (List.getElem_mem hlt) n
      have HD := Lib.hid (any_drop (f := f) hlt)
      generalize xs[j] = a at *
      cases hfa : f a
      · rw [hfa] at hcall
        have HCC := Lib.hid hcall
        have HE := Lib.hid (show xs.any f = (xs.drop (j + 1)).any f by rw [HT.out, HD.out, hfa]; rfl)
        clear hcall hfa hf
        go_wp2_with fail
        refine HCC.out.mono ?_
        rintro e w' ⟨rfl, m, rfl⟩
        go_wp2
        go_roundw
        case rel => exact ⟨j + 1, n + m, by first | rfl | rw [World.drewN_drewN], by omega, by go_num, HE.out⟩
        case measure => simp [intOf]; omega
      · rw [hfa] at hcall
        have HCC := Lib.hid hcall
        have HE := Lib.hid (show xs.any f = true by rw [HT.out, HD.out, hfa]; rfl)
        clear hcall hfa hf
        go_wp2_with fail
        refine HCC.out.mono ?_
        rintro e w' ⟨rfl, m, rfl⟩
        go_wp2
        go_ret
        exact ⟨_, rfl, by rw [HE.out]; simp, n + m, by first | rfl | rw [World.drewN_drewN]⟩
    · have hke : j = xs.length := by omega
      subst hke
      have HE := Lib.hid (show xs.any f = false by rw [HT.out, List.drop_length]; rfl)
      go_wp2
      go_ret
      exact ⟨-1, rfl, by rw [HE.out]; rfl, n, rfl⟩
theorem hasWhy_any (lo : Nat) (S : Nat → Prop) (M t bt ba : Nat) (put ls xs : List Int) (k : Nat) (A : Option Addr) (c : Nat) (F : Nat → Prop) (w : World) (hs : Lay.int.Sl w F A xs) (hx : xs.length ≤ 1048576) (hr : ∀ l ∈ xs, l ≠ 0 ∧ -(M : Int) ≤ l ∧ l ≤ M) (h : Tr lo S M w t put ls) (hg : Good M put) (hk : k < put.length) (hM : M ≤ 1000000)
    (ht : w.cell? ⟨bt, 0, none⟩ = some (.pointer (some ⟨t, 0, none⟩))) (ha : w.cell? ⟨ba, 0, none⟩ = some (.int .i64 k)) :
    Calls Try.prog 86 #[.slice A xs.length c, .func (.func 96) #[] #[.pointer (some ⟨bt, 0, none⟩), .pointer (some ⟨ba, 0, none⟩)]] w fun e w' => e = .returned (.bool (xs.any (notWhy (put.take k) put[k]))) ∧ ∃ n, w' = w.drewN n := by
  have HI := Lib.hid (idxWhy_any lo S M t bt ba put ls xs k A c F w hs hx hr h hg hk hM ht ha)
  clear hs hr h hg ht ha
  go_enter Try.func86, Try.ntmps86
  go_wp2_with fail
  refine HI.out.mono ?_
  rintro e w' ⟨r, rfl, hr, n, rfl⟩
  have HR := Lib.hid hr
  clear hr
  go_wp2
  go_ret
  exact ⟨ret_bool (by rw [← HR.out]), n, rfl⟩

end Go.Proofs.Ytndolbplkjhooaa
