/- The program's trail: next, push. -/
import Derived.Test.YtndolbplkjhooaaTrail1
namespace Go.Proofs.Ytndolbplkjhooaa
open Go Go.RowKit

theorem look_cons (put : List Int) (cl : List Int) (cls : List (List Int)) (k u f : Int) :
    (lkT put cl = (true, 0, 0) ∧ fd put (cl :: cls) k u f = fd put cls (k + 1) u f) ∨ ∃ n m, lkT put cl = (false, n, m) ∧
      ((n = 0 ∧ fd put (cl :: cls) k u f = (k, u, f)) ∨ (n = 1 ∧ u < 0 ∧ fd put (cl :: cls) k u f = fd put cls (k + 1) k m) ∨ (n ≠ 0 ∧ ¬ (n = 1 ∧ u < 0) ∧ fd put (cl :: cls) k u f = fd put cls (k + 1) u f)) := by
  unfold lkT
  cases hl : lk put cl 0 0 with
  | none => exact .inl ⟨rfl, by simp only [fd, hl]⟩
  | some p =>
    obtain ⟨n, m⟩ := p
    refine .inr ⟨n, m, rfl, ?_⟩
    by_cases h0 : n = 0
    · exact .inl ⟨h0, by simp only [fd, hl, h0, if_true]⟩
    by_cases h1 : n = 1 ∧ u < 0
    · exact .inr (.inl ⟨h1.1, h1.2, by obtain ⟨rfl, hu⟩ := h1; simp [fd, hl, hu]⟩)
    · exact .inr (.inr ⟨h0, h1, by simp only [fd, hl, h0, if_false, h1]⟩)
set_option maxRecDepth 100000 in
set_option maxHeartbeats 4000000 in
theorem next_any (lo : Nat) (S : Nat → Prop) (M t : Nat) (put ls : List Int) (lists : List (List (List Int))) (B : Option Addr) (q : Nat) (G : Nat → Prop) (w : World) (h : Tr lo S M w t put ls) (hl : Lay.int.slice.slice.Sl w G B lists) (hg : Good M put)
    (hr : ∀ cls ∈ lists, cls.length ≤ 1048576 ∧ ∀ cl ∈ cls, (∀ l ∈ cl, l ≠ 0 ∧ -(M : Int) ≤ l ∧ l ≤ M) ∧ cl.length ≤ 1048576) (hn : lists.length ≤ 1048576) (hM : M ≤ 1000000) (hall : lists.flatten.length ≤ 1000000000) :
    Calls Try.prog 76 #[.pointer (some ⟨t, 0, none⟩), .slice B lists.length q] w
      fun e w' => e = .returned (.tuple #[.int .i64 (fd put lists.flatten 0 (-1) 0).1, .int .i64 (fd put lists.flatten 0 (-1) 0).2.1, .int .i64 (fd put lists.flatten 0 (-1) 0).2.2]) ∧ ∃ n, w' = w.drewN n := by
  go_enter Try.func76, Try.ntmps76
  go_wp2
  go_loopw [4, 5, 6, 7, 17] (fun v x y z i wr => v = .int .i64 (-1) ∧ ∃ (j m : Nat) (u f : Int), j ≤ lists.length ∧ i = .int .i64 j ∧ x = .int .i64 u ∧ y = .int .i64 f ∧ z = .int .i64 ((lists.take j).flatten.length : Nat) ∧ wr = w.drewN m ∧
     fd put lists.flatten 0 (-1) 0 = fd put (lists.drop j).flatten ((lists.take j).flatten.length : Nat) u f) (fun _ _ _ _ i _ => lists.length - (intOf i).toNat)
  case atStart => exact ⟨rfl, 0, 0, -1, 0, Nat.zero_le _, rfl, rfl, rfl, by simp, rfl, by simp⟩
  case round =>
    obtain ⟨rfl, j, m, u, f, hj, rfl, rfl, rfl, rfl, rfl, ht⟩ := hrel
    have HT := Lib.hid ht
    clear ht
    by_cases hlt : j < lists.length
    · obtain ⟨ad, A', c', rfl, hf, k1, hl1, s1⟩ := (hl.drewN m).at_slice hlt
      have hj1 : (j : Int) < lists.length := by omega
      obtain ⟨hr1, hr2⟩ := hr _ (List.getElem_mem hlt)
      have hd1 : (lists.drop j).flatten = lists[j] ++ (lists.drop (j + 1)).flatten := by rw [List.drop_eq_getElem_cons hlt, List.flatten_cons]
      have hd2 : (lists.take (j + 1)).flatten.length = (lists.take j).flatten.length + lists[j].length := by rw [List.take_succ_eq_append_getElem hlt, List.flatten_append]; simp
      have hd3 : (lists.take j).flatten.length + lists[j].length ≤ 1000000000 := by
        have : lists.flatten.length = (lists.take j).flatten.length + (lists.drop j).flatten.length := by rw [← List.length_append, ← List.flatten_append, List.take_append_drop]
        rw [hd1, List.length_append] at this
        omega
      have HD1 := Lib.hid hd1
      have HD2 := Lib.hid hd2
      have hsl := s1
      generalize hcs : lists[j] = cs at *
      generalize hat : (lists.take j).flatten.length = at0 at *
      have HAT := Lib.hid hat
      clear hd1 hd2 hcs hat
      generalize hrest : (lists.drop (j + 1)).flatten = rest at *
      have HREST := Lib.hid hrest
      clear hrest
      go_wp2
      go_loopw [4, 5, 6, 7, 23] (fun v x y z i wr => v = .int .i64 (-1) ∧ ∃ (k m : Nat) (u f : Int), k ≤ cs.length ∧ i = .int .i64 k ∧ x = .int .i64 u ∧ y = .int .i64 f ∧ z = .int .i64 ((at0 : Int) + k) ∧ wr = w.drewN m ∧
         fd put lists.flatten 0 (-1) 0 = fd put (cs.drop k ++ rest) ((at0 : Int) + k) u f) (fun _ _ _ _ i _ => cs.length - (intOf i).toNat)
      case atStart => exact ⟨rfl, 0, m, u, f, Nat.zero_le _, rfl, rfl, rfl, by simp, rfl, by rw [HT.out, HD1.out]; simp⟩
      case round =>
        obtain ⟨rfl, k, m2, u2, f2, hk, rfl, rfl, rfl, rfl, rfl, ht⟩ := hrel
        have HT2 := Lib.hid ht
        clear ht
        by_cases hlt2 : k < cs.length
        · obtain ⟨ad2, A2, c2, rfl, hf2, k2, hl2, s2⟩ := ((Lay.Sl.drewN s1 0).keep (w' := w.drewN m2) (fun _ _ => rfl)).at_slice hlt2
          have hk1 : (k : Int) < cs.length := by omega
          obtain ⟨hr3, hr4⟩ := hr2 _ (List.getElem_mem hlt2)
          have hdrop : cs.drop k ++ rest = cs[k] :: (cs.drop (k + 1) ++ rest) := by rw [List.drop_eq_getElem_cons hlt2]; rfl
          have hlc := look_cons put cs[k] (cs.drop (k + 1) ++ rest) ((at0 : Int) + k) u2 f2
          have hlook := look_any lo S M t put ls cs[k] A2 c2 G (w.drewN m2) (h.drewN m2) s2 hg hr3 hr4 hM
          rw [← hdrop, ← HT2.out] at hlc
          have hat1 : (at0 : Int) + k < 1000000000 := by omega
          have hat2 : (0 : Int) ≤ (at0 : Int) + k := by omega
          have hat3 : ((at0 : Int) + k) + 1 = (at0 : Int) + ((k + 1 : Nat) : Int) := by omega
          have HAT3 := Lib.hid hat3
          generalize cs[k] = cl at *
          have HL := Lib.hid hlc
          have HK := Lib.hid hlook
          clear hlc hlook hdrop hat3
          generalize hz : (at0 : Int) + (k : Int) = z9 at *
          have HZ := Lib.hid hz
          clear hz
          rcases HL.out with ⟨h1, h2⟩ | ⟨n, mm, h1, hh⟩
          · have hk9 := HK.out
            rw [h1] at hk9
            have HK9 := Lib.hid hk9
            have HE := Lib.hid h2
            clear h1 h2 hk9
            go_wp2_with fail
            refine HK9.out.mono ?_
            rintro e w' ⟨rfl, m9, rfl⟩
            go_wp2
            go_roundw
            case rel => exact ⟨rfl, k + 1, m2 + m9, u2, f2, by omega, by go_num, rfl, rfl, by rw [← HAT3.out], by first | rfl | rw [World.drewN_drewN], by rw [HE.out, HAT3.out]⟩
            case measure => simp [intOf]; omega
          · have hk9 := HK.out
            rw [h1] at hk9
            have HK9 := Lib.hid hk9
            clear h1 hk9
            rcases hh with ⟨rfl, h2⟩ | ⟨rfl, hu, h2⟩ | ⟨hn0, hn1, h2⟩
            · have HE := Lib.hid h2
              clear h2
              go_wp2_with fail
              refine HK9.out.mono ?_
              rintro e w' ⟨rfl, m9, rfl⟩
              go_wp2
              go_ret3
              exact ⟨ret_three (by rw [HE.out]) (by rw [HE.out]) (by rw [HE.out]), m2 + m9, by first | rfl | rw [World.drewN_drewN]⟩
            · have HE := Lib.hid h2
              clear h2
              go_wp2_with fail
              refine HK9.out.mono ?_
              rintro e w' ⟨rfl, m9, rfl⟩
              go_wp2
              go_roundw
              case rel => exact ⟨rfl, k + 1, m2 + m9, z9, mm, by omega, by go_num, rfl, rfl, by rw [← HAT3.out], by first | rfl | rw [World.drewN_drewN], by rw [HE.out, HAT3.out]⟩
              case measure => simp [intOf]; omega
            · have HE := Lib.hid h2
              have z0 : (n == 0) = false := by simp [hn0]
              clear h2 hn0
              by_cases z1 : n = 1
              · have hu : ¬ u2 < 0 := fun h9 => hn1 ⟨z1, h9⟩
                have z1b : (n == 1) = true := by simp [z1]
                clear hn1 z1
                go_wp2_with fail
                refine HK9.out.mono ?_
                rintro e w' ⟨rfl, m9, rfl⟩
                go_wp2
                go_roundw
                case rel => exact ⟨rfl, k + 1, m2 + m9, u2, f2, by omega, by go_num, rfl, rfl, by rw [← HAT3.out], by first | rfl | rw [World.drewN_drewN], by rw [HE.out, HAT3.out]⟩
                case measure => simp [intOf]; omega
              · have z1b : (n == 1) = false := by simp [z1]
                clear hn1 z1
                go_wp2_with fail
                refine HK9.out.mono ?_
                rintro e w' ⟨rfl, m9, rfl⟩
                go_wp2
                go_roundw
                case rel => exact ⟨rfl, k + 1, m2 + m9, u2, f2, by omega, by go_num, rfl, rfl, by rw [← HAT3.out], by first | rfl | rw [World.drewN_drewN], by rw [HE.out, HAT3.out]⟩
                case measure => simp [intOf]; omega
        · have hke : k = cs.length := by omega
          subst hke
          have HE := Lib.hid (show fd put lists.flatten 0 (-1) 0 = fd put (lists.drop (j + 1)).flatten ((lists.take (j + 1)).flatten.length : Nat) u2 f2 by
            rw [HT2.out, List.drop_length, List.nil_append, HD2.out, HREST.out]; push_cast; rfl)
          have HN := Lib.hid (show (at0 : Int) + cs.length = (((lists.take (j + 1)).flatten.length : Nat) : Int) by rw [HD2.out]; push_cast; rfl)
          go_wp2
          go_roundw
          case rel => exact ⟨rfl, j + 1, m2, u2, f2, by omega, by go_num, rfl, rfl, by rw [← HN.out], rfl, HE.out⟩
          case measure => simp [intOf]; omega
    · have hje : j = lists.length := by omega
      subst hje
      have HE := Lib.hid (show fd put lists.flatten 0 (-1) 0 = (-1, u, f) by rw [HT.out, List.drop_length]; rfl)
      go_wp2
      go_ret3
      exact ⟨ret_three (by rw [HE.out]) (by rw [HE.out]) (by rw [HE.out]), m, rfl⟩

end Go.Proofs.Ytndolbplkjhooaa
