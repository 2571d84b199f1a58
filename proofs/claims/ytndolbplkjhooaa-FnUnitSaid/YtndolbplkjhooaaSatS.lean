/- The reference's SatOk. -/
import Derived.Test.YtndolbplkjhooaaSatP
namespace Go.Proofs.Ytndolbplkjhooaa
open Go Go.RowKit

set_option maxHeartbeats 400000 in
theorem l5Because_any (A B : Option Addr) (c d many : Nat) (pre vs cl : List Int) (m : Int) (F G : Nat → Prop) (w : World) (h : Lay.int.Sl w F A vs) (hcl : Lay.int.Sl w G B cl) (hg : Good many pre) (hv : Vals many pre vs) (hr : ∀ l ∈ cl, l ≠ 0 ∧ -(many : Int) ≤ l ∧ l ≤ many) (hmany : many ≤ 1048576) (hn : cl.length ≤ 1048576) :
    Calls Try.prog 78 #[.slice A vs.length c, .slice B cl.length d, .int .i64 m] w fun e w' => e = .returned (.bool (because pre cl m)) ∧ w = w' := by
  have HS : Hid (∀ l ∈ cl, Calls Try.prog 94 #[.slice A vs.length c, .int .i64 l] w fun e w' => e = .returned (.int .i64 (sg pre l)) ∧ w = w') :=
    Lib.hid fun l hl => l5Sign_any A c many pre vs l F w h hg hv (hr l hl).1 (hr l hl).2.1 (hr l hl).2.2 hmany
  have HG := Lib.hid (sg_neg_iff hg)
  clear h hg hv hr
  go_enter Try.func78, Try.ntmps78
  go_wp2
  go_loop [7, 8] (fun hs i => ∃ j : Nat, j ≤ cl.length ∧ i = .int .i64 j ∧ hs = .bool (decide (m ∈ cl.take j)) ∧ because pre cl m = (decide (m ∈ cl) && (cl.drop j).all (fun l => l == m || decide (-l ∈ pre)))) (fun _ i => cl.length - (intOf i).toNat)
  case atStart => exact ⟨0, Nat.zero_le _, rfl, rfl, rfl⟩
  case round =>
    obtain ⟨j, hj, rfl, rfl, ht⟩ := hrel
    have HT := Lib.hid ht
    clear ht
    by_cases hlt : j < cl.length
    · obtain ⟨ad, rfl, hf, hc⟩ := hcl.at_int hlt
      have hj1 : (j : Int) < cl.length := by omega
      have HD := Lib.hid (all_dropI (p := fun l => l == m || decide (-l ∈ pre)) hlt)
      have HK := Lib.hid (show cl.take (j + 1) = cl.take j ++ [cl[j]] from List.take_succ_eq_append_getElem hlt)
      have HL := Lib.hid (HS.out _ (List.getElem_mem hlt))
      generalize cl[j] = a at *
      by_cases h1 : a = m
      · subst h1
        have HD2 := Lib.hid (HD.out.trans (by simp : _ = (cl.drop (j + 1)).all (fun l => l == a || decide (-l ∈ pre))))
        go_wp2
        go_round
        case rel => exact ⟨j + 1, by omega, by go_num, by rw [HK.out]; simp, by rw [HT.out, HD2.out]⟩
        case measure => simp [intOf]; omega
      · have h1b : (a == m) = false := by simpa using h1
        by_cases h2 : sg pre a < 0
        · have h3 := (HG.out a).1 h2
          have HD2 := Lib.hid (HD.out.trans (by simp [h3] : _ = (cl.drop (j + 1)).all (fun l => l == m || decide (-l ∈ pre))))
          have HM : Hid (decide (m ∈ cl.take (j + 1)) = decide (m ∈ cl.take j)) := Lib.hid (by rw [HK.out]; simp [Ne.symm h1])
          have h2b : decide (0 ≤ sg pre a) = false := by simpa using h2
          clear h1 h3
          generalize sg pre a = z at *
          go_wp2_with fail
          refine HL.out.mono ?_
          rintro e w' ⟨rfl, rfl⟩
          go_wp2
          go_round
          case rel => exact ⟨j + 1, by omega, by go_num, by rw [HM.out], by rw [HT.out, HD2.out]⟩
          case measure => simp [intOf]; omega
        · have h3 : ¬ -a ∈ pre := fun h9 => h2 ((HG.out a).2 h9)
          have HE := Lib.hid (show because pre cl m = false by rw [HT.out, HD.out, h1b]; simp [h3])
          have h2b : decide (0 ≤ sg pre a) = true := by simpa using h2
          clear h1 h3
          generalize sg pre a = z at *
          go_wp2_with fail
          refine HL.out.mono ?_
          rintro e w' ⟨rfl, rfl⟩
          go_wp2
          go_ret
          exact ⟨ret_bool (by rw [HE.out]), rfl⟩
    · have : j = cl.length := by omega
      subst this
      have HE := Lib.hid (show because pre cl m = decide (m ∈ cl) by rw [HT.out, List.drop_length]; simp)
      go_wp2
      go_ret
      exact ⟨ret_bool (by rw [HE.out]), rfl⟩

set_option maxHeartbeats 400000 in
theorem l5At_any (x : C) (s : S) (A P Q D : Option Addr) (a p q d k : Nat) (V : Value) (w : World) (hx : x.list.length ≤ 1048576)
    (h : (k < x.list.length ∧ ∃ ad, A = some ad ∧ w.cell? (ad.add k) = some V) ∨ (x.list.length ≤ k ∧ ∃ ad, D = some ad ∧ w.cell? (ad.add (k - x.list.length)) = some V)) (hk : k < x.list.length + s.learned.length) (hl : s.learned.length ≤ 1048576) :
    Calls Try.prog 79 #[.agg #[.int .i64 x.many, .slice A x.list.length a], .agg #[.slice P s.put.length p, .slice Q s.why.length q, .slice D s.learned.length d, .int .i64 s.code], .int .i64 k] w fun e w' => e = .returned V ∧ Below w.heap.size w w' := by
  have hw : Below w.heap.size w ((w.alloc (.cells #[.int .i64 x.many, .slice A x.list.length a] 28)).alloc (.cells #[.slice P s.put.length p, .slice Q s.why.length q, .slice D s.learned.length d, .int .i64 s.code] 46)) :=
    ((Below.refl _ _).alloc (Nat.le_refl _) _).alloc (by simp) _
  rcases h with ⟨h1, ad, rfl, hc⟩ | ⟨h1, ad, rfl, hc⟩
  · have h1i : (k : Int) < x.list.length := by omega
    have hlt := World.block_lt_of_cell? w _ hc
    rw [block_of_add] at hlt
    go_enter Try.func79, Try.ntmps79
    have hc2 := (hw.cell (p := ad.add k) (by rw [block_of_add]; exact hlt)).trans hc
    clear hc
    go_wp2
    go_ret
    exact ⟨rfl, hw⟩
  · have h1i : (x.list.length : Int) ≤ k := by omega
    have h2 : ((k : Int) - x.list.length).toNat = k - x.list.length := by omega
    have h3 : (0 : Int) ≤ (k : Int) - x.list.length := by omega
    have h4 : (k : Int) - x.list.length < s.learned.length := by omega
    have hlt := World.block_lt_of_cell? w _ hc
    rw [block_of_add] at hlt
    go_enter Try.func79, Try.ntmps79
    have hc2 := (hw.cell (p := ad.add (k - x.list.length)) (by rw [block_of_add]; exact hlt)).trans hc
    clear hc
    go_wp2
    go_ret
    exact ⟨rfl, hw⟩
end Go.Proofs.Ytndolbplkjhooaa
