/- Contracts of the reference's unit propagation: l5Find, l5Vals, l5Units, l5Rup, RupOk. -/
import Derived.Test.YtndolbplkjhooaaCnf2
import Derived.Test.YtndolbplkjhooaaSoft
namespace Go.Proofs.Ytndolbplkjhooaa
open Go Go.RowKit

def fdS (put : List Int) (cs : List (List Int)) : Int × Int × Int := if 0 ≤ (fd put cs 0 (-1) 0).1 then ((fd put cs 0 (-1) 0).1, -1, 0) else fd put cs 0 (-1) 0
theorem fd_none {put : List Int} {cs : List (List Int)} {j : Nat} {k u f : Int} (h : j < cs.length) (hl : lk put cs[j] 0 0 = none) : fd put (cs.drop j) k u f = fd put (cs.drop (j + 1)) (k + 1) u f := by rw [fd_drop h, hl]
theorem fd_zero {put : List Int} {cs : List (List Int)} {j : Nat} {k u f m : Int} (h : j < cs.length) (hl : lk put cs[j] 0 0 = some (0, m)) : fd put (cs.drop j) k u f = (k, u, f) := by rw [fd_drop h, hl]; rfl
theorem fd_unit {put : List Int} {cs : List (List Int)} {j : Nat} {k u f m : Int} (h : j < cs.length) (hl : lk put cs[j] 0 0 = some (1, m)) (hu : u < 0) : fd put (cs.drop j) k u f = fd put (cs.drop (j + 1)) (k + 1) k m := by
  rw [fd_drop h, hl]; simp [hu]
theorem fd_else {put : List Int} {cs : List (List Int)} {j : Nat} {k u f n m : Int} (h : j < cs.length) (hl : lk put cs[j] 0 0 = some (n, m)) (h0 : n ≠ 0) (h1 : ¬ (n = 1 ∧ u < 0)) : fd put (cs.drop j) k u f = fd put (cs.drop (j + 1)) (k + 1) u f := by
  rw [fd_drop h, hl]; dsimp only; rw [if_neg h0, if_neg h1]
theorem lk_nonneg {put : List Int} : ∀ {cl : List Int} {n f n' f' : Int}, 0 ≤ n → lk put cl n f = some (n', f') → 0 ≤ n'
  | [], n, f, n', f', h0, h => by simp only [lk, Option.some.injEq, Prod.mk.injEq] at h; omega
  | l :: ls, n, f, n', f', h0, h => by
    simp only [lk] at h
    split at h
    · cases h
    · split at h
      · exact lk_nonneg h0 h
      · exact lk_nonneg (by omega) h
/-- How a clause looks: one is put; none is free; it is a unit, and there was none; or else. -/
theorem look_cases {put : List Int} {cs : List (List Int)} {j : Nat} {u f : Int} (h : j < cs.length) :
    ∃ n m, lkI put cs[j] = (n, m) ∧ ((n = 0 ∧ fd put (cs.drop j) j u f = ((j : Int), u, f)) ∨ (n = 1 ∧ u < 0 ∧ fd put (cs.drop j) j u f = fd put (cs.drop (j + 1)) ((j + 1 : Nat) : Int) j m) ∨ (n ≠ 0 ∧ ¬ (n = 1 ∧ u < 0) ∧ fd put (cs.drop j) j u f = fd put (cs.drop (j + 1)) ((j + 1 : Nat) : Int) u f)) := by
  unfold lkI
  cases hl : lk put cs[j] 0 0 with
  | none => exact ⟨-1, 0, rfl, .inr (.inr ⟨by omega, by omega, by rw [fd_none h hl]; simp⟩)⟩
  | some p =>
    obtain ⟨n, m⟩ := p
    refine ⟨n, m, rfl, ?_⟩
    by_cases h0 : n = 0
    · subst h0; exact .inl ⟨rfl, fd_zero h hl⟩
    by_cases h1 : n = 1 ∧ u < 0
    · obtain ⟨rfl, hu⟩ := h1
      exact .inr (.inl ⟨rfl, hu, by rw [fd_unit h hl hu]; simp⟩)
    · exact .inr (.inr ⟨h0, h1, by rw [fd_else h hl h0 h1]; simp⟩)

set_option maxRecDepth 100000 in
set_option maxHeartbeats 4000000 in
theorem l5Find_any (A B D : Option Addr) (p q r : Nat) (x : C) (ls : List (List Int)) (M : Nat) (put vs : List Int) (F G H : Nat → Prop) (w : World) (h : Lay.int.slice.Sl w F A x.list) (h' : Lay.int.slice.Sl w G B ls) (hv : Lay.int.Sl w H D vs)
    (hF : ∀ b, F b → b < w.heap.size) (hG : ∀ b, G b → b < w.heap.size) (hH : ∀ b, H b → b < w.heap.size) (hgd : Good M put) (hvs : Vals M put vs) (hM : M ≤ 1048576)
    (hr : ∀ cl ∈ x.list ++ ls, (∀ l ∈ cl, l ≠ 0 ∧ -(M : Int) ≤ l ∧ l ≤ M) ∧ cl.length ≤ 1048576) (hn : x.list.length ≤ 1048576) (hn' : ls.length ≤ 1048576) :
    Calls Try.prog 77 #[.agg #[.int .i64 x.many, .slice A x.list.length p], .slice B ls.length q, .slice D vs.length r] w
      fun e w' => e = .returned (.tuple #[.int .i64 (fdS put (x.list ++ ls)).1, .int .i64 (fdS put (x.list ++ ls)).2.1, .int .i64 (fdS put (x.list ++ ls)).2.2]) ∧ Below w.heap.size w w' := by
  have hw : Below w.heap.size w (w.alloc (.cells #[.int .i64 x.many, .slice A x.list.length p] 28)) := (Below.refl _ _).alloc (Nat.le_refl _) _
  have K := h.below hw hF
  have K' := h'.below hw hG
  have KV := hv.below hw hH
  have hFW : ∀ b, F b → b < (w.alloc (.cells #[.int .i64 x.many, .slice A x.list.length p] 28)).heap.size := fun b hb => Nat.lt_of_lt_of_le (hF b hb) hw.size
  have hGW : ∀ b, G b → b < (w.alloc (.cells #[.int .i64 x.many, .slice A x.list.length p] 28)).heap.size := fun b hb => Nat.lt_of_lt_of_le (hG b hb) hw.size
  have hHW : ∀ b, H b → b < (w.alloc (.cells #[.int .i64 x.many, .slice A x.list.length p] 28)).heap.size := fun b hb => Nat.lt_of_lt_of_le (hH b hb) hw.size
  have v1 : (w.alloc (.cells #[.int .i64 x.many, .slice A x.list.length p] 28)).cell? ⟨w.heap.size, 1, none⟩ = some (.slice A x.list.length p) := by simp [go_sem]
  go_enter Try.func77, Try.ntmps77
  go_wp2
  generalize w.alloc (.cells #[.int .i64 x.many, .slice A x.list.length p] 28) = W at *
  have hSW : w.heap.size < W.heap.size := World.block_lt_of_cell? W _ v1
  clear h h' hv
  go_loopw [9, 10, 12] (fun a b i wr => ∃ (j : Nat) (u f : Int), j ≤ x.list.length + ls.length ∧ i = .int .i64 j ∧ a = .int .i64 u ∧ b = .int .i64 f ∧ Below W.heap.size W wr ∧ fd put (x.list ++ ls) 0 (-1) 0 = fd put ((x.list ++ ls).drop j) j u f) (fun _ _ i _ => x.list.length + ls.length - (intOf i).toNat)
  case atStart => exact ⟨0, -1, 0, Nat.zero_le _, rfl, rfl, rfl, Below.refl _ _, by simp⟩
  case round =>
    obtain ⟨j, u, f, hj, rfl, rfl, rfl, hb, ht⟩ := hrel
    have HT := Lib.hid ht
    clear ht
    by_cases hlt : j < x.list.length + ls.length
    · have hall : j < (x.list ++ ls).length := by rw [List.length_append]; exact hlt
      have hbw : Below wr.heap.size wr (wr.alloc (.cells #[] 3)) := (Below.refl _ _).alloc (Nat.le_refl _) _
      have hb9 := bthen hb hbw
      have c1 : (wr.alloc (.cells #[] 3)).cell? ⟨w.heap.size, 1, none⟩ = some (.slice A x.list.length p) := (hb9.cell (p := ⟨w.heap.size, 1, none⟩) hSW).trans v1
      have hsz9 : wr.heap.size ≤ (wr.alloc (.cells #[] 3)).heap.size := hbw.size
      have hFr : ∀ b, F b → b < (wr.alloc (.cells #[] 3)).heap.size := fun b h9 => Nat.lt_of_lt_of_le (hFW b h9) hb9.size
      have hGr : ∀ b, G b → b < (wr.alloc (.cells #[] 3)).heap.size := fun b h9 => Nat.lt_of_lt_of_le (hGW b h9) hb9.size
      have hHr : ∀ b, H b → b < (wr.alloc (.cells #[] 3)).heap.size := fun b h9 => Nat.lt_of_lt_of_le (hHW b h9) hb9.size
      have KV9 := KV.below hb9 hHW
      obtain ⟨hrj, hlj⟩ := hr _ (List.getElem_mem hall)
      obtain ⟨n9, m9, hlk, hcases⟩ := look_cases (put := put) (u := u) (f := f) hall
      have hll : (x.list ++ ls).length = x.list.length + ls.length := List.length_append
      have hnum : (j : Int) < (x.list.length : Int) + ls.length := by omega

      by_cases hjn : j < x.list.length
      · obtain ⟨ad, A', c', rfl, hf, k1, hl1, s1⟩ := (K.below hb9 hFW).at_slice hjn
        have HJ := Lib.hid (show (x.list ++ ls)[j] = x.list[j] from List.getElem_append_left hjn)
        have hjn1 : (j : Int) < x.list.length := by omega
        clear hll
        have HLK := Lib.hid hlk
        have HC := Lib.hid hcases
        clear hlk hcases
        go_wp2_with fail
        refine (l5Look_any D A' r c' M put vs x.list[j] H _ _ KV9 s1 hgd hvs hM (by rw [← HJ.out]; exact hrj) (by rw [← HJ.out]; exact hlj)).mono ?_
        rw [← HJ.out, HLK.out]
        rintro e w2 ⟨rfl, hw2⟩
        rw [← hw2]
        clear hw2 k1 hrj hlj s1 hl1
        rcases HC.out with ⟨rfl, hfd⟩ | ⟨rfl, hu, hfd⟩ | ⟨hn0, hn1, hfd⟩
        · have HE := Lib.hid (show fdS put (x.list ++ ls) = ((j : Int), -1, 0) by unfold fdS; rw [HT.out, hfd]; simp)
          clear hfd
          go_wp2
          go_ret3
          exact ⟨ret_three (by rw [HE.out]) (by rw [HE.out]) (by rw [HE.out]), bthen hw hb9⟩
        · have HE := Lib.hid hfd
          clear hfd
          go_wp2
          go_roundw
          case rel => exact ⟨j + 1, j, m9, by omega, by go_num, rfl, rfl, hb9, by rw [HT.out, HE.out]⟩
          case measure => simp [intOf]; omega
        · have HE := Lib.hid hfd
          have z0 : (n9 == 0) = false := by simp [hn0]
          clear hfd hn0
          by_cases z1 : n9 = 1
          · have hu : ¬ u < 0 := fun h9 => hn1 ⟨z1, h9⟩
            have z1b : (n9 == 1) = true := by simp [z1]
            clear hn1 z1
            go_wp2
            go_roundw
            case rel => exact ⟨j + 1, u, f, by omega, by go_num, rfl, rfl, hb9, by rw [HT.out, HE.out]⟩
            case measure => simp [intOf]; omega
          · have z1b : (n9 == 1) = false := by simp [z1]
            clear hn1 z1
            go_wp2
            go_roundw
            case rel => exact ⟨j + 1, u, f, by omega, by go_num, rfl, rfl, hb9, by rw [HT.out, HE.out]⟩
            case measure => simp [intOf]; omega

      · have hjl : j - x.list.length < ls.length := by omega
        obtain ⟨ad, A', c', rfl, hf, k1, hl1, s1⟩ := (K'.below hb9 hGW).at_slice hjl
        have HJ := Lib.hid (show (x.list ++ ls)[j] = ls[j - x.list.length] from List.getElem_append_right (by omega))
        have hjn1 : ¬ (j : Int) < x.list.length := by omega
        have hsub : ((j : Int) - x.list.length) = ((j - x.list.length : Nat) : Int) := by omega
        have hsub0 : (0 : Int) ≤ (j : Int) - x.list.length := by omega
        have hsub1 : (j : Int) - x.list.length < ls.length := by omega
        have hsub2 : ((j : Int) - x.list.length).toNat = j - x.list.length := by omega
        clear hll hsub
        have HLK := Lib.hid hlk
        have HC := Lib.hid hcases
        clear hlk hcases
        go_wp2_with fail
        refine (l5Look_any D A' r c' M put vs ls[j - x.list.length] H _ _ KV9 s1 hgd hvs hM (by rw [← HJ.out]; exact hrj) (by rw [← HJ.out]; exact hlj)).mono ?_
        rw [← HJ.out, HLK.out]
        rintro e w2 ⟨rfl, hw2⟩
        rw [← hw2]
        clear hw2 k1 hrj hlj s1 hl1
        rcases HC.out with ⟨rfl, hfd⟩ | ⟨rfl, hu, hfd⟩ | ⟨hn0, hn1, hfd⟩
        · have HE := Lib.hid (show fdS put (x.list ++ ls) = ((j : Int), -1, 0) by unfold fdS; rw [HT.out, hfd]; simp)
          clear hfd
          go_wp2
          go_ret3
          exact ⟨ret_three (by rw [HE.out]) (by rw [HE.out]) (by rw [HE.out]), bthen hw hb9⟩
        · have HE := Lib.hid hfd
          clear hfd
          go_wp2
          go_roundw
          case rel => exact ⟨j + 1, j, m9, by omega, by go_num, rfl, rfl, hb9, by rw [HT.out, HE.out]⟩
          case measure => simp [intOf]; omega
        · have HE := Lib.hid hfd
          have z0 : (n9 == 0) = false := by simp [hn0]
          clear hfd hn0
          by_cases z1 : n9 = 1
          · have hu : ¬ u < 0 := fun h9 => hn1 ⟨z1, h9⟩
            have z1b : (n9 == 1) = true := by simp [z1]
            clear hn1 z1
            go_wp2
            go_roundw
            case rel => exact ⟨j + 1, u, f, by omega, by go_num, rfl, rfl, hb9, by rw [HT.out, HE.out]⟩
            case measure => simp [intOf]; omega
          · have z1b : (n9 == 1) = false := by simp [z1]
            clear hn1 z1
            go_wp2
            go_roundw
            case rel => exact ⟨j + 1, u, f, by omega, by go_num, rfl, rfl, hb9, by rw [HT.out, HE.out]⟩
            case measure => simp [intOf]; omega

    · have hje : j = x.list.length + ls.length := by omega
      subst hje
      have HE := Lib.hid (show fdS put (x.list ++ ls) = (-1, u, f) by
        have h9 : fd put (x.list ++ ls) 0 (-1) 0 = (-1, u, f) := by rw [HT.out, ← List.length_append, List.drop_length]; rfl
        unfold fdS; rw [h9]; simp)
      have c1 : wr.cell? ⟨w.heap.size, 1, none⟩ = some (.slice A x.list.length p) := (hb.cell (p := ⟨w.heap.size, 1, none⟩) hSW).trans v1
      go_wp2
      go_ret3
      exact ⟨ret_three (by rw [HE.out]) (by rw [HE.out]) (by rw [HE.out]), bthen hw hb⟩

end Go.Proofs.Ytndolbplkjhooaa
