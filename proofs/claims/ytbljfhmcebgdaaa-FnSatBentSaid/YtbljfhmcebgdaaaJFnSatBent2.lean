/- Contracts of the reference's unit propagation: l5Find, l5Vals, l5Units, l5Rup, RupOk. The call's own rows of integers. Contracts of the reference's unit propagation: l5Vals, l5Units, l5Rup, RupOk. Contracts of the reference's l5Rup and RupOk. What growing and setting leave. No program is named here. The program's trail: what lies in memory; what is asked of it. The program's trail: next, push. -/
import Derived.Test.YtbljfhmcebgdaaaJFnSatBent0
import Derived.Test.YtbljfhmcebgdaaaJFnSatBent1
/-! Contracts of the reference's unit propagation: l5Find, l5Vals, l5Units, l5Rup, RupOk. -/
namespace Go.Proofs.Ytbljfhmcebgdaaa
open Go Go.RowKit

def fdS (put : List Int) (cs : List (List Int)) : Int × Int × Int := if 0 ≤ (fd put cs 0 (-1) 0).1 then ((fd put cs 0 (-1) 0).1, -1, 0) else fd put cs 0 (-1) 0
theorem fd_none {put : List Int} {cs : List (List Int)} {j : Nat} {k u f : Int} (h : j < cs.length) (hl : lk put cs[j] 0 0 = none) : fd put (cs.drop j) k u f = fd put (cs.drop (j + 1)) (k + 1) u f := by rw [fd_drop h, hl]
theorem fd_zero {put : List Int} {cs : List (List Int)} {j : Nat} {k u f m : Int} (h : j < cs.length) (hl : lk put cs[j] 0 0 = some (0, m)) : fd put (cs.drop j) k u f = (k, u, f) := by rw [fd_drop h, hl]; rfl
theorem fd_unit {put : List Int} {cs : List (List Int)} {j : Nat} {k u f m : Int} (h : j < cs.length) (hl : lk put cs[j] 0 0 = some (1, m)) (hu : u < 0) : fd put (cs.drop j) k u f = fd put (cs.drop (j + 1)) (k + 1) k m := by
  rw [fd_drop h, hl]; simp [hu]
theorem fd_else {put : List Int} {cs : List (List Int)} {j : Nat} {k u f n m : Int} (h : j < cs.length) (hl : lk put cs[j] 0 0 = some (n, m)) (h0 : n ≠ 0) (h1 : ¬ (n = 1 ∧ u < 0)) : fd put (cs.drop j) k u f = fd put (cs.drop (j + 1)) (k + 1) u f := by
  rw [fd_drop h, hl]; dsimp only; rw [if_neg h0, if_neg h1]
/-- How a clause looks: one is put; none is free; it is a unit, and there was none; or else. -/
theorem look_cases {put : List Int} {cs : List (List Int)} {j : Nat} {u f : Int} (h : j < cs.length) :
    ∃ n m, lkI put cs[j] = (n, m) ∧ ((n = 0 ∧ fd put (cs.drop j) j u f = ((j : Int), u, f)) ∨ (n = 1 ∧ u < 0 ∧ fd put (cs.drop j) j u f = fd put (cs.drop (j + 1)) ((j + 1 : Nat) : Int) j m) ∨ (n ≠ 0 ∧ ¬ (n = 1 ∧ u < 0) ∧ fd put (cs.drop j) j u f = fd put (cs.drop (j + 1)) ((j + 1 : Nat) : Int) u f)) := by
  unfold lkI
  cases hl : lk put cs[j] 0 0 with
  | none => exact ⟨-1, 0, rfl, .inr (.inr ⟨by omega, by omega, by rw [fd_none h hl]; simp⟩)⟩
  | some p =>
    obtain ⟨n, m⟩ := p
    refine ⟨n, m, rfl, ?_⟩
    by_cases h0 : n = 0
    · subst h0; exact .inl ⟨rfl, fd_zero h hl⟩
    by_cases h1 : n = 1 ∧ u < 0
    · obtain ⟨rfl, hu⟩ := h1
      exact .inr (.inl ⟨rfl, hu, by rw [fd_unit h hl hu]; simp⟩)
    · exact .inr (.inr ⟨h0, h1, by rw [fd_else h hl h0 h1]; simp⟩)

set_option maxRecDepth 100000 in
set_option maxHeartbeats 4000000 in
theorem l5Find_any (A B D : Option Addr) (p q r : Nat) (x : C) (ls : List (List Int)) (M : Nat) (put vs : List Int) (F G H : Nat → Prop) (w : World) (h : Lay.int.slice.Sl w F A x.list) (h' : Lay.int.slice.Sl w G B ls) (hv : Lay.int.Sl w H D vs)
    (hF : ∀ b, F b → b < w.heap.size) (hG : ∀ b, G b → b < w.heap.size) (hH : ∀ b, H b → b < w.heap.size) (hgd : Good M put) (hvs : Vals M put vs) (hM : M ≤ 1048576)
    (hr : ∀ cl ∈ x.list ++ ls, (∀ l ∈ cl, l ≠ 0 ∧ -(M : Int) ≤ l ∧ l ≤ M) ∧ cl.length ≤ 1048576) (hn : x.list.length ≤ 1048576) (hn' : ls.length ≤ 1048576) :
    Calls Try.prog 107 #[.agg #[.int .i64 x.many, .slice A x.list.length p], .slice B ls.length q, .slice D vs.length r] w
      fun e w' => e = .returned (.tuple #[.int .i64 (fdS put (x.list ++ ls)).1, .int .i64 (fdS put (x.list ++ ls)).2.1, .int .i64 (fdS put (x.list ++ ls)).2.2]) ∧ Below w.heap.size w w' := by
  have hw : Below w.heap.size w (w.alloc (.cells #[.int .i64 x.many, .slice A x.list.length p] 25)) := (Below.refl _ _).alloc (Nat.le_refl _) _
  have K := h.below hw hF
  have K' := h'.below hw hG
  have KV := hv.below hw hH
  have hFW : ∀ b, F b → b < (w.alloc (.cells #[.int .i64 x.many, .slice A x.list.length p] 25)).heap.size := fun b hb => Nat.lt_of_lt_of_le (hF b hb) hw.size
  have hGW : ∀ b, G b → b < (w.alloc (.cells #[.int .i64 x.many, .slice A x.list.length p] 25)).heap.size := fun b hb => Nat.lt_of_lt_of_le (hG b hb) hw.size
  have hHW : ∀ b, H b → b < (w.alloc (.cells #[.int .i64 x.many, .slice A x.list.length p] 25)).heap.size := fun b hb => Nat.lt_of_lt_of_le (hH b hb) hw.size
  have v1 : (w.alloc (.cells #[.int .i64 x.many, .slice A x.list.length p] 25)).cell? ⟨w.heap.size, 1, none⟩ = some (.slice A x.list.length p) := by simp [go_sem]
  go_enter Try.func107, Try.ntmps107
  go_wp2
  generalize w.alloc (.cells #[.int .i64 x.many, .slice A x.list.length p] 25) = W at *
  have hSW : w.heap.size < W.heap.size := World.block_lt_of_cell? W _ v1
  clear h h' hv
  go_loopw [9, 10, 12] (fun a b i wr => ∃ (j : Nat) (u f : Int), j ≤ x.list.length + ls.length ∧ i = .int .i64 j ∧ a = .int .i64 u ∧ b = .int .i64 f ∧ Below W.heap.size W wr ∧ fd put (x.list ++ ls) 0 (-1) 0 = fd put ((x.list ++ ls).drop j) j u f) (fun _ _ i _ => x.list.length + ls.length - (intOf i).toNat)
  case atStart => exact ⟨0, -1, 0, Nat.zero_le _, rfl, rfl, rfl, Below.refl _ _, by simp⟩
  case round =>
    obtain ⟨j, u, f, hj, rfl, rfl, rfl, hb, ht⟩ := hrel
    have HT := Lib.hid ht
    clear ht
    by_cases hlt : j < x.list.length + ls.length
    · have hall : j < (x.list ++ ls).length := by rw [List.length_append]; exact hlt
      have hbw : Below wr.heap.size wr (wr.alloc (.cells #[] 3)) := (Below.refl _ _).alloc (Nat.le_refl _) _
      have hb9 := bthen hb hbw
      have c1 : (wr.alloc (.cells #[] 3)).cell? ⟨w.heap.size, 1, none⟩ = some (.slice A x.list.length p) := (hb9.cell (p := ⟨w.heap.size, 1, none⟩) hSW).trans v1
      have hsz9 : wr.heap.size ≤ (wr.alloc (.cells #[] 3)).heap.size := hbw.size
      have hFr : ∀ b, F b → b < (wr.alloc (.cells #[] 3)).heap.size := fun b h9 => Nat.lt_of_lt_of_le (hFW b h9) hb9.size
      have hGr : ∀ b, G b → b < (wr.alloc (.cells #[] 3)).heap.size := fun b h9 => Nat.lt_of_lt_of_le (hGW b h9) hb9.size
      have hHr : ∀ b, H b → b < (wr.alloc (.cells #[] 3)).heap.size := fun b h9 => Nat.lt_of_lt_of_le (hHW b h9) hb9.size
      have KV9 := KV.below hb9 hHW
      obtain ⟨hrj, hlj⟩ := hr _ (List.getElem_mem hall)
      obtain ⟨n9, m9, hlk, hcases⟩ := look_cases (put := put) (u := u) (f := f) hall
      have hll : (x.list ++ ls).length = x.list.length + ls.length := List.length_append
      have hnum : (j : Int) < (x.list.length : Int) + ls.length := by omega

      by_cases hjn : j < x.list.length
      · obtain ⟨ad, A', c', rfl, hf, k1, hl1, s1⟩ := (K.below hb9 hFW).at_slice hjn
        have HJ := Lib.hid (show (x.list ++ ls)[j] = x.list[j] from List.getElem_append_left hjn)
        have hjn1 : (j : Int) < x.list.length := by omega
        clear hll
        have HLK := Lib.hid hlk
        have HC := Lib.hid hcases
        clear hlk hcases
        go_wp2_with fail
        refine (l5Look_any D A' r c' M put vs x.list[j] H _ _ KV9 s1 hgd hvs hM (by rw [← HJ.out]; exact hrj) (by rw [← HJ.out]; exact hlj)).mono ?_
        rw [← HJ.out, HLK.out]
        rintro e w2 ⟨rfl, hw2⟩
        rw [← hw2]
        clear hw2 k1 hrj hlj s1 hl1
        rcases HC.out with ⟨rfl, hfd⟩ | ⟨rfl, hu, hfd⟩ | ⟨hn0, hn1, hfd⟩
        · have HE := Lib.hid (show fdS put (x.list ++ ls) = ((j : Int), -1, 0) by unfold fdS; rw [HT.out, hfd]; simp)
          clear hfd
          go_wp2
          go_ret3
          exact ⟨ret_three (by rw [HE.out]) (by rw [HE.out]) (by rw [HE.out]), bthen hw hb9⟩
        · have HE := Lib.hid hfd
          clear hfd
          go_wp2
          go_roundw
          case rel => exact ⟨j + 1, j, m9, by omega, by go_num, rfl, rfl, hb9, by rw [HT.out, HE.out]⟩
          case measure => simp [intOf]; omega
        · have HE := Lib.hid hfd
          have z0 : (n9 == 0) = false := by simp [hn0]
          clear hfd hn0
          by_cases z1 : n9 = 1
          · have hu : ¬ u < 0 := fun h9 => hn1 ⟨z1, h9⟩
            have z1b : (n9 == 1) = true := by simp [z1]
            clear hn1 z1
            go_wp2
            go_roundw
            case rel => exact ⟨j + 1, u, f, by omega, by go_num, rfl, rfl, hb9, by rw [HT.out, HE.out]⟩
            case measure => simp [intOf]; omega
          · have z1b : (n9 == 1) = false := by simp [z1]
            clear hn1 z1
            go_wp2
            go_roundw
            case rel => exact ⟨j + 1, u, f, by omega, by go_num, rfl, rfl, hb9, by rw [HT.out, HE.out]⟩
            case measure => simp [intOf]; omega

      · have hjl : j - x.list.length < ls.length := by omega
        obtain ⟨ad, A', c', rfl, hf, k1, hl1, s1⟩ := (K'.below hb9 hGW).at_slice hjl
        have HJ := Lib.hid (show (x.list ++ ls)[j] = ls[j - x.list.length] from List.getElem_append_right (by omega))
        have hjn1 : ¬ (j : Int) < x.list.length := by omega
        have hsub : ((j : Int) - x.list.length) = ((j - x.list.length : Nat) : Int) := by omega
        have hsub0 : (0 : Int) ≤ (j : Int) - x.list.length := by omega
        have hsub1 : (j : Int) - x.list.length < ls.length := by omega
        have hsub2 : ((j : Int) - x.list.length).toNat = j - x.list.length := by omega
        clear hll hsub
        have HLK := Lib.hid hlk
        have HC := Lib.hid hcases
        clear hlk hcases
        go_wp2_with fail
        refine (l5Look_any D A' r c' M put vs ls[j - x.list.length] H _ _ KV9 s1 hgd hvs hM (by rw [← HJ.out]; exact hrj) (by rw [← HJ.out]; exact hlj)).mono ?_
        rw [← HJ.out, HLK.out]
        rintro e w2 ⟨rfl, hw2⟩
        rw [← hw2]
        clear hw2 k1 hrj hlj s1 hl1
        rcases HC.out with ⟨rfl, hfd⟩ | ⟨rfl, hu, hfd⟩ | ⟨hn0, hn1, hfd⟩
        · have HE := Lib.hid (show fdS put (x.list ++ ls) = ((j : Int), -1, 0) by unfold fdS; rw [HT.out, hfd]; simp)
          clear hfd
          go_wp2
          go_ret3
          exact ⟨ret_three (by rw [HE.out]) (by rw [HE.out]) (by rw [HE.out]), bthen hw hb9⟩
        · have HE := Lib.hid hfd
          clear hfd
          go_wp2
          go_roundw
          case rel => exact ⟨j + 1, j, m9, by omega, by go_num, rfl, rfl, hb9, by rw [HT.out, HE.out]⟩
          case measure => simp [intOf]; omega
        · have HE := Lib.hid hfd
          have z0 : (n9 == 0) = false := by simp [hn0]
          clear hfd hn0
          by_cases z1 : n9 = 1
          · have hu : ¬ u < 0 := fun h9 => hn1 ⟨z1, h9⟩
            have z1b : (n9 == 1) = true := by simp [z1]
            clear hn1 z1
            go_wp2
            go_roundw
            case rel => exact ⟨j + 1, u, f, by omega, by go_num, rfl, rfl, hb9, by rw [HT.out, HE.out]⟩
            case measure => simp [intOf]; omega
          · have z1b : (n9 == 1) = false := by simp [z1]
            clear hn1 z1
            go_wp2
            go_roundw
            case rel => exact ⟨j + 1, u, f, by omega, by go_num, rfl, rfl, hb9, by rw [HT.out, HE.out]⟩
            case measure => simp [intOf]; omega

    · have hje : j = x.list.length + ls.length := by omega
      subst hje
      have HE := Lib.hid (show fdS put (x.list ++ ls) = (-1, u, f) by
        have h9 : fd put (x.list ++ ls) 0 (-1) 0 = (-1, u, f) := by rw [HT.out, ← List.length_append, List.drop_length]; rfl
        unfold fdS; rw [h9]; simp)
      have c1 : wr.cell? ⟨w.heap.size, 1, none⟩ = some (.slice A x.list.length p) := (hb.cell (p := ⟨w.heap.size, 1, none⟩) hSW).trans v1
      go_wp2
      go_ret3
      exact ⟨ret_three (by rw [HE.out]) (by rw [HE.out]) (by rw [HE.out]), bthen hw hb⟩

end Go.Proofs.Ytbljfhmcebgdaaa

/-! The call's own rows of integers. -/
namespace Go.Proofs.Ytbljfhmcebgdaaa
open Go Go.RowKit

theorem src_ints {w : World} {F : Nat → Prop} {A : Option Addr} {xs : List Int} (h : Lay.int.Sl w F A xs) : Src w 1 A xs.length (xs.map (Value.int .i64)) := by
  refine ⟨by simp, fun h0 => ?_⟩
  obtain ⟨ad, rfl, _, hc⟩ := h h0
  refine ⟨ad, rfl, fun j u hu => ?_⟩
  rw [List.getElem?_map] at hu
  cases hx : xs[j]? with
  | none => rw [hx] at hu; cases hu
  | some x =>
    rw [hx] at hu
    injection hu with hu
    subst hu
    obtain ⟨vs, rfl, hcell⟩ := hc j x hx
    have := hcell 0 _ rfl
    rw [show Lay.int.size = 1 from rfl, Nat.mul_one, Nat.add_zero] at this
    exact this
theorem ints_one (xs : List Int) : ∀ u ∈ xs.map (Value.int .i64), u.oneCell' = true := by
  intro u hu
  obtain ⟨x, _, rfl⟩ := List.mem_map.1 hu
  rfl
/-- The call's own row of integers. -/
def OwnI (w : World) (base : Nat) (v : Value) (xs : List Int) : Prop := w.ownsRow base 3 1 v xs.length (xs.map (Value.int .i64))
theorem OwnI.up {w w' : World} {base : Nat} {v : Value} {xs : List Int} (h : OwnI w base v xs) (hb : Below w.heap.size w w') : OwnI w' base v xs := own_below h hb (Nat.le_refl _)
theorem OwnI.form {w : World} {base : Nat} {v : Value} {xs : List Int} (h : OwnI w base v xs) : ∃ A c, v = .slice A xs.length c ∧ xs.length ≤ c ∧ Lay.int.Sl w (fun b => base ≤ b ∧ b < w.heap.size) A xs := by
  have hh := h
  unfold OwnI at h
  rcases h.2 with ⟨h1, h2⟩ | ⟨g, cap, cur, h1, _, _, h3, _⟩
  · subst h1
    have : xs = [] := List.eq_nil_of_length_eq_zero h2
    subst this
    exact ⟨none, 0, rfl, by simp, .nil _ _ _ _⟩
  · subst h1
    exact ⟨_, cap, rfl, h3, (sl_ints_of_own hh (fun g h1 h2 => ⟨h1, h2⟩)).1⟩
theorem OwnI.rd {w : World} {base c : Nat} {A : Option Addr} {xs : List Int} (h : OwnI w base (.slice A xs.length c) xs) : Lay.int.Rd w A xs := by
  obtain ⟨A', c', e, h1, h2⟩ := h.form
  injection e with e1 e2 e3
  subst e1
  exact h2.rd
end Go.Proofs.Ytbljfhmcebgdaaa

/-! Contracts of the reference's unit propagation: l5Vals, l5Units, l5Rup, RupOk. -/
namespace Go.Proofs.Ytbljfhmcebgdaaa
open Go Go.RowKit

theorem sg_snoc {put : List Int} {l v : Int} (h1 : l ∉ put) (h2 : -l ∉ put) (hv : 0 < v) : sg (put ++ [l]) v = if v = l then 1 else if v = -l then -1 else sg put v := by
  unfold sg
  by_cases e1 : v = l
  · subst e1; simp
  by_cases e2 : v = -l
  · subst e2
    have h3 : - -l = l := by omega
    simp [e1, h2, h3]
  · have e3 : -v ≠ l := fun e => e2 (by omega)
    simp [e1, e2, e3]
theorem Good.at {many : Int} {put : List Int} (h : Good many put) {k : Nat} (hk : k < put.length) : put[k] ∉ put.take k ∧ -put[k] ∉ put.take k := by
  have hp := List.pairwise_iff_getElem.1 h.nodup
  refine ⟨fun hm => ?_, fun hm => ?_⟩
  all_goals
    obtain ⟨i, hi, e⟩ := List.getElem_of_mem hm
    have hik : i < k := by simp at hi; omega
    rw [List.getElem_take] at e
    exact hp i k (by simp <;> omega) (by simpa using hk) hik (by simp only [List.getElem_map, e] <;> omega)

theorem ret_slice {A : Option Addr} {n m c : Nat} (h : n = m) : Ending.returned (.slice A n c) = .returned (.slice A m c) := by rw [h]
def RetV (M : Nat) (put : List Int) (w : World) (e : Ending) (w' : World) : Prop :=
  ∃ A c vs, e = .returned (.slice A vs.length c) ∧ Vals M put vs ∧ Lay.int.Rd w' A vs ∧ Below w.heap.size w w'
set_option maxHeartbeats 1000000 in
theorem l5Vals_any (A B : Option Addr) (p q M : Nat) (x : C) (put : List Int) (G : Nat → Prop) (w : World) (hM : x.many = (M : Int)) (hM2 : M ≤ 1000000) (h : Lay.int.Sl w G B put) (hG : ∀ b, G b → b < w.heap.size) (hg : Good M put) (hn : put.length ≤ 1048576) :
    Calls Try.prog 53 #[.agg #[.int .i64 x.many, .slice A x.list.length p], .slice B put.length q] w (RetV M put w) := by
  obtain ⟨i0, hi0, hz0, hz1, hz2⟩ := info_parts int_info
  have hw : Below w.heap.size w (w.alloc (.cells #[.int .i64 x.many, .slice A x.list.length p] 25)) := (Below.refl _ _).alloc (Nat.le_refl _) _
  have K := h.below hw hG
  have hGW : ∀ b, G b → b < (w.alloc (.cells #[.int .i64 x.many, .slice A x.list.length p] 25)).heap.size := fun b h9 => Nat.lt_of_lt_of_le (hG b h9) hw.size
  rw [hM] at *
  go_enter Try.func53, Try.ntmps53
  go_wp2_with (at_make; refine wpList_make_full _ rfl _ _ 26 rfl (w.alloc (.cells #[.int .i64 (M : Int), .slice A x.list.length p] 25)).heap.size 3 i0 _ 1 Try.underlying26 hi0 hz0 hz1 .i64 .i64 _ _ (M + 1) rfl rfl (by push_cast; rfl) (by push_cast; rfl) (by rw [hz2]; omega) (by unfold maxLen; omega) (Nat.le_refl _) ?_; intro w1 hown hg1)
  have H1 := Lib.hid hg1
  clear hg1 hi0 hz0 hz1 hz2
  have hWS : (w.alloc (.cells #[.int .i64 (M : Int), .slice A x.list.length p] 25)).heap.size = w.heap.size + 1 := by simp
  generalize w.alloc (.cells #[.int .i64 (M : Int), .slice A x.list.length p] 25) = W at *
  have hb1 : Below W.heap.size W w1 := (Below.refl _ _).grown H1.out (Nat.le_refl _) (by simp)
  rw [show (madeCells (Value.int .i64 0).cells ((M + 1) * 1)).toList = (List.replicate (M + 1) (0 : Int)).map (Value.int .i64) from by
    rw [show (Value.int .i64 0).cells = #[Value.int .i64 0] from rfl, toList_madeCells_one]; simp] at hown
  rw [hWS] at hown
  have hWle : W.heap.size ≤ w.heap.size + 1 := by omega
  have HWS := Lib.hid hWS
  clear hWS
  go_loopw [6] (fun i wr => ∃ (k : Nat) (vs : List Int), k ≤ put.length ∧ i = .int .i64 k ∧ Below W.heap.size W wr ∧ wr.ownsRow (w.heap.size + 1) 3 1 (.slice (some ⟨w.heap.size + 1, 0, none⟩) (M + 1) (M + 1)) (M + 1) (vs.map (Value.int .i64)) ∧ Vals M (put.take k) vs)
    (fun i _ => put.length - (intOf i).toNat)
  case atStart => exact ⟨0, _, Nat.zero_le _, rfl, hb1, hown, by simp, fun v h1 h2 => by rw [List.getElem?_replicate, if_pos (by omega)]; rfl⟩
  case round =>
    obtain ⟨k, vs, hk, rfl, hb, ho, hvs⟩ := hrel
    have HV := Lib.hid hvs
    clear hvs
    by_cases hlt : k < put.length
    · obtain ⟨ad, rfl, hf, hc⟩ := (K.below hb hGW).at_int hlt
      have hk1 : (k : Int) < put.length := by omega
      obtain ⟨hr0, hr1, hr2⟩ := hg.rng _ (List.getElem_mem hlt)
      obtain ⟨hm1, hm2⟩ := hg.at hlt
      have htk : put.take (k + 1) = put.take k ++ [put[k]] := List.take_succ_eq_append_getElem hlt
      have hsn : ∀ v : Int, 0 < v → sg (put.take (k + 1)) v = if v = put[k] then 1 else if v = -put[k] then -1 else sg (put.take k) v := fun v hv => by rw [htk]; exact sg_snoc hm1 hm2 hv
      have HSN := Lib.hid hsn
      clear hsn htk hm1 hm2
      generalize put[k] = l at *
      have hlen : vs.length = M + 1 := HV.out.1
      by_cases hp : 0 < l
      · have hi : l.toNat < M + 1 := by omega
        have hi0 : (0 : Int) ≤ l := by omega
        have hi1 : l < ((M + 1 : Nat) : Int) := by omega
        have hi2 : l < (M : Int) + 1 := by omega
        have hst := ho.stored l.toNat (.int .i64 1)
        have hold : wr.cell? ⟨w.heap.size + 1, l.toNat, none⟩ = _ := ho.cellAt l.toNat (by omega)
        rw [List.getElem?_map, List.getElem?_eq_getElem (by omega), Option.map_some] at hold
        have hfr : wr.frozen? ⟨w.heap.size + 1, l.toNat, none⟩ = false := ho.frozenAt l.toNat
        have HVN : Hid (Vals M (put.take (k + 1)) (vs.set l.toNat 1)) := Lib.hid ⟨by simp [hlen], fun v h1 h2 => by
          rw [HSN.out v (by omega), List.getElem?_set]
          by_cases e : l.toNat = v
          · rw [if_pos e, if_pos (by omega), if_pos (by omega)]
          · rw [if_neg e, HV.out.2 v h1 h2, if_neg (by omega), if_neg (by omega)]⟩
        have HST := Lib.hid hst.1
        clear hst
        go_wp2
        go_roundw
        case rel => exact ⟨k + 1, _, by omega, by go_num, hb.setCell hWle _, by rw [List.map_set]; exact HST.out, HVN.out⟩
        case measure => simp [intOf]; omega
      · have hi : (-l).toNat < M + 1 := by omega
        have hi0 : (0 : Int) ≤ -l := by omega
        have hi1 : -l < ((M + 1 : Nat) : Int) := by omega
        have hi2 : -l < (M : Int) + 1 := by omega
        have hst := ho.stored (-l).toNat (.int .i64 (-1))
        have hold : wr.cell? ⟨w.heap.size + 1, (-l).toNat, none⟩ = _ := ho.cellAt (-l).toNat (by omega)
        rw [List.getElem?_map, List.getElem?_eq_getElem (by omega), Option.map_some] at hold
        have hfr : wr.frozen? ⟨w.heap.size + 1, (-l).toNat, none⟩ = false := ho.frozenAt (-l).toNat
        have HVN : Hid (Vals M (put.take (k + 1)) (vs.set (-l).toNat (-1))) := Lib.hid ⟨by simp [hlen], fun v h1 h2 => by
          rw [HSN.out v (by omega), List.getElem?_set]
          by_cases e : (-l).toNat = v
          · rw [if_pos e, if_pos (by omega), if_neg (by omega), if_pos (by omega)]
          · rw [if_neg e, HV.out.2 v h1 h2, if_neg (by omega), if_neg (by omega)]⟩
        have HST := Lib.hid hst.1
        clear hst
        go_wp2
        go_roundw
        case rel => exact ⟨k + 1, _, by omega, by go_num, hb.setCell hWle _, by rw [List.map_set]; exact HST.out, HVN.out⟩
        case measure => simp [intOf]; omega
    · have hke : k = put.length := by omega
      subst hke
      have hlen : vs.length = M + 1 := HV.out.1
      have hvs := HV.out
      rw [List.take_length] at hvs
      have HV2 := Lib.hid hvs
      have hrd : Lay.int.Rd wr (some ⟨w.heap.size + 1, 0, none⟩) vs := (sl_ints_of_own (F := fun b => b < wr.heap.size) ho (fun g _ h9 => h9)).1
      have HL := Lib.hid hlen
      clear hlen hvs
      go_wp2
      go_ret
      exact ⟨some ⟨w.heap.size + 1, 0, none⟩, M + 1, vs, ret_slice (by rw [HL.out]), HV2.out, hrd, bthen hw hb⟩

def ValsAt (M : Nat) (put : List Int) (v : Value) (x : World) : Prop := ∃ (A : Option Addr) (c : Nat) (vs : List Int), v = .slice A vs.length c ∧ Vals M put vs ∧ Lay.int.Rd x A vs
theorem ValsAt.up {M : Nat} {put : List Int} {v : Value} {x x' : World} (h : ValsAt M put v x) (hb : Below x.heap.size x x') : ValsAt M put v x' := by
  obtain ⟨A, c, vs, h1, h2, h3⟩ := h
  exact ⟨A, c, vs, h1, h2, h3.up hb⟩
def Fact.vals (M : Nat) (put : List Int) : Fact := .of (ValsAt M put) fun _ _ _ h hb => h.up hb
def lenOf : Value → Nat
  | .slice _ n _ => n
  | _ => 0
end Go.Proofs.Ytbljfhmcebgdaaa

/-! Contracts of the reference's l5Rup and RupOk. -/
namespace Go.Proofs.Ytbljfhmcebgdaaa
open Go Go.RowKit

end Go.Proofs.Ytbljfhmcebgdaaa

/-! What growing and setting leave. No program is named here. -/
namespace Go.Proofs.Ytbljfhmcebgdaaa
open Go Go.RowKit

theorem grown_then {a w w' : World} {row : Option Nat} (h : Below a.heap.size a w) (h' : w.grownBy w' row) : a.grownBy w' row :=
  ⟨h'.os.trans h.os, h'.tape.trans h.tape, h'.output.trans h.output, Nat.le_trans h.size h'.size, fun i hi hne => (h'.block i (Nat.lt_of_lt_of_le hi h.size) hne).trans (h.block i hi)⟩
theorem heap_set_same (w : World) (r : Nat) (o : Nat) (u : Value) (cs : Array Value) (t : TypeId) (h : w.heap[r]? = some (.cells cs t (0, 0))) : (w.setCell ⟨r, o, none⟩ u).heap[r]? = some (.cells (cs.setIfInBounds o u) t (0, 0)) := by
  unfold World.setCell
  simp only [Array.getElem?_modify, if_true]
  rw [h]
  rfl
theorem cell_of_block {w : World} {r : Nat} {cs : Array Value} {t : TypeId} (h : w.heap[r]? = some (.cells cs t (0, 0))) (i : Nat) : w.cell? ⟨r, i, none⟩ = cs[i]? ∧ w.frozen? ⟨r, i, none⟩ = false := by
  unfold World.cell? World.frozen?
  simp [h]
theorem size_setCell (w : World) (a : Addr) (v : Value) : (w.setCell a v).heap.size = w.heap.size := by simp [World.setCell]
theorem rows_kept {w w' : World} {base : Nat} {e : TypeId} {size n : Nat} {v : Value} {xs : List Value} {b : Option Nat} (h : w.ownsRow base e size v n xs) (hg : w.grownBy w' b) (hd : ∀ g, v.ownBlock = some g → b ≠ some g) : w'.ownsRow base e size v n xs :=
  h.kept hg (by
    rcases hv : v.ownBlock with _ | g
    · exact .inl rfl
    · exact .inr (fun e => hd g hv e.symm))
theorem rows_set {w : World} {base : Nat} {e : TypeId} {size n : Nat} {v : Value} {xs : List Value} (h : w.ownsRow base e size v n xs) (r o : Nat) (u : Value) (hd : v.ownBlock ≠ some r) : (w.setCell ⟨r, o, none⟩ u).ownsRow base e size v n xs :=
  rows_kept h (only_setCell (World.grownBy.refl w (some r)) o u) (fun g e e' => hd (e.trans e'.symm))

end Go.Proofs.Ytbljfhmcebgdaaa

/-! The program's trail: what lies in memory; what is asked of it. -/
namespace Go.Proofs.Ytbljfhmcebgdaaa
open Go Go.RowKit

theorem variable_any (n : Int) (w : World) (h0 : -9223372036854775808 < n) (h1 : n ≤ 9223372036854775807) :
    Calls Try.prog 93 #[.int .i64 n] w fun e w' => e = .returned (.int .i64 n.natAbs) ∧ w = w' := by
  by_cases h : n < 0
  all_goals
    go_enter Try.func93, Try.ntmps93
    go_wp2
    go_ret
    exact ⟨ret_int (by omega), rfl⟩
def litOk (s m : Int) : Bool := decide (s ≠ 0 ∧ -m ≤ s ∧ s ≤ m)
theorem litOf_any (s m : Int) (w : World) (h0 : -9223372036854775808 ≤ s) (h1 : s ≤ 9223372036854775807) (m0 : 0 ≤ m) (m1 : m ≤ 9223372036854775807) :
    Calls Try.prog 103 #[.int .i64 s, .int .i64 m] w fun e w' => e = .returned (.bool (litOk s m)) ∧ w = w' := by
  by_cases hs : s = 0
  · subst hs
    go_enter Try.func103, Try.ntmps103
    go_wp2
    go_ret
    exact ⟨by simp [litOk], rfl⟩
  · by_cases ha : -m ≤ s
    · go_enter Try.func103, Try.ntmps103
      go_wp2
      go_ret
      exact ⟨ret_bool (by simp [litOk, hs, ha]), rfl⟩
    · go_enter Try.func103, Try.ntmps103
      go_wp2
      go_ret
      exact ⟨ret_bool (by simp [litOk, hs]; omega), rfl⟩

/-- The places say of each variable where it is put, plus one; 0 if it is not. -/
def PlacesOk (M : Nat) (put pl : List Int) : Prop :=
  pl.length = M + 1 ∧ ∀ v : Nat, 1 ≤ v → v ≤ M → (∃ k, ∃ h : k < put.length, put[k].natAbs = v ∧ pl[v]? = some ((k : Int) + 1)) ∨ ((∀ l ∈ put, l.natAbs ≠ v) ∧ pl[v]? = some 0)
/-- Block t leads to three rows. -/
structure TrB (lo : Nat) (S : Nat → Prop) (M : Nat) (w : World) (t : Nat) (put ls : List Int) (A B : Option Addr) (c d Q : Nat) (pl : List Int) : Prop where
  blk : w.heap[t]? = some (.cells #[.slice A put.length c, .slice (some ⟨Q, 0, none⟩) (M + 1) (M + 1), .slice B ls.length d] 108 (0, 0))
  hlo : lo ≤ t
  hput : OwnI w lo (.slice A put.length c) put
  hpl : w.ownsRow lo 3 1 (.slice (some ⟨Q, 0, none⟩) (M + 1) (M + 1)) (M + 1) (pl.map (Value.int .i64))
  hls : OwnI w lo (.slice B ls.length d) ls
  d1 : (Value.slice A put.length c).ownBlock ≠ some Q
  d2 : (Value.slice B ls.length d).ownBlock ≠ some Q
  d3 : ∀ g, (Value.slice A put.length c).ownBlock = some g → (Value.slice B ls.length d).ownBlock ≠ some g
  d4 : ∀ x, S x → x < w.heap.size ∧ x ≠ t ∧ x ≠ Q ∧ (Value.slice A put.length c).ownBlock ≠ some x ∧ (Value.slice B ls.length d).ownBlock ≠ some x
/-- Block t is a trail. -/
structure TrAt (lo : Nat) (S : Nat → Prop) (M : Nat) (w : World) (t : Nat) (put ls : List Int) (A B : Option Addr) (c d Q : Nat) (pl : List Int) : Prop extends TrB lo S M w t put ls A B c d Q pl where
  ok : PlacesOk M put pl
  len : ls.length = put.length
  lv : ∀ x ∈ ls, 0 ≤ x ∧ x ≤ ls.length
theorem TrB.up {lo M : Nat} {S : Nat → Prop} {w w' : World} {t : Nat} {put ls : List Int} {A B : Option Addr} {c d Q : Nat} {pl : List Int} (h : TrB lo S M w t put ls A B c d Q pl) (hb : Below w.heap.size w w') : TrB lo S M w' t put ls A B c d Q pl :=
  ⟨(hb.block t (lt_of_block h.blk)).trans h.blk, h.hlo, h.hput.up hb, own_below h.hpl hb (Nat.le_refl _), h.hls.up hb, h.d1, h.d2, h.d3, fun x hx => ⟨Nat.lt_of_lt_of_le (h.d4 x hx).1 hb.size, (h.d4 x hx).2⟩⟩
def Tr (lo : Nat) (S : Nat → Prop) (M : Nat) (w : World) (t : Nat) (put ls : List Int) : Prop := ∃ A B c d Q pl, TrAt lo S M w t put ls A B c d Q pl
theorem TrAt.up {lo M : Nat} {S : Nat → Prop} {w w' : World} {t : Nat} {put ls : List Int} {A B : Option Addr} {c d Q : Nat} {pl : List Int} (h : TrAt lo S M w t put ls A B c d Q pl) (hb : Below w.heap.size w w') : TrAt lo S M w' t put ls A B c d Q pl :=
  ⟨h.toTrB.up hb, h.ok, h.len, h.lv⟩
theorem Tr.up {lo M : Nat} {S : Nat → Prop} {w w' : World} {t : Nat} {put ls : List Int} (h : Tr lo S M w t put ls) (hb : Below w.heap.size w w') : Tr lo S M w' t put ls := by
  obtain ⟨A, B, c, d, Q, pl, h⟩ := h
  exact ⟨A, B, c, d, Q, pl, h.up hb⟩
theorem Tr.lt {lo M : Nat} {S : Nat → Prop} {w : World} {t : Nat} {put ls : List Int} (h : Tr lo S M w t put ls) : lo ≤ t ∧ t < w.heap.size := by
  obtain ⟨A, B, c, d, Q, pl, h⟩ := h
  exact ⟨h.hlo, lt_of_block h.blk⟩
theorem quiet_drawn {P : Program} {f : FuncId} {args : Array Value} {w : World} {n : Nat} {v : Value}
    (h : Calls P f args (w.drewN n) fun e w' => e = .returned v ∧ ∃ k, w' = (w.drewN n).drewN k) : Calls P f args (w.drewN n) fun e w'' => e = .returned v ∧ ∃ m, w'' = w.drewN m :=
  h.mono fun _ _ ⟨he, k, hk⟩ => ⟨he, n + k, by rw [hk, World.drewN_drewN]⟩
/-- The mark's variable is put. -/
def isPut (put : List Int) (l : Int) : Bool := decide (l ∈ put ∨ -l ∈ put)
theorem places_at {M : Nat} {put pl : List Int} (h : PlacesOk M put pl) {l : Int} (h0 : l ≠ 0) (h1 : -(M : Int) ≤ l) (h2 : l ≤ M) :
    ∃ p : Int, pl[l.natAbs]? = some p ∧ ((isPut put l = true ∧ ∃ k, ∃ hk : k < put.length, put[k].natAbs = l.natAbs ∧ p = (k : Int) + 1) ∨ (isPut put l = false ∧ p = 0)) := by
  rcases h.2 l.natAbs (by omega) (by omega) with ⟨k, hk, he, hp⟩ | ⟨hn, hp⟩
  · refine ⟨_, hp, .inl ⟨?_, k, hk, he, rfl⟩⟩
    unfold isPut
    rw [decide_eq_true_eq]
    have hm : put[k] ∈ put := List.getElem_mem hk
    have : put[k] = l ∨ put[k] = -l := by omega
    rcases this with e | e
    · exact .inl (e ▸ hm)
    · exact .inr (e ▸ hm)
  · refine ⟨_, hp, .inr ⟨?_, rfl⟩⟩
    unfold isPut
    rw [decide_eq_false_iff_not]
    rintro (hm | hm)
    · exact hn _ hm rfl
    · exact hn _ hm (by omega)

theorem assigned_any (lo : Nat) (S : Nat → Prop) (M t : Nat) (put ls : List Int) (l : Int) (w : World) (h : Tr lo S M w t put ls) (h0 : l ≠ 0) (h1 : -(M : Int) ≤ l) (h2 : l ≤ M) (hM : M ≤ 1000000) :
    Calls Try.prog 104 #[.pointer (some ⟨t, 0, none⟩), .int .i64 l] w fun e w' => e = .returned (.bool (isPut put l)) ∧ ∃ n, w' = w.drewN n := by
  obtain ⟨A, B, c, d, Q, pl, h⟩ := h
  obtain ⟨p, hp, hcase⟩ := places_at h.ok h0 h1 h2
  have z1 : w.cell? ⟨t, 1, none⟩ = some (.slice (some ⟨Q, 0, none⟩) (M + 1) (M + 1)) := (cell_of_block h.blk 1).1
  have hlt : l.natAbs < M + 1 := by omega
  have z2 : w.cell? ⟨Q, l.natAbs, none⟩ = some (.int .i64 p) := by
    have := h.hpl.cellAt l.natAbs (by omega)
    rw [this, List.getElem?_map, hp]; rfl
  have hq : (p != 0) = isPut put l := by
    rcases hcase with ⟨e, k, _, _, rfl⟩ | ⟨e, rfl⟩
    · rw [e]; simp; omega
    · rw [e]; simp
  obtain ⟨na, hna⟩ : ∃ na : Int, na = l.natAbs := ⟨_, rfl⟩
  have qa : ∀ W : World, Calls Try.prog 93 #[.int .i64 l] W fun e w' => e = .returned (.int .i64 na) ∧ W = w' := fun W => by rw [hna]; exact variable_any l W (by omega) (by omega)
  have Qa := Lib.hid qa
  have hn0 : 0 ≤ na := by omega
  have hn1 : na < (M : Int) + 1 := by omega
  have hn2 : na < ((M + 1 : Nat) : Int) := by omega
  have hn3 : na.toNat = l.natAbs := by omega
  rw [← hn3] at z2
  have HQ := Lib.hid hq
  clear qa hna hp hcase hq hn3
  go_enter Try.func104, Try.ntmps104
  go_wp2
  go_quiet ((go_at_call 93; with_reducible exact quiet_left (Qa.out _)))
  go_wp2
  go_ret
  exact ⟨ret_bool (by rw [← HQ.out]), _, rfl⟩

theorem isTrue_any (lo : Nat) (S : Nat → Prop) (M t : Nat) (put ls : List Int) (l : Int) (w : World) (h : Tr lo S M w t put ls) (hg : Good M put) (h0 : l ≠ 0) (h1 : -(M : Int) ≤ l) (h2 : l ≤ M) (hM : M ≤ 1000000) :
    Calls Try.prog 112 #[.pointer (some ⟨t, 0, none⟩), .int .i64 l] w fun e w' => e = .returned (.bool (decide (l ∈ put))) ∧ ∃ n, w' = w.drewN n := by
  have has : ∀ n, Calls Try.prog 104 #[.pointer (some ⟨t, 0, none⟩), .int .i64 l] (w.drewN n) fun e w' => e = .returned (.bool (isPut put l)) ∧ ∃ k, w' = (w.drewN n).drewN k :=
    fun n => assigned_any lo S M t put ls l (w.drewN n) (h.up (below_drewN (Below.refl _ _) n)) h0 h1 h2 hM
  obtain ⟨A, B, c, d, Q, pl, h⟩ := h
  obtain ⟨p, hp, hcase⟩ := places_at h.ok h0 h1 h2
  rcases hcase with ⟨e, k, hk, hek, rfl⟩ | ⟨e, rfl⟩
  · have HAS := Lib.hid has
    have z0 : w.cell? ⟨t, 0, none⟩ = some (.slice A put.length c) := (cell_of_block h.blk 0).1
    have z1 : w.cell? ⟨t, 1, none⟩ = some (.slice (some ⟨Q, 0, none⟩) (M + 1) (M + 1)) := (cell_of_block h.blk 1).1
    have z2 : w.cell? ⟨Q, l.natAbs, none⟩ = some (.int .i64 ((k : Int) + 1)) := by
      have := h.hpl.cellAt l.natAbs (by omega)
      rw [this, List.getElem?_map, hp]; rfl
    obtain ⟨ad, rfl, _, z3⟩ := (OwnI.rd h.hput).at_int hk
    have hml := hg.length
    have hkb : k < 1000001 := by omega
    have hmem : (put[k] == l) = decide (l ∈ put) := by
      have hm : put[k] ∈ put := List.getElem_mem hk
      have hor : put[k] = l ∨ put[k] = -l := by omega
      rw [Bool.eq_iff_iff]
      simp only [beq_iff_eq, decide_eq_true_eq]
      constructor
      · intro e; exact e ▸ hm
      · intro hl
        rcases hor with e | e
        · exact e
        · exact (hg.apart hl (e ▸ hm)).elim
    have HMEM := Lib.hid hmem
    obtain ⟨na, hna⟩ : ∃ na : Int, na = l.natAbs := ⟨_, rfl⟩
    have qa : ∀ W : World, Calls Try.prog 93 #[.int .i64 l] W fun e w' => e = .returned (.int .i64 na) ∧ W = w' := fun W => by rw [hna]; exact variable_any l W (by omega) (by omega)
    have Qa := Lib.hid qa
    have hn0 : 0 ≤ na := by omega
    have hn1 : na < (M : Int) + 1 := by omega
    have hn2 : na < ((M + 1 : Nat) : Int) := by omega
    have hn3 : na.toNat = l.natAbs := by omega
    rw [← hn3] at z2
    have hk0 : (0 : Int) ≤ k := by omega
    have hk1 : (k : Int) < put.length := by omega
    have e1 : IntKind.i64.wrap ((k : Int) + 1 - 1) = (k : Int) := by rw [Int.add_sub_cancel]; exact IntWalk.i64_in _ (by omega)
    have hee := e
    rw [e] at has HAS
    have HAS := HAS
    generalize put[k] = a at *
    clear qa hna hp hn3 has e hee hek hmem
    go_enter Try.func112, Try.ntmps112
    go_wp2
    go_quiet ((first | (go_at_call 93; with_reducible exact quiet_left (Qa.out _)) | (go_at_call 104; with_reducible exact quiet_drawn (HAS.out _))))
    go_wp2
    go_ret
    exact ⟨ret_bool (by rw [← HMEM.out]), _, rfl⟩
  · rw [e] at has
    have HAS := Lib.hid has
    have HM : Hid (decide (l ∈ put) = false) := Lib.hid (by unfold isPut at e; rw [decide_eq_false_iff_not] at e ⊢; exact fun h9 => e (.inl h9))
    clear has e hp
    go_enter Try.func112, Try.ntmps112
    go_wp2
    go_quiet ((go_at_call 104; with_reducible exact quiet_drawn (HAS.out _)))
    go_wp2
    go_ret
    exact ⟨ret_bool (by rw [HM.out]), _, rfl⟩

theorem Tr.drewN {lo M : Nat} {S : Nat → Prop} {w : World} {t : Nat} {put ls : List Int} (h : Tr lo S M w t put ls) (n : Nat) : Tr lo S M (w.drewN n) t put ls := h.up (below_drewN (Below.refl _ _) n)
end Go.Proofs.Ytbljfhmcebgdaaa

/-! The program's trail: next, push. -/
namespace Go.Proofs.Ytbljfhmcebgdaaa
open Go Go.RowKit

end Go.Proofs.Ytbljfhmcebgdaaa
