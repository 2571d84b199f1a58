/- Contracts of l4Vals and DrawBitsVal: some lists of the sizes that they say. -/
import Derived.Test.YtohchplomjenfaaLit
namespace Go.Proofs.Ytohchplomjenfaa
open Go Go.RowKit

theorem map_set_bool (bs : List Bool) (j : Nat) (b : Bool) : (bs.map Value.bool).set j (.bool b) = (bs.set j b).map Value.bool := by rw [List.map_set]

def RetSome {α : Type} (L : Lay α) (w : World) (ok : List α → Prop) (e : Ending) (w' : World) : Prop := ∃ xs, ok xs ∧ RetSl L w xs e w'

set_option maxHeartbeats 400000 in
theorem l4Vals_any (many k : Int) (w : World) (m0 : 0 ≤ many) (m1 : many ≤ 1048576) (k0 : 0 ≤ k) (k1 : k ≤ 9223372036854775807) :
    Calls Try.prog 36 #[.int .i64 many, .int .i64 k] w (RetSome Lay.bool w (fun xs => (xs.length : Int) = many)) := by
  obtain ⟨i0, hi0, hz0, hz1, hz2⟩ := info_parts bool_info
  obtain ⟨M, rfl⟩ := Int.eq_ofNat_of_zero_le m0
  go_enter Try.func36, Try.ntmps36
  go_wp2_with (at_make; refine wpList_make_full w rfl _ _ 23 rfl w.heap.size 4 i0 _ 1 Try.underlying23 hi0 hz0 hz1 .i64 .i64 _ _ M rfl rfl rfl rfl (by rw [hz2]; omega) (by unfold maxLen; omega) (Nat.le_refl _) ?_; intro w1 hown hg)
  have H1 := Lib.hid hg
  clear hg hi0 hz0 hz1 hz2
  have hb1 : Below w.heap.size w w1 := (Below.refl _ _).grown H1.out (Nat.le_refl _) (by simp)
  rw [show (madeCells (Value.bool false).cells (M * 1)).toList = (List.replicate M false).map Value.bool from by
    rw [show (Value.bool false).cells = #[Value.bool false] from rfl, toList_madeCells_one]; simp] at hown
  go_loopw [6, 1] (fun i k' wr => ∃ (j : Nat) (q : Int) (bs : List Bool), j ≤ M ∧ 0 ≤ q ∧ q ≤ 9223372036854775807 ∧ bs.length = M ∧ i = .int .i64 ((j : Int) - 1) ∧ k' = .int .i64 q ∧ Below w.heap.size w wr ∧
      wr.ownsRow w.heap.size 4 1 (.slice (some ⟨w.heap.size, 0, none⟩) M M) M (bs.map Value.bool))
    (fun i _ _ => (intOf i + 1).toNat)
  case atStart => exact ⟨M, k, List.replicate M false, Nat.le_refl _, k0, k1, by simp, rfl, rfl, hb1, hown⟩
  case round =>
    obtain ⟨j, q, bs, hj, q0, q1, hbl, rfl, rfl, hb, ho⟩ := hrel
    have HL := Lib.hid hbl
    clear hbl
    by_cases hlt : 0 < j
    · obtain ⟨n, rfl⟩ : ∃ n, j = n + 1 := ⟨j - 1, by omega⟩
      have hst := ho.stored n (.bool (q % 2 == 1))
      have hold := ho.cellAt n (by omega)
      rw [List.getElem?_map, List.getElem?_eq_getElem (by have := HL.out; omega)] at hold
      have hfr : wr.frozen? ⟨w.heap.size, n, none⟩ = false := ho.frozenAt n
      rw [show ((n + 1 : Nat) : Int) - 1 = (n : Int) from by omega]
      go_wp2
      go_roundw
      case rel => exact ⟨n, q / 2, bs.set n (q % 2 == 1), by omega, by omega, by omega, by simp [HL.out], rfl, rfl, hb.setCell (Nat.le_refl _) _, by rw [map_set_bool] at hst; exact hst.1⟩
      case measure => simp [intOf]
    · have : j = 0 := by omega
      subst this
      go_wp2
      go_ret
      exact ⟨bs, by have := HL.out; omega, retBools_of_own ho hb⟩

theorem ret_num {k : IntKind} {a b : Int} (h : a = b) : Value.int k a = .int k b := by rw [h]
theorem ints_of_own {w : World} {base : Nat} {e : TypeId} {v : Value} {n : Nat} {xs : List Int} (h : w.ownsRow base e 1 v n (xs.map (Value.int .i64))) :
    ∃ A c, v = .slice A xs.length c ∧ xs.length ≤ c ∧ Lay.int.Rd w A xs := by
  have hn : n = xs.length := by have := h.1; simp at this; omega
  subst hn
  have hh := h
  rcases h.2 with ⟨h1, h2⟩ | ⟨g, cap, cur, h1, _, _, h3, _⟩
  · subst h1
    have : xs = [] := List.eq_nil_of_length_eq_zero h2
    subst this
    exact ⟨none, 0, rfl, by simp, .nil _ _ _ _⟩
  · subst h1
    exact ⟨_, cap, rfl, h3, (sl_ints_of_own hh (fun g _ hg => hg)).1⟩

def DrawBitsPost (w : World) (e : Ending) (w' : World) : Prop := ∃ A c vals B d a, e = .returned (.tuple #[.slice A vals.length c, .slice B a.length d]) ∧
  vals.length ≤ 5 ∧ a.length ≤ 5 ∧ (∀ x ∈ a, -6 ≤ x ∧ x ≤ 6) ∧ vals.length ≤ c ∧ a.length ≤ d ∧ Lay.bool.Rd w' A vals ∧ Lay.int.Rd w' B a ∧ Below w.heap.size w w'

set_option maxHeartbeats 1000000 in
theorem drawBits_any (A : Option Addr) (c : Nat) (bs : List UInt8) (w : World) (h : Lay.byte.Rd w A bs) (hc : bs.length ≤ c) (hn : bs.length ≤ 9223372036854775807) :
    Calls Try.prog 9 #[.slice A bs.length c] w (DrawBitsPost w) := by
  obtain ⟨i0, hi0, hz0, hz1, hz2⟩ := info_parts int_info
  go_enter Try.func9, Try.ntmps9
  go_wp2_with fail
  refine (open_any A c bs w h hc hn).mono ?_
  rintro e w1 ⟨r, rfl, hr, hR, hb1⟩
  go_wp2_with fail
  have hR2 : Rdr (w1.alloc (Obj.cells #[] 3)) r 0 := hR.up ((Below.refl _ _).alloc (Nat.le_refl _) _)
  have hrl : r < w1.heap.size := hR.lt
  have hown1 : (w1.alloc (Obj.cells #[] 3)).ownsRow w1.heap.size 3 1 (.slice (some ⟨w1.heap.size, 0, none⟩) 0 0) 0 (([] : List Int).map (Value.int .i64)) :=
    World.ownsRow_lit w1 #[] 0 (Nat.le_refl _) (by unfold maxLen; omega) rfl
  have hb2 : Below w.heap.size w (w1.alloc (Obj.cells #[] 3)) := hb1.alloc hb1.size _
  have hs2 : (w1.alloc (Obj.cells #[] 3)).heap.size = w1.heap.size + 1 := World.size_alloc _ _
  refine (pick_any r 0 6 _ hR2 (by omega) (by omega) (by omega) (by omega)).mono ?_
  rintro e w3 ⟨k3, rfl, k30, k31, _, hR3, hg3⟩
  have hown3 := own_kept_lt hown1 hg3 hrl
  have hb3 := below_one hb2 hg3 hr hb2.size
  have hs3 : w1.heap.size + 1 ≤ w3.heap.size := by have := hg3.size; omega
  have k3lt := k31 (by omega)
  generalize w1.heap.size = S at *
  clear hown1 hb2 hg3 hR2 hR hb1 k31 hs2
  go_wp2_with fail
  go_loopw [5, 6] (fun o i wr => ∃ (j : Nat) (n : Nat) (a : List Int) (p : Int), (j : Int) ≤ 5 ∧ n + j ≤ 5 ∧ a.length = n ∧ (∀ x ∈ a, -6 ≤ x ∧ x ≤ 6) ∧ 0 ≤ p ∧ p ≤ 1 + n ∧ i = .int .i64 j ∧ Rdr wr r p ∧ Below w.heap.size w wr ∧ S + 1 ≤ wr.heap.size ∧
      wr.ownsRow S 3 1 o n (a.map (Value.int .i64))) (fun _ i _ => (intOf i).toNat)
  case atStart => exact ⟨k3.toNat, 0, [], 1, by omega, by omega, rfl, by simp, by omega, by omega, by rw [Int.toNat_of_nonneg k30], hR3, hb3, hs3, hown3⟩
  case round =>
    obtain ⟨j, n, a, p, hj, hnj, hal, har, p0, p1, rfl, hRr, hbr, hsr, hor⟩ := hrel
    by_cases hlt : 0 < j
    · go_wp2_with fail
      refine (pick_any r p 13 _ hRr p0 (by omega) (by omega) (by omega)).mono ?_
      rintro e w5 ⟨k5, rfl, k50, k51, _, hR5, hg5⟩
      have hown5 := own_kept_lt hor hg5 (by omega)
      have hb5 := below_one hbr hg5 hr (by have := hb3.size; have := hbr.size; omega)
      have hs5 : S + 1 ≤ w5.heap.size := by have := hg5.size; omega
      have k5lt := k51 (by omega)
      have HL := Lib.hid hal
      clear hor hbr hRr hg5 k51 hal
      go_wp2_with (at_builtin; refine wpList_append1 rfl _ _ 24 rfl S 3 i0 _ 8 Try.underlying24 hi0 hz0 hz1 hz2 rfl u5 n _ (.int .i64 (k5 - 6)) _ rfl hown5 rfl rfl (by unfold maxLen; omega) (by omega) (by omega) ?_; intro v6 w6 hown6 hb6)
      go_roundw
      case rel => exact ⟨j - 1, n + 1, a ++ [k5 - 6], p + 1, by omega, by omega, by simp [HL.out], by
          intro x hx
          rcases List.mem_append.1 hx with hx | hx
          · exact har x hx
          · simp at hx; omega, by omega, by omega, ret_num (by omega), hR5.keep (fun b hb => hb6.block b (by omega)), hb5.trans (hb6.mono (by omega)), Nat.le_trans hs5 hb6.size, by
          rw [List.map_append]; exact hown6⟩
      case measure => simp [intOf]; omega
    · have : j = 0 := by omega
      subst this
      go_wp2_with fail
      refine (pick_any r p 6 _ hRr p0 (by omega) (by omega) (by omega)).mono ?_
      rintro e w5 ⟨k5, rfl, k50, k51, _, hR5, hg5⟩
      have hown5 := own_kept_lt hor hg5 (by omega)
      have hb5 := below_one hbr hg5 hr (by have := hb3.size; have := hbr.size; omega)
      have hs5 : S + 1 ≤ w5.heap.size := by have := hg5.size; omega
      have k5lt := k51 (by omega)
      go_wp2_with fail
      refine (pick_any r (p + 1) 64 _ hR5 (by omega) (by omega) (by omega) (by omega)).mono ?_
      rintro e w6 ⟨k6, rfl, k60, k61, _, hR6, hg6⟩
      have hown6 := own_kept_lt hown5 hg6 (by omega)
      have hb6 := below_one hb5 hg6 hr (by have := hb3.size; have := hb5.size; omega)
      have k6lt := k61 (by omega)
      go_wp2_with fail
      refine (l4Vals_any k5 k6 _ k50 (by omega) k60 (by omega)).mono ?_
      rintro e w7 ⟨vals, hvl, A7, c7, rfl, hc7, hr7, hb7⟩
      go_wp2_with fail
      go_ret2
      show DrawBitsPost w (.returned (.tuple #[.slice A7 vals.length c7, u5])) w7
      obtain ⟨A8, c8, rfl, hc8, hr8⟩ := ints_of_own (own_below hown6 hb7 (Nat.le_refl _))
      exact ⟨A7, c7, vals, A8, c8, a, rfl, by omega, by omega, har, hc7, hc8, hr7.rd, hr8, bthen hb6 hb7⟩
end Go.Proofs.Ytohchplomjenfaa
