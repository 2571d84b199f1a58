/- The program's UnitAll. -/
import Derived.Test.YtndolbplkjhooaaTrail7
namespace Go.Proofs.Ytndolbplkjhooaa
open Go Go.RowKit

theorem one_list2 {w : World} {F : Nat → Prop} {A : Option Addr} {p : Nat} {ls : List (List Int)} {t : TypeId} (h : Lay.int.slice.Sl w F A ls) (hF : ∀ b, F b → b < w.heap.size) (hp : ls.length ≤ p) :
    Lay.int.slice.slice.Sl (w.alloc (.cells #[.slice A ls.length p] t)) (fun b => F b ∨ b = w.heap.size) (some ⟨w.heap.size, 0, none⟩) [ls] := by
  have hw : Below w.heap.size w (w.alloc (.cells #[.slice A ls.length p] t)) := (Below.refl _ _).alloc (Nat.le_refl _) _
  intro _
  refine ⟨⟨w.heap.size, 0, none⟩, rfl, .inr rfl, fun k x hx => ?_⟩
  rcases k with _ | k
  · injection hx with hx
    subst hx
    refine ⟨[.slice A ls.length p], ⟨A, p, rfl, hp, (h.below hw hF).mono fun b hb => .inl hb⟩, fun j u hu => ?_⟩
    rcases j with _ | j
    · injection hu with hu
      subst hu
      have := (cell_of_block (heap_alloc_new w (.cells #[.slice A ls.length p] t)) 0).1
      exact this.trans rfl
    · simp at hu
  · simp at hx
open Classical in
noncomputable def unitAllP (x : C) (sl : List Int) : List Int × Bool := if cnfOk x = true ∧ Good x.many sl then units x.many x.list sl else ([], false)
theorem unitAllP_no {x : C} {sl : List Int} (h : ¬ (cnfOk x = true ∧ Good x.many sl)) : unitAllP x sl = ([], false) := if_neg h
theorem unitAllP_yes {x : C} {sl : List Int} (h : cnfOk x = true ∧ Good x.many sl) : unitAllP x sl = units x.many x.list sl := if_pos h
set_option maxRecDepth 100000 in
set_option maxHeartbeats 1000000 in
theorem unitAllImpl_any (x : C) (cl : List Int) (A B : Option Addr) (p q : Nat) (F G : Nat → Prop) (w : World) (h : Lay.int.slice.Sl w F A x.list) (hF : ∀ b, F b → b < w.heap.size) (hp : x.list.length ≤ p) (hm : -9223372036854775808 ≤ x.many ∧ x.many ≤ 9223372036854775807) (hx : x.list.length ≤ 1048576)
    (hn : ∀ cl ∈ x.list, cl.length ≤ 1048576 ∧ i64s cl) (hc : Lay.int.Sl w G B cl) (hG : ∀ b, G b → b < w.heap.size) (hcn : cl.length ≤ 1048576) (hi : i64s cl) :
    Calls Try.prog 17 #[.agg #[.int .i64 x.many, .slice A x.list.length p], .slice B cl.length q] w (RetU w (unitAllP x cl)) := by
  have hw : Below w.heap.size w (w.alloc (.cells #[.int .i64 x.many, .slice A x.list.length p] 28)) := (Below.refl _ _).alloc (Nat.le_refl _) _
  have hFW : ∀ b, F b → b < (w.alloc (.cells #[.int .i64 x.many, .slice A x.list.length p] 28)).heap.size := fun b h9 => Nat.lt_of_lt_of_le (hF b h9) hw.size
  have hGW : ∀ b, G b → b < (w.alloc (.cells #[.int .i64 x.many, .slice A x.list.length p] 28)).heap.size := fun b h9 => Nat.lt_of_lt_of_le (hG b h9) hw.size
  have K := h.below hw hF
  have KP := hc.below hw hG
  have v0 : (w.alloc (.cells #[.int .i64 x.many, .slice A x.list.length p] 28)).cell? ⟨w.heap.size, 0, none⟩ = some (.int .i64 x.many) := by simp [go_sem]
  have v1 : (w.alloc (.cells #[.int .i64 x.many, .slice A x.list.length p] 28)).cell? ⟨w.heap.size, 1, none⟩ = some (.slice A x.list.length p) := by simp [go_sem]
  generalize hW : w.alloc (.cells #[.int .i64 x.many, .slice A x.list.length p] 28) = W at *
  have HOK := Lib.hid (cnfOkP_any x A p F W K hFW hm (by omega) hn)
  by_cases h1 : cnfOk x = true
  · have hrng := cnfOk_rng h1
    have HOKX := Lib.hid h1
    have h19 := h1
    unfold cnfOk at h19
    simp only [Bool.and_eq_true, decide_eq_true_eq] at h19
    obtain ⟨⟨⟨m0, m1⟩, m2⟩, _⟩ := h19
    obtain ⟨M, hM⟩ : ∃ M : Nat, x.many = M := ⟨x.many.toNat, by omega⟩
    rw [h1] at HOK
    have HM := Lib.hid hM
    clear h1 hM
    go_enter Try.func17, Try.ntmps17
    go_wp2_with fail
    refine HOK.out.mono ?_
    rintro e w1 ⟨rfl, hb1⟩
    have v0 := (hb1.cell (World.block_lt_of_cell? W _ v0)).trans v0
    have v1 := (hb1.cell (World.block_lt_of_cell? W _ v1)).trans v1
    have K1 := K.below hb1 hFW
    have KP1 := KP.below hb1 hGW
    have hFw1 : ∀ b, F b → b < w1.heap.size := fun b h9 => Nat.lt_of_lt_of_le (hFW b h9) hb1.size
    have hGw1 : ∀ b, G b → b < w1.heap.size := fun b h9 => Nat.lt_of_lt_of_le (hGW b h9) hb1.size
    have htrail := trailOk_any M cl B q G w1 KP1 hGw1 hcn hi (by have := HM.out; omega)
    rw [← HM.out] at htrail
    have HT := Lib.hid htrail
    clear htrail
    go_wp2_with fail
    refine HT.out.mono ?_
    rintro e w2 (⟨hg, t, ls, rfl, htr, hb2⟩ | ⟨hng, rfl, hb2⟩)
    · have v1 := (hb2.cell (World.block_lt_of_cell? w1 _ v1)).trans v1
      have v0 := (hb2.cell (World.block_lt_of_cell? w1 _ v0)).trans v0
      have K2 := K1.below hb2 hFw1
      have hFw2 : ∀ b, F b → b < w2.heap.size := fun b h9 => Nat.lt_of_lt_of_le (hFw1 b h9) hb2.size
      have hlo2 := hb2.size
      have hb3 : Below w2.heap.size w2 (w2.alloc (.cells #[.slice A x.list.length p] 22)) := (Below.refl _ _).alloc (Nat.le_refl _) _
      have htr3 := htr.spare (.cells #[.slice A x.list.length p] 22)
      have hone := one_list2 (t := 22) K2 hFw2 hp
      have hunit := unit_any w1.heap.size (fun y => y = w2.heap.size) M t cl ls [x.list] (some ⟨w2.heap.size, 0, none⟩) 1 _ _ htr3 hone (fun b h9 => h9.elim (fun h8 => .inl (hFw1 b h8)) .inr) hg
        (fun cls h9 => by rw [List.mem_singleton.1 h9]; exact ⟨hx, fun cl2 h8 => ⟨fun l h7 => by have := hrng cl2 h8 l h7; rw [HM.out] at this; exact this, (hn cl2 h8).1⟩⟩) (by simp) (by have := HM.out; omega) (by simp; omega)
      rw [← HM.out] at hunit
      simp only [List.flatten_cons, List.flatten_nil, List.append_nil, List.length_cons, List.length_nil, Nat.zero_add] at hunit
      have HE := Lib.hid (unitAllP_yes (x := x) (sl := cl) ⟨HOKX.out, by rw [HM.out]; exact hg⟩)
      have HU := Lib.hid hunit
      have HB := Lib.hid (hw.trans ((hb1.trans ((hb2.trans (hb3.mono hlo2)).mono hb1.size)).mono hw.size))
      have HLO := Lib.hid (show w.heap.size ≤ w1.heap.size from Nat.le_trans hw.size hb1.size)
      clear hunit hone htr3 htr hb3 K1 K2 KP1 hg
      go_wp2_with fail
      refine HU.out.mono ?_
      rintro e w4 ⟨rfl, ⟨ls4, A4, B4, c4, d4, Q4, pl4, h4⟩, hb4⟩
      have z0 := (cell_of_block h4.blk 0).1
      have z0 : w4.cell? ⟨t, 0, none⟩ = some (.slice A4 (units x.many x.list cl).1.length c4) := z0
      have H4 := Lib.hid h4.hput
      have HB4 := Lib.hid hb4.1
      clear h4 hb4
      go_wp2
      go_ret2
      rw [HE.out]
      exact ⟨A4, c4, rfl, own_mono H4.out HLO.out, HB.out.trans (HB4.out.mono HLO.out)⟩
    · have HE := Lib.hid (unitAllP_no (x := x) (sl := cl) fun h9 => hng (by rw [← HM.out]; exact h9.2))
      clear hng
      go_wp2
      go_ret2
      rw [HE.out]
      exact ⟨none, 0, rfl, OwnI.nil _ _, hw.trans ((hb1.trans (hb2.mono hb1.size)).mono hw.size)⟩
  · have HE := Lib.hid (unitAllP_no (x := x) (sl := cl) fun h9 => h1 h9.1)
    rw [Bool.not_eq_true] at h1
    rw [h1] at HOK
    clear h1
    go_enter Try.func17, Try.ntmps17
    go_wp2_with fail
    refine HOK.out.mono ?_
    rintro e w1 ⟨rfl, hb1⟩
    go_wp2
    go_ret2
    rw [HE.out]
    exact ⟨none, 0, rfl, OwnI.nil _ _, hw.trans (hb1.mono hw.size)⟩

end Go.Proofs.Ytndolbplkjhooaa
