/- Draws of clauses: l4Draw, l5Clause. -/
import Derived.Test.YtndolbplkjhooaaDr
import Derived.Test.YtndolbplkjhooaaTrail3
namespace Go.Proofs.Ytndolbplkjhooaa
open Go Go.RowKit

abbrev IsR (r : Nat) : Nat → Prop := fun b => b = r
theorem OwnI.gr {S : Nat → Prop} {w w' : World} {base : Nat} {v : Value} {xs : List Int} (h : OwnI w base v xs) (hg : Gr S w w') (hr : ∀ b, S b → b < base) : OwnI w' base v xs :=
  own_of_heap h fun g hg' => hg.block g (h.lt g hg').2 (fun e => by have := hr g e; have := (h.lt g hg').1; omega)
theorem OwnI.ab {S : Nat → Prop} {w : World} {base c : Nat} {A : Option Addr} {xs : List Int} (h : OwnI w base (.slice A xs.length c) xs) (hr : ∀ b, S b → b < base) : Lay.int.Sl w (Ab S w) A xs := by
  obtain ⟨A', c', e, h1, h2⟩ := h.form
  injection e with e1 e2 e3
  subst e1
  exact h2.mono fun b hb => ⟨hb.2, fun e => by have := hr b e; have := hb.1; omega⟩
/-- A drawn row of integers, of the call's own. -/
def RetDI (r : Nat) (p N : Int) (ok : List Int → Prop) (w : World) (e : Ending) (w' : World) : Prop := ∃ A c xs, e = .returned (.slice A xs.length c) ∧ OwnI w' w.heap.size (.slice A xs.length c) xs ∧ ok xs ∧ Drawn r p N w w'
theorem own_lit0I (w : World) : OwnI (w.alloc (.cells #[] 3)) w.heap.size (.slice (some ⟨w.heap.size, 0, none⟩) 0 0) [] := own_lit0 rfl

set_option maxRecDepth 100000 in
set_option maxHeartbeats 1000000 in
theorem l4Draw_any (r : Nat) (p : Int) (many : Nat) (long : Int) (w : World) (h : Rdr w r p) (hm : many ≤ 1000) (p0 : 0 ≤ p) (p1 : p ≤ 900000000) (l0 : -1000 ≤ long) (l1 : long ≤ 1000) :
    Calls Try.prog 70 #[.pointer (some ⟨r, 0, none⟩), .int .i64 many, .int .i64 long] w (RetDI r p (2 * many) (fun xs => xs.length ≤ many ∧ ∀ x ∈ xs, x ≠ 0 ∧ -(many : Int) ≤ x ∧ x ≤ many) w) := by
  have hrl := h.lt
  go_enter Try.func70, Try.ntmps70
  go_wp2
  go_loopw [7, 8] (fun s i wr => ∃ (j : Nat) (ns : List Int) (A : Option Addr) (c : Nat) (q : Int), 1 ≤ j ∧ j ≤ many + 1 ∧ i = .int .i64 j ∧ s = .slice A ns.length c ∧ ns.length + 1 ≤ j ∧ (∀ x ∈ ns, x ≠ 0 ∧ -(many : Int) ≤ x ∧ x ≤ many) ∧
    OwnI wr w.heap.size (.slice A ns.length c) ns ∧ p ≤ q ∧ q ≤ p + 2 * (j - 1) ∧ Rdr wr r q ∧ Gr (IsR r) w wr) (fun _ i _ => many + 1 - (intOf i).toNat)
  case atStart => exact ⟨1, [], _, 0, p, by omega, by omega, rfl, rfl, by simp, by simp, own_lit0I w, by omega, by omega, h.up ((Below.refl _ _).alloc (Nat.le_refl _) _), (Gr.refl _ _).up ((Below.refl _ _).alloc (Nat.le_refl _) _)⟩
  case round =>
    obtain ⟨j, ns, A, c, q, j0, j1, rfl, rfl, hnl, hrng, hown, q0, q1, hR, hg⟩ := hrel
    have HRNG := Lib.hid hrng
    clear hrng
    by_cases hlt : j ≤ many
    · have hlti : (j : Int) ≤ many := by omega
      go_wp2_with fail
      refine (pick_any r q many wr hR (by omega) (by omega) (by omega) (by omega)).mono ?_
      rintro e w1 ⟨k, rfl, k0, _, _, hR1, hg1⟩
      have hg1 := Gr.one (S := IsR r) hg1 rfl
      have hown1 := hown.gr hg1 (fun b e => by rw [e]; exact hrl)
      have hgg1 := hg.trans hg1
      clear hR hg hown hg1
      by_cases hk : k < long
      · go_wp2_with fail
        refine (pick_any r (q + 1) 2 w1 hR1 (by omega) (by omega) (by omega) (by omega)).mono ?_
        rintro e w2 ⟨k2, rfl, k20, k21, _, hR2, hg2⟩
        have hg2 := Gr.one (S := IsR r) hg2 rfl
        have hown2 := hown1.gr hg2 (fun b e => by rw [e]; exact hrl)
        have hgg2 := hgg1.trans hg2
        have hlo := hgg2.size
        clear hR1 hgg1 hown1 hg2 k21
        by_cases hz : k2 = 0
        · subst hz
          obtain ⟨ps, hps⟩ : ∃ ps, ps = ns ++ [(j : Int)] := ⟨_, rfl⟩
          have HPS := Lib.hid hps
          clear hps
          go_wp2_with (at_builtin; refine wpList_append_int (ys := ps) (by rfl) (.tmp 23) (.tmp 25) (by rfl) (by rfl) (by rfl) hown2 (by omega) hlo HPS.out ?_; intro A1 c1 w3 hown3 hg3 hbk3)
          have hR3 := hR2.own hg3 (fun g e => by have := (hown2.lt g e).1; omega)
          have hgg3 := hgg2.own hg3 (fun g e => (hown2.lt g e).1)
          clear hbk3 hg3 hown2
          go_wp2
          go_roundw
          case rel => exact ⟨j + 1, ps, A1, c1, q + 1 + 1, by omega, by omega, by go_num, rfl, by rw [HPS.out]; simp; omega, by
              rw [HPS.out]; intro x hx
              rcases List.mem_append.1 hx with hx | hx
              · exact HRNG.out x hx
              · rw [List.mem_singleton.1 hx]; omega, hown3, by omega, by omega, hR3, hgg3⟩
          case measure => simp [intOf]; omega
        · have hz2 : (k2 == 0) = false := by simpa using hz
          obtain ⟨ps, hps⟩ : ∃ ps, ps = ns ++ [-(j : Int)] := ⟨_, rfl⟩
          have HPS := Lib.hid hps
          have e1 : IntKind.i64.wrap (-(j : Int)) = -(j : Int) := IntWalk.i64_in _ (by omega)
          clear hps hz
          go_wp2_with (at_builtin; refine wpList_append_int (ys := ps) (by rfl) (.tmp 27) (.tmp 30) (by rfl) (by rfl) (by rfl) hown2 (by omega) hlo HPS.out ?_; intro A1 c1 w3 hown3 hg3 hbk3)
          have hR3 := hR2.own hg3 (fun g e => by have := (hown2.lt g e).1; omega)
          have hgg3 := hgg2.own hg3 (fun g e => (hown2.lt g e).1)
          clear hbk3 hg3 hown2
          go_wp2
          go_roundw
          case rel => exact ⟨j + 1, ps, A1, c1, q + 1 + 1, by omega, by omega, by go_num, rfl, by rw [HPS.out]; simp; omega, by
              rw [HPS.out]; intro x hx
              rcases List.mem_append.1 hx with hx | hx
              · exact HRNG.out x hx
              · rw [List.mem_singleton.1 hx]; omega, hown3, by omega, by omega, hR3, hgg3⟩
          case measure => simp [intOf]; omega
      · go_wp2
        go_roundw
        case rel => exact ⟨j + 1, ns, A, c, q + 1, by omega, by omega, by go_num, rfl, by omega, HRNG.out, hown1, by omega, by omega, hR1, hgg1⟩
        case measure => simp [intOf]; omega
    · have hje : j = many + 1 := by omega
      subst hje
      go_wp2
      go_ret
      exact ⟨A, c, ns, rfl, hown, ⟨by omega, HRNG.out⟩, q, q0, by omega, hR, hg⟩

theorem l4Max_any (a b : Int) (w : World) : Calls Try.prog 71 #[.int .i64 a, .int .i64 b] w fun e w' => e = .returned (.int .i64 (if a > b then a else b)) ∧ w = w' := by
  by_cases h : a > b
  · rw [if_pos h]
    go_enter Try.func71, Try.ntmps71
    go_wp2
    go_ret
    exact ⟨rfl, rfl⟩
  · rw [if_neg h]
    go_enter Try.func71, Try.ntmps71
    go_wp2
    go_ret
    exact ⟨rfl, rfl⟩
theorem mem_lit {xs : List Int} {x : Int} (h : x ∈ xs) (hx : ∀ y ∈ xs, okInt y) : okInt x := hx x h
/-- A row that was just written down. -/
theorem lit_sl {S : Nat → Prop} (w : World) (xs : List Int) (cs : Array Value) (t : TypeId) (hc : cs = (xs.map (Value.int .i64)).toArray) (hS : ¬ S w.heap.size) : Lay.int.Sl (w.alloc (.cells cs t)) (Ab S (w.alloc (.cells cs t))) (some ⟨w.heap.size, 0, none⟩) xs := by
  intro _
  refine ⟨_, rfl, ⟨by simp, hS⟩, fun k x hx => ⟨[.int .i64 x], rfl, fun j u hu => ?_⟩⟩
  rcases j with _ | j
  · injection hu with hu
    subst hu
    have hb := (cell_of_block (heap_alloc_new w (.cells cs t)) k).1
    have ha : (⟨w.heap.size, 0, none⟩ : Addr).add (k * Lay.int.size + 0) = ⟨w.heap.size, k, none⟩ := by
      show (⟨w.heap.size, 0, none⟩ : Addr).add (k * 1 + 0) = _
      rw [Nat.mul_one, Nat.add_zero]; unfold Addr.add; split
      · rename_i h; rw [h]
      · simp
    rw [ha, hb, hc]
    simp [hx]
  · simp at hu
set_option maxRecDepth 100000 in
set_option maxHeartbeats 1000000 in
theorem l5Clause_any (r : Nat) (p many : Int) (w : World) (h : Rdr w r p) (p0 : 0 ≤ p) (p1 : p ≤ 800000000) (hm : okInt many) :
    Calls Try.prog 47 #[.pointer (some ⟨r, 0, none⟩), .int .i64 many] w (RetDI r p 200 (fun xs => xs.length ≤ 60 ∧ ∀ x ∈ xs, okInt x) w) := by
  have hrl := h.lt
  obtain ⟨t, ht, ht0, ht1⟩ : ∃ t : Int, many.tmod 50 = t ∧ -50 < t ∧ t < 50 := ⟨_, rfl, by
    have := Int.tmod_lt_of_pos (-many) (show (0 : Int) < 50 by omega)
    rw [Int.neg_tmod] at this
    omega, Int.tmod_lt_of_pos many (by omega)⟩
  obtain ⟨m, hm1, hm2⟩ : ∃ m : Nat, (if (1 : Int) > t.natAbs then (1 : Int) else t.natAbs) = m ∧ m ≤ 50 := ⟨(if (1 : Int) > t.natAbs then (1 : Int) else t.natAbs).toNat, by split <;> omega, by split <;> omega⟩
  have e1 : IntKind.i64.wrap t = t := IntWalk.i64_in _ (by omega)
  have HM := Lib.hid hm1
  clear hm1
  go_enter Try.func47, Try.ntmps47
  go_wp2_with fail
  refine (l4Abs_any t w (by omega) (by omega)).mono ?_
  rintro e w' ⟨rfl, rfl⟩
  go_wp2_with fail
  refine (l4Max_any 1 t.natAbs _).mono ?_
  rw [HM.out]
  rintro e w' ⟨rfl, rfl⟩
  go_wp2_with fail
  refine (pick_any r p 3 _ h (by omega) (by omega) (by omega) (by omega)).mono ?_
  rintro e w1 ⟨k, rfl, k0, k1, _, hR1, hg1⟩
  have k1 := k1 (by omega)
  have hg1 := Gr.one (S := IsR r) hg1 rfl
  have hs1 := hg1.size
  go_wp2_with fail
  refine (l4Draw_any r (p + 1) m (1 + k) w1 hR1 (by omega) (by omega) (by omega) (by omega) (by omega)).mono ?_
  rintro e w2 ⟨A, c, xs, rfl, ho2, ⟨hl2, hx2⟩, q, q0, q1, hR2, hg2⟩
  have hgg2 := hg1.trans hg2
  have ho2 : OwnI w2 w.heap.size (.slice A xs.length c) xs := own_mono ho2 hs1
  have HX := Lib.hid hx2
  clear hg1 hg2 hx2 hR1
  go_wp2_with fail
  refine (pick_any r q 16 _ hR2 (by omega) (by omega) (by omega) (by omega)).mono ?_
  rintro e w3 ⟨k3, rfl, k30, _, _, hR3, hg3⟩
  have hg3 := Gr.one (S := IsR r) hg3 rfl
  have ho3 := ho2.gr hg3 (fun b e => by rw [e]; exact hrl)
  have hgg3 := hgg2.trans hg3
  clear ho2 hg3 hR2 hgg2
  by_cases hz : k3 = 0
  · subst hz
    have hs3 := hgg3.size
    have hal : Below w3.heap.size w3 (w3.alloc (.cells #[.int .i64 0, .int .i64 1, .int .i64 60, .int .i64 (-60), .int .i64 (-9223372036854775808)] 3)) := (Below.refl _ _).alloc (Nat.le_refl _) _
    have hsl := lit_sl (S := IsR r) w3 [0, 1, 60, -60, -9223372036854775808] _ 3 rfl (by show ¬ _ = r; omega)
    have hnum := num_any r (q + 1) _ 5 _ _ (hR3.up hal) hsl (by simp) (by simp) (by omega) (by omega)
    have ho4 := ho3.up hal
    have hgg4 := hgg3.up hal
    have HN := Lib.hid hnum
    clear hnum hsl hal hgg3 ho3 hR3
    go_wp2_with fail
    refine HN.out.mono ?_
    rintro e w5 ⟨y, hy, rfl, hR5, hg5⟩
    have hoy : okInt y := mem_lit hy (by simp [okInt])
    have ho5 := ho4.gr hg5 (fun b e => by rw [e]; exact hrl)
    have hgg5 := hgg4.trans hg5
    have hlo := hgg5.size
    have HY := Lib.hid hoy
    obtain ⟨ps, hps⟩ : ∃ ps, ps = xs ++ [y] := ⟨_, rfl⟩
    have HPS := Lib.hid hps
    clear hy hoy hps ho4 hg5 hgg4
    go_wp2_with (at_builtin; refine wpList_append_int (ys := ps) (by rfl) (.tmp 18) (.tmp 22) (by rfl) (by rfl) (by rfl) ho5 (by omega) hlo HPS.out ?_; intro A1 c1 w6 hown6 hg6 hbk6)
    have hR6 := hR5.own hg6 (fun g e => by have := (ho5.lt g e).1; omega)
    have hgg6 := hgg5.own hg6 (fun g e => (ho5.lt g e).1)
    clear hbk6 hg6 ho5
    go_wp2
    go_ret
    exact ⟨A1, c1, ps, rfl, hown6, ⟨by rw [HPS.out]; simp; omega, by
      rw [HPS.out]; intro x hx
      rcases List.mem_append.1 hx with hx | hx
      · have := HX.out x hx; unfold okInt; omega
      · rw [List.mem_singleton.1 hx]; exact HY.out⟩, _, by omega, by omega, hR6, hgg6⟩
  · have hz2 : (k3 == 0) = false := by simpa using hz
    clear hz
    go_wp2
    go_ret
    exact ⟨A, c, xs, rfl, ho3, ⟨by omega, fun x hx => by have := HX.out x hx; unfold okInt; omega⟩, _, by omega, by omega, hR3, hgg3⟩
end Go.Proofs.Ytndolbplkjhooaa
